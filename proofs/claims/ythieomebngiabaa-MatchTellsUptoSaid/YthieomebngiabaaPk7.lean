/-
  THE TEXTS TidyW1, TidyW2, TidyW3, CompW, TidyW, one behind the other.
-/
import Derived.Test.YthieomebngiabaaPk3
import Derived.Test.YthieomebngiabaaPk6
import Derived.Deep.QuietTactic
import Derived.BigQuiet
import Derived.Laws.StructEq
import Derived.Laws.EntriesVeiled
namespace Go.Proofs.Ythieomebngiabaa
open Go.RowKit Go.Shelf Go.Sort
theorem cmpOr2 (p q : Int) (w : World) (b : Nat) (h : w.heap[b]? = some (.cells #[.int .i64 p, .int .i64 q] 3 (0, 0))) :
    Calls Try.prog 37 #[.slice (some ⟨b, 0, none⟩) 2 2] w fun e w' => e = .returned (.int .i64 (orInt [p, q])) ∧ w = w' :=
  cmpOr (S := fun _ => True) _ [p, q] w (RdInts.block rfl h trivial (by unfold maxLen; omega)) (by simp)
attribute [local go_sem ↓] Go.wp_at_zero Go.wp_at_succ
set_option maxHeartbeats 2000000 in
theorem orderCalls (f g : PBind) (w : World) :
    Calls Try.prog 36 #[.agg #[.string f.var, .string f.name], .agg #[.string g.var, .string g.name]] w fun e w' => e = .returned (.int .i64 (cmpBind f g)) ∧ Fresh w w' := by
  have e3 : cmpBind f g = orInt [cmpStr f.var g.var, cmpStr f.name g.name] := rfl
  rw [e3]
  clear e3
  go_enter Try.func36, Try.ntmps36
  go_wp2_with fail
  go_region_held3 (fun w' => w'.cell? ⟨w.heap.size, 0, none⟩ = some (.string f.var) ∧ w'.cell? ⟨w.heap.size, 1, none⟩ = some (.string f.name) ∧
      w'.cell? ⟨w.heap.size + 1, 0, none⟩ = some (.string g.var) ∧ w'.cell? ⟨w.heap.size + 1, 1, none⟩ = some (.string g.name)) (go_keep)
    (first
      | (go_at_call 38; refine (compareStr _ _ _).mono ?_; rintro e w' ⟨rfl, rfl⟩)
      | (go_at_call 37; refine (cmpOr2 (cmpStr f.var g.var) (cmpStr f.name g.name) _ _ ?_).mono ?_; (exact heap_new_at (by simp)); rintro e w' ⟨rfl, rfl⟩))
  go_wp2
  go_ret
  exact ⟨rfl, ((((Fresh.refl _).alloc _).alloc _).alloc _).drew⟩
theorem enterOrder : ∀ args w, (callFunc 36 args).run Try.prog w = .ok (.enter 36 args) w := enters_of Try.func36 (by kernel_rfl) rfl
theorem sortBind {B : Nat} {w : World} {v : Value} {l : Binds} (hown : OB B w v l) (n1 : l.length ≤ 1073741824) :
    Calls Try.prog 39 #[v, .func (.func 36) #[] #[]] w fun en w' => en = .returned (.tuple #[]) ∧ ∃ l', l'.Perm l ∧ l'.Pairwise (fun a b => ¬ cmpBind b a < 0) ∧ OB B w' v l' ∧ w.grownBy w' v.ownBlock :=
  sort_owned Try.sortBind RBind.steady RBind.one (fun _ => True) Try.isAgg34 Try.sizeOf34 cmpBind3 36 enterOrder
    (fun W x y cx cy hx hy _ _ => by
      have hx' : cx = [.string x.var, .string x.name] := hx
      have hy' : cy = [.string y.var, .string y.name] := hy
      subst hx'
      subst hy'
      exact orderCalls x y W)
    hown (fun _ _ => trivial) (by omega)
set_option maxRecDepth 100000 in
set_option maxHeartbeats 4000000 in
theorem compareBinds {S T : Nat → Prop} (va vb : Value) (a b : Binds) (w : World) (ha : RdBinds S w va a) (hb : RdBinds T w vb b) (n1 : a.length ≤ 1073741824) (_ : b.length ≤ 1073741824) :
    Calls Try.prog 42 #[va, vb, .func (.func 36) #[] #[]] w fun e w' => e = .returned (.int .i64 (cmpBinds a b)) ∧ Fresh w w' := by
  obtain ⟨aa, ac, rfl, -, -, -⟩ := id ha.form
  obtain ⟨ba, bc, rfl, -, -, -⟩ := id hb.form
  have HA := Lib.hid ha
  have HB := Lib.hid hb
  clear ha hb
  go_enter Try.func42, Try.ntmps42
  go_wp2
  go_loopw [13, 7] (fun i _ wr => ∃ k : Nat, k ≤ a.length ∧ k ≤ b.length ∧ i = .int .i64 k ∧ Hid (cmpBinds a b = cmpLst cmpBind (a.drop k) (b.drop k)) ∧ Hid (Fresh w wr)) (fun i _ _ => a.length - (intOf i).toNat)
  case atStart => exact ⟨0, Nat.zero_le _, Nat.zero_le _, rfl, Lib.hid rfl, Lib.hid (Fresh.refl _)⟩
  case round =>
    obtain ⟨k, hk, hk2, rfl, HR, HF⟩ := hrel
    by_cases hlt : k < a.length
    · obtain ⟨x, hx⟩ : ∃ x, a[k]? = some x := ⟨_, List.getElem?_eq_getElem hlt⟩
      obtain ⟨b1, o1, rfl, -, -, d0, d1⟩ := RdBinds.at (HA.out.up HF.out.below) hx
      by_cases hlt2 : k < b.length
      · obtain ⟨y, hy⟩ : ∃ y, b[k]? = some y := ⟨_, List.getElem?_eq_getElem hlt2⟩
        obtain ⟨b2, o2, rfl, -, hbb, f0, f1⟩ := RdBinds.at (HB.out.up HF.out.below) hy
        have HD := Lib.hid (show cmpBinds a b = if cmpBind x y ≠ 0 then cmpBind x y else cmpLst cmpBind (a.drop (k + 1)) (b.drop (k + 1)) by rw [HR.out, drop_cons hx, drop_cons hy]; rfl)
        have KO := Lib.hid (fun W => orderCalls x y W)
        have i1 : ¬ (b.length : Int) ≤ (k : Int) := by omega
        have HF1 := Lib.hid ((HF.out.alloc (.cells #[.string x.var, .string x.name] 34)).alloc (.cells #[.string y.var, .string y.name] 34))
        have j0 : (0 : Int) ≤ (k : Int) := by omega
        have j1 : (k : Int) < (b.length : Int) := by omega
        have j2 : IntKind.i64.wrap (k : Int) = k := by rw [IntKind.wrap_i64]; omega
        clear hx hy HR
        obtain ⟨q, hq⟩ : ∃ q, cmpBind x y = q := ⟨_, rfl⟩
        rw [hq] at HD KO
        clear hq
        by_cases hz : q = 0
        · subst hz
          rw [if_neg (by simp)] at HD
          go_wp2_with (go_at_call 36; refine (KO.out _).mono ?_; rintro e w1 ⟨rfl, hf1⟩; have HF2 := Lib.hid (HF1.out.trans hf1); clear hf1)
          go_roundw
          case rel => exact ⟨k + 1, by omega, by omega, by go_num, HD, HF2⟩
          case measure => simp [intOf]; omega
        · have gz : (q != 0) = true := by simp [hz]
          rw [if_pos hz] at HD
          clear hz
          go_wp2_with (go_at_call 36; refine (KO.out _).mono ?_; rintro e w1 ⟨rfl, hf1⟩; have HF2 := Lib.hid (HF1.out.trans hf1); clear hf1)
          go_ret
          exact ⟨ret_int HD.out.symm, HF2.out⟩
      · have i1 : (b.length : Int) ≤ (k : Int) := by omega
        have HE := Lib.hid (show cmpBinds a b = 1 by rw [HR.out, drop_cons hx, drop_end (by omega : b.length ≤ k)]; rfl)
        clear hx HR
        go_wp2
        go_ret
        exact ⟨ret_int HE.out.symm, HF.out.alloc _⟩
    · by_cases hlt2 : a.length < b.length
      · have i1 : (a.length : Int) < (b.length : Int) := by omega
        obtain ⟨y, hy⟩ : ∃ y, b[k]? = some y := ⟨_, List.getElem?_eq_getElem (by omega)⟩
        have HE := Lib.hid (show cmpBinds a b = -1 by rw [HR.out, drop_end (by omega : a.length ≤ k), drop_cons hy]; rfl)
        clear hy HR
        go_wp2
        go_ret
        exact ⟨ret_int HE.out.symm, HF.out⟩
      · have i1 : ¬ (a.length : Int) < (b.length : Int) := by omega
        have HE := Lib.hid (show cmpBinds a b = 0 by rw [HR.out, drop_end (by omega : a.length ≤ k), drop_end (by omega : b.length ≤ k)]; rfl)
        clear HR
        go_wp2
        go_ret
        exact ⟨ret_int HE.out.symm, HF.out⟩
theorem tidy2Calls {S T : Nat → Prop} (va vb : Value) (a b : Binds) (w : World) (O : Nat) (h0 : Blk w O 80 #[.func (.func 36) #[] #[]]) (ha : RdBinds S w va a) (hb : RdBinds T w vb b) (n1 : a.length ≤ 1073741824) (n2 : b.length ≤ 1073741824) :
    Calls Try.prog 41 #[va, vb, .pointer (some ⟨O, 0, none⟩)] w fun e w' => e = .returned (.int .i64 (cmpBinds a b)) ∧ Fresh w w' := by
  have K := Lib.hid (compareBinds va vb a b w ha hb n1 n2)
  have c0 : w.cell? ⟨O, 0, none⟩ = some (.func (.func 36) #[] #[]) := h0.cell 0
  obtain ⟨aa, ac, rfl, -, -, -⟩ := id ha.form
  obtain ⟨ba, bc, rfl, -, -, -⟩ := id hb.form
  clear ha hb h0
  go_enter Try.func41, Try.ntmps41
  go_wp2_with (go_at_call 42; refine (K.out).mono ?_; rintro e w1 ⟨rfl, hf1⟩; have HF := Lib.hid hf1; clear hf1)
  go_ret
  exact ⟨rfl, HF.out⟩
end Go.Proofs.Ythieomebngiabaa
namespace Go.Proofs.Ythieomebngiabaa
open Go.RowKit Go.Shelf Go.Sort
theorem heap_sorted1 {α : Type} [Inhabited α] {enc : α → Value} {w : World} {g n : Nat} {os : Array Obj} {cur : Array Value} {e : TypeId} {fr : Nat × Nat} (d : Array α) (hb : w.heap[g]? = some (.cells cur e fr)) :
    (sortWorld enc w g 0 n d os).heap[g]? = some (.cells (putCells enc 0 d cur) e fr) := by
  have hg : g < w.heap.size := (Array.getElem?_eq_some_iff.1 hb).1
  unfold sortWorld
  rw [heap_grow_old _ _ (by simpa [putRow, mapBlock, Sort.ahead] using hg)]
  simp [putRow, mapBlock, Sort.ahead, Array.getElem?_modify, hb, onCells]
theorem grownBy_sorted1 {α : Type} [Inhabited α] {enc : α → Value} {w : World} {g off n : Nat} {os : Array Obj} (d : Array α) : w.grownBy (sortWorld enc w g off n d os) (some g) := by
  refine ⟨rfl, rfl, rfl, by simp [sortWorld, putRow, mapBlock, Sort.ahead], fun q hq hne => ?_⟩
  unfold sortWorld
  rw [heap_grow_old _ _ (by simpa [putRow, mapBlock, Sort.ahead] using hq)]
  have : g ≠ q := fun e => hne (by rw [e])
  simp [putRow, mapBlock, Sort.ahead, Array.getElem?_modify, this]
theorem take_put1 {α : Type} [Inhabited α] (enc : α → Value) (d : Array α) (cur : Array Value) (h : d.size ≤ cur.size) : (putCells enc 0 d cur).toList.take d.size = d.toList.map enc := by
  apply List.ext_getElem?
  intro j
  by_cases hj : j < d.size
  · rw [List.getElem?_take_of_lt hj, Array.getElem?_toList, List.getElem?_map, Array.getElem?_toList]
    simp [putCells, hj, show j < cur.size by omega]
  · rw [List.getElem?_take_eq_none (by omega), List.getElem?_eq_none (by simp; omega)]
theorem enterTidy2 : ∀ args w, (callFunc 41 args).run Try.prog w = .ok (.enter 41 args) w := enters_of Try.func41 (by kernel_rfl) rfl
theorem Nest.perm {B : Nat} {w w' : World} {v : Value} {zs ys : List VB} (h : Nest B w v zs) (hp : ys.Perm zs) (ho : OV B w' v ys) (hg : w.grownBy w' v.ownBlock) : Nest B w' v ys :=
  ⟨ho, fun z hz => (h.inner z (hp.mem_iff.1 hz)).kept RBind.steady hg (fun q hq e => h.off z (hp.mem_iff.1 hz) q hq e),
    (hp.pairwise_iff (fun {a b} (hab : ∀ q, a.1.ownBlock = some q → b.1.ownBlock ≠ some q) q hq e => hab q e hq)).2 h.apart, fun z hz => h.off z (hp.mem_iff.1 hz)⟩
set_option maxHeartbeats 1000000 in
theorem sortNest {B O : Nat} {w : World} {v : Value} {zs : List VB} (hN : Nest B w v zs) (h0 : Blk w O 80 #[.func (.func 36) #[] #[]]) (hO : some O ≠ v.ownBlock) (n1 : zs.length ≤ 1073741824) (n2 : ∀ z ∈ zs, z.2.length ≤ 1073741824) :
    Calls Try.prog 40 #[v, .func (.func 41) #[] #[.pointer (some ⟨O, 0, none⟩)]] w fun en w' => en = .returned (.tuple #[]) ∧ ∃ zs', zs'.Perm zs ∧ zs'.Pairwise (fun a b => ¬ cmpBinds b.2 a.2 < 0) ∧ Nest B w' v zs' ∧ w.grownBy w' v.ownBlock := by
  obtain ⟨ho, h1⟩ := hN.outer.row
  rcases hempty : zs with _ | ⟨x0, l0⟩
  · subst hempty
    obtain ⟨p, cap, hv⟩ : ∃ p cap, v = .slice p 0 cap := by
      rcases ho.2 with ⟨hv, _⟩ | ⟨g, cap, cur, hv, _⟩
      · exact ⟨none, 0, hv⟩
      · exact ⟨_, cap, hv⟩
    subst hv
    refine (AnyF.slices_SortFunc_none (L := { Try.sortBinds with }) p cap _ w).mono fun en w' ⟨he, hw⟩ => ?_
    subst hw
    exact ⟨he, [], List.Perm.refl _, List.Pairwise.nil, hN, ⟨rfl, rfl, rfl, Nat.le_refl _, fun _ _ _ => rfl⟩⟩
  · rw [← hempty]
    have hpos : 0 < zs.length := by rw [hempty]; simp
    rcases id ho.2 with ⟨_, h0⟩ | ⟨b, cap, cur, rfl, hbB, hb, hnc, hcm, hcs, htake⟩
    · omega
    · let E := { z : VB // z ∈ zs }
      letI : Inhabited E := ⟨⟨x0, by rw [hempty]; simp⟩⟩
      let enc : E → Value := fun x => x.1.1
      let d : Array E := zs.attach.toArray
      have hd : d.toList.map (·.1) = zs := by show (zs.attach.toArray.toList).map (·.1) = zs; rw [List.toList_toArray]; exact List.attach_map_subtype_val zs
      have hde : d.toList.map enc = zs.map (·.1) := by
        have h2 : d.toList.map enc = (d.toList.map (·.1)).map (·.1) := by rw [List.map_map]; rfl
        rw [h2, hd]
      have hds : d.size = zs.length := by show zs.attach.toArray.size = _; rw [List.size_toArray]; exact List.length_attach
      have hH : Holds enc w b 0 d := by
        intro j hj
        rw [hds] at hj
        have h2 := ho.cellAt j (by omega)
        refine ⟨?_, ho.frozenAt _⟩
        rw [Nat.zero_add, h2, ← hde, List.getElem?_map, Array.getElem?_toList, Array.getElem?_eq_getElem (by omega), getElem!_pos d j (by omega)]
        rfl
      have hcmp : CmpLays1 Try.prog 41 #[.pointer (some ⟨O, 0, none⟩)] enc (fun x y => cmpBinds x.1.2 y.1.2) b 0 d.size w := by
        intro m os dk hdk x y
        have hg := grownBy_sorted1 (enc := enc) (w := w) (g := b) (off := 0) (n := m) (os := os) dk
        have hx := (hN.inner x.1 x.2).kept RBind.steady hg (fun q hq e => hN.off x.1 x.2 q hq (by rw [← e]; rfl))
        have hy := (hN.inner y.1 y.2).kept RBind.steady hg (fun q hq e => hN.off y.1 y.2 q hq (by rw [← e]; rfl))
        exact (tidy2Calls x.1.1 y.1.1 x.1.2 y.1.2 _ O (h0.grown hg hO) (OB.read hx) (OB.read hy) (n2 _ x.2) (n2 _ y.2)).mono fun en w' ⟨he, q, os', hw⟩ => ⟨he, q, os', hw⟩
      have c3 := cmpBinds3
      have hSWO : SWO (ltOf fun x y : E => cmpBinds x.1.2 y.1.2) :=
        ⟨fun x => by simp [ltOf, c3.self], fun x y z h1 h2 => by simp only [ltOf, decide_eq_true_eq] at *; exact c3.trans _ _ _ h1 h2, fun x y z h1 h2 => by
          simp only [ltOf, decide_eq_false_iff_not] at *
          intro h3
          by_cases e1 : x.1.2 = y.1.2
          · rw [e1] at h3; exact h2 h3
          · have h4 : cmpBinds y.1.2 x.1.2 < 0 := by have := c3.ne_zero e1; have := c3.anti y.1.2 x.1.2; omega
            exact h2 (c3.trans _ _ _ h4 h3)⟩
      have hlt : b < w.heap.size := (Array.getElem?_eq_some_iff.1 hb).1
      have hsort := Any.slices_SortFunc Try.sortBinds enc (fun x => h1 x.1 x.2) (fun x y => cmpBinds x.1.2 y.1.2) hSWO 41 #[.pointer (some ⟨O, 0, none⟩)] b 0 cap d w enterTidy2 hcmp hH hlt (by omega)
      rw [hds] at hsort
      refine hsort.mono fun en w' ⟨he, d', n, os, hperm, hsorted, hw⟩ => ?_
      subst hw
      have hd' : d'.size = zs.length := by rw [hperm.1, hds]
      have hP : (d'.toList.map (·.1)).Perm zs := by
        have h1 := hperm.2.2
        have e1 : d'.extract 0 zs.length = d' := by rw [← hd']; simp
        have e2 : d.extract 0 zs.length = d := by rw [← hds]; simp
        rw [e1, e2] at h1
        have := h1.map (fun x : E => x.1)
        rwa [hd] at this
      have hg := grownBy_sorted1 (enc := enc) (w := w) (g := b) (off := 0) (n := n) (os := os) d'
      refine ⟨he, d'.toList.map (·.1), hP, ?_, ?_, hg⟩
      · rw [List.pairwise_map]
        refine List.pairwise_iff_getElem.2 fun i j hi hj hij => ?_
        have hs := hsorted i j (Nat.zero_le _) hij (by rw [← hd']; simpa using hj)
        simp only [ltOf, decide_eq_false_iff_not] at hs
        rw [getElem!_pos d' j (by simpa using hj), getElem!_pos d' i (by simpa using hi)] at hs
        exact hs
      · refine hN.perm hP (OV.of_row ?_ (fun z hz => h1 z (hP.mem_iff.1 hz))) hg
        have hl : (d'.toList.map (·.1)).length = zs.length := by rw [List.length_map, Array.length_toList, hd']
        rw [hl]
        refine ⟨by simp [hd'], .inr ⟨b, cap, _, rfl, hbB, heap_sorted1 d' hb, hnc, hcm, by simpa [putCells] using hcs, ?_⟩⟩
        have h3 := take_put1 enc d' cur (by omega)
        rw [hd'] at h3
        rw [Nat.mul_one, h3, List.map_map]
        rfl
end Go.Proofs.Ythieomebngiabaa
namespace Go.Proofs.Ythieomebngiabaa
open Go.RowKit
set_option maxRecDepth 100000 in
theorem neqBind (x y : PBind) (w : World) : (binOp .neq 34 (.agg #[.string x.var, .string x.name]) (.agg #[.string y.var, .string y.name])).run Try.prog w = .ok (.bool (!((x.var.toList == y.var.toList) && (x.name.toList == y.name.toList)))) w := by
  have hp : Try.prog.stoodInHeld 34 = false := by kernel_rfl
  have hf : Try.prog.fieldsOf 34 = (match Try.prog.underlying 34 with | some (.struct fs) => fs | _ => #[]) := rfl
  rw [Try.underlying34] at hf
  have hu : Try.prog.underlying 34 = some (.struct (Try.prog.fieldsOf 34)) := by rw [hf]; exact Try.underlying34
  simp only [binOp]
  cases h1 : (x.var.toList == y.var.toList) <;> cases h2 : (x.name.toList == y.name.toList) <;>
    simp [Op.equal, Op.maxDepth, run_equalIn_struct w 9999 _ _ _ hu hp, go_sem, h1, h2]
theorem neqBind_same (x : PBind) (w : World) : (binOp .neq 34 (.agg #[.string x.var, .string x.name]) (.agg #[.string x.var, .string x.name])).run Try.prog w = .ok (.bool false) w := by
  rw [neqBind]; simp
theorem neqBind_other {x y : PBind} (h : x ≠ y) (w : World) : (binOp .neq 34 (.agg #[.string x.var, .string x.name]) (.agg #[.string y.var, .string y.name])).run Try.prog w = .ok (.bool true) w := by
  rw [neqBind, beq_toList, beq_toList]
  obtain ⟨xv, xn⟩ := x
  obtain ⟨yv, yn⟩ := y
  by_cases h1 : xv = yv
  · by_cases h2 : xn = yn
    · exact absurd (by rw [h1, h2]) h
    · simp [h2]
  · simp [h1]
theorem Fresh.drewN {w w' : World} (h : Fresh w w') (n : Nat) : Fresh w (w'.drewN n) := by
  obtain ⟨q, os, rfl⟩ := h
  exact ⟨q + n, os, by simp [Sort.grow, World.drewN, Nat.add_assoc]⟩
set_option maxRecDepth 100000 in
set_option maxHeartbeats 4000000 in
theorem equalBinds {S T : Nat → Prop} (va vb : Value) (a b : Binds) (w : World) (ha : RdBinds S w va a) (hb : RdBinds T w vb b) (n1 : a.length ≤ 1073741824) (_ : b.length ≤ 1073741824) :
    Calls Try.prog 45 #[va, vb] w fun e w' => e = .returned (.bool (decide (a = b))) ∧ Fresh w w' := by
  obtain ⟨aa, ac, rfl, -, -, -⟩ := id ha.form
  obtain ⟨ba, bc, rfl, -, -, -⟩ := id hb.form
  have HA := Lib.hid ha
  have HB := Lib.hid hb
  clear ha hb
  by_cases hl : a.length = b.length
  case neg =>
    have HE := Lib.hid (show decide (a = b) = false from decide_eq_false fun e => hl (by rw [e]))
    have i1 : ¬ (a.length : Int) = (b.length : Int) := by omega
    clear hl
    go_enter Try.func45, Try.ntmps45
    go_wp2
    go_ret
    exact ⟨ret_bool HE.out.symm, Fresh.refl _⟩
  have HLE := Lib.hid hl
  obtain ⟨n, hn⟩ : ∃ n, b.length = n := ⟨_, rfl⟩
  rw [hn] at hl
  rw [hl] at HA n1 ⊢
  rw [hn] at HB ⊢
  have HNA := Lib.hid hl
  have HNB := Lib.hid hn
  clear hl hn
  go_enter Try.func45, Try.ntmps45
  go_wp2
  go_loopw [13, 5] (fun i _ wr => ∃ k : Nat, k ≤ n ∧ i = .int .i64 k ∧ Hid (a.take k = b.take k) ∧ Hid (Fresh w wr)) (fun i _ _ => n - (intOf i).toNat)
  case atStart => exact ⟨0, Nat.zero_le _, rfl, Lib.hid rfl, Lib.hid (Fresh.refl _)⟩
  case round =>
    obtain ⟨k, hk, rfl, HR, HF⟩ := hrel
    by_cases hlt : k < n
    · obtain ⟨x, hx⟩ : ∃ x, a[k]? = some x := ⟨_, List.getElem?_eq_getElem (by have := HNA.out; omega)⟩
      obtain ⟨y, hy⟩ : ∃ y, b[k]? = some y := ⟨_, List.getElem?_eq_getElem (by have := HNB.out; omega)⟩
      obtain ⟨b1, o1, rfl, -, -, d0, d1⟩ := RdBinds.at (HA.out.up HF.out.below) hx
      obtain ⟨b2, o2, rfl, -, -, f0, f1⟩ := RdBinds.at (HB.out.up HF.out.below) hy
      have j0 : (0 : Int) ≤ (k : Int) := by omega
      have j1 : (k : Int) < (n : Int) := by omega
      have j2 : IntKind.i64.wrap (k : Int) = k := by rw [IntKind.wrap_i64]; omega
      by_cases hxy : x = y
      · have HR1 := Lib.hid (show a.take (k + 1) = b.take (k + 1) by rw [List.take_add_one, List.take_add_one, hx, hy, HR.out, hxy])
        have hne := neqBind_same x
        subst hxy
        clear hx hy HR
        go_wp2_with fail
        go_quiet (fail)
        go_wp2
        go_roundw
        case rel => exact ⟨k + 1, by omega, by go_num, HR1, Lib.hid (HF.out.drewN _)⟩
        case measure => simp [intOf]; omega
      · have HE := Lib.hid (show decide (a = b) = false from decide_eq_false fun e => hxy (by rw [e, hy] at hx; exact (Option.some.inj hx).symm))
        have hne := neqBind_other hxy
        clear hx hy HR hxy
        go_wp2_with fail
        go_quiet (fail)
        go_wp2
        go_ret
        exact ⟨ret_bool HE.out.symm, HF.out.drewN _⟩
    · have HE := Lib.hid (show decide (a = b) = true from decide_eq_true (by have := HR.out; rwa [List.take_of_length_le (by have := HNA.out; omega), List.take_of_length_le (by have := HNB.out; omega)] at this))
      go_wp2
      go_ret
      exact ⟨ret_bool HE.out.symm, HF.out⟩
theorem tidy3Calls {S T : Nat → Prop} (va vb : Value) (a b : Binds) (w : World) (ha : RdBinds S w va a) (hb : RdBinds T w vb b) (n1 : a.length ≤ 1073741824) (n2 : b.length ≤ 1073741824) :
    Calls Try.prog 44 #[va, vb] w fun e w' => e = .returned (.bool (decide (a = b))) ∧ Fresh w w' := by
  have K := Lib.hid (equalBinds va vb a b w ha hb n1 n2)
  obtain ⟨aa, ac, rfl, -, -, -⟩ := id ha.form
  obtain ⟨ba, bc, rfl, -, -, -⟩ := id hb.form
  clear ha hb
  go_enter Try.func44, Try.ntmps44
  go_wp2_with (go_at_call 45; refine (K.out).mono ?_; rintro e w1 ⟨rfl, hf1⟩; have HF := Lib.hid hf1; clear hf1)
  go_ret
  exact ⟨rfl, HF.out⟩
end Go.Proofs.Ythieomebngiabaa
namespace Go.Proofs.Ythieomebngiabaa
open Go.RowKit
section
variable {α β : Type} [DecidableEq α] (f : β → α)
def snocB (acc : List β) (x : β) : List β := if acc.getLast?.map f = some (f x) then acc else acc ++ [x]
def compactB (l : List β) : List β := l.foldl (snocB f) []
theorem compactB_snoc (l : List β) (x : β) : compactB f (l ++ [x]) = snocB f (compactB f l) x := by simp [compactB, List.foldl_append]
theorem compactB_take_succ {l : List β} {n : Nat} {x : β} (h : l[n]? = some x) : compactB f (l.take (n + 1)) = snocB f (compactB f (l.take n)) x := by
  rw [List.take_add_one, h]; exact compactB_snoc _ _ _
theorem snocB_last (acc : List β) (x : β) : (snocB f acc x).getLast?.map f = some (f x) := by
  unfold snocB
  split
  · assumption
  · simp
theorem compactB_last {l : List β} {n : Nat} {x : β} (h : l[n]? = some x) : (compactB f (l.take (n + 1))).getLast?.map f = some (f x) := by
  rw [compactB_take_succ f h]; exact snocB_last _ _ _
theorem compactB_same {l : List β} {n : Nat} {x y : β} (h : l[n]? = some x) (k : l[n + 1]? = some y) (he : f x = f y) : compactB f (l.take (n + 2)) = compactB f (l.take (n + 1)) := by
  rw [compactB_take_succ f k, snocB, if_pos (by rw [compactB_last f h, he])]
theorem compactB_other {l : List β} {n : Nat} {x y : β} (h : l[n]? = some x) (k : l[n + 1]? = some y) (hne : f x ≠ f y) : compactB f (l.take (n + 2)) = compactB f (l.take (n + 1)) ++ [y] := by
  rw [compactB_take_succ f k, snocB, if_neg (by rw [compactB_last f h]; intro e; exact hne (Option.some.inj e))]
theorem compactB_apart {l : List β} : ∀ n, n ≤ l.length → (∀ p x y, p + 1 < n → l[p]? = some x → l[p + 1]? = some y → f x ≠ f y) → compactB f (l.take n) = l.take n
  | 0, _, _ => by simp [compactB]
  | 1, hn, _ => by
    obtain ⟨x, hx⟩ : ∃ x, l[0]? = some x := ⟨_, List.getElem?_eq_getElem (by omega)⟩
    rw [compactB_take_succ f hx, List.take_add_one, hx]
    simp [compactB, snocB]
  | n + 2, hn, h => by
    obtain ⟨x, hx⟩ : ∃ x, l[n]? = some x := ⟨_, List.getElem?_eq_getElem (by omega)⟩
    obtain ⟨y, hy⟩ : ∃ y, l[n + 1]? = some y := ⟨_, List.getElem?_eq_getElem (by omega)⟩
    rw [compactB_other f hx hy (h n x y (by omega) hx hy), compactB_apart (n + 1) (by omega) (fun p a b hp => h p a b (by omega)), List.take_add_one (i := n + 1), hy]
    rfl
theorem compactB_map (l : List β) : (compactB f l).map f = compactL (l.map f) := by
  have main : ∀ (l : List β) (acc : List β), (l.foldl (snocB f) acc).map f = (l.map f).foldl snocC (acc.map f) := by
    intro l
    induction l with
    | nil => intro acc; rfl
    | cons x l ih =>
      intro acc
      rw [List.foldl_cons, List.map_cons, List.foldl_cons, ih]
      congr 1
      unfold snocB snocC
      rw [List.getLast?_map]
      split
      · rfl
      · simp
  exact main l []
theorem compactB_sub (l : List β) : (compactB f l).Sublist l := by
  have main : ∀ (l acc pre : List β), acc.Sublist pre → (l.foldl (snocB f) acc).Sublist (pre ++ l) := by
    intro l
    induction l with
    | nil => intro acc pre h; simpa using h
    | cons x l ih =>
      intro acc pre h
      rw [List.foldl_cons, show pre ++ x :: l = (pre ++ [x]) ++ l by simp]
      refine ih _ _ ?_
      unfold snocB
      split
      · exact h.trans (List.sublist_append_left _ _)
      · exact h.append (List.Sublist.refl _)
  have h := main l [] [] (List.Sublist.refl _)
  rwa [List.nil_append] at h
end
theorem Nest.sub {B : Nat} {w w' : World} {v v' : Value} {zs ys : List VB} (h : Nest B w v zs) (hp : ys.Sublist zs) (ho : OV B w' v' ys) (hv : v'.ownBlock = v.ownBlock) (hg : w.grownBy w' v.ownBlock) : Nest B w' v' ys :=
  ⟨ho, fun z hz => (h.inner z (hp.subset hz)).kept RBind.steady hg (fun q hq e => h.off z (hp.subset hz) q hq e), h.apart.sublist hp, fun z hz b hb => by rw [hv]; exact h.off z (hp.subset hz) b hb⟩
structure HalfC (w : World) (B g n cap : Nat) (zs : List VB) (i p : Nat) (xs : List Value) (acc : List VB) : Prop where
  own : w.ownsRow B 24 1 (.slice (some ⟨g, 0, none⟩) n cap) n xs
  hd : xs.take i = acc.map (·.1)
  tl : xs.drop p = (zs.drop p).map (·.1)
  le : i ≤ p
  lt : p < n
section
variable {w w' : World} {B g n cap : Nat} {zs : List VB} {i p : Nat} {xs : List Value} {acc : List VB}
theorem HalfC.glt (h : HalfC w B g n cap zs i p xs acc) : B ≤ g ∧ g < w.heap.size := h.own.lt g rfl
theorem HalfC.len (h : HalfC w B g n cap zs i p xs acc) : xs.length = n := by have := h.own.1; omega
theorem HalfC.kept (h : HalfC w B g n cap zs i p xs acc) (hb : Below w.heap.size w w') : HalfC w' B g n cap zs i p xs acc :=
  ⟨h.own.kept (row := none) ⟨hb.os, hb.tape, hb.output, hb.size, fun k hk _ => hb.block k hk⟩ (.inr (by simp [Value.ownBlock])), h.hd, h.tl, h.le, h.lt⟩
theorem HalfC.cell (h : HalfC w B g n cap zs i p xs acc) {q : Nat} {z : VB} (hq : p ≤ q) (hz : zs[q]? = some z) (hn : q < n) : w.cell? ⟨g, q, none⟩ = some z.1 := by
  rw [h.own.cellAt q (by omega)]
  have h1 : (xs.drop p)[q - p]? = ((zs.drop p).map (·.1))[q - p]? := by rw [h.tl]
  rw [List.getElem?_drop, List.getElem?_map, List.getElem?_drop, show p + (q - p) = q by omega, hz] at h1
  exact h1
theorem HalfC.skip (h : HalfC w B g n cap zs i p xs acc) (hp : p + 1 < n) : HalfC w B g n cap zs i (p + 1) xs acc :=
  ⟨h.own, h.hd, by have := congrArg (List.drop 1) h.tl; rwa [List.drop_drop, ← List.map_drop, List.drop_drop] at this, by have := h.le; omega, hp⟩
theorem HalfC.put (h : HalfC w B g n cap zs i p xs acc) {z : VB} (hp : p + 1 < n) : HalfC (w.setCell ⟨g, i, none⟩ z.1) B g n cap zs (i + 1) (p + 1) (xs.set i z.1) (acc ++ [z]) :=
  ⟨(h.own.stored i z.1).1, by
    have hi : i < xs.length := by have := h.le; have := h.len; omega
    rw [List.take_add_one, List.take_set_of_le (Nat.le_refl _), h.hd, List.getElem?_set_self hi]
    simp, by
    have h1 := congrArg (List.drop 1) h.tl
    rw [List.drop_drop, ← List.map_drop, List.drop_drop] at h1
    rw [List.drop_set_of_lt (by have := h.le; omega)]
    exact h1, by have := h.le; omega, hp⟩
theorem HalfC.spot (h : HalfC w B g n cap zs i p xs acc) : ∃ d, w.cell? ⟨g, i, none⟩ = some d ∧ w.frozen? ⟨g, i, none⟩ = false := by
  have hi : i < xs.length := by have := h.le; have := h.len; have := h.lt; omega
  exact ⟨_, by rw [h.own.cellAt i (by have := h.len; omega)]; exact List.getElem?_eq_getElem hi, h.own.frozenAt _⟩
end
theorem Fresh.grownBy {w w' : World} (h : Fresh w w') (row : Option Nat) : w.grownBy w' row := ⟨h.below.os, h.below.tape, h.below.output, h.below.size, fun k hk _ => h.below.block k hk⟩
attribute [local go_sem ↓] Go.wp_at_zero Go.wp_at_succ
set_option maxRecDepth 100000 in
set_option maxHeartbeats 8000000 in
theorem compactNest {B : Nat} {w : World} {v : Value} {zs : List VB} (hN : Nest B w v zs) (n1 : zs.length ≤ 1073741824) (n2 : ∀ z ∈ zs, z.2.length ≤ 1073741824) :
    Calls Try.prog 43 #[v, .func (.func 44) #[] #[]] w fun en w' => (∃ v', en = .returned v' ∧ Nest B w' v' (compactB (·.2) zs)) ∧ w.grownBy w' v.ownBlock := by
  have KT := Lib.hid (show ∀ W, w.grownBy W v.ownBlock → ∀ y ∈ zs, ∀ z ∈ zs, Calls Try.prog 44 #[y.1, z.1] W fun e w' => e = .returned (.bool (decide (y.2 = z.2))) ∧ Fresh W w' from fun W hW y hy z hz =>
    tidy3Calls y.1 z.1 y.2 z.2 W (OB.read ((hN.inner y hy).kept RBind.steady hW (fun q hq e => hN.off y hy q hq e))) (OB.read ((hN.inner z hz).kept RBind.steady hW (fun q hq e => hN.off z hz q hq e))) (n2 y hy) (n2 z hz))
  have HS := Lib.hid (show ∀ z ∈ zs, ∃ a n c, z.1 = .slice a n c from fun z hz => by obtain ⟨a, c, h, -⟩ := (OB.read (hN.inner z hz)).form; exact ⟨a, _, c, h⟩)
  obtain ⟨ho, h1⟩ := hN.outer.row
  have H1 := Lib.hid h1
  have HN := Lib.hid hN
  by_cases hl2 : zs.length < 2
  · have hc : compactB (·.2) zs = zs := by
      match zs, hl2 with
      | [], _ => rfl
      | [x], _ => simp [compactB, snocB]
    rw [hc]
    obtain ⟨a, c, rfl, -, -, -⟩ := id (hN.outer.read RPair.steady).form
    clear hN ho h1 KT HS n2 hc
    go_enter Try.func43, Try.ntmps43
    go_wp2
    go_ret
    exact ⟨⟨_, rfl, HN.out⟩, ⟨rfl, rfl, rfl, Nat.le_refl _, fun _ _ _ => rfl⟩⟩
  rcases id ho.2 with ⟨-, h0⟩ | ⟨g, cap, cur, rfl, hgB, hg, hcap, hcm, -, -⟩
  · omega
  have hcm' : cap ≤ 9223372036854775807 := by unfold maxLen at hcm; omega
  obtain ⟨n, hn⟩ : ∃ n, zs.length = n := ⟨_, rfl⟩
  have HO := Lib.hid ho
  rw [hn] at hl2 n1 hcap HO KT HN ⊢
  have HL := Lib.hid hn
  clear hn ho h1 hN hg n2
  have hl2' : decide ((n : Int) < 2) = false := by simp; omega
  go_enter Try.func43, Try.ntmps43
  go_wp2
  go_loopw [5, 6, 7] (fun ui _ _ wr => ∃ j : Nat, j + 1 ≤ n ∧ ui = .int .i64 ((j : Int) + 1) ∧ Hid (∀ p x y, p + 1 < j + 1 → zs[p]? = some x → zs[p + 1]? = some y → x.2 ≠ y.2) ∧ Hid (Below w.heap.size w wr))
    (fun ui _ _ _ => n - (intOf ui).toNat)
  case atStart => exact ⟨0, by omega, rfl, Lib.hid (fun p x y h => by omega), Lib.hid (Below.refl _ _)⟩
  case round =>
    obtain ⟨j, hj, rfl, hne, hbel⟩ := hrel
    have hgb : w.grownBy wr (some g) := ⟨hbel.out.os, hbel.out.tape, hbel.out.output, hbel.out.size, fun k hk _ => hbel.out.block k hk⟩
    have HG := Lib.hid hgb
    have hrow : wr.ownsRow B 24 1 (.slice (some ⟨g, 0, none⟩) n cap) n (zs.map (·.1)) := by
      have := HO.out.kept (w' := wr) (row := none) ⟨hbel.out.os, hbel.out.tape, hbel.out.output, hbel.out.size, fun k hk _ => hbel.out.block k hk⟩ (.inr (by simp [Value.ownBlock]))
      exact this
    by_cases hlt : j + 1 < n
    · obtain ⟨x, hx⟩ : ∃ x, zs[j + 1]? = some x := ⟨_, List.getElem?_eq_getElem (by rw [HL.out]; omega)⟩
      obtain ⟨y, hy⟩ : ∃ y, zs[j]? = some y := ⟨_, List.getElem?_eq_getElem (by rw [HL.out]; omega)⟩
      obtain ⟨xa, xn, xc, hx1⟩ := HS.out x (List.mem_of_getElem? hx)
      obtain ⟨ya, yn, yc, hy1⟩ := HS.out y (List.mem_of_getElem? hy)
      have cx : wr.cell? ⟨g, j + 1, none⟩ = some (.slice xa xn xc) := by rw [hrow.cellAt (j + 1) (by omega), List.getElem?_map, hx, ← hx1]; rfl
      have cy : wr.cell? ⟨g, j, none⟩ = some (.slice ya yn yc) := by rw [hrow.cellAt j (by omega), List.getElem?_map, hy, ← hy1]; rfl
      have hg1 : g < wr.heap.size := (hrow.lt g rfl).2
      have K := Lib.hid (fun W (hW : w.grownBy W (some g)) => KT.out W hW x (List.mem_of_getElem? hx) y (List.mem_of_getElem? hy))
      have HX := Lib.hid hx
      have HY := Lib.hid hy
      have HR := Lib.hid hrow
      rw [hx1, hy1] at K
      clear hx hy hx1 hy1 hrow hgb
      have i1 : (0 : Int) ≤ (j : Int) := by omega
      have i2 : (j : Int) + 1 < (n : Int) := by omega
      have i3 : (j : Int) < (n : Int) := by omega
      have i4 : (0 : Int) ≤ (j : Int) + 1 := by omega
      have i5 : IntKind.i64.wrap (j : Int) = j := by rw [IntKind.wrap_i64]; omega
      by_cases hxy : x.2 = y.2
      · have hd : decide (x.2 = y.2) = true := decide_eq_true hxy
        rw [hd] at K
        have HXY := Lib.hid hxy
        clear hxy hd
        go_wp2_with fail
        go_region_held3 (fun w' => w'.cell? ⟨g, j + 1, none⟩ = some (.slice xa xn xc) ∧ w'.cell? ⟨g, j, none⟩ = some (.slice ya yn yc))
          (first | (refine ⟨?_, ?_⟩ <;> (rw [hk2 _ hg1]; assumption)) | go_keep)
          (first
            | (go_at_call 44; refine (K.out _ (HG.out.trans (Fresh.grownBy (Fresh.refl wr).drew _))).mono ?_; rintro e w1 ⟨rfl, hf1⟩; have hk2 : ∀ c, c < wr.heap.size → ∀ off, w1.cell? ⟨c, off, none⟩ = wr.cell? ⟨c, off, none⟩ := fun c hc off => cell_below (w := wr.drew) hf1.below hc off))
        have HB1 := Lib.hid (show Below wr.heap.size wr w1 from (Below.refl _ _).drew.trans hf1.below)
        have HC := Lib.hid (show HalfC w1 B g n cap zs (j + 1) (j + 1) (zs.map (·.1)) (zs.take (j + 1)) from
          HalfC.kept (w := wr) ⟨HR.out, by rw [← List.map_take], by rw [← List.map_drop], Nat.le_refl _, hlt⟩ HB1.out)
        have HACC := Lib.hid (show compactB (·.2) (zs.take (j + 1 + 1)) = zs.take (j + 1) by
          rw [compactB_same (·.2) HY.out HX.out HXY.out.symm]; exact compactB_apart _ (j + 1) (by rw [HL.out]; omega) hne.out)
        have HG1 := Lib.hid (show w.grownBy w1 (some g) from HG.out.trans ⟨HB1.out.os, HB1.out.tape, HB1.out.output, HB1.out.size, fun k hk _ => HB1.out.block k hk⟩)
        clear hf1 hk2 cx cy HB1
        go_wp2
        clear HX HY HXY K hg1 hbel hne HG HR
        obtain ⟨m, hm⟩ : ∃ m, n - (j + 1) = m := ⟨_, rfl⟩
        obtain ⟨c2, hc2⟩ : ∃ c2, cap - (j + 1) = c2 := ⟨_, rfl⟩
        rw [hm, hc2]
        go_loopw [5, 7] (fun ui uk wr2 => ∃ i q : Nat, ∃ xs acc, q + 1 ≤ m ∧ ui = .int .i64 i ∧ uk = .int .i64 ((q : Int) + 1) ∧ i ≤ j + 1 + q ∧ Hid (HalfC wr2 B g n cap zs i (j + 1 + q) xs acc) ∧ Hid (acc = compactB (·.2) (zs.take (j + 1 + q + 1))) ∧ Hid (w.grownBy wr2 (some g)))
          (fun _ uk _ => m - (intOf uk).toNat)
        case atStart => exact ⟨j + 1, 0, _, _, by omega, by simp, by simp, by omega, HC, Lib.hid HACC.out.symm, HG1⟩
        case round =>
          clear HC HACC HG1
          obtain ⟨i, q, xs, acc, hq, rfl, rfl, hip, HC, HACC, HG⟩ := hrel
          by_cases hlt2 : q + 1 < m
          · obtain ⟨x2, hx⟩ : ∃ x2, zs[j + 1 + q + 1]? = some x2 := ⟨_, List.getElem?_eq_getElem (by rw [HL.out]; omega)⟩
            obtain ⟨y2, hy⟩ : ∃ y2, zs[j + 1 + q]? = some y2 := ⟨_, List.getElem?_eq_getElem (by rw [HL.out]; omega)⟩
            obtain ⟨xa, xn, xc, hx1⟩ := HS.out x2 (List.mem_of_getElem? hx)
            obtain ⟨ya, yn, yc, hy1⟩ := HS.out y2 (List.mem_of_getElem? hy)
            have cx := HC.out.cell (q := j + 1 + q + 1) (by omega) hx (by omega)
            have cy := HC.out.cell (q := j + 1 + q) (by omega) hy (by omega)
            have K := Lib.hid (fun W (hW : w.grownBy W (some g)) => KT.out W hW x2 (List.mem_of_getElem? hx) y2 (List.mem_of_getElem? hy))
            have hg1 : g < wr.heap.size := HC.out.glt.2
            have HX := Lib.hid hx
            have HY := Lib.hid hy
            rw [hx1] at cx
            rw [hy1] at cy
            rw [hx1, hy1] at K
            have i1 : (0 : Int) ≤ (q : Int) := by omega
            have i2 : (q : Int) + 1 < (m : Int) := by omega
            have i3 : (q : Int) < (m : Int) := by omega
            have i4 : (0 : Int) ≤ (q : Int) + 1 := by omega
            have i5 : IntKind.i64.wrap (q : Int) = q := by rw [IntKind.wrap_i64]; omega
            have e1 : j + 1 + q + 1 = j + 1 + (q + 1) := by omega
            rw [e1] at cx
            clear e1 hx hy hy1
            by_cases hxy : x2.2 = y2.2
            · rw [decide_eq_true hxy] at K
              have HXY := Lib.hid hxy
              clear hxy hx1
              go_wp2_with fail
              go_region_held3 (fun w' => w'.cell? ⟨g, j + 1 + (q + 1), none⟩ = some (.slice xa xn xc) ∧ w'.cell? ⟨g, j + 1 + q, none⟩ = some (.slice ya yn yc))
                (first | (refine ⟨?_, ?_⟩ <;> (rw [hk2 _ hg1]; assumption)) | go_keep)
                (first
                  | (go_at_call 44; refine (K.out _ (HG.out.trans (Fresh.grownBy (Fresh.refl wr).drew _))).mono ?_; rintro e w3 ⟨rfl, hf1⟩; have hk2 : ∀ c, c < wr.heap.size → ∀ off, w3.cell? ⟨c, off, none⟩ = wr.cell? ⟨c, off, none⟩ := fun c hc off => cell_below (w := wr.drew) hf1.below hc off))
              have HB3 := Lib.hid (show Below wr.heap.size wr w3 from (Below.refl _ _).drew.trans hf1.below)
              have HC3 := Lib.hid ((HC.out.kept HB3.out).skip (by omega))
              have HG3 := Lib.hid (show w.grownBy w3 (some g) from HG.out.trans ⟨HB3.out.os, HB3.out.tape, HB3.out.output, HB3.out.size, fun k hk _ => HB3.out.block k hk⟩)
              have HA3 := Lib.hid (show acc = compactB (·.2) (zs.take (j + 1 + (q + 1) + 1)) by
                rw [show j + 1 + (q + 1) + 1 = j + 1 + q + 2 by omega, compactB_same (·.2) HY.out HX.out HXY.out.symm, ← HACC.out])
              clear hf1 hk2 HB3
              go_wp2
              go_roundw
              case rel => exact ⟨i, q + 1, xs, acc, by omega, by go_num, by go_num, by omega, HC3, HA3, HG3⟩
              case measure => simp [intOf]; omega
            · rw [decide_eq_false hxy] at K
              have HXY := Lib.hid hxy
              have HP := Lib.hid (fun W (hb : Below wr.heap.size wr W) => (show (∃ d, W.cell? ⟨g, i, none⟩ = some d ∧ W.frozen? ⟨g, i, none⟩ = false) ∧ W.grownBy (W.setCell ⟨g, i, none⟩ (.slice xa xn xc)) (some g) ∧ HalfC (W.setCell ⟨g, i, none⟩ (.slice xa xn xc)) B g n cap zs (i + 1) (j + 1 + (q + 1)) (xs.set i (.slice xa xn xc)) (acc ++ [x2]) from
                ⟨(HC.out.kept hb).spot, ((HC.out.kept hb).own.stored i _).2, by rw [← hx1]; exact (HC.out.kept hb).put (by omega)⟩))
              have HA3 := Lib.hid (show acc ++ [x2] = compactB (·.2) (zs.take (j + 1 + (q + 1) + 1)) by
                rw [show j + 1 + (q + 1) + 1 = j + 1 + q + 2 by omega, compactB_other (·.2) HY.out HX.out (fun e => HXY.out e.symm), ← HACC.out])
              clear hxy hx1
              go_wp2_with fail
              go_region_held3 (fun w' => w'.cell? ⟨g, j + 1 + (q + 1), none⟩ = some (.slice xa xn xc) ∧ w'.cell? ⟨g, j + 1 + q, none⟩ = some (.slice ya yn yc))
                (first | (refine ⟨?_, ?_⟩ <;> (rw [hk2 _ hg1]; assumption)) | go_keep)
                (first
                  | (go_at_call 44; refine (K.out _ (HG.out.trans (Fresh.grownBy (Fresh.refl wr).drew _))).mono ?_; rintro e w3 ⟨rfl, hf1⟩; have hk2 : ∀ c, c < wr.heap.size → ∀ off, w3.cell? ⟨c, off, none⟩ = wr.cell? ⟨c, off, none⟩ := fun c hc off => cell_below (w := wr.drew) hf1.below hc off))
              have HB3 := Lib.hid (show Below wr.heap.size wr w3 from (Below.refl _ _).drew.trans hf1.below)
              obtain ⟨⟨d, s0, s1⟩, hg3, hc3⟩ := HP.out _ HB3.out
              have HC3 := Lib.hid hc3
              have HG3 := Lib.hid ((show w.grownBy w3 (some g) from HG.out.trans ⟨HB3.out.os, HB3.out.tape, HB3.out.output, HB3.out.size, fun k hk _ => HB3.out.block k hk⟩).trans hg3)
              have hin : (i : Int) < n := by omega
              have i6 : (0 : Int) ≤ (i : Int) := by omega
              have cx3 := (hk2 _ hg1 (j + 1 + (q + 1))).trans cx
              clear hf1 hk2 HB3 hc3 hg3
              go_wp2
              go_roundw
              case rel => exact ⟨i + 1, q + 1, _, _, by omega, by go_num, by go_num, by omega, HC3, HA3, HG3⟩
              case measure => simp [intOf]; omega
          · have hqm : q + 1 = m := by omega
            have hin : i ≤ n := by omega
            have hin' : (i : Int) ≤ n := by omega
            have hic : i ≠ cap := by omega
            have hic' : cap ≠ i := fun e => hic e.symm
            have hic2 : i < cap := by omega
            have hic3 : (i : Int) < cap := by omega
            have i6 : (0 : Int) ≤ (i : Int) := by omega
            have HA := Lib.hid (show acc = compactB (·.2) zs by rw [HACC.out, List.take_of_length_le (by rw [HL.out]; omega)])
            go_wp2
            obtain ⟨w5, hrun5, hown5, hg5⟩ := run_clear_own (P := Try.prog) (t := 25) (ty := 0) (k := 1) (by omega) Try.underlying25 Try.zeroValue24 rfl (by simp [Value.cells, Value.oneCell']) HC.out.own i (cap - i) hin
            rw [Nat.mul_one] at hrun5 hown5
            have HO5 := Lib.hid hown5
            have HG5 := Lib.hid (HG.out.trans hg5)
            clear hown5 hg5
            rw [hrun5]
            go_wp2
            go_ret
            have hlen : i = acc.length := by
              have h2 := congrArg List.length HC.out.hd
              rw [List.length_take, List.length_map, HC.out.len] at h2
              omega
            have hsub : (compactB (·.2) zs).Sublist zs := compactB_sub _ zs
            refine ⟨⟨_, rfl, HN.out.sub hsub (OV.of_row ?_ (fun z hz => H1.out z (hsub.subset hz))) rfl HG5.out⟩, HG5.out⟩
            rw [← HA.out, ← hlen, ← HC.out.hd]
            exact HO5.out
      · have hd : decide (x.2 = y.2) = false := decide_eq_false hxy
        rw [hd] at K
        have HXY := Lib.hid hxy
        clear hxy hd
        go_wp2_with fail
        go_region_held3 (fun w' => w'.cell? ⟨g, j + 1, none⟩ = some (.slice xa xn xc) ∧ w'.cell? ⟨g, j, none⟩ = some (.slice ya yn yc))
          (first | (refine ⟨?_, ?_⟩ <;> (rw [hk2 _ hg1]; assumption)) | go_keep)
          (first
            | (go_at_call 44; refine (K.out _ (HG.out.trans (Fresh.grownBy (Fresh.refl wr).drew _))).mono ?_; rintro e w1 ⟨rfl, hf1⟩; have hk2 : ∀ c, c < wr.heap.size → ∀ off, w1.cell? ⟨c, off, none⟩ = wr.cell? ⟨c, off, none⟩ := fun c hc off => cell_below (w := wr.drew) hf1.below hc off))
        have HB2 := Lib.hid (hbel.out.drew.trans (hf1.below.mono hbel.out.size))
        clear hf1 hk2 cx cy
        go_wp2
        go_roundw
        case rel =>
          refine ⟨j + 1, by omega, by go_num, Lib.hid ?_, HB2⟩
          intro p a b hp ha hb
          by_cases hpj : p = j
          · subst hpj
            rw [HY.out] at ha
            rw [HX.out] at hb
            obtain rfl := Option.some.inj ha
            obtain rfl := Option.some.inj hb
            exact fun e => HXY.out e.symm
          · exact hne.out p a b (by omega) ha hb
        case measure => simp [intOf]; omega
    · have hjn : j + 1 = n := by omega
      have hc : compactB (·.2) zs = zs := by
        have := compactB_apart (·.2) (l := zs) (j + 1) (by rw [HL.out]; omega) hne.out
        rwa [List.take_of_length_le (by rw [HL.out]; omega)] at this
      have HC := Lib.hid hc
      clear hc hgb hrow
      go_wp2
      go_ret
      exact ⟨⟨_, rfl, by rw [HC.out]; exact HN.out.below hbel.out⟩, HG.out⟩
end Go.Proofs.Ythieomebngiabaa
namespace Go.Proofs.Ythieomebngiabaa
open Go.RowKit
theorem compactC_rising {α : Type} [DecidableEq α] {c : α → α → Int} (h3 : Cmp3 c) {l : List α} (hs : l.Pairwise fun a b => ¬ c b a < 0) : ∀ n, RisingC c (compactL (l.take n))
  | 0 => by simp [compactL, RisingC]
  | n + 1 => by
    cases h : l[n]? with
    | none => rw [List.take_add_one, h]; simpa using compactC_rising h3 hs n
    | some y =>
      rw [compactL_take_succ h, snocC]
      have ih := compactC_rising h3 hs n
      split
      · exact ih
      · rename_i hl
        refine List.pairwise_append.2 ⟨ih, by simp, fun a ha b hb => ?_⟩
        obtain rfl := List.mem_singleton.1 hb
        have ha' := (mem_compactL l a n).1 ha
        obtain ⟨p, hp⟩ := List.mem_iff_getElem?.1 ha'
        have hpn : p < n := by
          have := (List.getElem?_eq_some_iff.1 hp).1
          rw [List.length_take] at this; omega
        rw [List.getElem?_take_of_lt hpn] at hp
        obtain ⟨h1, rfl⟩ := List.getElem?_eq_some_iff.1 hp
        obtain ⟨h2, rfl⟩ := List.getElem?_eq_some_iff.1 h
        have h4 := List.pairwise_iff_getElem.1 hs p n h1 h2 hpn
        have hne : l[p] ≠ l[n] := by
          intro e
          apply hl
          obtain ⟨m, rfl⟩ : ∃ m, n = m + 1 := ⟨n - 1, by omega⟩
          have hm : l[m]? = some l[m] := List.getElem?_eq_getElem (by omega)
          rw [compactL_last hm]
          congr 1
          by_cases hpm : p = m
          · subst hpm; exact e
          · have q1 := List.pairwise_iff_getElem.1 hs p m h1 (by omega) (by omega)
            have q2 := List.pairwise_iff_getElem.1 hs m (m + 1) (by omega) h2 (by omega)
            rw [e] at q1
            have := h3.anti l[m] l[m + 1]
            have := h3.anti l[m + 1] l[m]
            exact (h3.zero _ _).1 (by omega)
        simp only [ltC, decide_eq_true_eq]
        have := h3.ne_zero hne
        have := h3.anti l[n] l[p]
        omega
theorem compactC_of {α : Type} [DecidableEq α] {c : α → α → Int} (h3 : Cmp3 c) {l l' : List α} (hp : l'.Perm l) (hs : l'.Pairwise fun a b => ¬ c b a < 0) : compactL l' = ofC c l := by
  have h := compactC_rising h3 hs l'.length
  rw [List.take_length] at h
  refine risingC_ext h3 h (ofC_rising h3 l) fun x => ?_
  have := mem_compactL l' x l'.length
  rw [List.take_length] at this
  rw [this, hp.mem_iff, mem_ofC h3]
theorem sorted_of {α : Type} [DecidableEq α] {c : α → α → Int} (h3 : Cmp3 c) {l l' : List α} (hp : l'.Perm l) (hs : l'.Pairwise fun a b => ¬ c b a < 0) (hn : l.Nodup) : l' = ofC c l :=
  risingC_ext h3 (rising_of_sorted h3 hs (hp.nodup_iff.2 hn)) (ofC_rising h3 l) fun x => by rw [hp.mem_iff, mem_ofC h3]
def srt (z : VB) : VB := (z.1, ofC cmpBind z.2)
theorem srt_get {zs : List VB} {k : Nat} {z : VB} (h : zs[k]? = some z) : ((zs.take k).map srt ++ zs.drop k)[k]? = some z := by
  have hk := (List.getElem?_eq_some_iff.1 h).1
  rw [List.getElem?_append_right (by rw [List.length_map, List.length_take]; omega), List.length_map, List.length_take, Nat.min_eq_left (by omega), Nat.sub_self, drop_cons h]
  rfl
theorem srt_step {zs : List VB} {k : Nat} {z : VB} (h : zs[k]? = some z) : (zs.take (k + 1)).map srt ++ zs.drop (k + 1) = (zs.take k).map srt ++ (z.1, ofC cmpBind z.2) :: zs.drop (k + 1) := by
  rw [List.take_add_one, h, List.map_append, List.append_assoc]; rfl
set_option maxRecDepth 100000 in
set_option maxHeartbeats 8000000 in
theorem tidyCalls {B : Nat} {w : World} {v : Value} {zs : List VB} (hN : Nest B w v zs) (hB : B ≤ w.heap.size) (hnd : ∀ z ∈ zs, z.2.Nodup) (n1 : zs.length ≤ 1073741824) (n2 : ∀ z ∈ zs, z.2.length ≤ 1073741824) :
    Calls Try.prog 20 #[v] w fun en w' => (∃ v' ys, en = .returned v' ∧ Nest B w' v' ys ∧ ys.map (·.2) = tidyP (zs.map (·.2))) ∧ Below B w w' := by
  obtain ⟨a, c, rfl, -, -, -⟩ := id (hN.outer.read RPair.steady).form
  have HN := Lib.hid hN
  have ND := Lib.hid hnd
  have N2 := Lib.hid n2
  have HB0 := Lib.hid ((Below.refl B w).alloc hB (.cells #[.func (.func 36) #[] #[]] 80))
  have HO0 := Lib.hid (Blk.new w 80 #[.func (.func 36) #[] #[]])
  have HN0 := Lib.hid (hN.alloc (.cells #[.func (.func 36) #[] #[]] 80))
  clear hN hnd n2
  go_enter Try.func20, Try.ntmps20
  go_wp2
  go_loopw [8, 5] (fun i _ wr => ∃ k : Nat, k ≤ zs.length ∧ i = .int .i64 k ∧ Hid (Nest B wr (.slice a zs.length c) ((zs.take k).map srt ++ zs.drop k)) ∧ Hid (Below B w wr) ∧ Hid (Blk wr w.heap.size 80 #[.func (.func 36) #[] #[]])) (fun i _ _ => zs.length - (intOf i).toNat)
  case atStart => exact ⟨0, Nat.zero_le _, rfl, Lib.hid (by simpa using HN0.out), HB0, HO0⟩
  case round =>
    clear HB0 HO0 HN0
    obtain ⟨k, hk, rfl, HNK, HB, HO⟩ := hrel
    have ho : wr.cell? ⟨w.heap.size, 0, none⟩ = some (.func (.func 36) #[] #[]) := HO.out.cell 0
    have hlo := HO.out.lt
    by_cases hlt : k < zs.length
    · obtain ⟨z, hx⟩ : ∃ z, zs[k]? = some z := ⟨_, List.getElem?_eq_getElem hlt⟩
      have hm := List.mem_of_getElem? hx
      obtain ⟨g, rfl, hgl, hc⟩ := OV.cellAt HNK.out.outer (srt_get hx)
      have hN2 := HNK.out
      rw [drop_cons hx] at hN2
      have hoz : OB B wr z.1 z.2 := hN2.inner z (by simp)
      have hzb : z.1.ownBlock ≠ some w.heap.size := fun e => by have := (HN.out.inner_lt hm e).2; omega
      have KS := Lib.hid ((sortBind hoz (N2.out z hm)).mono (R' := fun en w' => en = .returned (.tuple #[]) ∧ Nest B w' (.slice (some ⟨g, 0, none⟩) zs.length c) ((zs.take (k + 1)).map srt ++ zs.drop (k + 1)) ∧ Below B w w' ∧ Blk w' w.heap.size 80 #[.func (.func 36) #[] #[]])
        fun en w' ⟨he, l', hp, hs, ho', hg'⟩ => by
          have hl := sorted_of cmpBind3 hp hs (ND.out z hm)
          subst hl
          refine ⟨he, ?_, ?_, ?_⟩
          · rw [srt_step hx]
            exact hN2.turn ho' (hN2.outer.tell (by simp)) hg'
          · exact HB.out.grown hg' (Nat.le_trans hB HB.out.size) (fun q hq => (hoz.row_lt hq).1)
          · exact HO.out.grown hg' (fun e => hzb e.symm))
      obtain ⟨za, zc, hz1, -⟩ := (OB.read hoz).form
      rw [hz1] at hc KS
      clear hx hm hN2 hoz hzb hz1
      go_wp2_with (go_at_call 39; refine (KS.out).mono ?_; rintro e w1 ⟨rfl, hn1, hb1, ho1⟩; have HN1 := Lib.hid hn1; have HB1 := Lib.hid hb1; have HO1 := Lib.hid ho1; clear hn1 hb1 ho1)
      go_roundw
      case rel => exact ⟨k + 1, by omega, by go_num, HN1, HB1, HO1⟩
      case measure => simp [intOf]; omega
    · have hN2 : Nest B wr (.slice a zs.length c) (zs.map srt) := by
        have := HNK.out
        rwa [List.take_of_length_le (by omega), List.drop_eq_nil_of_le (by omega), List.append_nil] at this
      have hsn : ∀ y ∈ zs.map srt, y.2.length ≤ 1073741824 := fun y hy => by
        obtain ⟨z, hz, rfl⟩ := List.mem_map.1 hy
        show (ofC cmpBind z.2).length ≤ _
        rw [length_ofC cmpBind3 _ (ND.out z hz)]
        exact N2.out z hz
      have hoa : some w.heap.size ≠ (Value.slice a zs.length c).ownBlock := fun e => by have := (HN.out.row_lt e.symm).2; omega
      have KS := Lib.hid ((sortNest hN2 HO.out hoa (by rw [List.length_map]; exact n1) hsn).mono (R' := fun en w' => en = .returned (.tuple #[]) ∧ Below B w w' ∧ ∃ zs', Nest B w' (.slice a zs.length c) zs' ∧ compactL (zs'.map (·.2)) = tidyP (zs.map (·.2)) ∧ zs'.length ≤ 1073741824 ∧ ∀ y ∈ zs', y.2.length ≤ 1073741824)
        fun en w' ⟨he, zs', hp, hs, hn', hg'⟩ => by
          refine ⟨he, HB.out.grown hg' (Nat.le_trans hB HB.out.size) (fun q hq => (hN2.row_lt hq).1), zs', hn', ?_, by rw [hp.length_eq, List.length_map]; exact n1, fun y hy => hsn y (hp.mem_iff.1 hy)⟩
          have h1 := hp.map (fun z : VB => z.2)
          rw [List.map_map] at h1
          rw [compactC_of cmpBinds3 h1 (by rw [List.pairwise_map]; exact hs)]
          unfold tidyP
          rw [List.map_map]
          rfl)
      clear hN2 hsn hoa
      go_wp2_with (first
        | (go_at_call 40; refine (KS.out).mono ?_; rintro e w1 ⟨rfl, hb1, zs', hn1, hc1, hl1, hl2⟩; have HB1 := Lib.hid hb1; have KC := Lib.hid (compactNest hn1 hl1 hl2); have HRW := Lib.hid (fun q => (hn1.row_lt (g := q))); have HC1 := Lib.hid hc1; clear hb1 hn1 hc1 hl1 hl2)
        | (go_at_call 43; refine (KC.out).mono ?_; rintro e w2 ⟨⟨v2, rfl, hn2⟩, hg2⟩; have HN2 := Lib.hid hn2; have HB2 := Lib.hid (HB1.out.grown hg2 (Nat.le_trans hB (Below.size HB1.out)) (fun q hq => (HRW.out q hq).1)); clear hn2 hg2))
      go_ret
      exact ⟨⟨v2, _, rfl, HN2.out, by rw [compactB_map]; exact HC1.out⟩, HB2.out⟩
end Go.Proofs.Ythieomebngiabaa
