/-
  THE WALKS OF match.tidy's CLOSURES: the order of binds, of lists of them, and whether two are the same.
-/
import Derived.Test.YtmnpneandkiblaaDelX
import Derived.Test.YtmnpneandkiblaaSortLay
import Derived.Test.YtmnpneandkiblaaSortG
import Derived.Test.YtmnpneandkiblaaCmp
namespace Go.Proofs.Ytmnpneandkiblaa
open Go.RowKit Go.Shelf Go.Sort

theorem cmpOr2 (p q : Int) (w : World) (b : Nat) (h : w.heap[b]? = some (.cells #[.int .i64 p, .int .i64 q] 3 (0, 0))) :
    Calls Try.prog 42 #[.slice (some ⟨b, 0, none⟩) 2 2] w fun e w' => e = .returned (.int .i64 (orInt [p, q])) ∧ w = w' :=
  cmpOr (S := fun _ => True) _ [p, q] w (RdInts.block rfl h trivial (by unfold maxLen; omega)) (by simp)

attribute [local go_sem ↓] Go.wp_at_zero Go.wp_at_succ
set_option maxHeartbeats 2000000 in
theorem orderCalls (f g : PBind) (w : World) :
    Calls Try.prog 41 #[.agg #[.string f.var, .string f.name], .agg #[.string g.var, .string g.name]] w fun e w' => e = .returned (.int .i64 (cmpBind f g)) ∧ Fresh w w' := by
  have e3 : cmpBind f g = orInt [cmpStr f.var g.var, cmpStr f.name g.name] := rfl
  rw [e3]
  clear e3
  go_enter Try.func41, Try.ntmps41
  go_wp2_with fail
  go_region_held3 (fun w' => w'.cell? ⟨w.heap.size, 0, none⟩ = some (.string f.var) ∧ w'.cell? ⟨w.heap.size, 1, none⟩ = some (.string f.name) ∧
      w'.cell? ⟨w.heap.size + 1, 0, none⟩ = some (.string g.var) ∧ w'.cell? ⟨w.heap.size + 1, 1, none⟩ = some (.string g.name)) (go_keep)
    (first
      | (go_at_call 43; refine (compareStr _ _ _).mono ?_; rintro e w' ⟨rfl, rfl⟩)
      | (go_at_call 42; refine (cmpOr2 (cmpStr f.var g.var) (cmpStr f.name g.name) _ _ ?_).mono ?_; (exact heap_new_at (by simp)); rintro e w' ⟨rfl, rfl⟩))
  go_wp2
  go_ret
  exact ⟨rfl, ((((Fresh.refl _).alloc _).alloc _).alloc _).drew⟩

theorem enterOrder : ∀ args w, (callFunc 41 args).run Try.prog w = .ok (.enter 41 args) w := enters_of Try.func41 (by kernel_rfl) rfl
theorem sortBind {B : Nat} {w : World} {v : Value} {l : Binds} (hown : OB B w v l) (n1 : l.length ≤ 1073741824) :
    Calls Try.prog 44 #[v, .func (.func 41) #[] #[]] w fun en w' => en = .returned (.tuple #[]) ∧ ∃ l', l'.Perm l ∧ l'.Pairwise (fun a b => ¬ cmpBind b a < 0) ∧ OB B w' v l' ∧ w.grownBy w' v.ownBlock :=
  sort_owned Try.sortBind RBind.steady RBind.one (fun _ => True) Try.isAgg34 Try.sizeOf34 cmpBind3 41 enterOrder
    (fun W x y cx cy hx hy _ _ => by
      have hx' : cx = [.string x.var, .string x.name] := hx
      have hy' : cy = [.string y.var, .string y.name] := hy
      subst hx'
      subst hy'
      exact orderCalls x y W)
    hown (fun _ _ => trivial) (by omega)

/-! ### CompareFunc -/
set_option maxRecDepth 100000 in
set_option maxHeartbeats 4000000 in
theorem compareBinds {S T : Nat → Prop} (va vb : Value) (a b : Binds) (w : World) (ha : RdBinds S w va a) (hb : RdBinds T w vb b) (n1 : a.length ≤ 1073741824) (n2 : b.length ≤ 1073741824) :
    Calls Try.prog 47 #[va, vb, .func (.func 41) #[] #[]] w fun e w' => e = .returned (.int .i64 (cmpBinds a b)) ∧ Fresh w w' := by
  obtain ⟨aa, ac, rfl, -, -, -⟩ := id ha.form
  obtain ⟨ba, bc, rfl, -, -, -⟩ := id hb.form
  have HA := Lib.hid ha
  have HB := Lib.hid hb
  clear ha hb
  go_enter Try.func47, Try.ntmps47
  go_wp2
  go_loopw [13, 7] (fun i _ wr => ∃ k : Nat, k ≤ a.length ∧ k ≤ b.length ∧ i = .int .i64 k ∧ Hid (cmpBinds a b = cmpLst cmpBind (a.drop k) (b.drop k)) ∧ Hid (Fresh w wr)) (fun i _ _ => a.length - (intOf i).toNat)
  case atStart => exact ⟨0, Nat.zero_le _, Nat.zero_le _, rfl, Lib.hid rfl, Lib.hid (Fresh.refl _)⟩
  case round =>
    obtain ⟨k, hk, hk2, rfl, HR, HF⟩ := hrel
    by_cases hlt : k < a.length
    · obtain ⟨x, hx⟩ : ∃ x, a[k]? = some x := ⟨_, List.getElem?_eq_getElem hlt⟩
      obtain ⟨b1, o1, rfl, -, -, d0, d1⟩ := RdBinds.at (HA.out.up HF.out.below) hx
      by_cases hlt2 : k < b.length
      · obtain ⟨y, hy⟩ : ∃ y, b[k]? = some y := ⟨_, List.getElem?_eq_getElem hlt2⟩
        obtain ⟨b2, o2, rfl, -, hbb, f0, f1⟩ := RdBinds.at (HB.out.up HF.out.below) hy
        have HD := Lib.hid (show cmpBinds a b = if cmpBind x y ≠ 0 then cmpBind x y else cmpLst cmpBind (a.drop (k + 1)) (b.drop (k + 1)) by rw [HR.out, drop_cons hx, drop_cons hy]; rfl)
        have KO := Lib.hid (fun W => orderCalls x y W)
        have i1 : ¬ (b.length : Int) ≤ (k : Int) := by omega
        have HF1 := Lib.hid ((HF.out.alloc (.cells #[.string x.var, .string x.name] 34)).alloc (.cells #[.string y.var, .string y.name] 34))
        have j0 : (0 : Int) ≤ (k : Int) := by omega
        have j1 : (k : Int) < (b.length : Int) := by omega
        have j2 : IntKind.i64.wrap (k : Int) = k := by rw [IntKind.wrap_i64]; omega
        clear hx hy HR
        obtain ⟨q, hq⟩ : ∃ q, cmpBind x y = q := ⟨_, rfl⟩
        rw [hq] at HD KO
        clear hq
        by_cases hz : q = 0
        · subst hz
          rw [if_neg (by simp)] at HD
          go_wp2_with (go_at_call 41; refine (KO.out _).mono ?_; rintro e w1 ⟨rfl, hf1⟩; have HF2 := Lib.hid (HF1.out.trans hf1); clear hf1)
          go_roundw
          case rel => exact ⟨k + 1, by omega, by omega, by go_num, HD, HF2⟩
          case measure => simp [intOf]; omega
        · have gz : (q != 0) = true := by simp [hz]
          rw [if_pos hz] at HD
          clear hz
          go_wp2_with (go_at_call 41; refine (KO.out _).mono ?_; rintro e w1 ⟨rfl, hf1⟩; have HF2 := Lib.hid (HF1.out.trans hf1); clear hf1)
          go_ret
          exact ⟨ret_int HD.out.symm, HF2.out⟩
      · have i1 : (b.length : Int) ≤ (k : Int) := by omega
        have HE := Lib.hid (show cmpBinds a b = 1 by rw [HR.out, drop_cons hx, drop_end (by omega : b.length ≤ k)]; rfl)
        clear hx HR
        go_wp2
        go_ret
        exact ⟨ret_int HE.out.symm, HF.out.alloc _⟩
    · by_cases hlt2 : a.length < b.length
      · have i1 : (a.length : Int) < (b.length : Int) := by omega
        obtain ⟨y, hy⟩ : ∃ y, b[k]? = some y := ⟨_, List.getElem?_eq_getElem (by omega)⟩
        have HE := Lib.hid (show cmpBinds a b = -1 by rw [HR.out, drop_end (by omega : a.length ≤ k), drop_cons hy]; rfl)
        clear hy HR
        go_wp2
        go_ret
        exact ⟨ret_int HE.out.symm, HF.out⟩
      · have i1 : ¬ (a.length : Int) < (b.length : Int) := by omega
        have HE := Lib.hid (show cmpBinds a b = 0 by rw [HR.out, drop_end (by omega : a.length ≤ k), drop_end (by omega : b.length ≤ k)]; rfl)
        clear HR
        go_wp2
        go_ret
        exact ⟨ret_int HE.out.symm, HF.out⟩

theorem tidy2Calls {S T : Nat → Prop} (va vb : Value) (a b : Binds) (w : World) (O : Nat) (h0 : Blk w O 85 #[.func (.func 41) #[] #[]]) (ha : RdBinds S w va a) (hb : RdBinds T w vb b) (n1 : a.length ≤ 1073741824) (n2 : b.length ≤ 1073741824) :
    Calls Try.prog 46 #[va, vb, .pointer (some ⟨O, 0, none⟩)] w fun e w' => e = .returned (.int .i64 (cmpBinds a b)) ∧ Fresh w w' := by
  have K := Lib.hid (compareBinds va vb a b w ha hb n1 n2)
  have c0 : w.cell? ⟨O, 0, none⟩ = some (.func (.func 41) #[] #[]) := h0.cell 0
  obtain ⟨aa, ac, rfl, -, -, -⟩ := id ha.form
  obtain ⟨ba, bc, rfl, -, -, -⟩ := id hb.form
  clear ha hb h0
  go_enter Try.func46, Try.ntmps46
  go_wp2_with (go_at_call 47; refine (K.out).mono ?_; rintro e w1 ⟨rfl, hf1⟩; have HF := Lib.hid hf1; clear hf1)
  go_ret
  exact ⟨rfl, HF.out⟩
end Go.Proofs.Ytmnpneandkiblaa
