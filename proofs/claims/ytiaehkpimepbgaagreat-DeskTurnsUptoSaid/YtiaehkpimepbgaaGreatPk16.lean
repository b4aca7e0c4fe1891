/-
  THE TEXTS CheckW4, NaiveW3, one behind the other.
-/
import Derived.Test.YtiaehkpimepbgaaGreatPk6
import Derived.Test.YtiaehkpimepbgaaGreatPk8
import Derived.Test.YtiaehkpimepbgaaGreatPk15
/-
  THE WALK OF check.Strata.
-/
namespace Go.Proofs.YtiaehkpimepbgaaGreat
open Go.RowKit Go.Maps

theorem rowInts : RowT Tryz.prog 79 3 1 := RowT.mk' (b := 8) (z := .int .i64 0) Tryz.underlying79 (by kernel_rfl) (by omega) rfl (by omega)

/-- A map of levels. -/
def MapL (w : World) (b n : Nat) (M : Str → Nat) : Prop := ∃ f, MapI w b n f ∧ ∀ s, (f s).getD 0 = (M s : Int)
theorem MapL.get {w : World} {b n : Nat} {M : Str → Nat} (h : MapL w b n M) {s : Str} (hs : s.size ≤ maxLen) : (Instr.lookup 160 (.map (some b)) (.string s) false).run Tryz.prog w = .ok (.int .i64 (M s)) w := by
  obtain ⟨f, h1, h2⟩ := h
  rw [← h2 s]
  exact h1.get hs
theorem MapL.put {w : World} {b n : Nat} {M : Str → Nat} (h : MapL w b n M) (hn : n < maxLen) {s : Str} (hs : s.size ≤ maxLen) {x : Nat} (hx : x < 1099511627776) :
    ∃ w', (Instr.mapUpdate 160 (.map (some b)) (.string s) (.int .i64 x)).run Tryz.prog w = .ok () w' ∧ MapL w' b (n + 1) (fun t => if t = s then x else M t) ∧ w.grownBy w' (some b) := by
  obtain ⟨f, h1, h2⟩ := h
  obtain ⟨w', h3, h4, h5⟩ := h1.put hn hs (x := (x : Int)) (WalkArith.wf_i64 (by omega))
  refine ⟨w', h3, ⟨_, h4, fun t => ?_⟩, h5⟩
  by_cases e : t = s
  · simp [e]
  · simp [e, h2 t]

/-- The worlds of Strata. -/
structure StW (w wr : World) (LB n : Nat) (M : Str → Nat) (ks : List Str) : Prop where
  below : Below w.heap.size w wr
  out : Blk wr w.heap.size 55 #[.int .i64 0, .int .i64 0]
  lev : MapL wr LB n M
  had : MapB wr (LB + 1) ks
  lt : w.heap.size < LB
section
variable {w wr w' : World} {LB n : Nat} {M : Str → Nat} {ks : List Str}
theorem StW.alloc (h : StW w wr LB n M ks) (o : Obj) : StW w (wr.alloc o) LB n M ks :=
  ⟨h.below.alloc h.below.size o, h.out.alloc o, let ⟨f, h1, h2⟩ := h.lev; ⟨f, h1.alloc o, h2⟩, h.had.alloc o, h.lt⟩
theorem StW.wider {m : Nat} (h : StW w wr LB n M ks) (hm : n ≤ m) : StW w wr LB m M ks := ⟨h.below, h.out, let ⟨f, h1, h2⟩ := h.lev; ⟨f, h1.wider hm, h2⟩, h.had, h.lt⟩
theorem StW.size (h : StW w wr LB n M ks) : LB + 1 < wr.heap.size := h.had.lt
theorem StW.grow (h : StW w wr LB n M ks) {row : Option Nat} (hg : wr.grownBy w' row) (hr : ∀ q, row = some q → LB + 1 < q) : StW w w' LB n M ks :=
  ⟨h.below.grown hg h.below.size (fun q hq => by have := hr q hq; have := h.lt; omega), h.out.grown hg (fun e => by have := hr _ e.symm; have := h.lt; omega), let ⟨f, h1, h2⟩ := h.lev; ⟨f, h1.kept hg (fun e => by have := hr _ e.symm; omega), h2⟩, h.had.kept hg (fun e => by have := hr _ e.symm; omega), h.lt⟩
theorem StW.putL (h : StW w wr LB n M ks) (hn : n < maxLen) {s : Str} (hs : s.size ≤ maxLen) {x : Nat} (hx : x < 1099511627776) :
    ∃ w', (Instr.mapUpdate 160 (.map (some LB)) (.string s) (.int .i64 x)).run Tryz.prog wr = .ok () w' ∧ StW w w' LB (n + 1) (fun t => if t = s then x else M t) ks ∧ wr.grownBy w' (some LB) := by
  obtain ⟨w', h1, h2, h3⟩ := h.lev.put hn hs hx
  exact ⟨w', h1, ⟨h.below.grown h3 h.below.size (fun q hq => by cases hq; have := h.lt; omega), h.out.grown h3 (fun e => by have := h.lt; simp at e; omega), h2, h.had.kept h3 (by simp), h.lt⟩, h3⟩
theorem StW.putB (h : StW w wr LB n M ks) (hn : ks.length < maxLen) {s : Str} (hs : s.size ≤ maxLen) :
    ∃ w', (Instr.mapUpdate 63 (.map (some (LB + 1))) (.string s) (.bool true)).run Tryz.prog wr = .ok () w' ∧ StW w w' LB n M (ks ++ [s]) ∧ wr.grownBy w' (some (LB + 1)) := by
  obtain ⟨w', h1, h2, h3⟩ := h.had.put hn hs
  exact ⟨w', h1, ⟨h.below.grown h3 h.below.size (fun q hq => by cases hq; have := h.lt; omega), h.out.grown h3 (fun e => by have := h.lt; simp at e; omega), let ⟨f, h4, h5⟩ := h.lev; ⟨f, h4.kept h3 (by simp), h5⟩, h2, h.lt⟩, h3⟩
end

def StrataPost (p : List PRule) (w : World) (e : Ending) (w' : World) : Prop :=
  Below w.heap.size w w' ∧ ∃ v l q, e = .returned (.tuple #[v, .agg #[.int .i64 q.1, .int .i64 q.2]]) ∧ RdInts (New w) w' v l ∧ StrataIs p l q
theorem strata_ret {p : List PRule} {w w' : World} {v : Value} {l : List Int} {a b : Int} (hb : Below w.heap.size w w') (hv : RdInts (New w) w' v l) (hs : StrataIs p l (a, b)) : StrataPost p w (.returned (.tuple #[v, .agg #[.int .i64 a, .int .i64 b]])) w' :=
  ⟨hb, v, l, (a, b), rfl, hv, hs⟩

set_option maxRecDepth 100000 in
set_option maxHeartbeats 8000000 in
theorem strataCalls {S : Nat → Prop} (p : List PRule) (v : Value) (w : World) (h : RdRules S w v p) (n1 : p.length ≤ 1048576) (n2 : ∀ r ∈ p, RuleSmall r) (n3 : ∀ r ∈ p, NameSmall r) :
    Calls Tryz.prog 47 #[v] w (StrataPost p w) := by
  obtain ⟨a, c, rfl, -, -, -⟩ := id h.form
  have H := Lib.hid h
  have N2 := Lib.hid n2
  have N3 := Lib.hid n3
  clear h n2 n3
  have KW := Lib.hid (wrongCalls p (.slice a p.length c) (w.alloc (.cells #[.int .i64 0, .int .i64 0] 55)) (H.out.agree RRule.steady ((Agree.refl _ _).alloc _)) n1 N2.out N3.out)
  have HB0 := Lib.hid ((Below.refl w.heap.size w).alloc (Nat.le_refl _) (.cells #[.int .i64 0, .int .i64 0] 55))
  have HF0 := Lib.hid (Blk.new w 55 #[.int .i64 0, .int .i64 0])
  by_cases hz : (wrongP p).1 = 0
  rotate_left
  · have HE := Lib.hid (show StrataIs p [] (wrongP p) from .inl ⟨hz, rfl, rfl⟩)
    have hne : ((wrongP p).1 != 0) = true := by simpa using hz
    clear hz
    generalize wrongP p = q at *
    obtain ⟨q1, q2⟩ := q
    go_enter Tryz.func47, Tryz.ntmps47
    go_wp2_with (go_at_call 82; refine (KW.out).mono ?_; rintro e w1 ⟨rfl, hf1⟩; have HB1 := Lib.hid (HB0.out.trans (hf1.mono (by simp))); have HF1 := Lib.hid (HF0.out.below hf1 HF0.out.lt); clear hf1)
    have HF2 := Lib.hid (HF1.out.alloc (.cells #[.int .i64 q1, .int .i64 q2] 55))
    have HB2 := Lib.hid (HB1.out.alloc HB1.out.size (.cells #[.int .i64 q1, .int .i64 q2] 55))
    have HN2 := Lib.hid (Blk.new w1 55 #[.int .i64 q1, .int .i64 q2])
    generalize w1.alloc (.cells #[.int .i64 q1, .int .i64 q2] 55) = w2 at *
    have k0 := HN2.out.cell 0; have k1 := HN2.out.cell 1
    have c0 := HF2.out.cell 0; have c1 := HF2.out.cell 1; have f0 := HF2.out.frozen 0; have f1 := HF2.out.frozen 1
    simp only [List.getElem?_toArray, List.getElem?_cons_zero, List.getElem?_cons_succ] at c0 c1 k0 k1
    go_region_law (fail)
    all_goals
      go_wp2
      refine bodyPost_ret (v := .tuple #[.slice none 0 0, .agg #[.int .i64 q1, .int .i64 q2]]) (by simp [results, Tryz.results47, go_sem, c0, c1]) rfl (strata_ret ?_ ?_ HE.out)
      · exact ((HB2.out.drew).setCell (Nat.le_refl _) _).setCell (Nat.le_refl _) _
      · exact RdSlice.nothing (Nat.zero_le _) (fun _ => rfl)
  have hmany : p.length ≤ 16 := by
    apply Classical.byContradiction
    intro hm
    unfold wrongP at hz
    rw [if_pos (by omega)] at hz
    exact absurd hz (by decide)
  have HZ := Lib.hid hz
  rw [hz] at KW
  generalize (wrongP p).2 = q2 at KW
  clear hz
  have hmm := @run_makeMap Tryz.prog
  go_enter Tryz.func47, Tryz.ntmps47
  go_wp2_with (go_at_call 82; refine (KW.out).mono ?_; rintro e w1 ⟨rfl, hf1⟩; have HB1 := Lib.hid (HB0.out.trans (hf1.mono (by simp))); have HF1 := Lib.hid (HF0.out.below hf1 HF0.out.lt); clear hf1)
  have HW := Lib.hid (show StW w (((w1.alloc (.cells #[.int .i64 0, .int .i64 q2] 55)).alloc (.map #[] 0)).alloc (.map #[] 0)) (w1.heap.size + 1) 0 (fun _ => 0) (headsOf (p.take 0)) from by
    have h1 := HF1.out.lt
    have hs1 : (w1.alloc (.cells #[.int .i64 0, .int .i64 q2] 55)).heap.size = w1.heap.size + 1 := by simp
    refine ⟨((HB1.out.alloc HB1.out.size _).alloc (by simp; have := HB1.out.size; omega) _).alloc (by simp; have := HB1.out.size; omega) _, ((HF1.out.alloc _).alloc _).alloc _, ⟨fun _ => none, MapI.alloc ?_ _, fun _ => rfl⟩, ?_, by omega⟩
    · have := MapI.made (w1.alloc (.cells #[.int .i64 0, .int .i64 q2] 55))
      rwa [hs1] at this
    · have := MapB.made ((w1.alloc (.cells #[.int .i64 0, .int .i64 q2] 55)).alloc (.map #[] 0))
      have hs2 : ((w1.alloc (.cells #[.int .i64 0, .int .i64 q2] 55)).alloc (.map #[] 0)).heap.size = w1.heap.size + 1 + 1 := by simp
      rwa [hs2] at this)
  clear HF1 HB1 HF0 HB0 KW
  have e2 : w1.heap.size + 2 = w1.heap.size + 1 + 1 := rfl
  try rw [e2]
  generalize ((w1.alloc (.cells #[.int .i64 0, .int .i64 q2] 55)).alloc (.map #[] 0)).alloc (.map #[] 0) = w2 at *
  generalize w1.heap.size + 1 = LB at *
  go_loopw [28] (fun i wr => ∃ k : Nat, k ≤ p.length ∧ i = .int .i64 k ∧ Hid (StW w wr LB 0 (fun _ => 0) (headsOf (p.take k)))) (fun i _ => p.length - (intOf i).toNat)
  case atStart => exact ⟨0, Nat.zero_le _, rfl, HW⟩
  case round =>
    clear HW
    obtain ⟨k, hk, rfl, HW⟩ := hrel
    by_cases hlt : k < p.length
    · obtain ⟨x, hx⟩ : ∃ x, p[k]? = some x := ⟨_, List.getElem?_eq_getElem hlt⟩
      obtain ⟨b1, o1, tv, bv, rfl, -, hb1, d0, d1, d2, d3, htv, hbv⟩ := RdRules.at (H.out.up HW.out.below) hx
      have hnx := (N3.out x (List.mem_of_getElem? hx)).h
      obtain ⟨w3, hput, hw3, -⟩ := (HW.out.alloc (.cells #[.bool x.head.neg, .string x.head.name, tv, bv] 68)).putB (by simp [headsOf]; unfold maxLen; omega) (s := x.head.name) (by unfold maxLen; omega)
      have HW3 := Lib.hid (show StW w w3 LB 0 (fun _ => 0) (headsOf (p.take (k + 1))) by
        have e : headsOf (p.take (k + 1)) = headsOf (p.take k) ++ [x.head.name] := by rw [List.take_add_one, hx]; simp [headsOf]
        rw [e]; exact hw3)
      clear hw3 hx
      obtain ⟨ta, tc, rfl, -, -, -⟩ := id htv.form
      obtain ⟨ba, bc, rfl, -, -, -⟩ := id hbv.form
      clear htv hbv
      go_wp2
      go_roundw
      case rel => exact ⟨k + 1, by omega, by go_num, HW3⟩
      case measure => simp [intOf]; omega
    · have HW0 := Lib.hid (show StW w wr LB 0 (fun _ => 0) (headsOf p) by have := HW.out; rwa [List.take_of_length_le (by omega)] at this)
      clear HW
      have hD := Dh_le p
      have hDD : Dh p * Dh p ≤ 16 * 16 := Nat.mul_le_mul (by omega) (by omega)

      go_wp2

      have htz : tot p (fun _ => 0) = 0 := Nat.le_zero.1 (Nat.le_trans (sum_le _ _ 0 fun _ => Nat.le_refl _) (by simp))
      go_loopg [9, 2] (2 * (Dh p * Dh p) + 2) (fun gk b v2 wr => ∃ (nb : Bool) (M : Str → Nat), b = .bool nb ∧ v2 = .slice none 0 0 ∧ gk + 2 * tot p M = 2 * (Dh p * Dh p) + 1 + nb.toNat ∧ Hid (StW w wr LB (tot p M) M (headsOf p)) ∧ Hid (Sub p M) ∧ Hid (nb = false → Least p M))
      case atStart => exact ⟨true, fun _ => 0, rfl, rfl, by rw [htz]; rfl, by rw [htz]; exact HW0, Lib.hid (Sub.zero p), Lib.hid (fun h => by cases h)⟩
      case round =>
        clear HW0 htz
        obtain ⟨nb, M, rfl, rfl, hgk, HW, HU, HL⟩ := hrel
        cases nb
        · have HE := Lib.hid (show StrataIs p (p.map fun r => (M r.head.name : Int)) (0, 0) from .inr ⟨HZ.out, .inl ⟨M, HL.out rfl, rfl, rfl⟩⟩)
          obtain ⟨tn, HT⟩ : ∃ tn, Hid (tn = tot p M) := ⟨_, Lib.hid rfl⟩
          rw [← HT.out] at HW
          have hmr := HW.out.size
          clear hgk HL HU
          go_wp2
          generalize HRB : wr.heap.size = RB at *
          have HO0 : Hid (Owned 1 RInt RB 3 (fun _ => False) wr (.slice none 0 0) ((p.take 0).map fun r => (M r.head.name : Int))) := Lib.hid (by simpa using Owned.nil)
          have HRS := Lib.hid (Nat.le_of_eq HRB.symm)
          clear HRB
          go_loopw [86, 15] (fun i v wr => ∃ k : Nat, k ≤ p.length ∧ i = .int .i64 k ∧ Hid (StW w wr LB tn M (headsOf p)) ∧ Hid (Owned 1 RInt RB 3 (fun _ => False) wr v ((p.take k).map fun r => (M r.head.name : Int))) ∧ Hid (RB ≤ wr.heap.size)) (fun i _ _ => p.length - (intOf i).toNat)
          case atStart => exact ⟨0, Nat.zero_le _, rfl, HW, HO0, HRS⟩
          case round =>
            clear HO0 HW HRS
            obtain ⟨k, hk, rfl, HW, HO, HRS⟩ := hrel
            by_cases hlt : k < p.length
            · obtain ⟨x, hx⟩ : ∃ x, p[k]? = some x := ⟨_, List.getElem?_eq_getElem hlt⟩
              obtain ⟨b1, o1, tv, bv, rfl, -, hb1, d0, d1, d2, d3, htv, hbv⟩ := RdRules.at (H.out.up HW.out.below) hx
              have hnx := (N3.out x (List.mem_of_getElem? hx)).h
              obtain ⟨ta, tc, rfl, -, -, -⟩ := id htv.form
              obtain ⟨ba, bc, rfl, -, -, -⟩ := id hbv.form
              have HT2 := Lib.hid (show (p.take (k + 1)).map (fun r => (M r.head.name : Int)) = (p.take k).map (fun r => (M r.head.name : Int)) ++ [(M x.head.name : Int)] by rw [List.take_add_one, hx]; simp)
              have hll : ((p.take k).map (fun r => (M r.head.name : Int))).length = k := by simp; omega
              generalize (p.take k).map (fun r => (M r.head.name : Int)) = ns at *
              have HW1 := Lib.hid (HW.out.alloc (.cells #[.bool x.head.neg, .string x.head.name, .slice ta x.head.terms.length tc, .slice ba x.body.length bc] 68))
              have HO1 := Lib.hid (HO.out.alloc RInt.steady (.cells #[.bool x.head.neg, .string x.head.name, .slice ta x.head.terms.length tc, .slice ba x.body.length bc] 68))
              have hget := HW1.out.lev.get (s := x.head.name) (by unfold maxLen; omega)
              generalize hmn : M x.head.name = m at *
              clear htv hbv hx
              have HMN := Lib.hid hmn
              clear hmn
              have hrs := HRS.out
              go_wp2_with (at_builtin; refine wpList_append_one (B := RB) (e := 3) (S := fun _ => False) (by rfl) _ _ 79 (by rfl) RInt.steady rowInts _ ns (by rfl) (HO1.out.alloc RInt.steady _) (wr.heap.size + 1) 1 #[.int .i64 (m : Int)] 3 (0, 0) (m : Int) (by rfl) (heap_new_at (by simp)) rfl (by simp [Value.oneCell']) rfl (by omega) (by simp; omega) ?_; intro v2 w2 hown2 hg2 hat2; have HO2 := Lib.hid (show Owned 1 RInt RB 3 (fun _ => False) w2 v2 ((p.take (k + 1)).map fun r => (M r.head.name : Int)) by rw [HT2.out]; exact hown2); have HW2 := Lib.hid ((HW1.out.alloc _).grow hg2 (fun q hq => by have := (HO1.out.row_lt hq).1; omega)); have HRS2 := Lib.hid (show RB ≤ w2.heap.size by have := hg2.size; simp at this; omega); clear hown2 hg2 hat2)
              go_wp2
              go_roundw
              case rel => exact ⟨k + 1, by omega, by go_num, HW2, HO2, HRS2⟩
              case measure => simp [intOf]; omega
            · have htk : p.take k = p := List.take_of_length_le (by omega)
              rw [htk] at HO
              clear htk
              have c0 := HW.out.out.cell 0; have c1 := HW.out.out.cell 1; have f0 := HW.out.out.frozen 0; have f1 := HW.out.out.frozen 1
              simp only [List.getElem?_toArray, List.getElem?_cons_zero, List.getElem?_cons_succ] at c0 c1
              have hlt2 := HW.out.lt
              obtain ⟨va, vc, hv, -, -, -⟩ := id (HO.out.read RInt.steady).form
              subst hv
              have HOB := Lib.hid (show (Value.slice va (p.map fun r => (M r.head.name : Int)).length vc).ownBlock ≠ some w.heap.size from fun h => by have := (HO.out.row_lt h).1; omega)
              go_wp2
              refine bodyPost_ret (v := .tuple #[.slice va (p.map fun r => (M r.head.name : Int)).length vc, .agg #[.int .i64 0, .int .i64 0]]) (by simp [results, Tryz.results47, go_sem, c0, c1]) rfl (strata_ret ?_ ?_ HE.out)
              · exact ((HW.out.below).setCell (Nat.le_refl _) _).setCell (Nat.le_refl _) _
              · exact (((HO.out.setCell RInt.steady (by simp) HOB.out _).setCell RInt.steady (by simp) HOB.out _).read RInt.steady).more RInt.steady (fun b hb _ => hb.elim (fun h => h.elim) (fun h => by show w.heap.size ≤ b; omega))
        · go_wp2
          go_loopw [40, 9, 2] (fun i b v2 wr => ∃ (k : Nat) (nb : Bool) (M1 : Str → Nat), k ≤ p.length ∧ i = .int .i64 k ∧ b = .bool nb ∧ v2 = .slice none 0 0 ∧ tot p M + nb.toNat ≤ tot p M1 ∧ Hid (StW w wr LB (tot p M1) M1 (headsOf p)) ∧ Hid (Sub p M1) ∧ Hid (nb = false → ∀ r ∈ p.take k, ∀ a ∈ r.body, M1 a.name + dl p a ≤ M1 r.head.name)) (fun i _ _ _ => p.length - (intOf i).toNat)
          case atStart => exact ⟨0, false, M, Nat.zero_le _, rfl, rfl, rfl, Nat.le_refl _, HW, HU, Lib.hid (by simp)⟩
          case round =>
            clear HW HU HL
            obtain ⟨k, nb, M1, hk, rfl, rfl, rfl, htot, HW, HU, HL⟩ := hrel
            by_cases hlt : k < p.length
            · obtain ⟨x, hx⟩ : ∃ x, p[k]? = some x := ⟨_, List.getElem?_eq_getElem hlt⟩
              have hmem := List.mem_of_getElem? hx
              obtain ⟨b1, o1, tv, bv, rfl, -, hb1, d0, d1, d2, d3, htv, hbv⟩ := RdRules.at H.out hx
              obtain ⟨ta, tc, rfl, -, -, -⟩ := id htv.form
              obtain ⟨ba, bc, rfl, -, -, -⟩ := id hbv.form
              have HRA := Lib.hid (show RuleAt S w b1 (o1 + k * 4) x (.slice ta x.head.terms.length tc) (.slice ba x.body.length bc) from ⟨hb1, d0, d1, d2, d3, htv, hbv⟩)
              have HS := Lib.hid (N2.out x hmem)
              have HN := Lib.hid (N3.out x hmem)
              have HX := Lib.hid hx
              have HME := Lib.hid hmem
              clear d0 d1 d2 d3
              obtain ⟨-, d0, d1, d2, d3, -, -⟩ := HRA.out.up HW.out.below
              have HR0 := Lib.hid (Blk.new wr 68 #[.bool x.head.neg, .string x.head.name, .slice ta x.head.terms.length tc, .slice ba x.body.length bc])
              have HW1 := Lib.hid (HW.out.alloc (.cells #[.bool x.head.neg, .string x.head.name, .slice ta x.head.terms.length tc, .slice ba x.body.length bc] 68))
              have hrb := HW.out.size
              have hbody := HS.out.b0
              clear hx hmem htv hbv
              go_wp2
              generalize HRB : wr.heap.size = rb at *
              clear HRB HW d0 d1 d2 d3
              go_loopw [47, 9, 2] (fun i b v2 wr => ∃ (j : Nat) (nb : Bool) (M2 : Str → Nat), j ≤ x.body.length ∧ i = .int .i64 j ∧ b = .bool nb ∧ v2 = .slice none 0 0 ∧ tot p M + nb.toNat ≤ tot p M2 ∧ Hid (StW w wr LB (tot p M2) M2 (headsOf p)) ∧ Hid (Blk wr rb 68 #[.bool x.head.neg, .string x.head.name, .slice ta x.head.terms.length tc, .slice ba x.body.length bc]) ∧ Hid (Sub p M2) ∧ Hid (nb = false → (∀ r ∈ p.take k, ∀ a ∈ r.body, M2 a.name + dl p a ≤ M2 r.head.name) ∧ ∀ a ∈ x.body.take j, M2 a.name + dl p a ≤ M2 x.head.name)) (fun i _ _ _ => x.body.length - (intOf i).toNat)
              case atStart => exact ⟨0, nb, M1, Nat.zero_le _, rfl, rfl, rfl, htot, HW1, HR0, HU, Lib.hid (fun h => ⟨HL.out h, by simp⟩)⟩
              case round =>
                clear HW1 HR0 HU HL htot
                obtain ⟨j, nb, M2, hj, rfl, rfl, rfl, htot, HW, HR, HU, HL⟩ := hrel
                by_cases hlj : j < x.body.length
                · obtain ⟨y, hy⟩ : ∃ y, x.body[j]? = some y := ⟨_, List.getElem?_eq_getElem hlj⟩
                  have hymem := List.mem_of_getElem? hy
                  obtain ⟨b4, o4, yv, rfl, -, hb4, e0, e1, e2, hyv⟩ := RdAtoms.at ((HRA.out.up HW.out.below).b) hy
                  obtain ⟨ya, yc, rfl, -, -, -⟩ := id hyv.form
                  have hns := HN.out.h
                  have hys := HN.out.b y hymem
                  have HW2 := Lib.hid (HW.out.alloc (.cells #[.bool y.neg, .string y.name, .slice ya y.terms.length yc] 66))
                  have HR2 := Lib.hid (HR.out.alloc (.cells #[.bool y.neg, .string y.name, .slice ya y.terms.length yc] 66))
                  have hg1 := HW2.out.lev.get (s := y.name) (by unfold maxLen; omega)
                  have hg2 := HW2.out.lev.get (s := x.head.name) (by unfold maxLen; omega)
                  have hg3 := HW2.out.had.get (s := y.name) (by unfold maxLen; omega)
                  have hg4 := HW2.out.had.len 3
                  have rc := HR2.out.cell 1
                  have c0 := HW2.out.out.cell 0; have c1 := HW2.out.out.cell 1; have f0 := HW2.out.out.frozen 0; have f1 := HW2.out.out.frozen 1
                  simp only [List.getElem?_toArray, List.getElem?_cons_zero, List.getElem?_cons_succ] at c0 c1 rc
                  have HTK := Lib.hid (show x.body.take (j + 1) = x.body.take j ++ [y] by rw [List.take_add_one, hy]; rfl)
                  have HY := Lib.hid hymem
                  obtain ⟨d, hdd, hcase⟩ : ∃ d, dl p y = d ∧ ((y.neg = false ∧ d = 0) ∨ (y.neg = true ∧ memS y.name (headsOf p) = false ∧ d = 0) ∨ (y.neg = true ∧ memS y.name (headsOf p) = true ∧ d = 1)) := by
                    refine ⟨_, rfl, ?_⟩
                    unfold dl
                    cases hn : y.neg
                    · exact .inl ⟨rfl, by simp⟩
                    · cases hm : memS y.name (headsOf p)
                      · exact .inr (.inl ⟨rfl, rfl, if_neg (fun h => by have := (memS_iff _ _).2 h.2; rw [hm] at this; cases this)⟩)
                      · exact .inr (.inr ⟨rfl, rfl, if_pos ⟨rfl, (memS_iff _ _).1 hm⟩⟩)
                  have hu0 := HU.out.lt y.name
                  have hDl : Dh p ≤ 16 := by omega
                  by_cases hle : M2 y.name + d ≤ M2 x.head.name
                  · have HL2 := Lib.hid (show nb = false → (∀ r ∈ p.take k, ∀ a ∈ r.body, M2 a.name + dl p a ≤ M2 r.head.name) ∧ ∀ a ∈ x.body.take (j + 1), M2 a.name + dl p a ≤ M2 x.head.name from fun h => ⟨(HL.out h).1, fun a ha => by
                      rw [HTK.out] at ha
                      rcases List.mem_append.1 ha with ha | ha
                      · exact (HL.out h).2 a ha
                      · obtain rfl := List.mem_singleton.1 ha
                        rw [hdd]; exact hle⟩)
                    clear hy hymem hyv hdd HL HW HR
                    generalize M2 y.name = m1 at hg1 hle hu0
                    generalize M2 x.head.name = m2 at hg2 hle
                    generalize memS y.name (headsOf p) = mb at hg3 hcase
                    have hw1 : IntKind.i64.wrap ((m1 : Int) + 1) = (m1 : Int) + 1 := by rw [IntKind.wrap_i64]; omega
                    rcases hcase with ⟨hn, rfl⟩ | ⟨hn, rfl, rfl⟩ | ⟨hn, rfl, rfl⟩
                    all_goals
                      have i1 : (m1 : Int) ≤ (m2 : Int) := by omega
                      try have i2 : (m1 : Int) + 1 ≤ (m2 : Int) := by omega
                      rw [hn] at e0 HW2 HR2 hg1 hg2 hg3 hg4 rc c0 c1 f0 f1
                      clear hn hle
                      go_wp2
                      go_roundw
                      case rel => exact ⟨j + 1, nb, M2, by omega, by go_num, rfl, rfl, htot, HW2, HR2, HU, HL2⟩
                      case measure => simp [intOf]; omega
                  · by_cases hlt2 : M2 y.name + d < Dh p
                    · obtain ⟨HU2', htot2⟩ := HU.out.step HME.out hymem (by rw [hdd]; exact hlt2) (by rw [hdd]; exact hle)
                      have HU2 := Lib.hid HU2'
                      obtain ⟨w5, hput, hw5, hgr5⟩ := HW2.out.putL (s := x.head.name) (x := M2 y.name + d) (by have := HU.out.tot_le; unfold maxLen; omega) (by unfold maxLen; omega) (by omega)
                      have HW5 := Lib.hid (show StW w w5 LB (tot p (raise p M2 x y)) (raise p M2 x y) (headsOf p) from by
                        have := hw5.wider htot2
                        have e : raise p M2 x y = fun t => if t = x.head.name then M2 y.name + d else M2 t := by unfold raise; rw [hdd]
                        rw [e] at this ⊢; exact this)
                      have HR5 := Lib.hid (HR2.out.grown hgr5 (by simp; omega))
                      have ht5 : tot p M + 1 ≤ tot p (raise p M2 x y) := by omega
                      generalize raise p M2 x y = M5 at *
                      clear hy hymem hyv hdd HL HW HR hw5 hgr5 HU2' HU
                      generalize M2 y.name = m1 at *
                      generalize M2 x.head.name = m2 at *
                      generalize memS y.name (headsOf p) = mb at *
                      have hw1 : IntKind.i64.wrap ((m1 : Int) + 1) = (m1 : Int) + 1 := by rw [IntKind.wrap_i64]; omega
                      rw [show (onceS (headsOf p)).length = Dh p from rfl] at hg4
                      rcases hcase with ⟨hn, rfl⟩ | ⟨hn, rfl, rfl⟩ | ⟨hn, rfl, rfl⟩
                      all_goals
                        first
                          | (have i1 : ¬ ((m1 : Int) + 1 ≤ (m2 : Int)) := by omega
                             have i2 : ¬ ((Dh p : Int) ≤ (m1 : Int) + 1) := by omega
                             have hput2 : (Instr.mapUpdate 160 (.map (some LB)) (.string x.head.name) (.int .i64 ((m1 : Int) + 1))).run Tryz.prog _ = .ok () w5 := hput)
                          | (have i1 : ¬ ((m1 : Int) ≤ (m2 : Int)) := by omega
                             have i2 : ¬ ((Dh p : Int) ≤ (m1 : Int)) := by omega
                             have hput2 : (Instr.mapUpdate 160 (.map (some LB)) (.string x.head.name) (.int .i64 (m1 : Int))).run Tryz.prog _ = .ok () w5 := hput)
                        rw [hn] at e0 HW2 HR2 hg1 hg2 hg3 hg4 rc c0 c1 f0 f1 hput2
                        clear hn hle hlt2 hput
                        go_wp2
                        go_roundw
                        case rel => exact ⟨j + 1, true, M5, by omega, by go_num, rfl, rfl, ht5, HW5, HR5, HU2, Lib.hid (fun h => by cases h)⟩
                        case measure => simp [intOf]; omega
                    · have hD0 : 0 < Dh p := by
                        have h1 : x.head.name ∈ onceS (headsOf p) := (mem_onceS _ _).2 (List.mem_map.2 ⟨x, HME.out, rfl⟩)
                        exact List.length_pos_of_mem h1
                      have HE := Lib.hid (show StrataIs p [] (10, 0) from .inr ⟨HZ.out, .inr ⟨HU.out.fail HME.out hymem (by rw [hdd]; exact hlt2), rfl, rfl⟩⟩)
                      clear hy hymem hyv hdd HL HW HR HU
                      generalize M2 y.name = m1 at *
                      generalize M2 x.head.name = m2 at *
                      generalize memS y.name (headsOf p) = mb at *
                      have hw1 : IntKind.i64.wrap ((m1 : Int) + 1) = (m1 : Int) + 1 := by rw [IntKind.wrap_i64]; omega
                      rw [show (onceS (headsOf p)).length = Dh p from rfl] at hg4
                      rcases hcase with ⟨hn, rfl⟩ | ⟨hn, rfl, rfl⟩ | ⟨hn, rfl, rfl⟩
                      · exfalso; omega
                      · exfalso; omega
                      · have i1 : ¬ ((m1 : Int) + 1 ≤ (m2 : Int)) := by omega
                        have i2 : ((Dh p : Int) ≤ (m1 : Int) + 1) := by omega
                        rw [hn] at e0 HW2 HR2 hg1 hg2 hg3 hg4 rc c0 c1 f0 f1
                        clear hn hle hlt2
                        go_wp2
                        refine bodyPost_ret (v := .tuple #[.slice none 0 0, .agg #[.int .i64 10, .int .i64 0]]) (by simp [results, Tryz.results47, go_sem, c0, c1]) rfl (strata_ret ?_ ?_ HE.out)
                        · exact ((HW2.out.below).setCell (Nat.le_refl _) _).setCell (Nat.le_refl _) _
                        · exact RdSlice.nothing (Nat.zero_le _) (fun _ => rfl)
                · have HL2 := Lib.hid (show nb = false → ∀ r ∈ p.take (k + 1), ∀ a ∈ r.body, M2 a.name + dl p a ≤ M2 r.head.name from fun h r hr a ha => by
                    rw [List.take_add_one, HX.out] at hr
                    rcases List.mem_append.1 hr with hr | hr
                    · exact (HL.out h).1 r hr a ha
                    · obtain rfl := List.mem_singleton.1 (by simpa using hr)
                      refine (HL.out h).2 a ?_
                      rwa [List.take_of_length_le (by omega)])
                  clear HL HR
                  go_wp2
                  go_roundw
                  case rel => exact ⟨k + 1, nb, M2, by omega, by go_num, rfl, rfl, htot, HW, HU, HL2⟩
                  case measure => simp [intOf]; omega
            · have HL2 := Lib.hid (show nb = false → Least p M1 from fun h => HU.out.done (by have := HL.out h; rwa [List.take_of_length_le (by omega)] at this))
              have htle := HU.out.tot_le
              clear HL
              go_wp2
              go_roundg (2 * (Dh p * Dh p) + 1 + nb.toNat - 2 * tot p M1)
              case measure => cases nb <;> simp at htot ⊢ <;> simp at hgk <;> omega
              case rel => exact ⟨nb, M1, rfl, rfl, by omega, HW, HU, HL2⟩
end Go.Proofs.YtiaehkpimepbgaaGreat

/-
  THE WALKS OF naive.Once, All.
-/
namespace Go.Proofs.YtiaehkpimepbgaaGreat
open Go.RowKit Go.Maps

theorem RdInts.up {S : Nat → Prop} {w w' : World} {v : Value} {l : List Int} (h : RdInts S w v l) (hb : Below w.heap.size w w') : RdInts (fun _ => True) w' v l := (h.more RInt.steady (fun _ _ _ => trivial)).agree RInt.steady (Below.agree hb)
theorem heads_len (r : PRule) (l : List PFact) : (headsP r l).1.length ≤ 20000 := by
  unfold headsP
  split
  · exact Nat.zero_le _
  · refine Nat.le_trans (ofF_length _) (Nat.le_trans (List.length_filterMap_le _ _) (all_short r.body l).1)
theorem heads_args {r : PRule} {l : List PFact} {x : PFact} (hx : x ∈ (headsP r l).1) : x.args.length = r.head.terms.length := by
  unfold headsP at hx
  split at hx
  · simp at hx
  · obtain ⟨b, -, hb⟩ := List.mem_filterMap.1 ((mem_ofF _ _).1 hx)
    exact fill_args hb
theorem once_skip {n s : Int} {l out : List PFact} {r : PRule} {ps : List (PRule × Int)} (h : s ≠ n) : onceP n l ((r, s) :: ps) out = onceP n l ps out := by conv => lhs; unfold onceP; rw [if_pos h]
theorem once_err {n s : Int} {l out : List PFact} {r : PRule} {ps : List (PRule × Int)} (h : s = n) (he : (headsP r l).2 ≠ 0) : onceP n l ((r, s) :: ps) out = ([], (headsP r l).2) := by
  unfold onceP; rw [if_neg (by simpa using h), if_pos he]
theorem once_many {n s : Int} {l out : List PFact} {r : PRule} {ps : List (PRule × Int)} (h : s = n) (he : (headsP r l).2 = 0) (hm : 200 < (joinF out (headsP r l).1).length) : onceP n l ((r, s) :: ps) out = ([], 5) := by
  unfold onceP; rw [if_neg (by simpa using h), if_neg (by simpa using he), if_pos hm]
theorem once_next {n s : Int} {l out : List PFact} {r : PRule} {ps : List (PRule × Int)} (h : s = n) (he : (headsP r l).2 = 0) (hm : ¬ 200 < (joinF out (headsP r l).1).length) : onceP n l ((r, s) :: ps) out = onceP n l ps (joinF out (headsP r l).1) := by
  conv => lhs; unfold onceP
  rw [if_neg (by simpa using h), if_neg (by simpa using he), if_neg hm]
theorem zip_at {α β : Type} {a : List α} {b : List β} {k : Nat} {x : α} {y : β} (h1 : a[k]? = some x) (h2 : b[k]? = some y) : (a.zip b)[k]? = some (x, y) := by
  rw [List.getElem?_zip_eq_some]; exact ⟨h1, h2⟩

set_option maxRecDepth 100000 in
set_option maxHeartbeats 8000000 in
theorem onceCalls {S S2 S3 : Nat → Prop} (p : List PRule) (v sv fv : Value) (st : List Int) (n : Int) (l : List PFact) (w : World) (h : RdRules S w v p) (hst : RdInts S2 w sv st) (hf : RdFacts S3 w fv l) (hlen : st.length = p.length)
    (n1 : p.length ≤ 1048576) (n2 : ∀ r ∈ p, RuleSmall r) (n4 : l.length ≤ 1048576) (n5 : ∀ x ∈ l, x.args.length ≤ 1048576) :
    Calls Tryz.prog 89 #[v, sv, .int .i64 n, fv] w (FactsPost (onceP n l (p.zip st) l) w) := by
  obtain ⟨a, c, rfl, -, -, -⟩ := id h.form
  obtain ⟨sa, sc, rfl, -, -, -⟩ := id hst.form
  obtain ⟨fa, fc, rfl, -, -, -⟩ := id hf.form
  have KO := Lib.hid (ownCalls (.slice fa l.length fc) l w hf (by omega) (fun x hx => by have := n5 x hx; omega))
  have H := Lib.hid h
  have HST := Lib.hid hst
  have HFA := Lib.hid hf
  have N2 := Lib.hid n2
  have N5 := Lib.hid n5
  clear h hst hf n2 n5
  go_enter Tryz.func89, Tryz.ntmps89
  go_wp2_with (go_at_call 49; refine (KO.out).mono ?_; rintro e w1 ⟨⟨v1, rfl, ho1⟩, hb1⟩; have HO1 := Lib.hid ho1; have HB1 := Lib.hid hb1; clear ho1 hb1)
  clear KO
  go_loopw [19, 10] (fun i v wr => ∃ (k : Nat) (o : List PFact), k ≤ p.length ∧ i = .int .i64 k ∧ o.length ≤ 1048576 ∧ Hid (∀ x ∈ o, x.args.length ≤ 1048576) ∧ Hid (Owned 2 RFact w.heap.size 44 (New w) wr v o) ∧ Hid (Below w.heap.size w wr) ∧ Hid (onceP n l (p.zip st) l = onceP n l ((p.zip st).drop k) o)) (fun i _ _ => p.length - (intOf i).toNat)
  case atStart => exact ⟨0, l, Nat.zero_le _, rfl, n4, N5, HO1, HB1, Lib.hid rfl⟩
  case round =>
    clear HO1 HB1
    obtain ⟨k, o, hk, rfl, hol, HOA, HO, HB, HE⟩ := hrel
    obtain ⟨va, vc, efm, -, -, -⟩ := (HO.out.read RFact.steady).form
    subst efm
    by_cases hlt : k < p.length
    · obtain ⟨x, hx⟩ : ∃ x, p[k]? = some x := ⟨_, List.getElem?_eq_getElem hlt⟩
      obtain ⟨s, hsx⟩ : ∃ s, st[k]? = some s := ⟨_, List.getElem?_eq_getElem (by omega)⟩
      have hmem := List.mem_of_getElem? hx
      obtain ⟨b1, o1, tv, bv, rfl, -, hb1, d0, d1, d2, d3, htv, hbv⟩ := RdRules.at H.out hx
      obtain ⟨ta, tc, rfl, -, -, -⟩ := id htv.form
      obtain ⟨ba, bc, rfl, -, -, -⟩ := id hbv.form
      have HRA := Lib.hid (show RuleAt S w b1 (o1 + k * 4) x (.slice ta x.head.terms.length tc) (.slice ba x.body.length bc) from ⟨hb1, d0, d1, d2, d3, htv, hbv⟩)
      obtain ⟨b2, o2, rfl, -, hb2, e0⟩ := RdInts.at HST.out hsx
      have f0 := (cell_below HB.out hb2 _).trans e0
      have HS := Lib.hid (N2.out x hmem)
      clear d0 d1 d2 d3 e0
      obtain ⟨-, d0, d1, d2, d3, -, -⟩ := HRA.out.up HB.out
      have hsz := HB.out.size
      have hbl2 : b2 < wr.heap.size := Nat.lt_of_lt_of_le hb2 hsz
      have hbx : Below wr.heap.size wr (wr.alloc (.cells #[.bool x.head.neg, .string x.head.name, .slice ta x.head.terms.length tc, .slice ba x.body.length bc] 68)) := (Below.refl _ _).alloc (Nat.le_refl _) _
      have HB1 := Lib.hid (HB.out.trans (hbx.mono hsz))
      have HO1 := Lib.hid (HO.out.below RFact.steady hbx)
      have HE1 := Lib.hid (show onceP n l (p.zip st) l = onceP n l ((x, s) :: (p.zip st).drop (k + 1)) o by rw [HE.out, at_drop (zip_at hx hsx)])
      have i3 : (k : Int) < (st.length : Int) := by omega
      clear hx hsx hmem htv hbv hbx HE
      by_cases hs : s = n
      case neg =>
        have g1 : (s != n) = true := by simpa using hs
        have HE2 := Lib.hid (HE1.out.trans (once_skip hs))
        clear hs HE1
        go_wp2
        go_roundw
        case rel => exact ⟨k + 1, o, by omega, by go_num, hol, HOA, HO1, HB1, HE2⟩
        case measure => simp [intOf]; omega
      have g1 : (s != n) = false := by simpa using hs
      have KH := Lib.hid (headsCalls x (.slice ta x.head.terms.length tc) (.slice ba x.body.length bc) (.slice fa l.length fc) l (wr.alloc (.cells #[.bool x.head.neg, .string x.head.name, .slice ta x.head.terms.length tc, .slice ba x.body.length bc] 68)) (HRA.out.up HB1.out).t (HRA.out.up HB1.out).b (HFA.out.up HB1.out) HS.out n4 N5.out)
      have HHL := Lib.hid (heads_len x l)
      have HHA := Lib.hid (show ∀ y ∈ (headsP x l).1, y.args.length ≤ 1048576 from fun y hy => by rw [heads_args hy]; exact HS.out.h1)
      have H1 := Lib.hid (fun (he : (headsP x l).2 ≠ 0) => HE1.out.trans (once_err hs he))
      have H2 := Lib.hid (fun (he : (headsP x l).2 = 0) hm => HE1.out.trans (once_many hs he hm))
      have H3 := Lib.hid (fun (he : (headsP x l).2 = 0) hm => HE1.out.trans (once_next hs he hm))
      clear hs HE1
      generalize headsP x l = r at *
      obtain ⟨hl, q⟩ := r
      dsimp only at *
      by_cases hq : q = 0
      case neg =>
        have g2 : (q != 0) = true := by simpa using hq
        have HE2 := Lib.hid (H1.out hq)
        clear hq H1 H2 H3
        go_wp2_with (go_at_call 18; refine (KH.out).mono ?_; rintro e w3 ⟨hb3, v3, rfl, ho3⟩; obtain ⟨a3, c3, rfl, -, -, -⟩ := id (ho3.read RFact.steady).form; have HB3 := Lib.hid (HB1.out.trans (hb3.mono (Below.size HB1.out))); clear hb3 ho3)
        go_ret2
        exact facts_err HE2.out HB3.out
      subst hq
      have KJ := Lib.hid (fun W va vb (h1 : RdFacts (fun _ => True) W va o) (h2 : RdFacts (fun _ => True) W vb hl) => joinCalls va vb o hl W h1 h2 (by have := HHL.out; omega) (fun x hx => by have := HOA.out x hx; omega) (fun x hx => by have := HHA.out x hx; omega))
      have HJA := Lib.hid (show ∀ y ∈ joinF o hl, y.args.length ≤ 1048576 from fun y hy => by
        rcases (mem_joinF _ _ y).1 hy with h | h
        · exact HOA.out y h
        · exact HHA.out y h)
      have H4 := Lib.hid (H2.out rfl)
      have H5 := Lib.hid (H3.out rfl)
      clear H1 H2 H3
      generalize joinF o hl = j at *
      by_cases hm : 200 < j.length
      · have HE2 := Lib.hid (H4.out hm)
        have i5 : (200 : Int) < (j.length : Int) := by omega
        clear hm H4 H5
        go_wp2_with (first
          | (go_at_call 18; refine (KH.out).mono ?_; rintro e w3 ⟨hb3, v3, rfl, ho3⟩; obtain ⟨a3, c3, rfl, -, -, -⟩ := id (ho3.read RFact.steady).form; have HB3 := Lib.hid (HB1.out.trans (hb3.mono (Below.size HB1.out))); have HR3 := Lib.hid ((ho3.read RFact.steady).more RFact.steady (S' := fun _ => True) (fun _ _ _ => trivial)); have HO3 := Lib.hid (HO1.out.below RFact.steady hb3); clear hb3 ho3)
          | (go_at_call 85; refine (KJ.out _ _ _ ((HO3.out.read RFact.steady).more RFact.steady (fun _ _ _ => trivial)) HR3.out).mono ?_; rintro e w4 ⟨⟨v4, rfl, ho4⟩, hb4⟩; obtain ⟨a4, c4, rfl, -, -, -⟩ := id (ho4.read RFact.steady).form; have HB4 := Lib.hid (HB3.out.trans (hb4.mono (Below.size HB3.out))); clear hb4 ho4))
        go_ret2
        exact facts_err HE2.out HB4.out
      · have HE2 := Lib.hid (H5.out hm)
        have i5 : ¬ (200 : Int) < (j.length : Int) := by omega
        have hjl : j.length ≤ 1048576 := by omega
        clear hm H4 H5
        go_wp2_with (first
          | (go_at_call 18; refine (KH.out).mono ?_; rintro e w3 ⟨hb3, v3, rfl, ho3⟩; obtain ⟨a3, c3, rfl, -, -, -⟩ := id (ho3.read RFact.steady).form; have HB3 := Lib.hid (HB1.out.trans (hb3.mono (Below.size HB1.out))); have HR3 := Lib.hid ((ho3.read RFact.steady).more RFact.steady (S' := fun _ => True) (fun _ _ _ => trivial)); have HO3 := Lib.hid (HO1.out.below RFact.steady hb3); clear hb3 ho3)
          | (go_at_call 85; refine (KJ.out _ _ _ ((HO3.out.read RFact.steady).more RFact.steady (fun _ _ _ => trivial)) HR3.out).mono ?_; rintro e w4 ⟨⟨v4, rfl, ho4⟩, hb4⟩; obtain ⟨a4, c4, rfl, -, -, -⟩ := id (ho4.read RFact.steady).form; have HB4 := Lib.hid (HB3.out.trans (hb4.mono (Below.size HB3.out))); have HO4 := Lib.hid ((ho4.lower (Below.size HB3.out)).moreS RFact.steady (S' := New w) fun b hb _ => Nat.le_trans (Below.size HB3.out) hb); clear hb4 ho4))
        go_roundw
        case rel => exact ⟨k + 1, j, by omega, by go_num, hjl, HJA, HO4, HB4, HE2⟩
        case measure => simp [intOf]; omega
    · have HE2 := Lib.hid (show onceP n l (p.zip st) l = (o, 0) by rw [HE.out, List.drop_eq_nil_of_le (by rw [List.length_zip]; omega)]; rfl)
      go_wp2
      go_ret2
      exact facts_ok HE2.out HB.out HO.out

/-! ### All -/
theorem below_drewN {B : Nat} {w w' : World} (h : Below B w w') (n : Nat) : Below B w (w'.drewN n) := h.trans ⟨rfl, rfl, rfl, Nat.le_refl _, fun _ _ => rfl⟩
theorem exists_strata (p : List PRule) : ∃ st q, StrataIs p st q := by
  by_cases h : (wrongP p).1 = 0
  · by_cases hs : ∃ N, Sol p N
    · obtain ⟨N, hN⟩ := hs
      obtain ⟨L, hL⟩ := exists_least hN
      exact ⟨_, _, .inr ⟨h, .inl ⟨L, hL, rfl, rfl⟩⟩⟩
    · exact ⟨_, _, .inr ⟨h, .inr ⟨fun N hN => hs ⟨N, hN⟩, rfl, rfl⟩⟩⟩
  · exact ⟨_, _, .inl ⟨h, rfl, rfl⟩⟩
theorem strata_bd {p : List PRule} {st : List Int} {q : Int × Int} (hs : StrataIs p st q) (h : q.1 = 0) : st.length = p.length ∧ p.length ≤ 16 ∧ (∀ r ∈ p, r.body.length ≤ 5) ∧ (∀ z ∈ st, 0 ≤ z ∧ z ≤ 16) ∧ 0 ≤ countP st ∧ countP st ≤ 17 := by
  obtain ⟨hR, hW, L, hL, rfl⟩ := strata_zero hs h
  have h16 := (wrongP_iff.1 hW).1
  have hz : ∀ z ∈ p.map (fun r => (L r.head.name : Int)), 0 ≤ z ∧ z ≤ 16 := fun z hz => by
    obtain ⟨r, hr, rfl⟩ := List.mem_map.1 hz
    have := hL.bound (D := headsOf p) (fun x hx => hx) (s := r.head.name) (List.mem_map.2 ⟨r, hr, rfl⟩)
    have h2 : (headsOf p).length = p.length := by simp [headsOf]
    omega
  refine ⟨by simp, h16, fun r hr => ruleBad_body (hR r hr), hz, ?_⟩
  rcases count_is (p.map fun r => (L r.head.name : Int)) with ⟨-, h1⟩ | ⟨x, hx, h1⟩
  · omega
  · have := hz x hx; omega
def lenV : Value → Nat
  | .slice _ n _ => n
  | _ => 0
theorem naive_err1 {st : List Int} {q : Int} {p : List PRule} {l : List PFact} (h : q ≠ 0) : naiveP st q p l = ([], q) := by unfold naiveP; rw [if_pos h]
theorem naive_err2 {st : List Int} {q : Int} {p : List PRule} {l : List PFact} (h : q = 0) (hf : (factsBad p l).1 ≠ 0) : naiveP st q p l = ([], (factsBad p l).1) := by unfold naiveP; rw [if_neg (by simpa using h), if_pos hf]
theorem naive_run {st : List Int} {q : Int} {p : List PRule} {l : List PFact} (h : q = 0) (hf : (factsBad p l).1 = 0) : naiveP st q p l = runP (p.zip st) (countP st).toNat 0 l := by unfold naiveP; rw [if_neg (by simpa using h), if_neg (by simpa using hf)]
theorem fix_err {ps : List (PRule × Int)} {n : Int} {k : Nat} {o : List PFact} (h : (onceP n o ps o).2 ≠ 0) : fixP ps n (k + 1) o = ([], (onceP n o ps o).2) := by rw [fixP, if_pos h]
theorem fix_done {ps : List (PRule × Int)} {n : Int} {k : Nat} {o : List PFact} (h : (onceP n o ps o).2 = 0) (hl : (onceP n o ps o).1.length = o.length) : fixP ps n (k + 1) o = (o, 0) := by rw [fixP, if_neg (by simpa using h), if_pos hl]
theorem fix_next {ps : List (PRule × Int)} {n : Int} {k : Nat} {o : List PFact} (h : (onceP n o ps o).2 = 0) (hl : ¬ (onceP n o ps o).1.length = o.length) : fixP ps n (k + 1) o = fixP ps n k (onceP n o ps o).1 := by rw [fixP, if_neg (by simpa using h), if_neg hl]
theorem run_err {ps : List (PRule × Int)} {i : Int} {k : Nat} {o : List PFact} (h : (fixP ps i 201 o).2 ≠ 0) : runP ps (k + 1) i o = ([], (fixP ps i 201 o).2) := by rw [runP, if_pos h]
theorem run_next {ps : List (PRule × Int)} {i : Int} {k : Nat} {o : List PFact} (h : (fixP ps i 201 o).2 = 0) : runP ps (k + 1) i o = runP ps k (i + 1) (fixP ps i 201 o).1 := by rw [runP, if_neg (by simpa using h)]
theorem once_args {n : Int} {l : List PFact} {m : Nat} : ∀ {ps : List (PRule × Int)} {o : List PFact}, (∀ r s, (r, s) ∈ ps → r.head.terms.length ≤ m) → (∀ x ∈ o, x.args.length ≤ m) → ∀ x ∈ (onceP n l ps o).1, x.args.length ≤ m
  | [], o, _, ho, x, hx => ho x hx
  | (r, s) :: ps, o, hp, ho, x, hx => by
    have hp' : ∀ r s, (r, s) ∈ ps → r.head.terms.length ≤ m := fun r s h => hp r s (List.mem_cons_of_mem _ h)
    rw [onceP] at hx
    split at hx
    · exact once_args hp' ho x hx
    · split at hx
      · simp at hx
      · split at hx
        · simp at hx
        · refine once_args hp' (fun y hy => ?_) x hx
          rcases (mem_joinF _ _ y).1 hy with h | h
          · exact ho y h
          · rw [heads_args h]; exact hp r s (by simp)

set_option maxRecDepth 100000 in
set_option maxHeartbeats 8000000 in
theorem naiveCalls {S S3 : Nat → Prop} (p : List PRule) (v fv : Value) (st : List Int) (q : Int × Int) (l : List PFact) (w : World) (hS : StrataIs p st q) (h : RdRules S w v p) (hf : RdFacts S3 w fv l)
    (n1 : p.length ≤ 1048576) (n2 : ∀ r ∈ p, RuleSmall r) (n3 : ∀ r ∈ p, NameSmall r) (n4 : l.length ≤ 1048576) (n5 : ∀ x ∈ l, x.args.length ≤ 1048576) :
    Calls Tryz.prog 54 #[v, fv] w (FactsPost (naiveP st q.1 p l) w) := by
  obtain ⟨a, c, rfl, -, -, -⟩ := id h.form
  obtain ⟨fa, fc, rfl, -, -, -⟩ := id hf.form
  have KS := Lib.hid ((strataCalls p (.slice a p.length c) w h n1 n2 n3).mono (R' := fun e w' => Below w.heap.size w w' ∧ ∃ v', e = .returned (.tuple #[v', .agg #[.int .i64 q.1, .int .i64 q.2]]) ∧ RdInts (New w) w' v' st) fun e w' ⟨hb, v', l', q', he, hr, hs⟩ => by
    obtain ⟨rfl, rfl⟩ := hs.unique hS
    exact ⟨hb, v', he, hr⟩)
  have HS := Lib.hid hS
  have H := Lib.hid h
  have HFA := Lib.hid hf
  have N2 := Lib.hid n2
  have N3 := Lib.hid n3
  have N5 := Lib.hid n5
  clear h hf n2 n3 n5 hS
  obtain ⟨q1, q2⟩ := q
  dsimp only at *
  by_cases hq : q1 = 0
  case neg =>
    have g1 : (q1 != 0) = true := by simpa using hq
    have HE := Lib.hid (naive_err1 (st := st) (p := p) (l := l) hq)
    clear hq
    go_enter Tryz.func54, Tryz.ntmps54
    go_wp2_with (go_at_call 47; refine (KS.out).mono ?_; rintro e w1 ⟨hb1, v1, rfl, hr1⟩; obtain ⟨a1, c1, rfl, -, -, -⟩ := id hr1.form; have HB1 := Lib.hid (hb1.alloc hb1.size (.cells #[.int .i64 q1, .int .i64 q2] 55)); clear hb1 hr1)
    go_quiet (fail)
    go_wp2
    go_ret2
    exact facts_err HE.out (below_drewN HB1.out _)
  have hbd := strata_bd HS.out hq
  obtain ⟨hsl, h16, h5, hz16, hc0, hc17⟩ := hbd
  have HZ := Lib.hid hz16
  have HSL := Lib.hid hsl
  clear hsl
  have H5 := Lib.hid h5
  have HSQ := Lib.hid hq
  clear h5 hz16
  subst hq
  have KF := Lib.hid (fun W (hW : Below w.heap.size w W) => factsCalls p (.slice a p.length c) (.slice fa l.length fc) l W (H.out.up hW) (HFA.out.up hW) h16 H5.out N2.out N3.out n4 N5.out)
  by_cases hf : (factsBad p l).1 = 0
  case neg =>
    have g2 : ((factsBad p l).1 != 0) = true := by simpa using hf
    have HE := Lib.hid (naive_err2 (st := st) (p := p) (l := l) (q := 0) rfl hf)
    clear hf HZ H5 HSQ
    generalize factsBad p l = f at *
    obtain ⟨f1, f2⟩ := f
    dsimp only at *
    go_enter Tryz.func54, Tryz.ntmps54
    go_wp2_with (first
      | (go_at_call 48; refine (KF.out _ HB1.out).mono ?_; rintro e w2 ⟨rfl, hb2⟩; have HB2 := Lib.hid ((HB1.out.trans (hb2.mono (Below.size HB1.out))).alloc (Nat.le_trans (Below.size HB1.out) hb2.size) (.cells #[.int .i64 f1, .int .i64 f2] 55)); clear hb2)
      | (go_at_call 47; refine (KS.out).mono ?_; rintro e w1 ⟨hb1, v1, rfl, hr1⟩; obtain ⟨a1, c1, rfl, -, -, -⟩ := id hr1.form; have HB1 := Lib.hid (hb1.alloc hb1.size (.cells #[.int .i64 0, .int .i64 q2] 55)); clear hb1 hr1))
    go_quiet (fail)
    go_wp2
    go_ret2
    exact facts_err HE.out (below_drewN HB2.out _)
  have HSF := Lib.hid (good_of (factsBad_set hf))
  have HE := Lib.hid (naive_run (st := st) (p := p) (l := l) (q := 0) rfl hf)
  have hll := HSF.out.len
  rw [hf] at KF
  generalize (factsBad p l).2 = f2 at *
  have KO := Lib.hid (fun W (hW : Below w.heap.size w W) => ownCalls (.slice fa l.length fc) l W (HFA.out.up hW) (by omega) (fun x hx => by have := N5.out x hx; omega))
  clear hf HSQ
  go_enter Tryz.func54, Tryz.ntmps54
  go_wp2_with (first
    | (go_at_call 50; have hh := HR3.out; clear hh; refine (countCalls _ st _ HR3.out (by rw [HSL.out]; omega) (fun z hz => by have := HZ.out z hz; omega)).mono ?_; rintro e w4 ⟨rfl, rfl⟩)
    | (go_at_call 49; have hh := HB2.out; clear hh; refine (KO.out _ HB2.out).mono ?_; rintro e w3 ⟨⟨v3, rfl, ho3⟩, hb3⟩; have HB3 := Lib.hid (HB2.out.trans (hb3.mono (Below.size HB2.out))); have HO3 := Lib.hid ((ho3.lower (Below.size HB2.out)).moreS RFact.steady (S' := New w) fun b hb _ => Nat.le_trans (Below.size HB2.out) hb); have HR3 := Lib.hid (HR2.out.up hb3); clear hb3 ho3)
    | (go_at_call 48; have hh := HB1.out; clear hh; refine (KF.out _ HB1.out).mono ?_; rintro e w2 ⟨rfl, hb2⟩; have HB2 := Lib.hid ((HB1.out.trans (hb2.mono (Below.size HB1.out))).alloc (Nat.le_trans (Below.size HB1.out) hb2.size) (.cells #[.int .i64 0, .int .i64 f2] 55)); have HR2 := Lib.hid (HR1.out.up (hb2.alloc hb2.size (.cells #[.int .i64 0, .int .i64 f2] 55))); clear hb2)
    | (go_at_call 47; refine (KS.out).mono ?_; rintro e w1 ⟨hb1, v1, rfl, hr1⟩; obtain ⟨a1, c1, rfl, -, -, -⟩ := id hr1.form; have HB1 := Lib.hid (hb1.alloc hb1.size (.cells #[.int .i64 0, .int .i64 q2] 55)); have HR1 := Lib.hid (hr1.up ((Below.refl _ _).alloc (Nat.le_refl _) (.cells #[.int .i64 0, .int .i64 q2] 55))); clear hb1 hr1))
  obtain ⟨cn, hcn⟩ : ∃ cn : Nat, countP st = cn := ⟨(countP st).toNat, by omega⟩
  rw [hcn] at HE hc17 ⊢
  have htn : ((cn : Int)).toNat = cn := rfl
  rw [htn] at HE
  clear htn hcn hc0 KF KO KS HB1 HB2 HR1 HR2
  have HRB := Lib.hid (show ∀ r s, (r, s) ∈ p.zip st → ruleBad r = 0 from fun r s hm => (strata_zero HS.out rfl).1 r (List.of_mem_zip hm).1)
  have HTA := Lib.hid (show ∀ r s, (r, s) ∈ p.zip st → r.head.terms.length ≤ 1048576 from fun r s hm => (N2.out r (List.of_mem_zip hm).1).h1)
  obtain ⟨wo, hwo⟩ : ∃ wo : World, wo = w4 := ⟨_, rfl⟩
  subst hwo
  have HBO := Lib.hid (Below.refl wo.heap.size wo)
  have HE0 := Lib.hid (show naiveP st 0 p l = runP (p.zip st) (cn - 0) ((0 : Nat) : Int) l from HE.out)
  go_loopw [35, 9] (fun i v wr => ∃ (j : Nat) (o : List PFact), j ≤ cn ∧ i = .int .i64 j ∧ Hid (Good o) ∧ Hid (∀ x ∈ o, x.args.length ≤ 1048576) ∧ Hid (Owned 2 RFact w.heap.size 44 (New w) wr v o) ∧ Hid (Below wo.heap.size wo wr) ∧ Hid (naiveP st 0 p l = runP (p.zip st) (cn - j) (j : Int) o)) (fun i _ _ => cn - (intOf i).toNat)
  case atStart => exact ⟨0, l, Nat.zero_le _, rfl, HSF, N5, HO3, HBO, HE0⟩
  case round =>
    clear HBO HO3 HE HE0 HSF hll
    obtain ⟨j, o, hj, rfl, HG, HA, HO, HB, HE⟩ := hrel
    obtain ⟨va, vc, efm, -, -, -⟩ := (HO.out.read RFact.steady).form
    subst efm
    by_cases hlt : j < cn
    · obtain ⟨m, hm⟩ : ∃ m, cn - j = m + 1 := ⟨cn - j - 1, by omega⟩
      rw [hm] at HE
      have HM := Lib.hid (show cn - (j + 1) = m by omega)
      have hl0 : 200 < 201 + o.length := by omega
      clear hm
      go_wp2
      obtain ⟨o0, ho0⟩ : ∃ o0, o0 = o := ⟨_, rfl⟩
      subst ho0
      have HG0 := HG
      go_loopw [9] (fun v wr => ∃ (k : Nat) (o : List PFact), 200 < k + o.length ∧ Hid (Good o) ∧ Hid (∀ x ∈ o, x.args.length ≤ 1048576) ∧ Hid (Owned 2 RFact w.heap.size 44 (New w) wr v o) ∧ Hid (Below wo.heap.size wo wr) ∧ Hid (fixP (p.zip st) (j : Int) 201 o0 = fixP (p.zip st) (j : Int) k o)) (fun v _ => 201 - lenV v)
      case atStart => exact ⟨201, o0, hl0, HG, HA, HO, HB, Lib.hid rfl⟩
      case round =>
        clear HG HA HO HB hl0
        obtain ⟨k, o, hk, HG, HA, HO, HB, HX⟩ := hrel
        obtain ⟨va, vc, efm, -, -, -⟩ := (HO.out.read RFact.steady).form
        subst efm
        have hol := HG.out.len
        obtain ⟨k', rfl⟩ : ∃ k', k = k' + 1 := ⟨k - 1, by omega⟩
        have HBW := Lib.hid (HB3.out.trans (HB.out.mono (Below.size HB3.out)))
        have KC := Lib.hid (onceCalls p (.slice a p.length c) (.slice a1 st.length c1) (.slice va o.length vc) st (j : Int) o wr (H.out.up HBW.out) (HR3.out.up HB.out) (HO.out.read RFact.steady) HSL.out n1 N2.out (by omega) HA.out)
        have HG1 := Lib.hid (once_good (n := (j : Int)) HG.out HRB.out HG.out)
        have HL1 := Lib.hid (fun h0 => (show o.length ≤ (onceP (j : Int) o (p.zip st) o).1.length from rising_sub_le HG.out.rise fun x hx => ((once_round h0 HG.out.rise HG.out.len).mem x).2 (.inl hx)))
        have HA1 := Lib.hid (once_args (n := (j : Int)) (l := o) HTA.out HA.out)
        have F1 := Lib.hid (fix_err (ps := p.zip st) (n := (j : Int)) (k := k') (o := o))
        have F2 := Lib.hid (fix_done (ps := p.zip st) (n := (j : Int)) (k := k') (o := o))
        have F3 := Lib.hid (fix_next (ps := p.zip st) (n := (j : Int)) (k := k') (o := o))
        generalize onceP (j : Int) o (p.zip st) o = r at *
        obtain ⟨x, q⟩ := r
        dsimp only at *
        by_cases hq : q = 0
        case neg =>
          have g2 : (q != 0) = true := by simpa using hq
          have HXE := Lib.hid (show fixP (p.zip st) (j : Int) 201 o0 = ([], q) from HX.out.trans (F1.out hq))
          have HEE := Lib.hid (show naiveP st 0 p l = ([], q) by rw [HE.out, run_err (by rw [HXE.out]; exact hq), HXE.out])
          clear hq F1 F2 F3 HXE HL1 HG1
          go_wp2_with (go_at_call 89; refine (KC.out).mono ?_; rintro e w5 ⟨hb5, v5, rfl, ho5⟩; obtain ⟨a5, c5, rfl, -, -, -⟩ := id (ho5.read RFact.steady).form; have HB5 := Lib.hid (HBW.out.trans (hb5.mono (Below.size HBW.out))); clear hb5 ho5)
          go_ret2
          exact facts_err HEE.out HB5.out
        subst hq
        have hge := HL1.out rfl
        have hgx := HG1.out rfl
        have hxl := hgx.len
        have HG2 := Lib.hid hgx
        clear HL1 HG1 hgx F1
        by_cases hle : x.length = o.length
        · have HXE := Lib.hid (show fixP (p.zip st) (j : Int) 201 o0 = (o, 0) from HX.out.trans (F2.out rfl hle))
          have HEE := Lib.hid (show naiveP st 0 p l = runP (p.zip st) (cn - (j + 1)) ((j + 1 : Nat) : Int) o by
            rw [HE.out, run_next (by rw [HXE.out]), HXE.out, HM.out]; rfl)
          have i5 : ((x.length : Int) == (o.length : Int)) = true := beq_iff_eq.2 (by omega)
          have hle' : (x.length : Int) = (o.length : Int) := by omega
          clear hle F2 F3 HXE
          go_wp2_with (go_at_call 89; refine (KC.out).mono ?_; rintro e w5 ⟨hb5, v5, rfl, ho5⟩; obtain ⟨a5, c5, rfl, -, -, -⟩ := id (ho5.read RFact.steady).form; have HB5 := Lib.hid (HB.out.trans (hb5.mono (Below.size HB.out))); have HO5 := Lib.hid (HO.out.below RFact.steady hb5); clear hb5 ho5)
          go_roundw
          case rel => exact ⟨j + 1, o, by omega, by go_num, HG, HA, HO5, HB5, HEE⟩
          case measure => simp [intOf]; omega
        · have HXE := Lib.hid (HX.out.trans (F3.out rfl hle))
          have i5 : ((x.length : Int) == (o.length : Int)) = false := beq_eq_false_iff_ne.2 (by omega)
          have hle' : ¬ (x.length : Int) = (o.length : Int) := by omega
          have hlx : o.length < x.length := by omega
          have hk2 : 200 < k' + x.length := by omega
          clear hle F2 F3
          go_wp2_with (go_at_call 89; refine (KC.out).mono ?_; rintro e w5 ⟨hb5, v5, rfl, ho5⟩; obtain ⟨a5, c5, rfl, -, -, -⟩ := id (ho5.read RFact.steady).form; have HB5 := Lib.hid (HB.out.trans (hb5.mono (Below.size HB.out))); have HO5 := Lib.hid ((ho5.lower (Below.size HBW.out)).moreS RFact.steady (S' := New w) fun b hb _ => Nat.le_trans (Below.size HBW.out) hb); clear hb5 ho5)
          go_roundw
          case rel => exact ⟨k', x, hk2, HG2, HA1, HO5, HB5, HXE⟩
          case measure => simp [lenV]; omega
    · have HEE := Lib.hid (show naiveP st 0 p l = (o, 0) by rw [HE.out, show cn - j = 0 by omega]; rfl)
      go_wp2
      go_ret2
      exact facts_ok HEE.out (HB3.out.trans (HB.out.mono (Below.size HB3.out))) HO.out
end Go.Proofs.YtiaehkpimepbgaaGreat
