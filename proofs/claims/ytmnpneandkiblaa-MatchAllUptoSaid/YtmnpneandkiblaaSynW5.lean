/-
  THE WALKS OF syntax.guard, Parse, Body: what is thrown is caught.
-/
import Derived.Test.YtmnpneandkiblaaSynW4
import Derived.Defers
import Derived.Recover
namespace Go.Proofs.Ytmnpneandkiblaa
open Go.RowKit

set_option maxRecDepth 100000 in
set_option maxHeartbeats 2000000 in
theorem guardCatch (F : Nat) (a b e0 : Int) (k : Nat) (w : World) (hF : Blk w F 60 #[.int .i64 a, .int .i64 b]) :
    CallsD Try.prog 57 #[.pointer (some ⟨F, 0, none⟩)] (.panicking (oopsV e0 k)) w fun e' u' w' => e' = .returned (.tuple #[]) ∧
      u' = .panicking [{ v := .iface 112 (.agg #[.int .i64 e0, .int .i64 (k : Int)]), recovered := true }] ∧ Blk w' F 60 #[.int .i64 e0, .int .i64 (k : Int)] ∧ But F w w' := by
  have HA := Lib.hid (hF.alloc (.cells #[.int .i64 e0, .int .i64 (k : Int)] 112))
  have c0 : (w.alloc (.cells #[.int .i64 e0, .int .i64 (k : Int)] 112)).cell? ⟨F, 0, none⟩ = some (.int .i64 a) := HA.out.cell 0
  have c1 : (w.alloc (.cells #[.int .i64 e0, .int .i64 (k : Int)] 112)).cell? ⟨F, 1, none⟩ = some (.int .i64 b) := HA.out.cell 1
  have f0 := HA.out.frozen 0
  have f1 := HA.out.frozen 1
  clear hF
  unfold oopsV
  refine callsD_of_wpS Try.func57 rfl fun c₀ cs hu => ?_
  apply wpS_seq
  apply wpS_region
  simp [wpOpsS, go_sem, recoverD, hu, Try.ntmps57, Exit.thenS]
  have hta : ∀ w : World, (Instr.typeAssert (.iface 112 (.agg #[.int .i64 e0, .int .i64 (k : Int)])) 20 112 true).run Try.prog w = .ok (.tuple #[.agg #[.int .i64 e0, .int .i64 (k : Int)], .bool true]) w := fun _ => by kernel_rfl
  refine wpS_of_wp ?_
  change Code.wp _ _ _ { tmps := #[.pointer (some ⟨F, 0, none⟩), undef, undef, undef, undef, .iface 112 (.agg #[.int .i64 e0, .int .i64 (k : Int)]), undef, undef, undef, undef, undef, undef, undef, undef, undef], defers := [] } _
  go_wp2
  simp [bodyPostS, results, Try.results57]
  exact ⟨(HA.out.set_ 0 (.int .i64 e0)).set_ 1 (.int .i64 (k : Int)), (((But.refl F w).alloc _).setCell (.inl rfl) _).setCell (.inl rfl) _⟩

set_option maxRecDepth 100000 in
set_option maxHeartbeats 2000000 in
theorem guardIdle (F : Nat) (w : World) :
    CallsD Try.prog 57 #[.pointer (some ⟨F, 0, none⟩)] .returning w fun e' u' w' => e' = .returned (.tuple #[]) ∧ u' = .returning ∧ w' = w := by
  refine callsD_of_wpS Try.func57 rfl fun c₀ cs hu => ?_
  apply wpS_seq
  apply wpS_region
  simp [wpOpsS, go_sem, recoverD, hu, Try.ntmps57, Exit.thenS]
  refine wpS_of_wp ?_
  change Code.wp _ _ _ { tmps := #[.pointer (some ⟨F, 0, none⟩), undef, undef, undef, undef, .nilIface, undef, undef, undef, undef, undef, undef, undef, undef, undef], defers := [] } _
  go_wp2
  cases c₀
  simp_all [bodyPostS, results, Try.results57]


/-! ### What is wrong is no nothing -/
def Got.bad {α : Type} : Got α → Prop
  | .ok _ => True
  | .error (e, _) => e ≠ 0
theorem wordF_bad (r : Bytes) : (wordF r).bad := by
  unfold wordF
  split
  · show (2 : Int) ≠ 0; decide
  · split
    · show (7 : Int) ≠ 0; decide
    · trivial
theorem mustF_bad (sign r : Bytes) : (mustF sign r).bad := by
  unfold mustF
  split
  · trivial
  · show (2 : Int) ≠ 0; decide
theorem termsF_bad : ∀ (n : Nat) (acc : List PTerm) (r : Bytes), (termsF n acc r).bad
  | 0, _, _ => by show (5 : Int) ≠ 0; decide
  | n + 1, acc, r => by
    have hw := wordF_bad r
    unfold termsF
    split
    · rename_i e h; rw [h] at hw; exact hw
    · split
      · exact termsF_bad n _ _
      · rename_i w r1 h _
        have hm := mustF_bad [41] (eatF [44] r1)
        split
        · rename_i e h2; rw [h2] at hm; exact hm
        · trivial
theorem atomF_bad (no : Bool) (r : Bytes) : (atomF no r).bad := by
  have hw := wordF_bad (behindNot no r)
  unfold atomF
  split
  · rename_i e h; rw [h] at hw; exact hw
  · split
    · show (7 : Int) ≠ 0; decide
    · split
      · rename_i w r2 h _ _
        have ht := termsF_bad 4 [] (eatF [40] r2)
        split
        · rename_i e h2; rw [h2] at ht; exact ht
        · trivial
      · trivial
theorem bodyF_bad' : ∀ (n : Nat) (acc : List PAtom) (r : Bytes), (bodyF n acc r).bad
  | 0, _, _ => by show (5 : Int) ≠ 0; decide
  | n + 1, acc, r => by
    have hw := atomF_bad true r
    unfold bodyF
    split
    · rename_i e h; rw [h] at hw; exact hw
    · split
      · exact bodyF_bad' n _ _
      · trivial
theorem tailF_bad (r : Bytes) : (tailF r).bad := by
  unfold tailF
  split
  · exact bodyF_bad' _ _ _
  · trivial
theorem ruleF_bad (r : Bytes) : (ruleF r).bad := by
  have hh := atomF_bad false r
  unfold ruleF headF
  split
  · rename_i e h; rw [h] at hh; exact hh
  · rename_i a r1 h
    have ht := tailF_bad r1
    split
    · rename_i e h2; rw [h2] at ht; exact ht
    · rename_i b r3 h2
      have hm := mustF_bad [46] r3
      split
      · rename_i e h3; rw [h3] at hm; exact hm
      · trivial
theorem progF_bad : ∀ (n : Nat) (acc : List PRule) (r : Bytes), (progF n acc r).bad
  | 0, acc, r => by
    unfold progF
    split
    · trivial
    · show (5 : Int) ≠ 0; decide
  | n + 1, acc, r => by
    unfold progF
    split
    · trivial
    · have hr := ruleF_bad (blankF false r)
      split
      · rename_i e h; rw [h] at hr; exact hr
      · exact progF_bad n _ _
theorem progF_suffix : ∀ (n : Nat) (acc : List PRule) (r : Bytes), (progF n acc r).left <:+ r
  | 0, acc, r => by
    unfold progF
    split
    · exact List.nil_suffix
    · exact blankF_suffix _ _
  | n + 1, acc, r => by
    unfold progF
    split
    · exact List.nil_suffix
    · have hr := ruleF_suffix (blankF false r)
      split
      · rename_i e h; rw [h] at hr; exact List.IsSuffix.trans hr (blankF_suffix _ _)
      · rename_i x r1 h
        rw [h] at hr
        exact (progF_suffix n _ _).trans (List.IsSuffix.trans (l₂ := blankF false r) hr (blankF_suffix _ _))

/-! ### Parse -/
theorem rest_zero (s : Str) : rest s 0 = s.data.toList := rfl
theorem parseF_long {s : Str} (h : 3000 < s.size) : parseF s = ([], 4, 0) := by unfold parseF; rw [if_pos h]
theorem parseF_ok {s : Str} (h : ¬ 3000 < s.size) {l : List PRule} {r : Bytes} (k : progF 16 [] (rest s 0) = .ok (l, r)) : parseF s = (l, 0, 0) := by
  unfold parseF; rw [if_neg h, ← rest_zero, k]
theorem parseF_error {s : Str} (h : ¬ 3000 < s.size) {e : Int} {r : Bytes} (k : progF 16 [] (rest s 0) = .error (e, r)) : parseF s = ([], e, ((posF s r : Nat) : Int)) := by
  have hs := progF_suffix 16 [] (rest s 0)
  rw [k] at hs
  have hs' : r <:+ bytesOf s := hs
  unfold parseF; rw [if_neg h, ← rest_zero, k, posF_int s hs']

def ParsePost (s : Str) (w : World) (e : Ending) (w' : World) : Prop :=
  (∃ v, e = .returned (.tuple #[v, .agg #[.int .i64 (parseF s).2.1, .int .i64 (parseF s).2.2]]) ∧ RdRules (New w) w' v (parseF s).1) ∧ Below w.heap.size w w'

/-- Behind the deferred calls. -/
def doorDefers (F O : Nat) (g : Nat) : List Deferred := [{ target := .fn (.func 57) #[], args := #[.pointer (some ⟨F, 0, none⟩)] }, { target := .fn (.func g) #[.pointer (some ⟨F, 0, none⟩), .pointer (some ⟨O, 0, none⟩)], args := #[] }]


/-- What is known where the parser throws. -/
def Thrown (F O g : Nat) (er : Int) (p : Nat) (T : World → Prop) : Exit → Act → World → Prop
  | .panic c, a, w => c = oopsV er p ∧ a.defers = doorDefers F O g ∧ a.tmps.getD 2 undef = .pointer (some ⟨O, 0, none⟩) ∧ a.tmps.getD 3 undef = .pointer (some ⟨F, 0, none⟩) ∧ T w
  | _, _, _ => False
theorem Thrown.put {F O g : Nat} {er : Int} {p : Nat} {T : World → Prop} {d : Nat} {v : Value} (h2 : d ≠ 2) (h3 : d ≠ 3) : ∀ c a w, Thrown F O g er p T (.panic c) (a.put (some d) v) w → Thrown F O g er p T (.panic c) a w := by
  rintro c a w ⟨k1, k2, k3, k4, k5⟩
  refine ⟨k1, k2, ?_, ?_, k5⟩
  · simpa [Act.put, Array.getD_eq_getD_getElem?, Array.getElem?_setIfInBounds, h2] using k3
  · simpa [Act.put, Array.getD_eq_getD_getElem?, Array.getElem?_setIfInBounds, h3] using k4


end Go.Proofs.Ytmnpneandkiblaa
