/-
  A MAP FROM TWO TEXTS TO TRUE OR FALSE, that the call makes: 'MapP'.
-/
import Derived.Test.YtobbjapmdpkogaaMapW
import Derived.Test.YtobbjapmdpkogaaStrataR
import Derived.DeepKeys4
namespace Go.Proofs.Ytobbjapmdpkogaa
open Go.RowKit Go.Maps

set_option maxRecDepth 100000 in
theorem laidOk : laidOutB Try.prog = true := by kernel_rfl
set_option maxRecDepth 100000 in
theorem lawPair : Keyed Try.prog 70 := Keyed.of_law (deep_law_laid laidOk (m := 3) (by decide) (of_decide_eq_true (by kernel_rfl)) (by kernel_rfl) (by kernel_rfl))
def pairV (t : Str × Str) : Value := .agg #[.string t.1, .string t.2]
def keyQ (t : Str × Str) : Lit := .string (keyBytes [.string t.1.data.toList, .string t.2.data.toList])
structure PairOk (t : Str × Str) : Prop where
  a : t.1.size ≤ maxLen
  b : t.2.size ≤ maxLen
set_option maxRecDepth 100000 in
theorem keyPair {t : Str × Str} (h : PairOk t) : keyOf Try.prog 70 (pairV t) = some (keyQ t) := by
  have hu := Try.underlying70
  have he := Try.underlying9
  have hk : Try.prog.keyType 70 = true := by kernel_rfl
  have hc : Try.prog.cellsOf 70 = 2 := by kernel_rfl
  have hc1 : Try.prog.cellsOf 9 = 1 := by kernel_rfl
  have hn : 0 < Try.prog.types.size := of_decide_eq_true (by kernel_rfl)
  obtain ⟨m, hm⟩ : ∃ m, Try.prog.types.size = m + 1 := ⟨Try.prog.types.size - 1, by omega⟩
  unfold keyOf
  simp only [hu]
  rw [if_pos (by simp [hk, Value.formed, hu, hc, pairV]), hm]
  unfold Program.keyLits
  simp only [hu, Value.cells, pairV]
  rw [if_pos (by rw [hc]; rfl), show List.range 2 = [0, 1] from rfl, List.mapM_cons, List.mapM_cons, List.mapM_nil]
  simp [hc1, Program.keyLits, he, h.a, h.b, keyQ]
theorem keyQ_inj {s t : Str × Str} (hs : PairOk s) (ht : PairOk t) (h : keyQ s = keyQ t) : s = t := by
  have h1 := keyPair hs
  rw [h] at h1
  have := lawPair.inj h1 (keyPair ht)
  unfold pairV at this
  injection this with this
  simp only [Array.mk.injEq, List.cons.injEq, Value.string.injEq, and_true] at this
  exact Prod.ext this.1 this.2

/-- Block b is a map of at most n entries that holds R. -/
def MapP (w : World) (b n : Nat) (R : Rel) : Prop :=
  ∃ D : DataW Unit, w.ownsMap Try.prog 70 (plainElem Try.prog 4) b n D ∧ ∀ s, PairOk s → D.atKey (keyQ s) (.lit (.bool false)) = .lit (.bool (R s))
section
variable {w w' : World} {b n : Nat} {R : Rel}
theorem MapP.lt (h : MapP w b n R) : b < w.heap.size := let ⟨_, h1, _⟩ := h; h1.lt
theorem MapP.kept {row : Option Nat} (h : MapP w b n R) (hg : w.grownBy w' row) (hne : some b ≠ row) : MapP w' b n R := let ⟨D, h1, h2⟩ := h; ⟨D, h1.kept hg hne, h2⟩
theorem MapP.below {B : Nat} (h : MapP w b n R) (hb : Below B w w') (hB : b < B) : MapP w' b n R := by
  obtain ⟨D, ⟨es, clock, h1, h2⟩, h3⟩ := h
  exact ⟨D, ⟨es, clock, (hb.block b hB).trans h1, h2⟩, h3⟩
theorem MapP.made (w : World) : MapP (w.alloc (.map #[] 0)) w.heap.size 0 (fun _ => false) := ⟨.map [], World.ownsMap_made _ _ _ _, fun _ _ => rfl⟩
theorem MapP.wider (h : MapP w b n R) {m : Nat} (hm : n ≤ m) : MapP w b m R := let ⟨D, ⟨es, clock, h1, h2, h3, h4⟩, h5⟩ := h; ⟨D, ⟨es, clock, h1, h2, Nat.le_trans h3 hm, h4⟩, h5⟩
set_option maxRecDepth 100000 in
theorem MapP.get (h : MapP w b n R) {s : Str × Str} (hs : PairOk s) : (Instr.lookup 69 (.map (some b)) (.agg #[.string s.1, .string s.2]) false).run Try.prog w = .ok (.bool (R s)) w := by
  obtain ⟨D, h1, h2⟩ := h
  obtain ⟨v, ps, hrun, hv⟩ := World.ownsMap.lookup h1 lawPair Try.underlying69 (zeroBool w) (zd := .lit (.bool false)) (zp := []) (plainElem_bool Try.underlying4 false) (keyPair hs)
  rw [h2 s hs] at hv
  have hrun' : (Instr.lookup 69 (.map (some b)) (.agg #[.string s.1, .string s.2]) false).run Try.prog w = .ok v w := hrun
  rw [hrun']
  have hu : Try.prog.underlying 4 = some .bool := Try.underlying4
  unfold plainElem at hv
  rw [hu] at hv
  cases v <;> simp at hv
  rename_i x
  rw [hv.1]
set_option maxRecDepth 100000 in
theorem MapP.put (h : MapP w b n R) (hn : n < maxLen) {x y : Str} (hs : PairOk (x, y)) :
    ∃ w', (Instr.mapUpdate 69 (.map (some b)) (.agg #[.string x, .string y]) (.bool true)).run Try.prog w = .ok () w' ∧ MapP w' b (n + 1) (R.set x y) ∧ w.grownBy w' (some b) := by
  obtain ⟨D, h1, h2⟩ := h
  have hM := h1.isMap
  obtain ⟨w', hrun, h3, h4⟩ := h1.update lawPair Try.underlying69 hn (keyPair hs) (plainElem_bool Try.underlying4 true)
  refine ⟨w', hrun, ⟨_, h3, fun t ht => ?_⟩, h4⟩
  unfold Rel.set
  by_cases e : t = (x, y)
  · subst e
    rw [if_pos rfl]
    exact Maps.atKey_put_same hM (by trivial) _ _
  · rw [if_neg e]
    have hne : keyQ t ≠ keyQ (x, y) := fun h => e (keyQ_inj ht hs h)
    rw [Maps.atKey_put_other hne]
    exact h2 t ht
end
end Go.Proofs.Ytobbjapmdpkogaa
