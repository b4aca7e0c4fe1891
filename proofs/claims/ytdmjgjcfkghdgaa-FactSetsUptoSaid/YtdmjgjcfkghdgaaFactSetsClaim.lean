/-
  CLAIM: FactSets: of any two lists of facts and any fact, of bulk at most 1048576 together, the law answers true and leaves its arguments as they were.
-/
import Derived.Test.YtdmjgjcfkghdgaaFactSets
namespace Go.Proofs.Ytdmjgjcfkghdgaa
open Go.RowKit Go.ChangeShapes Go.WideShapes Go.ChangeAt

namespace factSets
theorem own : ownKnob Try.prog.godebug = none := by kernel_rfl

set_option maxRecDepth 100000 in
theorem contract (H : Type) (enc : TypeId × Value → H) (W : World) (base : Nat) (args : Array Value) (ds gs : List (DataW H)) (before : List MemPlace)
    (hval : ∀ (j : Nat) t v, Try.f11.params[j]? = some t → args[j]? = some v → Value.okWide Try.prog W .any base t v)
    (hW : DataW.Whole enc Try.prog Try.f11.params.toList Rows.factSetsSpec.vars false W args.toList ds gs before) (hk : Rows.uptoSmall H (ds ++ gs) = true) :
    Calls Try.prog 11 args W fun e W' => ∃ v, e = .returned v ∧ Rows.factSetsSpec.post enc Try.prog Try.f11 false true false false W args v W' := by
  have hW' := hW
  obtain ⟨p, q, hA0, hV, rfl, hfz, hnd⟩ := hW
  have hA : DataW.TrodAll enc Try.prog W 0 (fun _ => true) true Try.f11.params.toList args.toList ds p := hA0
  rw [Try.params11] at hA hval
  obtain ⟨v0, v1, v2, d0, d1, d2, p0, p1, p2, rfl, rfl, rfl, h0, h1, h2⟩ := trodAll_three hA
  obtain ⟨rfl, rfl⟩ := trodVars_none hV
  obtain ⟨x0, r0, s0⟩ := openFact.sliceArg Try.underlying55 (hval 0 55 v0 rfl rfl) h0
  obtain ⟨x1, r1, s1⟩ := openFact.sliceArg Try.underlying55 (hval 1 55 v1 rfl rfl) h1
  obtain ⟨x2, a2, rfl, r2, s2⟩ := openFact.factArg Try.underlying57 (hval 2 57 v2 rfl rfl) h2
  rw [List.append_nil] at hk
  have hb : Rows.uptoBulkAll [d0, d1, d2] ≤ 1048576 := of_decide_eq_true hk
  simp only [Rows.uptoBulkAll] at hb
  have l0 := sizeL_le openFact.one x0
  have m0 : ∀ z ∈ x0, z.args.length ≤ 1048576 := fun z hz => by have h1 := sizeL_mem (size := sizeFact) hz; have h2 := sizeL_le openStr.one z.args; simp only [sizeFact] at h1; omega
  have l1 := sizeL_le openFact.one x1
  have m1 : ∀ z ∈ x1, z.args.length ≤ 1048576 := fun z hz => by have h1 := sizeL_mem (size := sizeFact) hz; have h2 := sizeL_le openStr.one z.args; simp only [sizeFact] at h1; omega
  have l2 := sizeL_le openStr.one x2.args
  simp only [sizeFact] at s2
  refine (factSetsCalls x2 v0 v1 a2 x0 x1 W r0 r1 r2 (by omega) (by omega) (fun z hz => by have := m0 z hz; omega) (fun z hz => by have := m1 z hz; omega)).mono fun e W' ⟨he, hb'⟩ => ?_
  subst he
  exact ⟨_, rfl, law_post (tb := 4) hW' rfl rfl (by kernel_rfl) Try.underlying4 (by kernel_rfl) (by kernel_rfl) hb'⟩

set_option maxRecDepth 100000 in
theorem lifted (os : Os) (started : os.Started) (H : Type) (enc : TypeId × Value → H) (F : Stop.Interp) :
    ReturnsInHanded {} Try.checked os 11 .any ((Rows.OpenSpec.upto Rows.factSetsSpec).pre6 enc Try.prog Try.f11 Rows.factSetsUptoRow.domain false) (((Rows.OpenSpec.upto Rows.factSetsSpec).at F).post enc Try.prog Try.f11 false true false false) := by
  refine returnsInHanded_of_cond (C := Try.checked) (s := Rows.OpenSpec.upto Rows.factSetsSpec) (k := Rows.uptoSmall) rfl own started (by kernel_rfl) Try.func11
    (OpenSpec.witness (enc := enc) (C := Try.checked) (s := Rows.OpenSpec.upto Rows.factSetsSpec) (k := Rows.uptoSmall) rfl false ⟨#[], #[.slice none 0 0, .slice none 0 0, .agg #[.string .empty, .slice none 0 0]], []⟩ 8 (by kernel_rfl) (by kernel_rfl) (by kernel_rfl)
      (x := ([.nil, .nil, .agg [.lit (.string []), .nil]], [], [])) (by kernel_rfl) rfl (by kernel_rfl)) ?_
  intro W base args ds gs before hval hW _ hk _
  exact contract H enc W base args ds gs before hval hW hk

theorem proved : Rows.FactSetsUptoSaid :=
  OpenClaim.holds_of_cond 11 Try.f11 rfl rfl rfl rfl rfl rfl rfl ⟨rfl, rfl, rfl, rfl, rfl⟩ rfl rfl rfl rfl rfl (by kernel_rfl) Try.func11 (by kernel_rfl)
    (of_decide_eq_true (by kernel_rfl)) (by unfold Func.isWrapper; first | (rw [if_pos (by decide +kernel)]; kernel_rfl) | (rw [if_neg (by decide +kernel)]; exact ⟨rfl, rfl⟩))
    (fun os started H enc _ F => lifted os started H enc F)
end factSets

end Go.Proofs.Ytdmjgjcfkghdgaa
