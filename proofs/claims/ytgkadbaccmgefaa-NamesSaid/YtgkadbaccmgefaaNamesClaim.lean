/-
  CLAIM: Names: the closed sentence answers true: each constant has its value. No condition.
-/
import Derived.Test.YtgkadbaccmgefaaRows
import Derived.WalkKit
import Derived.WalkLawsBesides
import Derived.WalkSpells
import Derived.Outline
import Derived.Lib.Hide
import Derived.ProofKit
import Derived.OpenShut
import Derived.JoinedOf
import Derived.ChangeSame
import Derived.Below
import Derived.Deep.QuietTactic
import Derived.BigQuiet
namespace Go.Proofs.Ytgkadbaccmgefaa.names
open Go.ChangeShapes Go.WideShapes Go.ChangeAt Go.RowKit

theorem own : ownKnob Try.prog.godebug = none := by kernel_rfl

def wantN : List Int := [12, 4, 16, 5, 200, 3000, 400, 60, 1, 2, 3, 4, 5, 6, 7, 8, 60, 1000, 20000]

set_option maxRecDepth 100000 in
set_option maxHeartbeats 4000000 in
theorem walk (w : World) : Calls Try.prog 3 #[] w fun e w' => e = .returned (.bool true) ∧ Grown w w' := by
  go_enter Try.func3, Try.ntmps3
  go_wp2
  have HC : Hid (∀ k : Nat, k < 12 → (w.alloc (Obj.cells #[Value.int IntKind.i64 0, Value.int IntKind.i64 1, Value.int IntKind.i64 2, Value.int IntKind.i64 3, Value.int IntKind.i64 4, Value.int IntKind.i64 5, Value.int IntKind.i64 6, Value.int IntKind.i64 7, Value.int IntKind.i64 8, Value.int IntKind.i64 9, Value.int IntKind.i64 10, Value.int IntKind.i64 11] 22)).cell? ⟨w.heap.size, k, none⟩ = some (.int .i64 k)) := by
    intro k hk
    match k, hk with
    | 0, _ => simp
    | 1, _ => simp
    | 2, _ => simp
    | 3, _ => simp
    | 4, _ => simp
    | 5, _ => simp
    | 6, _ => simp
    | 7, _ => simp
    | 8, _ => simp
    | 9, _ => simp
    | 10, _ => simp
    | 11, _ => simp
  have HG : Hid (Grown w (w.alloc (Obj.cells #[Value.int IntKind.i64 0, Value.int IntKind.i64 1, Value.int IntKind.i64 2, Value.int IntKind.i64 3, Value.int IntKind.i64 4, Value.int IntKind.i64 5, Value.int IntKind.i64 6, Value.int IntKind.i64 7, Value.int IntKind.i64 8, Value.int IntKind.i64 9, Value.int IntKind.i64 10, Value.int IntKind.i64 11] 22))) := Lib.hid (Grown.alloc (Grown.refl _) _ _)
  generalize w.alloc (Obj.cells #[Value.int IntKind.i64 0, Value.int IntKind.i64 1, Value.int IntKind.i64 2, Value.int IntKind.i64 3, Value.int IntKind.i64 4, Value.int IntKind.i64 5, Value.int IntKind.i64 6, Value.int IntKind.i64 7, Value.int IntKind.i64 8, Value.int IntKind.i64 9, Value.int IntKind.i64 10, Value.int IntKind.i64 11] 22) = w1 at *
  generalize w.heap.size = B at *
  go_loop [10] (fun i => ∃ k : Nat, k ≤ 12 ∧ i = .int .i64 k) (fun i => 12 - (intOf i).toNat)
  case atStart => exact ⟨0, by omega, rfl⟩
  case round =>
    obtain ⟨k, hk, rfl⟩ := hrel
    by_cases hlt : k < 12
    · have hc := HC.out k hlt
      go_wp2
      go_round
      case rel => exact ⟨k + 1, by omega, by go_num⟩
      case measure => simp [intOf]; omega
    · go_wp2
      have HD : Hid (∀ k : Nat, k < 19 → ∃ x : Int, ((w1.alloc (Obj.cells #[Value.int IntKind.i64 12, Value.int IntKind.i64 4, Value.int IntKind.i64 16, Value.int IntKind.i64 5, Value.int IntKind.i64 200, Value.int IntKind.i64 3000, Value.int IntKind.i64 400, Value.int IntKind.i64 60, Value.int IntKind.i64 1, Value.int IntKind.i64 2, Value.int IntKind.i64 3, Value.int IntKind.i64 4, Value.int IntKind.i64 5, Value.int IntKind.i64 6, Value.int IntKind.i64 7, Value.int IntKind.i64 8, Value.int IntKind.i64 60, Value.int IntKind.i64 1000, Value.int IntKind.i64 20000] 3)).alloc (Obj.cells #[Value.int IntKind.i64 12, Value.int IntKind.i64 4, Value.int IntKind.i64 16, Value.int IntKind.i64 5, Value.int IntKind.i64 200, Value.int IntKind.i64 3000, Value.int IntKind.i64 400, Value.int IntKind.i64 60, Value.int IntKind.i64 1, Value.int IntKind.i64 2, Value.int IntKind.i64 3, Value.int IntKind.i64 4, Value.int IntKind.i64 5, Value.int IntKind.i64 6, Value.int IntKind.i64 7, Value.int IntKind.i64 8, Value.int IntKind.i64 60, Value.int IntKind.i64 1000, Value.int IntKind.i64 20000] 3)).cell? ⟨w1.heap.size, k, none⟩ = some (.int .i64 x) ∧ ((w1.alloc (Obj.cells #[Value.int IntKind.i64 12, Value.int IntKind.i64 4, Value.int IntKind.i64 16, Value.int IntKind.i64 5, Value.int IntKind.i64 200, Value.int IntKind.i64 3000, Value.int IntKind.i64 400, Value.int IntKind.i64 60, Value.int IntKind.i64 1, Value.int IntKind.i64 2, Value.int IntKind.i64 3, Value.int IntKind.i64 4, Value.int IntKind.i64 5, Value.int IntKind.i64 6, Value.int IntKind.i64 7, Value.int IntKind.i64 8, Value.int IntKind.i64 60, Value.int IntKind.i64 1000, Value.int IntKind.i64 20000] 3)).alloc (Obj.cells #[Value.int IntKind.i64 12, Value.int IntKind.i64 4, Value.int IntKind.i64 16, Value.int IntKind.i64 5, Value.int IntKind.i64 200, Value.int IntKind.i64 3000, Value.int IntKind.i64 400, Value.int IntKind.i64 60, Value.int IntKind.i64 1, Value.int IntKind.i64 2, Value.int IntKind.i64 3, Value.int IntKind.i64 4, Value.int IntKind.i64 5, Value.int IntKind.i64 6, Value.int IntKind.i64 7, Value.int IntKind.i64 8, Value.int IntKind.i64 60, Value.int IntKind.i64 1000, Value.int IntKind.i64 20000] 3)).cell? ⟨w1.heap.size + 1, k, none⟩ = some (.int .i64 x)) := by
        intro k hk
        match k, hk with
        | 0, _ => exact ⟨12, by simp, by simp⟩
        | 1, _ => exact ⟨4, by simp, by simp⟩
        | 2, _ => exact ⟨16, by simp, by simp⟩
        | 3, _ => exact ⟨5, by simp, by simp⟩
        | 4, _ => exact ⟨200, by simp, by simp⟩
        | 5, _ => exact ⟨3000, by simp, by simp⟩
        | 6, _ => exact ⟨400, by simp, by simp⟩
        | 7, _ => exact ⟨60, by simp, by simp⟩
        | 8, _ => exact ⟨1, by simp, by simp⟩
        | 9, _ => exact ⟨2, by simp, by simp⟩
        | 10, _ => exact ⟨3, by simp, by simp⟩
        | 11, _ => exact ⟨4, by simp, by simp⟩
        | 12, _ => exact ⟨5, by simp, by simp⟩
        | 13, _ => exact ⟨6, by simp, by simp⟩
        | 14, _ => exact ⟨7, by simp, by simp⟩
        | 15, _ => exact ⟨8, by simp, by simp⟩
        | 16, _ => exact ⟨60, by simp, by simp⟩
        | 17, _ => exact ⟨1000, by simp, by simp⟩
        | 18, _ => exact ⟨20000, by simp, by simp⟩
        | n + 19, h => exact absurd h (by omega)
      have HG2 := Lib.hid (Grown.alloc (Grown.alloc HG.out (#[Value.int IntKind.i64 12, Value.int IntKind.i64 4, Value.int IntKind.i64 16, Value.int IntKind.i64 5, Value.int IntKind.i64 200, Value.int IntKind.i64 3000, Value.int IntKind.i64 400, Value.int IntKind.i64 60, Value.int IntKind.i64 1, Value.int IntKind.i64 2, Value.int IntKind.i64 3, Value.int IntKind.i64 4, Value.int IntKind.i64 5, Value.int IntKind.i64 6, Value.int IntKind.i64 7, Value.int IntKind.i64 8, Value.int IntKind.i64 60, Value.int IntKind.i64 1000, Value.int IntKind.i64 20000]) 3) (#[Value.int IntKind.i64 12, Value.int IntKind.i64 4, Value.int IntKind.i64 16, Value.int IntKind.i64 5, Value.int IntKind.i64 200, Value.int IntKind.i64 3000, Value.int IntKind.i64 400, Value.int IntKind.i64 60, Value.int IntKind.i64 1, Value.int IntKind.i64 2, Value.int IntKind.i64 3, Value.int IntKind.i64 4, Value.int IntKind.i64 5, Value.int IntKind.i64 6, Value.int IntKind.i64 7, Value.int IntKind.i64 8, Value.int IntKind.i64 60, Value.int IntKind.i64 1000, Value.int IntKind.i64 20000]) 3)
      generalize (w1.alloc (Obj.cells #[Value.int IntKind.i64 12, Value.int IntKind.i64 4, Value.int IntKind.i64 16, Value.int IntKind.i64 5, Value.int IntKind.i64 200, Value.int IntKind.i64 3000, Value.int IntKind.i64 400, Value.int IntKind.i64 60, Value.int IntKind.i64 1, Value.int IntKind.i64 2, Value.int IntKind.i64 3, Value.int IntKind.i64 4, Value.int IntKind.i64 5, Value.int IntKind.i64 6, Value.int IntKind.i64 7, Value.int IntKind.i64 8, Value.int IntKind.i64 60, Value.int IntKind.i64 1000, Value.int IntKind.i64 20000] 3)).alloc (Obj.cells #[Value.int IntKind.i64 12, Value.int IntKind.i64 4, Value.int IntKind.i64 16, Value.int IntKind.i64 5, Value.int IntKind.i64 200, Value.int IntKind.i64 3000, Value.int IntKind.i64 400, Value.int IntKind.i64 60, Value.int IntKind.i64 1, Value.int IntKind.i64 2, Value.int IntKind.i64 3, Value.int IntKind.i64 4, Value.int IntKind.i64 5, Value.int IntKind.i64 6, Value.int IntKind.i64 7, Value.int IntKind.i64 8, Value.int IntKind.i64 60, Value.int IntKind.i64 1000, Value.int IntKind.i64 20000] 3) = w2 at *
      generalize w1.heap.size = B1 at *
      clear HC HG
      go_loopw [23] (fun i wr => ∃ k : Nat, k ≤ 19 ∧ i = .int .i64 k ∧ Hid (Grown w wr) ∧ Hid (∀ k : Nat, k < 19 → ∃ x : Int, wr.cell? ⟨B1, k, none⟩ = some (.int .i64 x) ∧ wr.cell? ⟨B1 + 1, k, none⟩ = some (.int .i64 x))) (fun i _ => 19 - (intOf i).toNat)
      case atStart => exact ⟨0, by omega, rfl, HG2, HD⟩
      case round =>
        obtain ⟨j, hj, rfl, HG3, HD3⟩ := hrel
        by_cases hlt : j < 19
        · obtain ⟨x, hx, hy⟩ := HD3.out j hlt
          have i0 : (0 : Int) ≤ (j : Int) := by omega
          have i1 : (j : Int) < 19 := by omega
          have e0 : (x == x) = true := by simp
          have e1 : (x != x) = false := by simp
          go_wp2
          go_quiet (fail)
          go_wp2
          go_roundw
          case rel => exact ⟨j + 1, by omega, by go_num, ⟨HG3.out.1, HG3.out.2⟩, HD3.out⟩
          case measure => simp [intOf]; omega
        · go_wp2
          go_ret
          exact ⟨rfl, HG3.out⟩

theorem contract (H : Type) (enc : TypeId × Value → H) (W : World) (_base : Nat) (args : Array Value) (ds gs : List (DataW H)) (before : List MemPlace)
    (hW : DataW.Whole enc Try.prog Try.f3.params.toList Rows.namesSpec.vars false W args.toList ds gs before) :
    Calls Try.prog 3 args W fun e W' => ∃ v, e = .returned v ∧ Rows.namesSpec.post enc Try.prog Try.f3 false true false false W args v W' := by
  have hW' := hW
  obtain ⟨p, q, hA0, hV, rfl, hfz, hnd⟩ := hW
  have hA : DataW.TrodAll enc Try.prog W 0 (fun _ => true) true Try.f3.params.toList args.toList ds p := hA0
  rw [Try.params3] at hA
  obtain ⟨hargs, rfl, rfl⟩ := trodAll_nil hA
  obtain rfl : args = #[] := by cases args; simp_all
  obtain ⟨rfl, rfl⟩ := trodVars_none hV
  clear hA0
  simp only [List.append_nil] at hW'
  refine (walk W).mono fun e W' ⟨he, hg⟩ => ?_
  subst he
  exact ⟨_, rfl, post_of_same (pa := []) (pv := []) hW' (fun _ _ _ => (trodAll_cons_mk (shut_bool Try.underlying4 _) trodAll_mk0)) (fun sp _ => trodAll_mk0) (fun _ _ => rfl) rfl
    (hg.frame _) hg.2.1 (ok_one (by kernel_rfl) rfl (okWide_bool_mk Try.underlying4 _))⟩

set_option maxRecDepth 100000 in
theorem lifted (os : Os) (started : os.Started) (H : Type) (enc : TypeId × Value → H) :
    ReturnsInHanded {} Try.checked os 3 .any (Rows.namesSpec.pre6 enc Try.prog Try.f3 Rows.namesRow.domain false) (Rows.namesSpec.post enc Try.prog Try.f3 false true false false) := by
  refine returnsInHanded_of_change (C := Try.checked) own started (by kernel_rfl) Try.func3
    (ChangeSpec.witness6 (enc := enc) (C := Try.checked) false ⟨#[], #[], []⟩ 8 (by kernel_rfl) (by kernel_rfl) (by kernel_rfl) (by kernel_rfl)) ?_
  intro W base args ds gs before hval0 hW _ _
  exact contract H enc W base args ds gs before hW

theorem proved : Rows.NamesSaid :=
  OpenClaim.holds_of_wide 3 Try.f3 rfl rfl rfl rfl rfl rfl rfl ⟨rfl, rfl, rfl, rfl, rfl⟩ rfl rfl rfl rfl rfl (by kernel_rfl) Try.func3 (by kernel_rfl)
    (of_decide_eq_true (by kernel_rfl)) (by unfold Func.isWrapper; first | (rw [if_pos (by decide +kernel)]; kernel_rfl) | (rw [if_neg (by decide +kernel)]; exact ⟨rfl, rfl⟩))
    (fun os started H enc _ => lifted os started H enc)
end Go.Proofs.Ytgkadbaccmgefaa.names
