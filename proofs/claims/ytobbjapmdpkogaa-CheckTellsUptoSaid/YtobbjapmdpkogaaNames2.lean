/-
  THE WALKS OF slices.Index, Contains, IndexFunc, ContainsFunc at texts, and of fact.Wrong.
-/
import Derived.Test.YtobbjapmdpkogaaNamed
namespace Go.Proofs.Ytobbjapmdpkogaa
open Go.RowKit

theorem drop_cons {α : Type} {x : α} {l : List α} {k : Nat} (h : l[k]? = some x) : l.drop k = x :: l.drop (k + 1) := by
  obtain ⟨hk, rfl⟩ := List.getElem?_eq_some_iff.1 h
  exact List.drop_eq_getElem_cons hk
theorem drop_end {α : Type} {l : List α} {k : Nat} (h : l.length ≤ k) : l.drop k = [] := List.drop_eq_nil_of_le h
theorem beq_toList (x y : Str) : (x.toList == y.toList) = decide (x = y) := by
  by_cases h : x = y
  · subst h; simp
  · rw [decide_eq_false h, beq_eq_false_iff_ne]; exact fun e => h (toList_inj e)

/-- The first place of x in l, from k on; -1: none. -/
def idxFrom (x : Str) : Nat → List Str → Int
  | _, [] => -1
  | k, y :: l => if x = y then k else idxFrom x (k + 1) l
theorem idxFrom_ge (x : Str) : ∀ l k, decide (0 ≤ idxFrom x k l) = memS x l
  | [], k => by simp [idxFrom, memS]
  | y :: l, k => by
    by_cases h : x = y
    · simp [idxFrom, memS, h]
    · simp only [idxFrom, if_neg h, memS, decide_eq_false h, Bool.false_or]
      exact idxFrom_ge x l (k + 1)

set_option maxHeartbeats 400000 in
theorem indexStr {S : Nat → Prop} (v : Value) (l : List Str) (s : Str) (w : World) (h : RdStrs S w v l) (n1 : l.length ≤ 1125899906842624) :
    Calls Try.prog 61 #[v, .string s] w fun e w' => e = .returned (.int .i64 (idxFrom s 0 l)) ∧ w = w' := by
  obtain ⟨a, c, rfl, -, -, -⟩ := h.form
  have H := Lib.hid h
  clear h
  go_enter Try.func61, Try.ntmps61
  go_wp2
  go_loop [8, 5] (fun i _ => ∃ k : Nat, k ≤ l.length ∧ i = .int .i64 k ∧ idxFrom s 0 l = idxFrom s k (l.drop k)) (fun i _ => l.length - (intOf i).toNat)
  case atStart => exact ⟨0, Nat.zero_le _, rfl, rfl⟩
  case round =>
    obtain ⟨k, hk, rfl, hr⟩ := hrel
    have HR := Lib.hid hr
    clear hr
    by_cases hlt : k < l.length
    · obtain ⟨x, hx⟩ : ∃ x, l[k]? = some x := ⟨_, List.getElem?_eq_getElem hlt⟩
      obtain ⟨b, o, rfl, -, -, hc⟩ := H.out.at hx
      have HX := Lib.hid hx
      clear hx
      by_cases hz : s = x
      · have gz : (s.toList == x.toList) = true := by rw [hz]; simp
        have HZ := Lib.hid hz
        clear hz
        go_wp2
        go_ret
        refine ⟨ret_int ?_, rfl⟩
        rw [HR.out, drop_cons HX.out]
        simp [idxFrom, HZ.out]
      · have gz : (s.toList == x.toList) = false := by rw [beq_toList]; exact decide_eq_false hz
        have HZ := Lib.hid hz
        clear hz
        go_wp2
        go_round
        case rel =>
          refine ⟨k + 1, by omega, by go_num, ?_⟩
          rw [HR.out, drop_cons HX.out]
          simp [idxFrom, HZ.out]
        case measure => simp [intOf]; omega
    · go_wp2
      go_ret
      refine ⟨ret_int ?_, rfl⟩
      rw [HR.out, drop_end (by omega : l.length ≤ k)]
      rfl

theorem containsStr {S : Nat → Prop} (v : Value) (l : List Str) (s : Str) (w : World) (h : RdStrs S w v l) (n1 : l.length ≤ 1125899906842624) :
    Calls Try.prog 37 #[v, .string s] w fun e w' => e = .returned (.bool (memS s l)) ∧ w = w' := by
  have K := indexStr v l s w h n1
  have e := idxFrom_ge s l 0
  rw [← e]
  clear e
  generalize idxFrom s 0 l = r at *
  clear h
  go_enter Try.func37, Try.ntmps37
  go_wp2_with (go_at_call 61; refine K.mono ?_; rintro e w' ⟨rfl, rfl⟩)
  go_ret
  exact ⟨rfl, rfl⟩

end Go.Proofs.Ytobbjapmdpkogaa
