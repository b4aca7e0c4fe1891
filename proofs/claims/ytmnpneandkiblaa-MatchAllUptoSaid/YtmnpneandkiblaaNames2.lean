/-
  THE WALKS OF slices.Index, Contains, IndexFunc, ContainsFunc at texts, and of fact.Wrong.
-/
import Derived.Test.YtmnpneandkiblaaNamed
namespace Go.Proofs.Ytmnpneandkiblaa
open Go.RowKit

theorem drop_cons {α : Type} {x : α} {l : List α} {k : Nat} (h : l[k]? = some x) : l.drop k = x :: l.drop (k + 1) := by
  obtain ⟨hk, rfl⟩ := List.getElem?_eq_some_iff.1 h
  exact List.drop_eq_getElem_cons hk
theorem drop_end {α : Type} {l : List α} {k : Nat} (h : l.length ≤ k) : l.drop k = [] := List.drop_eq_nil_of_le h
theorem beq_toList (x y : Str) : (x.toList == y.toList) = decide (x = y) := by
  by_cases h : x = y
  · subst h; simp
  · rw [decide_eq_false h, beq_eq_false_iff_ne]; exact fun e => h (toList_inj e)

/-- The first place of x in l, from k on; -1: none. -/
def idxFrom (x : Str) : Nat → List Str → Int
  | _, [] => -1
  | k, y :: l => if x = y then k else idxFrom x (k + 1) l
theorem idxFrom_ge (x : Str) : ∀ l k, decide (0 ≤ idxFrom x k l) = memS x l
  | [], k => by simp [idxFrom, memS]
  | y :: l, k => by
    by_cases h : x = y
    · simp [idxFrom, memS, h]
    · simp only [idxFrom, if_neg h, memS, decide_eq_false h, Bool.false_or]
      exact idxFrom_ge x l (k + 1)

set_option maxHeartbeats 400000 in
theorem indexStr {S : Nat → Prop} (v : Value) (l : List Str) (s : Str) (w : World) (h : RdStrs S w v l) (n1 : l.length ≤ 1125899906842624) :
    Calls Try.prog 63 #[v, .string s] w fun e w' => e = .returned (.int .i64 (idxFrom s 0 l)) ∧ w = w' := by
  obtain ⟨a, c, rfl, -, -, -⟩ := h.form
  have H := Lib.hid h
  clear h
  go_enter Try.func63, Try.ntmps63
  go_wp2
  go_loop [8, 5] (fun i _ => ∃ k : Nat, k ≤ l.length ∧ i = .int .i64 k ∧ idxFrom s 0 l = idxFrom s k (l.drop k)) (fun i _ => l.length - (intOf i).toNat)
  case atStart => exact ⟨0, Nat.zero_le _, rfl, rfl⟩
  case round =>
    obtain ⟨k, hk, rfl, hr⟩ := hrel
    have HR := Lib.hid hr
    clear hr
    by_cases hlt : k < l.length
    · obtain ⟨x, hx⟩ : ∃ x, l[k]? = some x := ⟨_, List.getElem?_eq_getElem hlt⟩
      obtain ⟨b, o, rfl, -, -, hc⟩ := H.out.at hx
      have HX := Lib.hid hx
      clear hx
      by_cases hz : s = x
      · have gz : (s.toList == x.toList) = true := by rw [hz]; simp
        have HZ := Lib.hid hz
        clear hz
        go_wp2
        go_ret
        refine ⟨ret_int ?_, rfl⟩
        rw [HR.out, drop_cons HX.out]
        simp [idxFrom, HZ.out]
      · have gz : (s.toList == x.toList) = false := by rw [beq_toList]; exact decide_eq_false hz
        have HZ := Lib.hid hz
        clear hz
        go_wp2
        go_round
        case rel =>
          refine ⟨k + 1, by omega, by go_num, ?_⟩
          rw [HR.out, drop_cons HX.out]
          simp [idxFrom, HZ.out]
        case measure => simp [intOf]; omega
    · go_wp2
      go_ret
      refine ⟨ret_int ?_, rfl⟩
      rw [HR.out, drop_end (by omega : l.length ≤ k)]
      rfl

theorem containsStr {S : Nat → Prop} (v : Value) (l : List Str) (s : Str) (w : World) (h : RdStrs S w v l) (n1 : l.length ≤ 1125899906842624) :
    Calls Try.prog 37 #[v, .string s] w fun e w' => e = .returned (.bool (memS s l)) ∧ w = w' := by
  have K := indexStr v l s w h n1
  have e := idxFrom_ge s l 0
  rw [← e]
  clear e
  generalize idxFrom s 0 l = r at *
  clear h
  go_enter Try.func37, Try.ntmps37
  go_wp2_with (go_at_call 63; refine K.mono ?_; rintro e w' ⟨rfl, rfl⟩)
  go_ret
  exact ⟨rfl, rfl⟩

theorem wrong1Calls (s : Str) (w : World) : Calls Try.prog 67 #[.string s] w fun e w' => e = .returned (.bool (!named s)) ∧ w = w' := by
  go_enter Try.func67, Try.ntmps67
  go_wp2_with (go_at_call 64; refine (namedCalls _ _).mono ?_; rintro e w' ⟨rfl, rfl⟩)
  go_ret
  exact ⟨rfl, rfl⟩

def badFrom : Nat → List Str → Int
  | _, [] => -1
  | k, y :: l => if named y then badFrom (k + 1) l else k
theorem badFrom_ge : ∀ l k, decide (0 ≤ badFrom k l) = !l.all named
  | [], k => by simp [badFrom]
  | y :: l, k => by
    cases h : named y
    · simp [badFrom, h]
    · simp only [badFrom, h, if_true, List.all_cons, Bool.true_and]
      exact badFrom_ge l (k + 1)

set_option maxHeartbeats 400000 in
theorem indexFuncStr {S : Nat → Prop} (v : Value) (l : List Str) (w : World) (h : RdStrs S w v l) (n1 : l.length ≤ 1125899906842624) :
    Calls Try.prog 78 #[v, .func (.func 67) #[] #[]] w fun e w' => e = .returned (.int .i64 (badFrom 0 l)) ∧ w = w' := by
  obtain ⟨a, c, rfl, -, -, -⟩ := h.form
  have H := Lib.hid h
  clear h
  go_enter Try.func78, Try.ntmps78
  go_wp2
  go_loop [8, 5] (fun i _ => ∃ k : Nat, k ≤ l.length ∧ i = .int .i64 k ∧ badFrom 0 l = badFrom k (l.drop k)) (fun i _ => l.length - (intOf i).toNat)
  case atStart => exact ⟨0, Nat.zero_le _, rfl, rfl⟩
  case round =>
    obtain ⟨k, hk, rfl, hr⟩ := hrel
    have HR := Lib.hid hr
    clear hr
    by_cases hlt : k < l.length
    · obtain ⟨x, hx⟩ : ∃ x, l[k]? = some x := ⟨_, List.getElem?_eq_getElem hlt⟩
      obtain ⟨b, o, rfl, -, -, hc⟩ := H.out.at hx
      have HX := Lib.hid hx
      clear hx
      cases hz : named x
      · have HZ := Lib.hid hz
        have K : Calls Try.prog 67 #[.string x] w fun e w' => e = .returned (.bool true) ∧ w = w' := by have := wrong1Calls x w; rwa [hz] at this
        clear hz
        go_wp2_with (go_at_call 67; refine K.mono ?_; rintro e w' ⟨rfl, rfl⟩)
        go_ret
        refine ⟨ret_int ?_, rfl⟩
        rw [HR.out, drop_cons HX.out]
        simp [badFrom, HZ.out]
      · have HZ := Lib.hid hz
        have K : Calls Try.prog 67 #[.string x] w fun e w' => e = .returned (.bool false) ∧ w = w' := by have := wrong1Calls x w; rwa [hz] at this
        clear hz
        go_wp2_with (go_at_call 67; refine K.mono ?_; rintro e w' ⟨rfl, rfl⟩)
        go_round
        case rel =>
          refine ⟨k + 1, by omega, by go_num, ?_⟩
          rw [HR.out, drop_cons HX.out]
          simp [badFrom, HZ.out]
        case measure => simp [intOf]; omega
    · go_wp2
      go_ret
      refine ⟨ret_int ?_, rfl⟩
      rw [HR.out, drop_end (by omega : l.length ≤ k)]
      rfl

theorem containsFuncStr {S : Nat → Prop} (v : Value) (l : List Str) (w : World) (h : RdStrs S w v l) (n1 : l.length ≤ 1125899906842624) :
    Calls Try.prog 66 #[v, .func (.func 67) #[] #[]] w fun e w' => e = .returned (.bool (!l.all named)) ∧ w = w' := by
  have K := indexFuncStr v l w h n1
  have e := badFrom_ge l 0
  rw [← e]
  clear e
  generalize badFrom 0 l = r at *
  clear h
  go_enter Try.func66, Try.ntmps66
  go_wp2_with (go_at_call 78; refine K.mono ?_; rintro e w' ⟨rfl, rfl⟩)
  go_ret
  exact ⟨rfl, rfl⟩

/-- fact.Wrong: 0: fine; 7: ErrName; 5: ErrMany. -/
def wrongF (f : PFact) : Int := if !named f.name then 7 else if 4 < f.args.length then 5 else if f.args.all named then 0 else 7

set_option maxHeartbeats 1000000 in
theorem wrongFact {S : Nat → Prop} (f : PFact) (av : Value) (w : World) (h : RdStrs S w av f.args) (n1 : f.args.length ≤ 1125899906842624) :
    Calls Try.prog 39 #[.agg #[.string f.name, av]] w fun e w' => e = .returned (.int .i64 (wrongF f)) ∧ Fresh w w' := by
  have K : ∀ w', Agree (fun _ => True) w w' → Calls Try.prog 66 #[av, .func (.func 67) #[] #[]] w' fun e w'' => e = .returned (.bool (!f.args.all named)) ∧ w' = w'' :=
    fun w' ha => containsFuncStr av f.args w' ((h.more RStr.steady (fun _ _ _ => trivial)).agree RStr.steady ha) n1
  obtain ⟨a, c, rfl, -, -, -⟩ := h.form
  have e : wrongF f = if !named f.name then 7 else if 4 < f.args.length then 5 else if f.args.all named then 0 else 7 := rfl
  rw [e]
  clear e h
  cases h1 : named f.name
  · have K1 : ∀ w', Calls Try.prog 64 #[.string f.name] w' fun e w'' => e = .returned (.bool false) ∧ w' = w'' := fun w' => by have := namedCalls f.name w'; rwa [h1] at this
    clear h1 K
    go_enter Try.func39, Try.ntmps39
    go_wp2_with (go_at_call 64; refine (K1 _).mono ?_; rintro e w' ⟨rfl, rfl⟩)
    go_ret
    exact ⟨rfl, (Fresh.refl _).alloc _⟩
  · have K1 : ∀ w', Calls Try.prog 64 #[.string f.name] w' fun e w'' => e = .returned (.bool true) ∧ w' = w'' := fun w' => by have := namedCalls f.name w'; rwa [h1] at this
    clear h1
    by_cases h4 : 4 < f.args.length
    · rw [if_neg (by simp), if_pos h4]
      clear K
      go_enter Try.func39, Try.ntmps39
      go_wp2_with (go_at_call 64; refine (K1 _).mono ?_; rintro e w' ⟨rfl, rfl⟩)
      go_ret
      exact ⟨rfl, (Fresh.refl _).alloc _⟩
    · rw [if_neg (by simp), if_neg h4]
      cases h5 : f.args.all named
      · rw [h5] at K
        have HK := Lib.hid K
        clear K h5
        go_enter Try.func39, Try.ntmps39
        go_wp2_with (first | (go_at_call 64; refine (K1 _).mono ?_; rintro e w' ⟨rfl, rfl⟩) | (go_at_call 66; refine (HK.out _ ((Agree.refl _ _).alloc _)).mono ?_; rintro e w' ⟨rfl, rfl⟩))
        go_ret
        exact ⟨rfl, (Fresh.refl _).alloc _⟩
      · rw [h5] at K
        have HK := Lib.hid K
        clear K h5
        go_enter Try.func39, Try.ntmps39
        go_wp2_with (first | (go_at_call 64; refine (K1 _).mono ?_; rintro e w' ⟨rfl, rfl⟩) | (go_at_call 66; refine (HK.out _ ((Agree.refl _ _).alloc _)).mono ?_; rintro e w' ⟨rfl, rfl⟩))
        go_ret
        exact ⟨rfl, (Fresh.refl _).alloc _⟩
end Go.Proofs.Ytmnpneandkiblaa
