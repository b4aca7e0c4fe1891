/-
  THE WALK OF corolaw3.alive: true.
-/
import Derived.Test.YtobbjapmdpkogaaCheckW4
import Derived.Test.YtobbjapmdpkogaaSynW5
namespace Go.Proofs.Ytobbjapmdpkogaa
open Go.RowKit

theorem parseKnown {s : Str} {p : List PRule} {n : Nat} (hn : p.length = n) (hs : s.size ≤ 1048576) (h : parseF s = (p, 0, 0)) (w : World) :
    Calls Try.prog 18 #[.string s] w fun e w' => (∃ a c, e = .returned (.tuple #[.slice a n c, .agg #[.int .i64 0, .int .i64 0]]) ∧ RdRules (New w) w' (.slice a n c) p) ∧ Below w.heap.size w w' := by
  refine (parseCalls s w hs).mono fun e w' ⟨⟨v, he, hr⟩, hb⟩ => ⟨?_, hb⟩
  rw [h] at he hr
  obtain ⟨a, c, rfl, -, -, -⟩ := id hr.form
  subst hn
  exact ⟨a, c, he, hr⟩
theorem strataKnown {S : Nat → Prop} {p : List PRule} {v : Value} {w : World} {l : List Int} {x y : Int} {n : Nat} (hn : l.length = n) (hk : StrataIs p l (x, y)) (h : RdRules S w v p) (n1 : p.length ≤ 1048576) (n2 : ∀ r ∈ p, RuleSmall r) (n3 : ∀ r ∈ p, NameSmall r) :
    Calls Try.prog 16 #[v] w fun e w' => (∃ a c, e = .returned (.tuple #[.slice a n c, .agg #[.int .i64 x, .int .i64 y]]) ∧ RdInts (New w) w' (.slice a n c) l) ∧ Below w.heap.size w w' := by
  refine (strataCalls p v w h n1 n2 n3).mono fun e w' ⟨hb, v', l', q, he, hr, hs⟩ => ⟨?_, hb⟩
  obtain ⟨rfl, rfl⟩ := hs.unique hk
  obtain ⟨a, c, rfl, -, -, -⟩ := id hr.form
  subst hn
  exact ⟨a, c, he, hr⟩

def tX : Str := ⟨#[88]⟩
def tA : Str := ⟨#[97]⟩
def tB : Str := ⟨#[98]⟩
def tC : Str := ⟨#[99]⟩
def tD : Str := ⟨#[100]⟩
def tx : Str := ⟨#[120]⟩
def aliveText1 : Str := ⟨#[98, 40, 88, 41, 32, 58, 45, 32, 97, 40, 88, 41, 44, 32, 33, 99, 40, 88, 41, 46, 32, 99, 40, 88, 41, 32, 58, 45, 32, 100, 40, 88, 41, 46]⟩
def aliveText2 : Str := ⟨#[97, 40, 120, 41, 32, 58, 45, 32, 33, 97, 40, 120, 41, 46]⟩
def aliveProg1 : List PRule := [⟨⟨false, tB, [⟨true, tX⟩]⟩, [⟨false, tA, [⟨true, tX⟩]⟩, ⟨true, tC, [⟨true, tX⟩]⟩]⟩, ⟨⟨false, tC, [⟨true, tX⟩]⟩, [⟨false, tD, [⟨true, tX⟩]⟩]⟩]
def aliveProg2 : List PRule := [⟨⟨false, tA, [⟨false, tx⟩]⟩, [⟨true, tA, [⟨false, tx⟩]⟩]⟩]
theorem parse_alive1 : parseF aliveText1 = (aliveProg1, 0, 0) := by decide +kernel
theorem parse_alive2 : parseF aliveText2 = (aliveProg2, 0, 0) := by decide +kernel
theorem wrong_alive1 : wrongP aliveProg1 = (0, 0) := by decide +kernel
theorem wrong_alive2 : wrongP aliveProg2 = (0, 0) := by decide +kernel
theorem heads_alive1 : headsOf aliveProg1 = [tB, tC] := rfl
theorem heads_alive2 : headsOf aliveProg2 = [tA] := rfl
theorem least_alive1 : Least aliveProg1 (fun s => if s = tB then 1 else 0) := by
  have d1 : dl aliveProg1 ⟨false, tA, [⟨true, tX⟩]⟩ = 0 := by decide +kernel
  have d2 : dl aliveProg1 ⟨true, tC, [⟨true, tX⟩]⟩ = 1 := by decide +kernel
  have d3 : dl aliveProg1 ⟨false, tD, [⟨true, tX⟩]⟩ = 0 := by decide +kernel
  have e1 : tA ≠ tB := by decide +kernel
  have e2 : tC ≠ tB := by decide +kernel
  have e3 : tD ≠ tB := by decide +kernel
  refine ⟨⟨fun s hs => ?_, fun r hr a ha => ?_⟩, fun M hM s => ?_⟩
  · rw [heads_alive1] at hs
    simp only [List.mem_cons, List.not_mem_nil, or_false, not_or] at hs
    show (if s = tB then 1 else 0) = 0
    rw [if_neg hs.1]
  · simp only [aliveProg1, List.mem_cons, List.not_mem_nil, or_false] at hr
    rcases hr with rfl | rfl
    · simp only [List.mem_cons, List.not_mem_nil, or_false] at ha
      rcases ha with rfl | rfl
      · rw [d1]; simp [e1]
      · rw [d2]; simp [e2]
    · simp only [List.mem_cons, List.not_mem_nil, or_false] at ha
      subst ha
      rw [d3]; simp [e2, e3]
  · have h := hM.up ⟨⟨false, tB, [⟨true, tX⟩]⟩, [⟨false, tA, [⟨true, tX⟩]⟩, ⟨true, tC, [⟨true, tX⟩]⟩]⟩ (by simp [aliveProg1]) ⟨true, tC, [⟨true, tX⟩]⟩ (by simp)
    rw [d2] at h
    show (if s = tB then 1 else 0) ≤ M s
    split
    · rename_i e
      rw [e]
      have h' : M tC + 1 ≤ M tB := h
      omega
    · exact Nat.zero_le _
theorem strata_alive1 : StrataIs aliveProg1 [1, 0] (0, 0) := by
  refine .inr ⟨by rw [wrong_alive1], .inl ⟨_, least_alive1, ?_, rfl⟩⟩
  decide +kernel
theorem strata_alive2 : StrataIs aliveProg2 [] (10, 0) := by
  refine .inr ⟨by rw [wrong_alive2], .inr ⟨fun N hN => ?_, rfl, rfl⟩⟩
  have d : dl aliveProg2 ⟨true, tA, [⟨false, tx⟩]⟩ = 1 := by decide +kernel
  have h := hN.up ⟨⟨false, tA, [⟨false, tx⟩]⟩, [⟨true, tA, [⟨false, tx⟩]⟩]⟩ (by simp [aliveProg2]) ⟨true, tA, [⟨false, tx⟩]⟩ (by simp)
  rw [d] at h
  have h' : N tA + 1 ≤ N tA := h
  omega
def ruleSmallB (x : PRule) : Bool := decide (x.head.terms.length ≤ 1048576) && x.head.terms.all (fun t => decide (t.name.size ≤ 1048576)) && decide (x.body.length ≤ 1048576) && x.body.all (fun a => decide (a.terms.length ≤ 1048576) && a.terms.all (fun t => decide (t.name.size ≤ 1048576)))
theorem ruleSmall_of {x : PRule} (h : ruleSmallB x = true) : RuleSmall x := by
  simp only [ruleSmallB, Bool.and_eq_true, List.all_eq_true, decide_eq_true_eq] at h
  exact ⟨h.1.1.1, h.1.1.2, h.1.2, fun a ha => (h.2 a ha).1, fun a ha => (h.2 a ha).2⟩
def nameSmallB (x : PRule) : Bool := decide (x.head.name.size ≤ 1048576) && x.body.all (fun a => decide (a.name.size ≤ 1048576))
theorem nameSmall_of {x : PRule} (h : nameSmallB x = true) : NameSmall x := by
  simp only [nameSmallB, Bool.and_eq_true, List.all_eq_true, decide_eq_true_eq] at h
  exact ⟨h.1, h.2⟩
theorem small_alive1 : ∀ r ∈ aliveProg1, RuleSmall r := fun r hr => ruleSmall_of (List.all_eq_true.1 (show aliveProg1.all ruleSmallB = true by decide +kernel) r hr)
theorem names_alive1 : ∀ r ∈ aliveProg1, NameSmall r := fun r hr => nameSmall_of (List.all_eq_true.1 (show aliveProg1.all nameSmallB = true by decide +kernel) r hr)
theorem small_alive2 : ∀ r ∈ aliveProg2, RuleSmall r := fun r hr => ruleSmall_of (List.all_eq_true.1 (show aliveProg2.all ruleSmallB = true by decide +kernel) r hr)
theorem names_alive2 : ∀ r ∈ aliveProg2, NameSmall r := fun r hr => nameSmall_of (List.all_eq_true.1 (show aliveProg2.all nameSmallB = true by decide +kernel) r hr)
theorem vars_alive : varsOf ⟨false, tB, [⟨true, tX⟩]⟩ = [tX] := by decide +kernel

/-- What alive holds from one call to the next. -/
structure A3 (w W : World) (v : Value) (fs : List (Nat × Int × Int)) (vl : Value) (l : List Int) : Prop where
  below : Below w.heap.size w W
  p : RdRules (fun _ => True) W v aliveProg1
  l : RdInts (fun _ => True) W vl l
  f : ∀ x ∈ fs, Blk W x.1 26 #[.int .i64 x.2.1, .int .i64 x.2.2]
section
variable {w W W' : World} {v vl : Value} {fs : List (Nat × Int × Int)} {l : List Int}
theorem A3.next (h : A3 w W v fs vl l) (hb : Below W.heap.size W W') : A3 w W' v fs vl l :=
  ⟨h.below.trans (hb.mono h.below.size), h.p.agree RRule.steady (Below.agree hb), h.l.agree RInt.steady (Below.agree hb), fun x hx => (h.f x hx).below hb (h.f x hx).lt⟩
theorem A3.fault (h : A3 w W v fs vl l) (x y : Int) : A3 w (W.alloc (.cells #[.int .i64 x, .int .i64 y] 26)) v ((W.heap.size, x, y) :: fs) vl l := by
  have h' := h.next ((Below.refl W.heap.size W).alloc (Nat.le_refl _) (.cells #[.int .i64 x, .int .i64 y] 26))
  exact ⟨h'.below, h'.p, h'.l, fun z hz => by
    rcases List.mem_cons.1 hz with rfl | hz
    · exact Blk.new _ _ _
    · exact h'.f z hz⟩
theorem A3.ints {S : Nat → Prop} {vl' : Value} {l' : List Int} (h : A3 w W v fs vl l) (hr : RdInts S W vl' l') : A3 w W v fs vl' l' := ⟨h.below, h.p, hr.more RInt.steady (fun _ _ _ => trivial), h.f⟩
end

set_option maxRecDepth 100000 in
set_option maxHeartbeats 4000000 in
theorem alive3Calls (w : World) : Calls Try.prog 31 #[] w fun e w' => e = .returned (.bool true) ∧ Below w.heap.size w w' := by
  have hfd : ∀ w : World, (Instr.field 26 (.agg #[.int .i64 0, .int .i64 0]) 0).run Try.prog w = .ok (.int .i64 0) w := fun _ => by kernel_rfl
  have T1 := Lib.hid True.intro
  go_enter Try.func31, Try.ntmps31
  go_wp2_with (first
    | (go_at_call 12; refine (varsCalls ⟨false, tB, [⟨true, tX⟩]⟩ _ _ HT.out (by decide)).mono ?_; rw [vars_alive]; rintro e w6 ⟨⟨v6, rfl, ho6⟩, hb6⟩; obtain ⟨a6, c6, rfl, -, -, -⟩ := id (ho6.read RStr.steady).form; have HI6 := Lib.hid (HI5.out.next hb6); clear ho6 hb6)
    | (go_at_call 10; refine (wrongCalls aliveProg1 _ _ HI4.out.p (by decide) small_alive1 names_alive1).mono ?_; rw [wrong_alive1]; rintro e w5 ⟨rfl, hb5⟩; have HI5 := Lib.hid (HI4.out.next hb5); clear hb5; obtain ⟨pb, po, ptv, pbv, rfl, -, -, p0, p1, p2, -, pt, -⟩ := RdRules.at HI5.out.p (show aliveProg1[0]? = some _ from rfl); have HT := Lib.hid pt; clear pt; simp only [Nat.zero_mul, Nat.add_zero] at p0 p1 p2)
    | (go_at_call 16; refine (strataKnown (n := 0) (by rfl) strata_alive2 HP3.out (by decide) small_alive2 names_alive2).mono ?_; rintro e w4 ⟨⟨a4, c4, rfl, hr4⟩, hb4⟩; have HI4 := Lib.hid ((HI3.out.next hb4).fault 10 0); clear hr4 hb4 HI3 HP3; have f0 := (HI4.out.f _ (.head _)).cell 0; have g0 := (HI4.out.f _ (.tail _ (.tail _ (.head _)))).cell 0; simp only [List.getElem?_toArray, List.getElem?_cons_zero] at f0 g0; obtain ⟨lb, lo, rfl, -, -, l0⟩ := RdInts.at HI4.out.l (show [(1 : Int), 0][0]? = some _ from rfl); obtain ⟨lb2, lo2, hlb, -, -, l1⟩ := RdInts.at HI4.out.l (show [(1 : Int), 0][1]? = some _ from rfl); injection hlb with hlb; injection hlb with e1 e2; subst e1 e2; simp only [Nat.add_zero] at l0)
    | (go_at_call 18; have hb2 := HI2.out.below; refine (parseKnown (s := aliveText2) (n := 1) (by rfl) (by decide) parse_alive2 _).mono ?_; rintro e w3 ⟨⟨a3, c3, rfl, hr3⟩, hb3⟩; have HI3 := Lib.hid ((HI2.out.next hb3).fault 0 0); have HP3 := Lib.hid (hr3.agree RRule.steady ((Agree.refl _ _).alloc (.cells #[.int .i64 0, .int .i64 0] 26))); clear hr3 hb3 hb2 HI2)
    | (go_at_call 16; refine (strataKnown (n := 2) (by rfl) strata_alive1 HI1.out.p (by decide) small_alive1 names_alive1).mono ?_; rintro e w2 ⟨⟨a2, c2, rfl, hr2⟩, hb2⟩; have HI2 := Lib.hid (((HI1.out.next hb2).ints hr2).fault 0 0); clear hr2 hb2 HI1)
    | (go_at_call 18; clear T1; refine (parseKnown (s := aliveText1) (n := 2) (by rfl) (by decide) parse_alive1 _).mono ?_; rintro e w1 ⟨⟨a1, c1, rfl, hr1⟩, hb1⟩; have HI1 := Lib.hid (A3.fault (fs := []) (vl := .slice none 0 0) (l := []) ⟨hb1, hr1.more RRule.steady (fun _ _ _ => trivial), RdSlice.nothing (Nat.zero_le _) (fun _ => rfl), fun _ h => by cases h⟩ 0 0); clear hr1 hb1))
  trace_state
  go_ret
  exact ⟨rfl, HI6.out.below⟩
end Go.Proofs.Ytobbjapmdpkogaa
