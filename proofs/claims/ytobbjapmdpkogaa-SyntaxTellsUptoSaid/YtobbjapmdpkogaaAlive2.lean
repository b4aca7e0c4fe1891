/-
  THE WALK OF corolaw2.alive: true.
-/
import Derived.Test.YtobbjapmdpkogaaSynW6
import Derived.Test.YtobbjapmdpkogaaPrintS
import Derived.Test.YtobbjapmdpkogaaAlive3
namespace Go.Proofs.Ytobbjapmdpkogaa
open Go.RowKit

theorem bodyKnown {s : Str} {l : List PAtom} {n : Nat} (hn : l.length = n) (hs : s.size ≤ 1048576) (h : parseBodyF s = (l, 0, 0)) (w : World) :
    Calls Try.prog 25 #[.string s] w fun e w' => (∃ a c, e = .returned (.tuple #[.slice a n c, .agg #[.int .i64 0, .int .i64 0]]) ∧ RdAtoms (New w) w' (.slice a n c) l) ∧ Below w.heap.size w w' := by
  refine (bodyTextCalls s w hs).mono fun e w' ⟨⟨v, he, hr⟩, hb⟩ => ⟨?_, hb⟩
  rw [h] at he hr
  obtain ⟨a, c, rfl, -, -, -⟩ := id hr.form
  subst hn
  exact ⟨a, c, he, hr⟩

def tPath : Str := ⟨#[112, 97, 116, 104]⟩
def tEdge : Str := ⟨#[101, 100, 103, 101]⟩
def tShut : Str := ⟨#[115, 104, 117, 116]⟩
def tY : Str := ⟨#[89]⟩
def textA : Str := ⟨#[112, 97, 116, 104, 40, 88, 44, 89, 41, 32, 58, 45, 32, 101, 100, 103, 101, 40, 88, 44, 89, 41, 44, 32, 33, 115, 104, 117, 116, 40, 89, 41, 46, 32, 101, 100, 103, 101, 40, 97, 44, 98, 41, 46]⟩
def textB : Str := ⟨#[112, 97, 116, 104, 40, 97, 44, 88, 41]⟩
def ruleA : PRule := ⟨⟨false, tPath, [⟨true, tX⟩, ⟨true, tY⟩]⟩, [⟨false, tEdge, [⟨true, tX⟩, ⟨true, tY⟩]⟩, ⟨true, tShut, [⟨true, tY⟩]⟩]⟩
def ruleE : PRule := ⟨⟨false, tEdge, [⟨false, tA⟩, ⟨false, tB⟩]⟩, []⟩
def atomP : PAtom := ⟨false, tPath, [⟨false, tA⟩, ⟨true, tX⟩]⟩
theorem parse_A : parseF textA = ([ruleA, ruleE], 0, 0) := by decide +kernel
theorem parse_B : parseBodyF textB = ([atomP], 0, 0) := by decide +kernel
theorem var_X1 : variableS ⟨#[88, 49]⟩ = true := by decide +kernel
theorem text_P : strOf (atomB atomP) = ⟨#[112, 97, 116, 104, 40, 97, 44, 88, 41]⟩ := by decide +kernel
theorem text_E : strOf (progB [ruleE]) = ⟨#[101, 100, 103, 101, 40, 97, 44, 98, 41, 46, 10]⟩ := by decide +kernel
theorem small_AE : ∀ r ∈ [ruleE], RuleSmall r := fun r hr => ruleSmall_of (List.all_eq_true.1 (show [ruleE].all ruleSmallB = true by decide +kernel) r hr)
theorem names_AE : ∀ r ∈ [ruleE], NameSmall r := fun r hr => nameSmall_of (List.all_eq_true.1 (show [ruleE].all nameSmallB = true by decide +kernel) r hr)

/-- What alive holds from one call to the next. -/
structure A2 (w W : World) (v vb : Value) (F G : Nat) : Prop where
  below : Below w.heap.size w W
  p : RdRules (fun _ => True) W v [ruleA, ruleE]
  b : RdAtoms (fun _ => True) W vb [atomP]
  f : Blk W F 26 #[.int .i64 0, .int .i64 0]
  g : Blk W G 26 #[.int .i64 0, .int .i64 0]
theorem A2.next {w W W' : World} {v vb : Value} {F G : Nat} (h : A2 w W v vb F G) (hb : Below W.heap.size W W') : A2 w W' v vb F G :=
  ⟨h.below.trans (hb.mono h.below.size), h.p.agree RRule.steady (Below.agree hb), h.b.agree RAtom.steady (Below.agree hb), h.f.below hb h.f.lt, h.g.below hb h.g.lt⟩

set_option maxRecDepth 100000 in
set_option maxHeartbeats 4000000 in
theorem alive2Calls (w : World) : Calls Try.prog 30 #[] w fun e w' => e = .returned (.bool true) ∧ Below w.heap.size w w' := by
  have T1 := Lib.hid True.intro
  go_enter Try.func30, Try.ntmps30
  go_wp2_with (first
    | (go_at_call 18; clear T1; refine (parseKnown (s := textA) (n := 2) (by rfl) (by decide) parse_A _).mono ?_; rintro e w1 ⟨⟨a1, c1, rfl, hr1⟩, hb1⟩; have HR1 := Lib.hid ((hr1.more (S' := fun _ => True) RRule.steady (fun _ _ _ => trivial)).agree RRule.steady ((Agree.refl _ _).alloc (.cells #[.int .i64 0, .int .i64 0] 26))); have HB1 := Lib.hid (hb1.alloc hb1.size (.cells #[.int .i64 0, .int .i64 0] 26)); have HF1 := Lib.hid (Blk.new w1 26 #[.int .i64 0, .int .i64 0]); clear hr1 hb1)
    | (go_at_call 25; refine (bodyKnown (s := textB) (n := 1) (by rfl) (by decide) parse_B _).mono ?_; rintro e w2 ⟨⟨a2, c2, rfl, hr2⟩, hb2⟩; have HI2 := Lib.hid (show A2 w (w2.alloc (.cells #[.int .i64 0, .int .i64 0] 26)) (.slice a1 2 c1) (.slice a2 1 c2) w1.heap.size w2.heap.size from ⟨(HB1.out.trans (hb2.mono HB1.out.size)).alloc (Nat.le_trans HB1.out.size hb2.size) _, (HR1.out.agree RRule.steady (Below.agree hb2)).agree RRule.steady ((Agree.refl _ _).alloc _), (hr2.more (S' := fun _ => True) RAtom.steady (fun _ _ _ => trivial)).agree RAtom.steady ((Agree.refl _ _).alloc _), (HF1.out.below hb2 HF1.out.lt).alloc _, Blk.new w2 _ _⟩); clear hr2 hb2; have f0 := HI2.out.f.cell 0; have g0 := HI2.out.g.cell 0; simp only [List.getElem?_toArray, List.getElem?_cons_zero] at f0 g0; obtain ⟨pb, po, ptv, pbv, rfl, -, -, -, -, -, p3, -, pv⟩ := RdRules.at HI2.out.p (show [ruleA, ruleE][0]? = some ruleA from rfl); obtain ⟨qa, qc, rfl, -, -, -⟩ := id pv.form; obtain ⟨qb, qo, qtv, rfl, -, -, q0, -, -, -⟩ := RdAtoms.at pv (show ruleA.body[1]? = some _ from rfl); have hql : ruleA.body.length = 2 := rfl; rw [hql] at p3; obtain ⟨bb, bo, btv, rfl, -, -, b0, b1, b2, bv⟩ := RdAtoms.at HI2.out.b (show [atomP][0]? = some _ from rfl); obtain ⟨va, vc, rfl, -, -, -⟩ := id bv.form; have HBV := Lib.hid bv; have hc1 : ¬ (c1 = 1) := (by obtain ⟨_, _, e, h2, _⟩ := HI2.out.p; injection e with e1 e2 e3; subst e3; have h2' : 2 ≤ c1 := h2; omega); clear pv bv; simp only [Nat.zero_mul, Nat.one_mul, Nat.add_zero] at p3 q0 b0 b1 b2)
    | (go_at_call 21; refine (variableCalls _ _ (by decide)).mono ?_; rw [var_X1]; rintro e w3 ⟨rfl, rfl⟩)
    | (go_at_call 28; refine (atomText atomP _ _ HBV.out (by decide) (fun t ht => of_decide_eq_true (List.all_eq_true.1 (show atomP.terms.all (fun t => decide (t.name.size ≤ 1048576)) = true by decide +kernel) t ht)) (by decide)).mono ?_; rw [text_P]; rintro e w4 ⟨rfl, hb4⟩; have HI4 := Lib.hid (HI2.out.next hb4); clear hb4)
    | (go_at_call 23; have HD := HI4.out.p.drop_some (j := 1) (by decide); rw [if_neg hc1] at HD; refine (printText [ruleE] _ _ HD (by decide) small_AE names_AE (by decide +kernel)).mono ?_; rw [text_E]; rintro e w5 ⟨rfl, hb5⟩; have HI5 := Lib.hid (HI4.out.next hb5); clear hb5))
  all_goals
    go_ret
    exact ⟨rfl, HI5.out.below⟩
end Go.Proofs.Ytobbjapmdpkogaa
