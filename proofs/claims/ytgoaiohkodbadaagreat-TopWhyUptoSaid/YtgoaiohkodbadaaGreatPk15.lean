/-
  THE TEXTS TopP, TopW, RoundS, RoundT, Fits, TopN, one behind the other.
-/
import Derived.Test.YtgoaiohkodbadaaGreatPk1
import Derived.Test.YtgoaiohkodbadaaGreatPk14
import Derived.Laws.BytesArg
/-
  PLAIN: rules in a circle, and chains of roads.
-/
namespace Go.Proofs.YtgoaiohkodbadaaGreat

/-- A town's name. -/
def tn (k : Nat) : Str := ⟨#[116, UInt8.ofNat (97 + k)]⟩
def xroad : Str := ⟨#[114, 111, 97, 100]⟩
def xway : Str := ⟨#[119, 97, 121]⟩
def xcut : Str := ⟨#[99, 117, 116]⟩
def xtown : Str := ⟨#[116, 111, 119, 110]⟩
def roadsP : List PRule := [⟨⟨false, xway, [⟨true, xX⟩, ⟨true, xY⟩]⟩, [⟨false, xroad, [⟨true, xX⟩, ⟨true, xY⟩]⟩]⟩,
  ⟨⟨false, xway, [⟨true, xX⟩, ⟨true, xZ⟩]⟩, [⟨false, xway, [⟨true, xX⟩, ⟨true, xY⟩]⟩, ⟨false, xroad, [⟨true, xY⟩, ⟨true, xZ⟩]⟩]⟩,
  ⟨⟨false, xcut, [⟨true, xX⟩, ⟨true, xY⟩]⟩, [⟨false, xtown, [⟨true, xX⟩]⟩, ⟨false, xtown, [⟨true, xY⟩]⟩, ⟨true, xway, [⟨true, xX⟩, ⟨true, xY⟩]⟩]⟩]
theorem wrong_roads : wrongP roadsP = (0, 0) := by decide +kernel
theorem small_roads : ∀ r ∈ roadsP, RuleSmall r := fun r hr => ruleSmall_of (List.all_eq_true.1 (show roadsP.all ruleSmallB = true by decide +kernel) r hr)
theorem names_roads : ∀ r ∈ roadsP, NameSmall r := fun r hr => nameSmall_of (List.all_eq_true.1 (show roadsP.all nameSmallB = true by decide +kernel) r hr)
theorem least_roads : Least roadsP (fun s => if s = xcut then 1 else 0) := by
  refine ⟨sol_of (fun s hs => ?_) (by decide +kernel), fun M hM s => ?_⟩
  · show (if s = xcut then 1 else 0) = 0
    rw [if_neg]
    rintro rfl
    exact hs (by decide +kernel)
  · show (if s = xcut then 1 else 0) ≤ M s
    split
    · rename_i e
      subst e
      have h := hM.up ⟨⟨false, xcut, [⟨true, xX⟩, ⟨true, xY⟩]⟩, [⟨false, xtown, [⟨true, xX⟩]⟩, ⟨false, xtown, [⟨true, xY⟩]⟩, ⟨true, xway, [⟨true, xX⟩, ⟨true, xY⟩]⟩]⟩ (by simp [roadsP]) ⟨true, xway, [⟨true, xX⟩, ⟨true, xY⟩]⟩ (by simp)
      rw [show dl roadsP ⟨true, xway, [⟨true, xX⟩, ⟨true, xY⟩]⟩ = 1 by decide +kernel] at h
      exact Nat.le_trans (Nat.le_add_left _ _) h
    · exact Nat.zero_le _
theorem strata_roads : StrataIs roadsP [0, 0, 1] (0, 0) := .inr ⟨by rw [wrong_roads], .inl ⟨_, least_roads, by decide +kernel, rfl⟩⟩
/-! ### alive -/
def t7Facts : List PFact := [⟨xroad, [tn 0, tn 1]⟩, ⟨xroad, [tn 1, tn 2]⟩]
def t7All : List PFact := [⟨xroad, [tn 0, tn 1]⟩, ⟨xroad, [tn 1, tn 2]⟩, ⟨xway, [tn 0, tn 1]⟩, ⟨xway, [tn 0, tn 2]⟩, ⟨xway, [tn 1, tn 2]⟩]
theorem naive_t7 : naiveP [0, 0, 1] 0 roadsP t7Facts = (t7All, 0) := by decide +kernel
theorem mem_t7 : memF ⟨xway, [tn 0, tn 2]⟩ t7All = true := by decide +kernel
theorem rising_t7 : Rising t7All := by unfold Rising; decide +kernel
theorem args_t7 : ∀ x ∈ t7All, x.args.length ≤ 1048576 := fun x hx => of_decide_eq_true (List.all_eq_true.1 (show t7All.all (fun a => decide (a.args.length ≤ 1048576)) = true by decide +kernel) x hx)
theorem args_f7 : ∀ x ∈ t7Facts, x.args.length ≤ 1048576 := fun x hx => of_decide_eq_true (List.all_eq_true.1 (show t7Facts.all (fun a => decide (a.args.length ≤ 1048576)) = true by decide +kernel) x hx)
/-! ### A chain -/
def chainF (n : Nat) : List PFact := (List.range n).map fun k => ⟨xroad, [tn k, tn (k + 1)]⟩
def chainL (n : Nat) : List PFact := ofF (chainF n)
def chainR (n : Nat) : PRun := ⟨chainL n, chainL n, 0, 0, false⟩
def risingB : List PFact → Bool
  | [] => true
  | [_] => true
  | a :: b :: l => ltF a b && risingB (b :: l)
def runB (x : PRun) : Bool := risingB x.known && x.known.all (fun a => decide (a.args.length ≤ 1048576)) && decide (x.known.length ≤ 1048576)
def chainB (n : Nat) : Bool := decide (beginP [0, 0, 1] 0 roadsP (chainL n) = (chainR n, 0)) && (chainL n).all (fun a => decide (a.args.length ≤ 1048576)) && decide ((chainL n).length ≤ 1048576) &&
  decide ((stepsRun [0, 0, 1] 0 roadsP (chainR n) ((n : Int) - 1)).2 = 0) && decide ((stepsRun [0, 0, 1] 0 roadsP (chainR n) n).2 = 0) &&
  runB (stepsRun [0, 0, 1] 0 roadsP (chainR n) ((n : Int) - 1)).1 && runB (stepsRun [0, 0, 1] 0 roadsP (chainR n) n).1 &&
  !memF ⟨xway, [tn 0, tn n]⟩ (stepsRun [0, 0, 1] 0 roadsP (chainR n) ((n : Int) - 1)).1.known && memF ⟨xway, [tn 0, tn n]⟩ (stepsRun [0, 0, 1] 0 roadsP (chainR n) n).1.known
theorem chain_all : ([1, 2, 3, 4, 5, 6, 7].all chainB) = true := by decide +kernel
theorem chain_b {n : Nat} (h0 : 1 ≤ n) (h1 : n ≤ 7) : chainB n = true := List.all_eq_true.1 chain_all n (by simp; omega)
theorem ltF_tr {a b c : PFact} : Rising [a, b] → Rising [b, c] → True := fun _ _ => trivial
end Go.Proofs.YtgoaiohkodbadaaGreat

/-
  THE WALKS OF corotop.name, corotop.road, corotop.way, corotop.alive.
-/
namespace Go.Proofs.YtgoaiohkodbadaaGreat
open Go.RowKit

theorem RdStrs.litS {S : Nat → Prop} {w : World} {b : Nat} {t : TypeId} {l : List Str} {n : Nat} (hn : l.length = n) (hm : n ≤ maxLen) (hS : S b) (h : Blk w b t (l.map Value.string).toArray) : RdStrs S w (.slice (some ⟨b, 0, none⟩) n n) l := by
  subst hn
  refine ⟨_, _, rfl, Nat.le_refl _, hm, (fun h => by cases h), fun i x hx => ⟨b, 0, [.string x], rfl, hS, h.lt, rfl, fun j u hu => ?_, rfl⟩⟩
  rcases j with _ | j
  · obtain rfl := Option.some.inj hu
    rw [h.cell]
    simp [hx]
  · simp at hu

set_option maxRecDepth 100000 in
set_option maxHeartbeats 4000000 in
theorem townCalls (k : Nat) (hk : k ≤ 8) (w : World) : Calls Tryz.prog 43 #[.int .i64 (k : Int)] w fun e w' => e = .returned (.string (tn k)) ∧ Below w.heap.size w w' := by
  have kc : ∀ z : Int, (convert 41 9 (.slice (some ⟨w.heap.size, 0, none⟩) 1 1)).run Tryz.prog (w.alloc (.cells #[.int .u8 z] 5)) = .ok (.string (strOfNums [z])) (w.alloc (.cells #[.int .u8 z] 5)) := fun z =>
    run_convert_bytes_arg _ 41 5 Tryz.underlying41 Tryz.underlying5 w.heap.size 0 1 1 [z] rfl (fun i hi => by have h0 : i = 0 := (by omega); subst h0; rw [Nat.zero_add, new_at rfl]; rfl) 9 Tryz.underlying9
  have hc : k = 0 ∨ k = 1 ∨ k = 2 ∨ k = 3 ∨ k = 4 ∨ k = 5 ∨ k = 6 ∨ k = 7 ∨ k = 8 := by omega
  rcases hc with rfl | rfl | rfl | rfl | rfl | rfl | rfl | rfl | rfl
  all_goals
    go_enter Tryz.func43, Tryz.ntmps43
    go_wp2
    go_ret
    exact ⟨rfl, (Below.refl _ _).alloc (Nat.le_refl _) _⟩

/-- A fact of two towns that a call laid. -/
def TwoPost (nm : Str) (i j : Nat) (w : World) (e : Ending) (w' : World) : Prop :=
  ∃ b, e = .returned (.agg #[.string nm, .slice (some ⟨b, 0, none⟩) 2 2]) ∧ w.heap.size ≤ b ∧ Blk w' b 9 #[.string (tn i), .string (tn j)] ∧ Below w.heap.size w w'

set_option maxRecDepth 100000 in
set_option maxHeartbeats 4000000 in
theorem roadCalls (i j : Nat) (hi : i ≤ 8) (hj : j ≤ 8) (w : World) : Calls Tryz.prog 48 #[.int .i64 (i : Int), .int .i64 (j : Int)] w (TwoPost xroad i j w) := by
  obtain ⟨W0, hW0⟩ : ∃ W0 : World, w.alloc (.cells #[.string ⟨#[]⟩, .slice none 0 0] 27) = W0 := ⟨_, rfl⟩
  have HB0 := Lib.hid (show Below w.heap.size w W0 by subst hW0; exact (Below.refl _ _).alloc (Nat.le_refl _) _)
  have HK0 := Lib.hid (show Blk W0 w.heap.size 27 #[.string ⟨#[]⟩, .slice none 0 0] by subst hW0; exact Blk.new w _ _)
  have T1 := Lib.hid True.intro
  go_enter Tryz.func48, Tryz.ntmps48
  go_wp2_with (first
    | (go_at_call 43; have hh := HK1.out; clear hh; refine (townCalls j hj _).mono ?_; rintro e w2 ⟨rfl, hb2⟩; have HB2 := Lib.hid (HB1.out.trans (hb2.mono HB1.out.size)); have HK2 := Lib.hid (HK1.out.below hb2 HK1.out.lt); have HB3 := Lib.hid (HB2.out.alloc HB2.out.size (.cells #[.string (tn i), .string (tn j)] 9)); have HK3 := Lib.hid (HK2.out.alloc (.cells #[.string (tn i), .string (tn j)] 9)); have HN3 := Lib.hid (Blk.new w2 9 #[.string (tn i), .string (tn j)]); have c0 := HK3.out.cell 0; have c1 := HK3.out.cell 1; have z0 := HK3.out.frozen 0; have z1 := HK3.out.frozen 1; simp only [List.getElem?_toArray, List.getElem?_cons_zero, List.getElem?_cons_succ] at c0 c1; clear hb2)
    | (go_at_call 43; clear T1; refine (townCalls i hi _).mono ?_; rintro e w1 ⟨rfl, hb1⟩; have HB1 := Lib.hid (HB0.out.trans (hb1.mono HB0.out.size)); have HK1 := Lib.hid (HK0.out.below hb1 HK0.out.lt); clear hb1))
  have hlt := HK2.out.lt
  have hne : w2.heap.size ≠ w.heap.size := by omega
  refine bodyPost_ret (v := .agg #[.string xroad, .slice (some ⟨w2.heap.size, 0, none⟩) 2 2]) (by simp [results, Tryz.results48, go_sem, c0, c1]; rfl) rfl ⟨w2.heap.size, rfl, by omega, ?_, ?_⟩
  · exact (HN3.out.far (p := ⟨w.heap.size, 0, none⟩) hne _).far (p := ⟨w.heap.size, 1, none⟩) hne _
  · exact (HB3.out.setCell (Nat.le_refl _) _).setCell (Nat.le_refl _) _
set_option maxRecDepth 100000 in
set_option maxHeartbeats 4000000 in
theorem wayCalls (i j : Nat) (hi : i ≤ 8) (hj : j ≤ 8) (w : World) : Calls Tryz.prog 44 #[.int .i64 (i : Int), .int .i64 (j : Int)] w (TwoPost xway i j w) := by
  obtain ⟨W0, hW0⟩ : ∃ W0 : World, w.alloc (.cells #[.string ⟨#[]⟩, .slice none 0 0] 27) = W0 := ⟨_, rfl⟩
  have HB0 := Lib.hid (show Below w.heap.size w W0 by subst hW0; exact (Below.refl _ _).alloc (Nat.le_refl _) _)
  have HK0 := Lib.hid (show Blk W0 w.heap.size 27 #[.string ⟨#[]⟩, .slice none 0 0] by subst hW0; exact Blk.new w _ _)
  have T1 := Lib.hid True.intro
  go_enter Tryz.func44, Tryz.ntmps44
  go_wp2_with (first
    | (go_at_call 43; have hh := HK1.out; clear hh; refine (townCalls j hj _).mono ?_; rintro e w2 ⟨rfl, hb2⟩; have HB2 := Lib.hid (HB1.out.trans (hb2.mono HB1.out.size)); have HK2 := Lib.hid (HK1.out.below hb2 HK1.out.lt); have HB3 := Lib.hid (HB2.out.alloc HB2.out.size (.cells #[.string (tn i), .string (tn j)] 9)); have HK3 := Lib.hid (HK2.out.alloc (.cells #[.string (tn i), .string (tn j)] 9)); have HN3 := Lib.hid (Blk.new w2 9 #[.string (tn i), .string (tn j)]); have c0 := HK3.out.cell 0; have c1 := HK3.out.cell 1; have z0 := HK3.out.frozen 0; have z1 := HK3.out.frozen 1; simp only [List.getElem?_toArray, List.getElem?_cons_zero, List.getElem?_cons_succ] at c0 c1; clear hb2)
    | (go_at_call 43; clear T1; refine (townCalls i hi _).mono ?_; rintro e w1 ⟨rfl, hb1⟩; have HB1 := Lib.hid (HB0.out.trans (hb1.mono HB0.out.size)); have HK1 := Lib.hid (HK0.out.below hb1 HK0.out.lt); clear hb1))
  have hlt := HK2.out.lt
  have hne : w2.heap.size ≠ w.heap.size := by omega
  refine bodyPost_ret (v := .agg #[.string xway, .slice (some ⟨w2.heap.size, 0, none⟩) 2 2]) (by simp [results, Tryz.results44, go_sem, c0, c1]; rfl) rfl ⟨w2.heap.size, rfl, by omega, ?_, ?_⟩
  · exact (HN3.out.far (p := ⟨w.heap.size, 0, none⟩) hne _).far (p := ⟨w.heap.size, 1, none⟩) hne _
  · exact (HB3.out.setCell (Nat.le_refl _) _).setCell (Nat.le_refl _) _
/-- Two roads, laid as the text lays them. -/
theorem t7_lit {W : World} {b1 b2 n : Nat} (h1 : Blk W b1 9 #[.string (tn 0), .string (tn 1)]) (h2 : Blk W b2 9 #[.string (tn 1), .string (tn 2)]) (hn : W.heap.size = n) :
    RdFacts (fun _ => True) (W.alloc (.cells #[.string xroad, .slice (some ⟨b1, 0, none⟩) 2 2, .string xroad, .slice (some ⟨b2, 0, none⟩) 2 2] 27)) (.slice (some ⟨n, 0, none⟩) 2 2) t7Facts :=
  RdFacts.lit [.slice (some ⟨b1, 0, none⟩) 2 2, .slice (some ⟨b2, 0, none⟩) 2 2] rfl (by simp [maxLen]) rfl (Blk.at_ hn) fun i f v hf hv => by
    rcases i with _ | _ | i
    · obtain rfl := Option.some.inj hf
      obtain rfl := Option.some.inj hv
      exact RdStrs.lit rfl (by simp [maxLen]) (h1.alloc _)
    · obtain rfl := Option.some.inj hf
      obtain rfl := Option.some.inj hv
      exact RdStrs.lit rfl (by simp [maxLen]) (h2.alloc _)
    · simp [t7Facts] at hf
def roadsText : Str := ⟨([119, 97, 121, 40, 88, 44, 89, 41, 32, 58, 45, 32, 114, 111, 97, 100, 40, 88, 44, 89, 41, 46, 32, 119, 97, 121, 40, 88, 44, 90, 41, 32, 58, 45, 32, 119, 97, 121, 40, 88, 44, 89, 41, 44, 32, 114, 111, 97].append [100, 40, 89, 44, 90, 41, 46, 32, 99, 117, 116, 40, 88, 44, 89, 41, 32, 58, 45, 32, 116, 111, 119, 110, 40, 88, 41, 44, 32, 116, 111, 119, 110, 40, 89, 41, 44, 32, 33, 119, 97, 121, 40, 88, 44, 89, 41, 46]).toArray⟩
theorem parse_roads : parseF roadsText = (roadsP, 0, 0) := by decide +kernel
set_option maxRecDepth 100000 in
set_option maxHeartbeats 4000000 in
theorem aliveTop (w : World) : Calls Tryz.prog 40 #[] w fun e w' => e = .returned (.bool true) ∧ Below w.heap.size w w' := by
  have T1 := Lib.hid True.intro
  go_enter Tryz.func40, Tryz.ntmps40
  go_wp2_with (first
    | (go_at_call 33; have hh := HW6.out; clear hh; refine (inFact _ t7All ⟨xway, [tn 0, tn 2]⟩ _ _ HF6.out (RdStrs.lit (l := [tn 0, tn 2]) rfl (by simp [maxLen]) HW6.out) rising_t7 (by decide) (fun x hx => Nat.le_trans (args_t7 x hx) (by decide))).mono ?_; rw [mem_t7]; rintro e w7 ⟨rfl, hf7⟩; have HB7 := Lib.hid (HB6.out.trans (hf7.below.mono HB6.out.size)); clear hf7)
    | (go_at_call 44; have hh := HF5.out; clear hh; refine (wayCalls 0 2 (by decide) (by decide) _).mono ?_; rintro e w6 ⟨b6, rfl, -, hk6, hb6⟩; have HW6 := Lib.hid hk6; have HB6 := Lib.hid (HB5.out.trans (hb6.mono HB5.out.size)); have HF6 := Lib.hid (HF5.out.up hb6); clear hk6 hb6)
    | (go_at_call 46; have hh := HK4.out; clear hh; refine (naiveKnown (r := t7All) (n := 5) rfl strata_roads naive_t7 (HR4.out.up ((Below.refl _ _).alloc (Nat.le_refl _) _)) (t7_lit HK4.out HL4.out rfl) (by decide) small_roads names_roads (by decide) args_f7).mono ?_; rintro e w5 ⟨⟨a5, c5, rfl, hr5⟩, hb5⟩; have HF5 := Lib.hid hr5; have HB5 := Lib.hid ((HB4.out.alloc HB4.out.size _).trans (hb5.mono (Nat.le_trans HB4.out.size (by simp)))); have HQ5 := Lib.hid ((HQ4.out.alloc _).below hb5 (HQ4.out.alloc _).lt); have q0 := HQ5.out.cell 0; simp only [List.getElem?_toArray, List.getElem?_cons_zero] at q0; clear hr5 hb5)
    | (go_at_call 48; have hh := HK3.out; clear hh; refine (roadCalls 1 2 (by decide) (by decide) _).mono ?_; rintro e w4 ⟨b4, rfl, -, hk4, hb4⟩; have HL4 := Lib.hid hk4; have HK4 := Lib.hid (HK3.out.below hb4 HK3.out.lt); have HB4 := Lib.hid (HB3.out.trans (hb4.mono HB3.out.size)); have HR4 := Lib.hid (HR3.out.up hb4); have HQ4 := Lib.hid (HQ3.out.below hb4 HQ3.out.lt); clear hk4 hb4)
    | (go_at_call 48; have hh := HR1.out; clear hh; refine (roadCalls 0 1 (by decide) (by decide) _).mono ?_; rintro e w3 ⟨b3, rfl, -, hk3, hb3⟩; have HK3 := Lib.hid hk3; have HB3 := Lib.hid ((HB1.out.alloc HB1.out.size _).trans (hb3.mono (Nat.le_trans HB1.out.size (by simp)))); have HR3 := Lib.hid ((HR1.out.up ((Below.refl _ _).alloc (Nat.le_refl _) _)).up hb3); have HQ3 := Lib.hid (HQ1.out.below hb3 HQ1.out.lt); clear hk3 hb3)
    | (go_at_call 42; clear T1; refine (parseKnown (s := roadsText) (n := 3) (by rfl) (by decide) parse_roads _).mono ?_; rintro e w1 ⟨⟨a1, c1, rfl, hr1⟩, hb1⟩; have HR1 := Lib.hid hr1; have HB1 := Lib.hid hb1; have HQ1 := Lib.hid (Blk.new w1 65 #[.int .i64 0, .int .i64 0]); clear hr1 hb1))
  go_ret
  exact ⟨ret_bool (by simp), HB7.out⟩
/-! ### Readings -/
def RBool : Reader Bool := fun _ _ cs b => cs = [.bool b]
theorem RBool.steady : Steady RBool := ⟨fun _ h => h, fun _ h => h⟩
abbrev RdBools := RdSlice 1 RBool
theorem RdBools.at {S : Nat → Prop} {w : World} {a : Option Addr} {n cap : Nat} {l : List Bool} (h : RdBools S w (.slice a n cap) l) {i : Nat} {x : Bool} (hx : l[i]? = some x) :
    ∃ b off, a = some ⟨b, off, none⟩ ∧ S b ∧ b < w.heap.size ∧ w.cell? ⟨b, off + i, none⟩ = some (.bool x) := by
  obtain ⟨a', cap', hv, _, _, _, h3⟩ := h
  obtain ⟨b, off, cs, ha, hS, hb, hk, hc, hr⟩ := h3 i x hx
  injection hv with e1 e2 e3
  subst e1
  have hr' : cs = [.bool x] := hr
  subst hr'
  refine ⟨b, off, ha, hS, hb, ?_⟩
  have := hc 0 (.bool x) rfl
  simpa using this
end Go.Proofs.YtgoaiohkodbadaaGreat

/-
  PLAIN: what is new of what was new, or all over and over: it comes to the same; told what follows, nothing is new (chapter 6).
-/
namespace Go.Proofs.YtgoaiohkodbadaaGreat

/-- What a rule of the stratum makes of all that is known is known, or it is made of what is new. -/
def Sync (ps : List (PRule × Int)) (s : Int) (known new : List PFact) : Prop := ∀ r t, (r, t) ∈ ps → t = s → ∀ x, Derives r known x → x ∈ known ∨ Makes r known new x
theorem sync_all (ps : List (PRule × Int)) (s : Int) (known : List PFact) : Sync ps s known known := fun r t _ _ x hx => by
  by_cases h : ∃ a ∈ r.body, a.neg = false
  · obtain ⟨a, ha, hn⟩ := h
    obtain ⟨i, hi⟩ := List.mem_iff_getElem?.1 ha
    obtain ⟨m, hm, hf⟩ := hx
    refine .inr (.inl ⟨i, a, m, hi, hn, ?_, hf⟩)
    have e : pickP known known (i : Int) = fun _ => known := funext fun j => by unfold pickP; split <;> rfl
    rw [e]; exact hm
  · refine .inr (.inr ⟨fun a ha => ?_, hx⟩)
    cases hn : a.neg
    · exact absurd ⟨a, ha, hn⟩ h
    · rfl
/-- What must not be so does not turn in a step. -/
def Still (ps : List (PRule × Int)) (s : Int) (known known' : List PFact) : Prop := ∀ r t, (r, t) ∈ ps → t = s → ∀ a ∈ r.body, a.neg = true → ∀ f ∈ known', f.name = a.name → f ∈ known
theorem still_of {p : List PRule} {L : Str → Nat} (hS : Sol p L) {n : Int} {r r' : PRun} (hsub : ∀ x ∈ r.new, x ∈ r.known) (h : Stepped (withL L p) n r r') : Still (withL L p) r.stratum r.known r'.known := fun r0 t hm e a ha hn f hf hname => by
  rcases (h.mem f).1 hf with h1 | h1
  · exact h1
  · obtain ⟨r1, t1, hm1, e1, hd⟩ := h1.derives hsub
    obtain ⟨k1, k2⟩ := mem_withL.1 hm1
    obtain ⟨g1, g2⟩ := mem_withL.1 hm
    have hnm := hd.name
    have hhead : a.name ∈ headsOf p := by rw [← hname, hnm]; exact List.mem_map.2 ⟨r1, k1, rfl⟩
    have hdl : dl p a = 1 := by unfold dl; rw [if_pos ⟨hn, hhead⟩]
    have := hS.up r0 g1 a ha
    rw [hdl, ← hname, hnm] at this
    omega
/-- All that rules of the stratum make of what was known is known then. -/
theorem Stepped.all {ps : List (PRule × Int)} {n : Int} {r r' : PRun} (hy : Sync ps r.stratum r.known r.new) (h : Stepped ps n r r') {r0 : PRule} {t : Int} (hm : (r0, t) ∈ ps) (e : t = r.stratum) {x : PFact} (hd : Derives r0 r.known x) : x ∈ r'.known := by
  rcases hy r0 t hm e x hd with h1 | h1
  · exact h.sub x h1
  · exact (h.mem x).2 (.inr ⟨r0, t, hm, e, h1⟩)
theorem Stepped.sync {ps : List (PRule × Int)} {n : Int} {r r' : PRun} (hy : Sync ps r.stratum r.known r.new) (h : Stepped ps n r r') (_hst : Still ps r.stratum r.known r'.known) : Sync ps r'.stratum r'.known r'.new := by
  rcases h.how with ⟨e1, e2, -, -⟩ | ⟨e1, -, -, e2⟩
  · rw [e1, e2]; exact sync_all _ _ _
  · intro r0 t hm e x hd
    rw [e1] at e
    obtain ⟨m, ⟨t1, t2, t3, t4⟩, hf⟩ := hd
    by_cases hnew : ∃ (i : Nat) (a : PAtom) (f : PFact), r0.body[i]? = some a ∧ a.neg = false ∧ fillP a m = some f ∧ f ∈ r'.new
    · obtain ⟨i, a, f, hi, hn, hfa, hfn⟩ := hnew
      refine .inr (.inl ⟨i, a, m, hi, hn, ⟨t1, t2, t3, fun j c hc => ?_⟩, hf⟩)
      obtain ⟨g, k1, k2⟩ := t4 j c hc
      refine ⟨g, k1, ?_⟩
      unfold pickP
      by_cases ej : (j : Int) = (i : Int)
      · rw [if_pos ej]
        have ej' : j = i := by omega
        subst ej'
        rw [hi] at hc; injection hc with hc; subst hc
        rw [hfa] at k1; injection k1 with k1; subst k1
        rw [hn]
        exact (memF_iff f r'.new).2 hfn
      · rw [if_neg ej]; exact k2
    · refine .inl (h.all hy hm e ⟨m, ⟨t1, t2, t3, fun j c hc => ?_⟩, hf⟩)
      obtain ⟨g, k1, k2⟩ := t4 j c hc
      refine ⟨g, k1, ?_⟩
      cases hn : c.neg
      · rw [hn] at k2
        have hg : g ∈ r'.known := (memF_iff g r'.known).1 k2
        refine (memF_iff g r.known).2 (Classical.byContradiction fun hno => ?_)
        exact hnew ⟨j, c, g, hc, hn, k1, (e2 g).2 ⟨hg, hno⟩⟩
      · rw [hn] at k2
        show memF g r.known = false
        rw [Bool.eq_false_iff]
        intro hk
        have := (memF_iff g r'.known).2 (h.sub g ((memF_iff g r.known).1 hk))
        rw [this] at k2; cases k2
/-- A stratum: by steps, or over and over. -/
theorem sim_stratum {p : List PRule} {L : Str → Nat} (hS : Sol p L) {st : List Int} (hst : p.zip st = withL L p) (hR : Ruled st p) : ∀ {k N : Nat} {r : PRun}, RunOk st p r → r.done = false → Sync (p.zip st) r.stratum r.known r.new →
    200 < k + r.known.length → r.rounds + N ≤ 1000 → 201 - r.known.length ≤ N →
    (fixP (p.zip st) r.stratum k r.known).2 = 4 ∨ (iterP st 0 p N r).2 = 4 ∨ ((fixP (p.zip st) r.stratum k r.known) = ([], 5) ∧ iterP st 0 p N r = (zeroRun, 5)) ∨
    ((fixP (p.zip st) r.stratum k r.known).2 = 0 ∧ ∃ (j : Nat) (r' : PRun), j + r.known.length ≤ r'.known.length + 1 ∧ j ≤ N ∧ iterP st 0 p N r = iterP st 0 p (N - j) r' ∧ RunOk st p r' ∧ r'.known = (fixP (p.zip st) r.stratum k r.known).1 ∧ r'.new = r'.known ∧ r'.stratum = r.stratum + 1 ∧ r'.rounds = r.rounds + j)
  | 0, N, r, h, _, _, hk, _, _ => by have := h.known.len; omega
  | k + 1, N, r, h, hd, hy, hk, hN, hN2 => by
    have hlen := h.known.len
    obtain ⟨N, rfl⟩ : ∃ M, N = M + 1 := ⟨N - 1, by omega⟩
    have hit : iterP st 0 p (N + 1) r = if (goodStep st p r).2 ≠ 0 then (zeroRun, (goodStep st p r).2) else iterP st 0 p N (goodStep st p r).1 := by
      rw [iterP, if_neg (by rw [hd]; simp), step_good_eq h]
    have hb : ∀ r s, (r, s) ∈ p.zip st → bodyBad r.body = 0 := fun r s hm => hR.body hm
    have hset : (setF r.known).1 = 0 := by rw [h.known.set]
    have hreach : ∀ x, ReachF r.stratum r.known (p.zip st) r.known x → x ∈ r.known ∨ ∃ r0 t, (r0, t) ∈ p.zip st ∧ t = r.stratum ∧ Derives r0 r.known x := fun x hx => by
      rcases hx with hx | ⟨r0, s, hm, e, hx⟩
      · exact .inl hx
      · refine .inr ⟨r0, s, hm, e, ?_⟩
        by_cases he : (headsP r0 r.known).2 = 0
        · exact (mem_heads he x).1 hx
        · rw [(heads_err he).1] at hx; simp at hx
    rw [fixP]
    rcases step_cases hR h hd with h1 | ⟨h1, h2⟩ | ⟨h1, h2, h3⟩
    · exact .inr (.inl (by rw [hit, h1]; rfl))
    · have h5 : iterP st 0 p (N + 1) r = (zeroRun, 5) := by rw [hit, h1]; rfl
      rcases once_cases hset hb (n := r.stratum) (out := r.known) with g | ⟨g, -⟩ | ⟨g, -⟩
      · exfalso
        have hRd := once_round g h.known.rise hlen
        rcases h2 with h2 | ⟨l, l1, l2, l3⟩
        · omega
        · have := rising_sub_le (a := l) (b := (onceP r.stratum r.known (p.zip st) r.known).1) l1 fun x hx => by
            rcases (l3 x).1 hx with hx | hx
            · exact (hRd.mem x).2 (.inl hx)
            · obtain ⟨r0, t, hm, e, hdv⟩ := hx.derives h.sub
              exact (hRd.mem x).2 (.inr ⟨r0, t, hm, e, (mem_heads (hRd.ok r0 t hm e) x).2 hdv⟩)
          have := hRd.len
          omega
      · exact .inl (by rw [if_pos (by rw [g]; decide), g])
      · exact .inr (.inr (.inl ⟨by rw [if_pos (by rw [g]; decide), g], h5⟩))
    · have hiN : iterP st 0 p (N + 1) r = iterP st 0 p N (goodStep st p r).1 := by rw [hit, if_neg (by simpa using h1)]
      have hok := h3.ok hR h hd h2
      generalize goodStep st p r = rs at *
      obtain ⟨r', e'⟩ := rs
      dsimp only at h1 h3 hok hiN
      rcases once_cases hset hb (n := r.stratum) (out := r.known) with g | ⟨g, -⟩ | ⟨g, g2⟩
      · have hRd := once_round g h.known.rise hlen
        have heq : (onceP r.stratum r.known (p.zip st) r.known).1 = r'.known := rising_ext hRd.rise h3.rise fun x => by
          rw [hRd.mem]
          constructor
          · intro hx
            rcases hreach x hx with hx | ⟨r0, t, hm, e, hdv⟩
            · exact h3.sub x hx
            · exact h3.all hy hm e hdv
          · intro hx
            rcases (h3.mem x).1 hx with hx | hx
            · exact .inl hx
            · obtain ⟨r0, t, hm, e, hdv⟩ := hx.derives h.sub
              exact .inr ⟨r0, t, hm, e, (mem_heads (hRd.ok r0 t hm e) x).2 hdv⟩
        rw [if_neg (by simpa using g), heq]
        rcases h3.how with ⟨a1, a2, a3, a4⟩ | ⟨a1, a2, ⟨x, hx⟩, a4⟩
        · rw [if_pos (by rw [a1])]
          refine .inr (.inr (.inr ⟨rfl, 1, r', by rw [a1]; omega, by omega, ?_, hok, a1, by rw [a1, a2], a3, h3.rounds⟩))
          rw [hiN]; rfl
        · have hlt : r.known.length + 1 ≤ r'.known.length := by
            obtain ⟨b1, b2⟩ := (a4 x).1 hx
            have := nodup_le (l := x :: r.known) (m := r'.known) (List.nodup_cons.2 ⟨b2, nodup_rising h.known.rise⟩) fun y hy => by
              rcases List.mem_cons.1 hy with rfl | hy
              · exact b1
              · exact h3.sub y hy
            simpa using this
          rw [if_neg (by omega)]
          have hst' : Still (p.zip st) r.stratum r.known r'.known := by rw [hst] at h3 ⊢; exact still_of hS h.sub h3
          have hr := h3.rounds
          have ih := sim_stratum hS hst hR (k := k) (N := N) hok a2 (h3.sync hy hst') (by omega) (by omega) (by omega)
          rw [a1] at ih
          rw [hiN]
          rcases ih with ih | ih | ih | ⟨i0, j, r2, i1, i2, i3, i4, i5, i6, i7, i8⟩
          · exact .inl ih
          · exact .inr (.inl ih)
          · exact .inr (.inr (.inl ih))
          · refine .inr (.inr (.inr ⟨i0, j + 1, r2, by omega, by omega, ?_, i4, i5, i6, i7, by omega⟩))
            rw [i3, show N + 1 - (j + 1) = N - j by omega]
      · exact .inl (by rw [if_pos (by rw [g]; decide), g])
      · exfalso
        have := g2 r'.known h3.rise fun x hx => by
          rcases hreach x hx with hx | ⟨r0, t, hm, e, hdv⟩
          · exact h3.sub x hx
          · exact h3.all hy hm e hdv
        have := h3.len
        omega
theorem sim_run {p : List PRule} {L : Str → Nat} (hS : Sol p L) {st : List Int} (hst : p.zip st = withL L p) (hR : Ruled st p) : ∀ {k N : Nat} {r : PRun}, RunOk st p r → r.new = r.known → r.stratum + k = countP st → r.rounds + N ≤ 1000 → 200 + k ≤ N + r.known.length →
    (runP (p.zip st) k r.stratum r.known).2 = 4 ∨ (iterP st 0 p N r).2 = 4 ∨ ((runP (p.zip st) k r.stratum r.known) = ([], 5) ∧ iterP st 0 p N r = (zeroRun, 5)) ∨
    ((runP (p.zip st) k r.stratum r.known).2 = 0 ∧ (iterP st 0 p N r).2 = 0 ∧ (iterP st 0 p N r).1.known = (runP (p.zip st) k r.stratum r.known).1)
  | 0, N, r, h, hn, hk, hN, hN2 => by
    have hd : r.done = true := by rw [h.done]; simp; omega
    rw [iter_still hd]
    exact .inr (.inr (.inr ⟨rfl, rfl, rfl⟩))
  | k + 1, N, r, h, hn, hk, hN, hN2 => by
    have hd : r.done = false := by rw [h.done]; simp; omega
    have hlen := h.known.len
    have hsim := sim_stratum hS hst hR (k := 201) (N := N) h hd (by rw [hn]; exact sync_all _ _ _) (by omega) hN (by omega)
    rw [runP]
    rcases hsim with g | g | ⟨g1, g2⟩ | ⟨g0, j, r', i1, i2, i3, i4, i5, i6, i7, i8⟩
    · exact .inl (by rw [if_pos (by rw [g]; decide), g])
    · exact .inr (.inl g)
    · exact .inr (.inr (.inl ⟨by rw [if_pos (by rw [g1]; decide), g1], g2⟩))
    · rw [if_neg (by simpa using g0), i3, ← i5, ← i7]
      have hlen' := i4.known.len
      exact sim_run hS hst hR (k := k) (N := N - j) i4 i6 (by omega) (by omega) (by omega)
/-- IT COMES TO THE SAME. -/
theorem round_same {p : List PRule} {l : List PFact} {st : List Int} {q : Int × Int} (hs : StrataIs p st q) : (naiveP st q.1 p l).2 = 4 ∨ (allRun st q.1 p l).2 = 4 ∨ naiveP st q.1 p l = allRun st q.1 p l := by
  by_cases h1 : q.1 = 0
  case neg =>
    refine .inr (.inr ?_)
    unfold naiveP allRun beginP
    rw [if_pos h1, if_pos h1, if_pos h1]
  by_cases h2 : (factsBad p l).1 = 0
  case neg =>
    refine .inr (.inr ?_)
    have hb : beginP st q.1 p l = (zeroRun, (factsBad p l).1) := by unfold beginP; rw [if_neg (by simpa using h1), if_pos h2]
    unfold naiveP allRun
    rw [hb, if_neg (by simpa using h1), if_pos h2, if_pos h2]
  obtain ⟨hR, c0, c1, L, hL, e⟩ := strata_count hs h1
  have hb0 : (beginP st q.1 p l).2 = 0 := by unfold beginP; rw [if_neg (by simpa using h1), if_neg (by simpa using h2)]
  obtain ⟨-, -, b1, b2⟩ := begin_ok hs hb0
  have hst : p.zip st = withL L p := by rw [e]; exact zip_withL L p
  have hn : naiveP st q.1 p l = runP (p.zip st) (countP st).toNat 0 l := by unfold naiveP; rw [if_neg (by simpa using h1), if_neg (by simpa using h2)]
  rw [b1] at b2
  have hstep := steps_good b2 (n := 1000) (by omega) (by omega)
  have ha : allRun st q.1 p l = if (iterP st 0 p 1000 ⟨l, l, 0, 0, countP st == 0⟩).2 ≠ 0 then ([], (iterP st 0 p 1000 ⟨l, l, 0, 0, countP st == 0⟩).2) else ((iterP st 0 p 1000 ⟨l, l, 0, 0, countP st == 0⟩).1.known, 0) := by
    unfold allRun
    rw [b1, if_neg (by simp), h1]
    show (if (stepsRun st 0 p ⟨l, l, 0, 0, countP st == 0⟩ 1000).2 ≠ 0 then _ else _) = _
    rw [hstep]
    rfl
  have hsim := sim_run hL.sol hst hR (k := (countP st).toNat) (N := 1000) (r := ⟨l, l, 0, 0, countP st == 0⟩) b2 rfl (by show (0 : Int) + _ = _; omega) (by show (0 : Int) + ((1000 : Nat) : Int) ≤ 1000; omega) (by show 200 + _ ≤ 1000 + l.length; omega)
  rw [hn, ha]
  generalize iterP st 0 p 1000 ⟨l, l, 0, 0, countP st == 0⟩ = I at *
  obtain ⟨I1, I2⟩ := I
  rcases hsim with g | g | ⟨g1, g2⟩ | ⟨g1, g2, g3⟩
  · exact .inl g
  · have g : I2 = 4 := g
    subst g
    exact .inr (.inl rfl)
  · refine .inr (.inr ?_)
    have e1 : runP (p.zip st) (countP st).toNat 0 l = ([], 5) := g1
    rw [e1, g2]; rfl
  · refine .inr (.inr ?_)
    have g2 : I2 = 0 := g2
    subst g2
    have g1 : (runP (p.zip st) (countP st).toNat 0 l).2 = 0 := g1
    have g3 : I1.known = (runP (p.zip st) (countP st).toNat 0 l).1 := g3
    show _ = (I1.known, (0 : Int))
    rw [g3]
    exact Prod.ext rfl g1
/-- Of rules that ask for nothing not to be so: what a run knows that is done is closed. -/
structure Toward (st : List Int) (p : List PRule) (r : PRun) : Prop where
  ok : RunOk st p r
  on : r.done = false → r.stratum = 0 ∧ Sync (p.zip st) 0 r.known r.new
  closed : r.done = true → ∀ x0 ∈ p, ∀ x, Derives x0 r.known x → x ∈ r.known
theorem all_zero {p : List PRule} (hp : Plain p) {L : Str → Nat} (hL : Least p L) : L = fun _ => 0 := hL.unique (least_plain hp)
theorem zero_zip {p : List PRule} {x : PRule} (h : x ∈ p) : (x, (0 : Int)) ∈ withL (fun _ => 0) p := mem_withL.2 ⟨h, rfl⟩
theorem Toward.iter {p : List PRule} {st : List Int} (hR : Ruled st p) (hst : p.zip st = withL (fun _ => 0) p) (hS : Sol p fun _ => 0) (hc : countP st ≤ 1) : ∀ {n : Nat} {r : PRun}, Toward st p r → (iterP st 0 p n r).2 = 0 → Toward st p (iterP st 0 p n r).1
  | 0, r, h, _ => h
  | n + 1, r, h, hz => by
    cases hd : r.done
    case true => rw [iter_still hd]; exact h
    rw [iterP, if_neg (by rw [hd]; simp), step_good_eq h.ok] at hz ⊢
    rcases step_cases hR h.ok hd with h1 | ⟨h1, -⟩ | ⟨h1, h2, h3⟩
    · rw [h1] at hz; exact absurd hz (by simp)
    · rw [h1] at hz; exact absurd hz (by simp)
    rw [if_neg (by simpa using h1)] at hz ⊢
    refine Toward.iter hR hst hS hc ⟨h3.ok hR h.ok hd h2, ?_, ?_⟩ hz
    · intro hd'
      obtain ⟨s0, hy⟩ := h.on hd
      rw [← s0] at hy
      have hstl : Still (p.zip st) r.stratum r.known (goodStep st p r).1.known := by rw [hst] at h3 ⊢; exact still_of hS h.ok.sub h3
      have hsy := h3.sync hy hstl
      rcases h3.how with ⟨a1, a2, a3, a4⟩ | ⟨a1, a2, a3, a4⟩
      · exfalso
        have hok := h3.ok hR h.ok hd h2
        have k1 := hok.done
        rw [hd'] at k1
        have k2 : (goodStep st p r).1.stratum ≠ countP st := by simpa using k1.symm
        have k3 := hok.s1
        omega
      · rw [a1, s0] at hsy ⊢; exact ⟨rfl, hsy⟩
    · intro hd' x0 hx0 x hx
      obtain ⟨s0, hy⟩ := h.on hd
      rcases h3.how with ⟨a1, a2, a3, a4⟩ | ⟨a1, a2, a3, a4⟩
      · rw [a1] at hx
        rw [← s0] at hy
        exact h3.all hy (r0 := x0) (t := 0) (by rw [hst]; exact zero_zip hx0) s0.symm hx
      · rw [a2] at hd'; cases hd'
theorem plain_count {p : List PRule} {st : List Int} (e : st = p.map fun _ => (0 : Int)) : countP st ≤ 1 ∧ (p ≠ [] → countP st = 1) ∧ (p = [] → countP st = 0) := by
  rcases count_is st with ⟨h, k⟩ | ⟨x, hx, k⟩
  · refine ⟨by omega, fun hp => ?_, fun _ => k⟩
    rw [h] at e
    exact absurd (List.map_eq_nil_iff.1 e.symm) hp
  · rw [e] at hx
    obtain ⟨y, hy, rfl⟩ := List.mem_map.1 hx
    refine ⟨by omega, fun _ => by omega, fun hp => ?_⟩
    rw [hp] at hy; simp at hy
/-- TOLD WHAT FOLLOWS, NOTHING IS NEW. -/
theorem round_told {p : List PRule} (hp : Plain p) {l : List PFact} {st : List Int} {q : Int × Int} (hs : StrataIs p st q) (h : (allRun st q.1 p l).2 = 0) :
    allRun st q.1 p (allRun st q.1 p l).1 = ((allRun st q.1 p l).1, 0) ∨ (allRun st q.1 p (allRun st q.1 p l).1).2 = 4 := by
  have hb0 : (beginP st q.1 p l).2 = 0 := by
    unfold allRun at h
    by_cases hb : (beginP st q.1 p l).2 = 0
    · exact hb
    · rw [if_pos hb] at h; exact absurd h hb
  obtain ⟨h1, h2, b1, b2⟩ := begin_ok hs hb0
  obtain ⟨hR, c0, c1, L, hL, e⟩ := strata_count hs h1
  obtain rfl := all_zero hp hL
  have hst : p.zip st = withL (fun _ => 0) p := by rw [e]; exact zip_withL (fun _ => 0) p
  obtain ⟨cc, cp, cn⟩ := plain_count (p := p) (st := st) e
  rw [b1] at b2
  have hall : ∀ k : List PFact, RunOk st p ⟨k, k, 0, 0, countP st == 0⟩ → (factsBad p k).1 = 0 → allRun st q.1 p k = if (iterP st 0 p 1000 ⟨k, k, 0, 0, countP st == 0⟩).2 ≠ 0 then ([], (iterP st 0 p 1000 ⟨k, k, 0, 0, countP st == 0⟩).2) else ((iterP st 0 p 1000 ⟨k, k, 0, 0, countP st == 0⟩).1.known, 0) := fun k hk hf => by
    have hstep := steps_good hk (n := 1000) (by omega) (by omega)
    have hbe : beginP st q.1 p k = (⟨k, k, 0, 0, countP st == 0⟩, 0) := by unfold beginP; rw [if_neg (by simpa using h1), if_neg (by simpa using hf)]
    unfold allRun
    rw [hbe, if_neg (by simp), h1]
    show (if (stepsRun st 0 p ⟨k, k, 0, 0, countP st == 0⟩ 1000).2 ≠ 0 then _ else _) = _
    rw [hstep]
    rfl
  have hend := steps_end hR c1 b2
  rw [steps_good b2 (by omega) (by omega)] at hend
  have hz : (iterP st 0 p 1000 ⟨l, l, 0, 0, countP st == 0⟩).2 = 0 := by
    rw [hall l b2 h2] at h
    by_cases hz : (iterP st 0 p 1000 ⟨l, l, 0, 0, countP st == 0⟩).2 = 0
    · exact hz
    · rw [if_pos hz] at h; exact absurd h hz
  have hM : (allRun st q.1 p l).1 = (iterP st 0 p 1000 ⟨l, l, 0, 0, countP st == 0⟩).1.known := by rw [hall l b2 h2, if_neg (by simpa using hz)]
  have hT : Toward st p (iterP st 0 p 1000 ⟨l, l, 0, 0, countP st == 0⟩).1 := by
    refine Toward.iter hR hst hL.sol cc ⟨b2, fun _ => ⟨rfl, sync_all _ _ _⟩, fun hd => ?_⟩ hz
    have hd : (countP st == 0) = true := hd
    have hc0 : countP st = 0 := by simpa using hd
    have hpn : p = [] := Classical.byContradiction fun hne => by have := cp hne; omega
    rw [hpn]; intro x0 hx0; simp at hx0
  have hdone : (iterP st 0 p 1000 ⟨l, l, 0, 0, countP st == 0⟩).1.done = true := by
    have hend' : (iterP st 0 p (1000 : Int).toNat ⟨l, l, 0, 0, countP st == 0⟩).2 = 4 ∨ (iterP st 0 p (1000 : Int).toNat ⟨l, l, 0, 0, countP st == 0⟩).2 = 5 ∨ (iterP st 0 p (1000 : Int).toNat ⟨l, l, 0, 0, countP st == 0⟩).2 = 0 ∧ _ := hend
    rw [show (1000 : Int).toNat = 1000 from rfl] at hend'
    rcases hend' with g | g | ⟨-, -, g⟩
    · rw [hz] at g; cases g
    · rw [hz] at g; cases g
    · exact g
  rw [hM]
  have hok := hT.ok
  have hcl := hT.closed hdone
  generalize (iterP st 0 p 1000 ⟨l, l, 0, 0, countP st == 0⟩).1 = R at hok hcl
  have hk2 : RunOk st p ⟨R.known, R.known, 0, 0, countP st == 0⟩ := ⟨hok.known, hok.fit, hok.known, by show (0 : Int) ≤ 0; omega, by show (0 : Int) ≤ 1000; omega, by show (0 : Int) ≤ 0; omega, c0, by show (countP st == 0) = ((0 : Int) == countP st); rw [Bool.beq_comm], fun x hx => hx⟩
  rw [hall R.known hk2 hok.fit]
  cases hd : (countP st == 0)
  case true =>
    rw [iter_still rfl, if_neg (by simp)]
    exact .inl rfl
  rw [hd] at hk2
  have hc1 : countP st = 1 := by
    have : ¬ countP st = 0 := by simpa using hd
    omega
  have hmk : ∀ x, MakesS (p.zip st) 0 R.known R.known x → x ∈ R.known := fun x hx => by
    obtain ⟨r0, t, hm, -, hdv⟩ := hx.derives fun y hy => hy
    exact hcl r0 (List.of_mem_zip hm).1 x hdv
  have hit : iterP st 0 p 1000 ⟨R.known, R.known, 0, 0, false⟩ = if (goodStep st p ⟨R.known, R.known, 0, 0, false⟩).2 ≠ 0 then (zeroRun, (goodStep st p ⟨R.known, R.known, 0, 0, false⟩).2) else iterP st 0 p 999 (goodStep st p ⟨R.known, R.known, 0, 0, false⟩).1 := by
    show iterP st 0 p (999 + 1) _ = _
    rw [iterP, if_neg (by simp), step_good_eq hk2]
  rcases step_cases hR hk2 rfl with g | ⟨g, g2 | ⟨k, g2, g3, g4⟩⟩ | ⟨g1, g2, g3⟩
  · right
    rw [hit, g]; rfl
  · exact absurd g2 (by show ¬ (0 : Int) = 1000; omega)
  · exfalso
    have := rising_sub_le (a := k) (b := R.known) g2 fun x hx => by
      rcases (g4 x).1 hx with hx | hx
      · exact hx
      · exact hmk x hx
    have := hok.known.len
    omega
  · left
    have hit2 : iterP st 0 p 1000 ⟨R.known, R.known, 0, 0, false⟩ = iterP st 0 p 999 (goodStep st p ⟨R.known, R.known, 0, 0, false⟩).1 := by rw [hit, if_neg (by simpa using g1)]
    rw [hit2]
    generalize (goodStep st p ⟨R.known, R.known, 0, 0, false⟩).1 = r' at g3
    rcases g3.how with ⟨a1, a2, a3, a4⟩ | ⟨a1, a2, ⟨x, hx⟩, a4⟩
    · have hd' : r'.done = true := by rw [a4, hc1]; rfl
      rw [iter_still hd', if_neg (by simp), a1]
    · exfalso
      obtain ⟨b1, b2⟩ := (a4 x).1 hx
      rcases (g3.mem x).1 b1 with b | b
      · exact b2 b
      · exact b2 (hmk x b)
end Go.Proofs.YtgoaiohkodbadaaGreat

/-
  PLAIN: what round.All answers is small and good.
-/
namespace Go.Proofs.YtgoaiohkodbadaaGreat

theorem all_zero2 {p : List PRule} {st : List Int} {q : Int} {l : List PFact} (h : (allRun st q p l).2 = 0) : (beginP st q p l).2 = 0 ∧ (stepsRun st q p (beginP st q p l).1 1000).2 = 0 ∧ (allRun st q p l).1 = (stepsRun st q p (beginP st q p l).1 1000).1.known := by
  unfold allRun at *
  by_cases h1 : (beginP st q p l).2 = 0
  case neg => rw [if_pos h1] at h; exact absurd h h1
  rw [if_neg (by simpa using h1)] at h ⊢
  by_cases h2 : (stepsRun st q p (beginP st q p l).1 1000).2 = 0
  case neg => rw [if_pos h2] at h; exact absurd h h2
  rw [if_neg (by simpa using h2)]
  exact ⟨h1, h2, rfl⟩
theorem all_none {p : List PRule} {st : List Int} {q : Int} {l : List PFact} (h : (allRun st q p l).2 ≠ 0) : (allRun st q p l).1 = [] := by
  unfold allRun at *
  by_cases h1 : (beginP st q p l).2 = 0
  case neg => rw [if_pos h1]
  rw [if_neg (by simpa using h1)] at h ⊢
  by_cases h2 : (stepsRun st q p (beginP st q p l).1 1000).2 = 0
  case neg => rw [if_pos h2]
  rw [if_neg (by simpa using h2)] at h
  exact absurd rfl h
theorem all_good {p : List PRule} {st : List Int} {q : Int × Int} (hs : StrataIs p st q) {l : List PFact} (h : (allRun st q.1 p l).2 = 0) : Good (allRun st q.1 p l).1 := by
  obtain ⟨h1, h2, h3⟩ := all_zero2 h
  obtain ⟨hq, -, -, hok⟩ := begin_ok hs h1
  obtain ⟨hR, -, hc, -⟩ := strata_count hs hq
  rw [h3]
  rw [hq] at h2 hok ⊢
  rcases steps_end hR hc hok with g | g | ⟨-, g, -⟩
  · rw [h2] at g; cases g
  · rw [h2] at g; cases g
  · exact g.known
theorem all_small {p : List PRule} {st : List Int} {q : Int × Int} (hs : StrataIs p st q) {l : List PFact} : (allRun st q.1 p l).1.length ≤ 1048576 ∧ ∀ x ∈ (allRun st q.1 p l).1, x.args.length ≤ 1048576 := by
  by_cases h : (allRun st q.1 p l).2 = 0
  · have hg := all_good hs h
    exact ⟨by have := hg.len; omega, fun x hx => by have := (wrongF_zero.1 (hg.fine x hx)).2.1; omega⟩
  · rw [all_none h]; exact ⟨by simp, fun x hx => by simp at hx⟩
end Go.Proofs.YtgoaiohkodbadaaGreat

/-
  PLAIN: rules that make no more than a few facts of a few: nothing is too much.
-/
namespace Go.Proofs.YtgoaiohkodbadaaGreat

def posN (b : List PAtom) : Nat := (b.filter fun a => !a.neg).length
theorem step_len {a : PAtom} {fs : List PFact} : ∀ ls : List Binds, (stepP ls a fs).length ≤ ls.length * fs.length
  | [] => by simp [stepP]
  | l :: ls => by
    have h := step_len (a := a) (fs := fs) ls
    unfold stepP at h ⊢
    rw [List.flatMap_cons, List.length_append, List.length_cons, Nat.add_mul, Nat.one_mul]
    have := List.length_filterMap_le (fun f => meetP a f l) fs
    omega
theorem goP_fits {pick : Nat → List PFact} {K : Nat} (hK : ∀ i, (pick i).length ≤ K) (h1 : 1 ≤ K) : ∀ (body : List PAtom) (i : Nat) (ls : List Binds), ls.length * K ^ posN body ≤ 20000 → ∃ out, goP pick i ls body = some out
  | [], i, ls, _ => ⟨ls, rfl⟩
  | a :: b, i, ls, h => by
    rw [goP]
    by_cases hn : a.neg = true
    · rw [if_pos hn]
      refine goP_fits hK h1 b (i + 1) ls ?_
      have e : posN (a :: b) = posN b := by unfold posN; rw [List.filter_cons, if_neg (by simp [hn])]
      rwa [e] at h
    · rw [if_neg hn]
      have e : posN (a :: b) = posN b + 1 := by unfold posN; rw [List.filter_cons, if_pos (by simp [hn])]; rfl
      rw [e, Nat.pow_succ, Nat.mul_comm (K ^ posN b) K, ← Nat.mul_assoc] at h
      have h2 : (stepP ls a (pick i)).length ≤ ls.length * K := Nat.le_trans (step_len ls) (Nat.mul_le_mul_left _ (hK i))
      have h3 : (stepP ls a (pick i)).length * K ^ posN b ≤ 20000 := Nat.le_trans (Nat.mul_le_mul_right _ h2) h
      have h4 : 1 ≤ K ^ posN b := Nat.one_le_pow _ _ h1
      have h5 : (stepP ls a (pick i)).length ≤ 20000 := Nat.le_trans (Nat.le_trans (Nat.le_of_eq (Nat.mul_one _).symm) (Nat.mul_le_mul_left _ h4)) h3
      rw [if_neg (by omega)]
      exact goP_fits hK h1 b (i + 1) _ h3
theorem with_fits {body : List PAtom} {facts other : List PFact} {at' : Int} (hb : bodyBad body = 0) (hf : (setF facts).1 = 0) (ho : (setF other).1 = 0) (l1 : facts.length ≤ 140) (l2 : other.length ≤ 140) (hp : posN body ≤ 2) : (withP body facts at' other).2 = 0 := by
  unfold withP
  rw [if_neg (by simpa using hb), if_neg (by simpa using hf), if_neg (by simpa using ho)]
  obtain ⟨out, h⟩ := goP_fits (pick := pickP facts other at') (K := 140) (fun i => by unfold pickP; split <;> assumption) (by decide) body 0 [[]] (by
    have h2 : (140 : Nat) ^ posN body ≤ 140 ^ 2 := Nat.pow_le_pow_right (by decide) hp
    show 1 * 140 ^ posN body ≤ 20000
    rw [Nat.one_mul]
    exact Nat.le_trans h2 (by decide))
  rw [h]
/-- Rules, and few facts that they make no more of. -/
structure FitU (p : List PRule) (U : List PFact) : Prop where
  rules : ∀ r ∈ p, ruleBad r = 0 ∧ posN r.body ≤ 2
  few : U.length ≤ 140
  fine : ∀ x ∈ U, wrongF x = 0
  closed : ∀ r ∈ p, ∀ (O : List PFact) (x : PFact), (∀ y ∈ O, y ∈ U) → Derives r O x → x ∈ U
def InU (U l : List PFact) : Prop := Rising l ∧ ∀ x ∈ l, x ∈ U
section
variable {p : List PRule} {U : List PFact}
theorem InU.len (hF : FitU p U) {l : List PFact} (h : InU U l) : l.length ≤ 140 := Nat.le_trans (nodup_le (nodup_rising h.1) h.2) hF.few
theorem InU.good (hF : FitU p U) {l : List PFact} (h : InU U l) : Good l := ⟨h.1, by have := h.len hF; omega, fun x hx => hF.fine x (h.2 x hx)⟩
theorem InU.set (hF : FitU p U) {l : List PFact} (h : InU U l) : (setF l).1 = 0 := by rw [(h.good hF).set]
theorem all_fits (hF : FitU p U) {l : List PFact} (h : InU U l) {r : PRule} (hr : r ∈ p) : (allP r.body l).2 = 0 :=
  with_fits (ruleBad_zero (hF.rules r hr).1).2.2.1 (h.set hF) (by rw [setF_nil]) (h.len hF) (by simp) (hF.rules r hr).2
theorem heads_fits (hF : FitU p U) {l : List PFact} (h : InU U l) {r : PRule} (hr : r ∈ p) : (headsP r l).2 = 0 ∧ InU U (headsP r l).1 := by
  have h0 : (headsP r l).2 = 0 := by unfold headsP; rw [if_neg (by rw [all_fits hF h hr]; simp)]
  exact ⟨h0, heads_rising r l, fun x hx => hF.closed r hr l x h.2 ((mem_heads h0 x).1 hx)⟩
theorem join_in {a b : List PFact} (ha : ∀ x ∈ a, x ∈ U) (hb : ∀ x ∈ b, x ∈ U) : InU U (joinF a b) := ⟨ofF_rising _, fun x hx => ((mem_joinF a b x).1 hx).elim (ha x) (hb x)⟩
theorem once_fits (hF : FitU p U) {n : Int} {l : List PFact} (h : InU U l) : ∀ {ps : List (PRule × Int)} {out : List PFact}, (∀ r s, (r, s) ∈ ps → r ∈ p) → InU U out → (onceP n l ps out).2 = 0 ∧ InU U (onceP n l ps out).1
  | [], out, _, ho => ⟨rfl, ho⟩
  | (r, s) :: ps, out, hp, ho => by
    have hp' : ∀ r s, (r, s) ∈ ps → r ∈ p := fun r s hm => hp r s (by simp [hm])
    rw [onceP]
    split
    · exact once_fits hF h hp' ho
    · obtain ⟨h1, h2⟩ := heads_fits hF h (hp r s (by simp))
      have hj := join_in ho.2 h2.2
      rw [if_neg (by rw [h1]; simp), if_neg (by have := hj.len hF; omega)]
      exact once_fits hF h hp' hj
theorem fix_fits (hF : FitU p U) {ps : List (PRule × Int)} (hp : ∀ r s, (r, s) ∈ ps → r ∈ p) {n : Int} : ∀ {k : Nat} {out : List PFact}, InU U out → (fixP ps n k out).2 = 0 ∧ InU U (fixP ps n k out).1
  | 0, out, ho => ⟨rfl, ho⟩
  | k + 1, out, ho => by
    obtain ⟨h1, h2⟩ := once_fits hF (n := n) ho hp ho
    rw [fixP, if_neg (by rw [h1]; simp)]
    split
    · exact ⟨rfl, ho⟩
    · exact fix_fits hF hp h2
theorem run_fits (hF : FitU p U) {ps : List (PRule × Int)} (hp : ∀ r s, (r, s) ∈ ps → r ∈ p) : ∀ {k : Nat} {i : Int} {out : List PFact}, InU U out → (runP ps k i out).2 = 0 ∧ InU U (runP ps k i out).1
  | 0, i, out, ho => ⟨rfl, ho⟩
  | k + 1, i, out, ho => by
    obtain ⟨h1, h2⟩ := fix_fits hF hp (n := i) (k := 201) ho
    rw [runP, if_neg (by rw [h1]; simp)]
    exact run_fits hF hp h2
/-- All that follows lies among them. -/
theorem naive_fits (hF : FitU p U) {st : List Int} {l : List PFact} (h : InU U l) (hl : (factsBad p l).1 = 0) : (naiveP st 0 p l).2 = 0 ∧ InU U (naiveP st 0 p l).1 := by
  unfold naiveP
  rw [if_neg (by simp), if_neg (by simpa using hl)]
  exact run_fits hF (fun r s hm => (List.of_mem_zip hm).1) h
/-! ### Rounds -/
theorem newP_fits (hF : FitU p U) {x : PRule} (hx : x ∈ p) {known new : List PFact} (hk : InU U known) (hn : InU U new) : ∀ (b : List PAtom) (i : Nat) (out : List PFact) (sm : Bool), (newP x known new i b out sm).2 = 0
  | [], i, out, sm => by
    rw [newP]
    split
    · rfl
    · exact (heads_fits hF hk hx).1
  | a :: b, i, out, sm => by
    rw [newP]
    split
    · exact newP_fits hF hx hk hn b _ _ _
    · rw [if_neg (by rw [with_fits (ruleBad_zero (hF.rules x hx).1).2.2.1 (hk.set hF) (hn.set hF) (hk.len hF) (hn.len hF) (hF.rules x hx).2]; simp)]
      exact newP_fits hF hx hk hn b _ _ _
theorem make_fits (hF : FitU p U) {s : Int} {known new : List PFact} (hk : InU U known) (hn : InU U new) : ∀ {ps : List (PRule × Int)} {made : List PFact}, (∀ r t, (r, t) ∈ ps → r ∈ p) → (makeP s known new ps made).2 = 0
  | [], made, _ => rfl
  | (r, t) :: ps, made, hp => by
    have hp' : ∀ r t, (r, t) ∈ ps → r ∈ p := fun r s hm => hp r s (by simp [hm])
    rw [makeP]
    split
    · exact make_fits hF hk hn hp'
    · rw [if_neg (by unfold newHeads; rw [newP_fits hF (hp r t (by simp)) hk hn]; simp)]
      exact make_fits hF hk hn hp'
structure RunFit (st : List Int) (p : List PRule) (U : List PFact) (r : PRun) : Prop where
  ok : RunOk st p r
  known : InU U r.known
  rounds : r.rounds ≤ r.known.length + r.stratum
theorem RunFit.new {st : List Int} {r : PRun} (h : RunFit st p U r) : InU U r.new := ⟨h.ok.new.rise, fun x hx => h.known.2 x (h.ok.sub x hx)⟩
theorem RunFit.step (hF : FitU p U) {st : List Int} (hR : Ruled st p) (hc : countP st ≤ 16) {r : PRun} (h : RunFit st p U r) (hd : r.done = false) : (goodStep st p r).2 = 0 ∧ RunFit st p U (goodStep st p r).1 ∧ Stepped (p.zip st) (countP st) r (goodStep st p r).1 := by
  have hm := make_fits hF h.known h.new (s := r.stratum) (ps := p.zip st) (made := []) (fun r t hm => (List.of_mem_zip hm).1)
  have hl := h.known.len hF
  have hr1 : r.rounds ≠ 1000 := by have := h.rounds; have := h.ok.s1; omega
  have hin : ∀ x, x ∈ r.known ∨ MakesS (p.zip st) r.stratum r.known r.new x → x ∈ U := fun x hx => by
    rcases hx with hx | hx
    · exact h.known.2 x hx
    · obtain ⟨r1, t1, hm1, -, hd1⟩ := hx.derives h.ok.sub
      exact hF.closed r1 (List.of_mem_zip hm1).1 _ x h.known.2 hd1
  rcases step_cases hR h.ok hd with h1 | ⟨h1, h2 | ⟨l, h2, h3, h4⟩⟩ | ⟨h1, h2, h3⟩
  · exfalso
    unfold goodStep at h1
    rw [if_neg (by rw [hd]; simp), if_neg hr1, if_neg (by rw [hm]; simp)] at h1
    split at h1
    · injection h1 with _ h2; exact absurd h2 (by decide)
    · injection h1 with _ h2; exact absurd h2 (by decide)
  · exact absurd h2 hr1
  · have := InU.len hF (l := l) ⟨h2, fun x hx => hin x ((h4 x).1 hx)⟩
    omega
  · refine ⟨h1, ⟨h3.ok hR h.ok hd h2, ⟨h3.rise, fun x hx => hin x ((h3.mem x).1 hx)⟩, ?_⟩, h3⟩
    have hrd := h.rounds
    have hr2 := h3.rounds
    rcases h3.how with ⟨e, -, e2, -⟩ | ⟨e, -, ⟨x, hx⟩, e2⟩
    · rw [e, e2]; omega
    · rw [e]
      obtain ⟨a, b⟩ := (e2 x).1 hx
      have := nodup_le (l := x :: r.known) (m := (goodStep st p r).1.known) (List.nodup_cons.2 ⟨b, nodup_rising h.known.1⟩) fun y hy => by
        rcases List.mem_cons.1 hy with rfl | hy
        · exact a
        · exact h3.sub y hy
      simp only [List.length_cons] at this
      omega
theorem RunFit.iter (hF : FitU p U) {st : List Int} (hR : Ruled st p) (hc : countP st ≤ 16) : ∀ {n : Nat} {r : PRun}, RunFit st p U r → (iterP st 0 p n r).2 = 0 ∧ RunFit st p U (iterP st 0 p n r).1
  | 0, r, h => ⟨rfl, h⟩
  | n + 1, r, h => by
    cases hd : r.done
    case true => rw [iter_still hd]; exact ⟨rfl, h⟩
    obtain ⟨h1, h2, -⟩ := h.step hF hR hc hd
    rw [iterP, if_neg (by rw [hd]; simp), step_good_eq h.ok, if_neg (by simpa using h1)]
    exact RunFit.iter hF hR hc h2
/-- All rounds: to the same end. -/
theorem rounds_fit (hF : FitU p U) {st : List Int} {q : Int × Int} (hs : StrataIs p st q) (hq : q.1 = 0) {l : List PFact} (h : InU U l) (hl : (factsBad p l).1 = 0) : (allRun st q.1 p l).2 = 0 ∧ allRun st q.1 p l = naiveP st q.1 p l := by
  obtain ⟨hR, -, hc, -⟩ := strata_count hs hq
  have hbe : beginP st q.1 p l = (⟨l, l, 0, 0, countP st == 0⟩, 0) := by unfold beginP; rw [if_neg (by simpa using hq), if_neg (by simpa using hl)]
  obtain ⟨-, -, -, hok⟩ := begin_ok hs (l := l) (by rw [hbe])
  rw [hbe] at hok
  have hfit : RunFit st p U ⟨l, l, 0, 0, countP st == 0⟩ := ⟨hok, h, by show (0 : Int) ≤ (l.length : Int) + 0; omega⟩
  obtain ⟨h1, -⟩ := hfit.iter hF hR hc (n := (1000 : Int).toNat)
  have h0 : (allRun st q.1 p l).2 = 0 := by
    unfold allRun
    rw [hbe, if_neg (by simp)]
    dsimp only
    rw [hq, steps_good hok (by omega) (by omega), if_neg (by simpa using h1)]
  refine ⟨h0, ?_⟩
  rcases round_same (l := l) hs with e | e | e
  · rw [hq, (naive_fits hF h hl).1] at e; cases e
  · rw [h0] at e; cases e
  · exact e.symm
end
end Go.Proofs.YtgoaiohkodbadaaGreat

/-
  PLAIN: what leads where among a few towns, by going on and on; a table of that.
-/
namespace Go.Proofs.YtgoaiohkodbadaaGreat

section
variable (ps : List (Nat × Nat)) (n : Nat)
def edgeB (a b : Nat) : Bool := decide ((a, b) ∈ ps)
/-- In at most k steps. -/
def reachK : Nat → Nat → Nat → Bool
  | 0, _, _ => false
  | k + 1, a, c => reachK k a c || edgeB ps a c || (List.range n).any fun b => reachK k a b && edgeB ps b c
end
variable {ps : List (Nat × Nat)} {n : Nat}
theorem reach_succ {k a c : Nat} : reachK ps n (k + 1) a c = true ↔ reachK ps n k a c = true ∨ edgeB ps a c = true ∨ ∃ b, b < n ∧ reachK ps n k a b = true ∧ edgeB ps b c = true := by
  rw [reachK]
  simp only [Bool.or_eq_true, List.any_eq_true, List.mem_range, Bool.and_eq_true, or_assoc]
theorem reach_mono {k a c : Nat} (h : reachK ps n k a c = true) : ∀ j, reachK ps n (k + j) a c = true
  | 0 => h
  | j + 1 => reach_succ.2 (.inl (reach_mono h j))
theorem bool_iff {a b : Bool} (h : a = true ↔ b = true) : a = b := by cases a <;> cases b <;> simp_all
theorem reach_still {k a : Nat} (h : ∀ c, c < n → reachK ps n (k + 1) a c = reachK ps n k a c) : ∀ j c, c < n → reachK ps n (k + j) a c = reachK ps n k a c
  | 0, _, _ => rfl
  | j + 1, c, hc => bool_iff (by
    constructor
    · intro h1
      rw [← h c hc]
      rcases reach_succ.1 h1 with h2 | h2 | ⟨b, hb, h2, h3⟩
      · exact reach_succ.2 (.inl (by rw [← reach_still h j c hc]; exact h2))
      · exact reach_succ.2 (.inr (.inl h2))
      · exact reach_succ.2 (.inr (.inr ⟨b, hb, by rw [← reach_still h j b hb]; exact h2, h3⟩))
    · intro h1; exact reach_mono h1 (j + 1))
theorem filter_lt {α : Type} {p q : α → Bool} : ∀ {l : List α}, (∀ x ∈ l, p x = true → q x = true) → (∃ x ∈ l, q x = true ∧ p x = false) → (l.filter p).length < (l.filter q).length
  | [], _, ⟨x, hx, _⟩ => by cases hx
  | y :: l, h, ⟨x, hx, hq, hp⟩ => by
    have hle : (l.filter p).length ≤ (l.filter q).length := by
      have main : ∀ (l : List α), (∀ x ∈ l, p x = true → q x = true) → (l.filter p).length ≤ (l.filter q).length := by
        intro l
        induction l with
        | nil => intro _; simp
        | cons z l ih =>
          intro h
          have h1 := ih fun x hx => h x (by simp [hx])
          rw [List.filter_cons, List.filter_cons]
          cases hz : p z
          · cases hz2 : q z
            · exact h1
            · simp only [if_true, List.length_cons]; simp; omega
          · rw [h z (by simp) hz]; simp; omega
      exact main l fun x hx => h x (by simp [hx])
    rcases List.mem_cons.1 hx with rfl | hx
    · rw [List.filter_cons, List.filter_cons, hp, hq]
      simp
      omega
    · have h1 := filter_lt (l := l) (fun x hx => h x (by simp [hx])) ⟨x, hx, hq, hp⟩
      rw [List.filter_cons, List.filter_cons]
      cases hz : p y
      · cases hz2 : q y
        · exact h1
        · simp; omega
      · rw [h y (by simp) hz]; simp; omega
theorem reach_stops (a : Nat) : ∃ k, k ≤ n ∧ ∀ c, c < n → reachK ps n (k + 1) a c = reachK ps n k a c := by
  refine Classical.byContradiction fun hno => ?_
  have hgrow : ∀ k, k ≤ n → ∃ c, c < n ∧ reachK ps n (k + 1) a c = true ∧ reachK ps n k a c = false := fun k hk => by
    refine Classical.byContradiction fun h1 => hno ⟨k, hk, fun c hc => ?_⟩
    cases h2 : reachK ps n k a c
    · cases h3 : reachK ps n (k + 1) a c
      · rfl
      · exact absurd ⟨c, hc, h3, h2⟩ h1
    · exact reach_mono h2 1
  have hcount : ∀ k, k ≤ n + 1 → k ≤ ((List.range n).filter (reachK ps n k a)).length := by
    intro k
    induction k with
    | zero => intro _; exact Nat.zero_le _
    | succ k ih =>
      intro hk
      have h1 := ih (by omega)
      obtain ⟨c, hc, h2, h3⟩ := hgrow k (by omega)
      have h4 := filter_lt (p := reachK ps n k a) (q := reachK ps n (k + 1) a) (l := List.range n) (fun x _ hx => reach_mono hx 1) ⟨c, List.mem_range.2 hc, h2, h3⟩
      omega
  have h1 := hcount (n + 1) (Nat.le_refl _)
  have h2 := List.length_filter_le (reachK ps n (n + 1) a) (List.range n)
  rw [List.length_range] at h2
  omega
/-- More than n steps are of no use. -/
theorem reach_full {a c : Nat} (hc : c < n) (j : Nat) : reachK ps n (n + j) a c = reachK ps n n a c := by
  obtain ⟨k, hk, h⟩ := reach_stops (ps := ps) (n := n) a
  have h1 := reach_still h (n - k + j) c hc
  have h2 := reach_still h (n - k) c hc
  rw [show k + (n - k + j) = n + j by omega] at h1
  rw [show k + (n - k) = n by omega] at h2
  rw [h1, h2]
theorem reach_any {k a c : Nat} (hc : c < n) (h : reachK ps n k a c = true) : reachK ps n n a c = true := by
  have := reach_mono h n
  rwa [show k + n = n + k by omega, reach_full hc] at this
theorem reach_edge {a c : Nat} (hc : c < n) (h : edgeB ps a c = true) : reachK ps n n a c = true := by
  rw [← reach_full hc 1]; exact reach_succ.2 (.inr (.inl h))
theorem reach_on {a b c : Nat} (hb : b < n) (hc : c < n) (h : reachK ps n n a b = true) (he : edgeB ps b c = true) : reachK ps n n a c = true := by
  rw [← reach_full hc 1]; exact reach_succ.2 (.inr (.inr ⟨b, hb, h, he⟩))
theorem reach_trans {a b : Nat} (hb : b < n) (h : reachK ps n n a b = true) : ∀ {k c : Nat}, c < n → reachK ps n k b c = true → reachK ps n n a c = true
  | 0, _, _, hk => by cases hk
  | k + 1, c, hc, hk => by
    rcases reach_succ.1 hk with h2 | h2 | ⟨d, hd, h2, h3⟩
    · exact reach_trans hb h hc h2
    · exact reach_on hb hc h h2
    · exact reach_on hd hc (reach_trans hb h hd h2) h3
theorem reach_one {a c : Nat} : reachK ps n 1 a c = edgeB ps a c := bool_iff (by
  constructor
  · intro h
    rcases reach_succ.1 h with h2 | h2 | ⟨d, hd, h2, h3⟩
    · cases h2
    · exact h2
    · cases h2
  · intro h; exact reach_succ.2 (.inr (.inl h)))

/-! ### The table. -/
def cellG (m : List Bool) (a c : Nat) : Bool := m.getD (a * 8 + c) false
def setG (m : List Bool) (a c : Nat) (x : Bool) : List Bool := m.set (a * 8 + c) x
def step3 (m : List Bool) (a b c : Nat) : List Bool := setG m a c (cellG m a c || (cellG m a b && cellG m b c))
def closeC (n : Nat) (m : List Bool) (a b : Nat) : List Bool := (List.range n).foldl (fun m c => step3 m a b c) m
def closeB (n : Nat) (m : List Bool) (a : Nat) : List Bool := (List.range n).foldl (fun m b => closeC n m a b) m
def closeA (n : Nat) (m : List Bool) : List Bool := (List.range n).foldl (fun m a => closeB n m a) m
def closeN (n : Nat) : Nat → List Bool → List Bool
  | 0, m => m
  | k + 1, m => closeA n (closeN n k m)
def table0 : List Bool := List.replicate 64 false
def tableE (ps : List (Nat × Nat)) : List Bool := ps.foldl (fun m p => setG m p.1 p.2 true) table0
theorem range_foldl {α : Type} {f : α → Nat → α} {z : α} {k : Nat} : (List.range (k + 1)).foldl f z = f ((List.range k).foldl f z) k := by rw [List.range_succ, List.foldl_append]; rfl
theorem setG_len (m : List Bool) (a c : Nat) (x : Bool) : (setG m a c x).length = m.length := List.length_set
theorem setG_get {m : List Bool} (hm : m.length = 64) {a c a' c' : Nat} {x : Bool} (ha : a < 8) (hc : c < 8) (hc' : c' < 8) : cellG (setG m a c x) a' c' = if a = a' ∧ c = c' then x else cellG m a' c' := by
  unfold cellG setG
  rw [List.getD_eq_getElem?_getD, List.getD_eq_getElem?_getD, List.getElem?_set]
  by_cases e : a * 8 + c = a' * 8 + c'
  · have e1 : a = a' := by omega
    have e2 : c = c' := by omega
    rw [if_pos e, if_pos (by omega), if_pos ⟨e1, e2⟩]
    rfl
  · rw [if_neg e, if_neg (fun h => e (by rw [h.1, h.2]))]
/-- What is so stays so. -/
def LeG (m m' : List Bool) : Prop := m.length = 64 → m'.length = 64 ∧ ∀ a c, c < 8 → cellG m a c = true → cellG m' a c = true
theorem LeG.refl (m : List Bool) : LeG m m := fun h => ⟨h, fun _ _ _ h => h⟩
theorem LeG.trans {m m' m'' : List Bool} (h : LeG m m') (g : LeG m' m'') : LeG m m'' := fun hm => ⟨(g (h hm).1).1, fun a c hc hx => (g (h hm).1).2 a c hc ((h hm).2 a c hc hx)⟩
theorem foldl_le {α : Type} {f : List Bool → α → List Bool} (hf : ∀ m x, LeG m (f m x)) : ∀ (l : List α) (m : List Bool), LeG m (l.foldl f m)
  | [], m => LeG.refl m
  | x :: l, m => by rw [List.foldl_cons]; exact (hf m x).trans (foldl_le hf l _)
theorem foldl_le' {α : Type} {f : List Bool → α → List Bool} : ∀ (l : List α) (m : List Bool), (∀ m, ∀ x ∈ l, LeG m (f m x)) → LeG m (l.foldl f m)
  | [], m, _ => LeG.refl m
  | x :: l, m, hf => by rw [List.foldl_cons]; exact (hf m x (by simp)).trans (foldl_le' l _ fun m y hy => hf m y (by simp [hy]))
theorem foldl_hit {α : Type} {f : List Bool → α → List Bool} {Q : List Bool → Prop} {x : α} : ∀ (l : List α) (m : List Bool), (∀ m, ∀ y ∈ l, LeG m (f m y)) → x ∈ l → (∀ m', LeG m m' → Q (f m' x)) → (∀ m' m'', LeG m m' → Q m' → LeG m' m'' → Q m'') → Q (l.foldl f m)
  | [], _, _, hx, _, _ => by cases hx
  | y :: l, m, hf, hx, h1, h2 => by
    rw [List.foldl_cons]
    rcases List.mem_cons.1 hx with rfl | hx
    · exact h2 _ _ (hf m x (by simp)) (h1 m (LeG.refl m)) (foldl_le' l _ fun m y hy => hf m y (by simp [hy]))
    · have hy := hf m y (by simp)
      exact foldl_hit l _ (fun m y hy => hf m y (by simp [hy])) hx (fun m' hm' => h1 m' (hy.trans hm')) (fun m' m'' g1 g2 g3 => h2 m' m'' (hy.trans g1) g2 g3)
theorem step3_le {m : List Bool} {a b c : Nat} (ha : a < 8) (hc : c < 8) : LeG m (step3 m a b c) := fun hm => ⟨by unfold step3; rw [setG_len, hm], fun a' c' hc' hx => by
  unfold step3
  rw [setG_get hm ha hc hc']
  split
  · rename_i e; rw [e.1, e.2, hx]; rfl
  · exact hx⟩
theorem closeC_le (hn : n ≤ 8) {m : List Bool} {a b : Nat} (ha : a < 8) : LeG m (closeC n m a b) := foldl_le' _ m fun _ c hc => step3_le ha (by have := List.mem_range.1 hc; omega)
theorem closeB_le (hn : n ≤ 8) {m : List Bool} {a : Nat} (ha : a < 8) : LeG m (closeB n m a) := foldl_le' _ m fun _ _ _ => closeC_le hn ha
theorem closeA_le (hn : n ≤ 8) {m : List Bool} : LeG m (closeA n m) := foldl_le' _ m fun _ a ha => closeB_le hn (by have := List.mem_range.1 ha; omega)
theorem closeA_hit (hn : n ≤ 8) {m : List Bool} (hm : m.length = 64) {a b c : Nat} (ha : a < n) (hb : b < n) (hc : c < n) (h1 : cellG m a b = true) (h2 : cellG m b c = true) : cellG (closeA n m) a c = true := by
  have key : ∀ m', LeG m m' → cellG (step3 m' a b c) a c = true := fun m' hle => by
    obtain ⟨g1, g2⟩ := hle hm
    unfold step3
    rw [setG_get g1 (by omega) (by omega) (by omega), if_pos ⟨rfl, rfl⟩, g2 a b (by omega) h1, g2 b c (by omega) h2]
    simp
  have up : ∀ m' m'', LeG m m' → cellG m' a c = true → LeG m' m'' → cellG m'' a c = true := fun m' m'' g1 g2 g3 => (g3 (g1 hm).1).2 a c (by omega) g2
  refine foldl_hit (Q := fun m => cellG m a c = true) (x := a) _ m (fun _ x hx => closeB_le hn (by have := List.mem_range.1 hx; omega)) (List.mem_range.2 ha) (fun m1 l1 => ?_) up
  refine foldl_hit (Q := fun m => cellG m a c = true) (x := b) _ m1 (fun _ _ _ => closeC_le hn (by omega)) (List.mem_range.2 hb) (fun m2 l2 => ?_) (fun m' m'' g1 => up m' m'' (l1.trans g1))
  exact foldl_hit (Q := fun m => cellG m a c = true) (x := c) _ m2 (fun _ x hx => step3_le (by omega) (by have := List.mem_range.1 hx; omega)) (List.mem_range.2 hc) (fun m3 l3 => key m3 ((l1.trans l2).trans l3)) (fun m' m'' g1 => up m' m'' ((l1.trans l2).trans g1))
/-- What is so leads there. -/
def SoundG (ps : List (Nat × Nat)) (n : Nat) (m : List Bool) : Prop := m.length = 64 ∧ ∀ a c, a < n → c < n → cellG m a c = true → reachK ps n n a c = true
theorem foldl_inv {α β : Type} {f : β → α → β} {P : β → Prop} : ∀ (l : List α) (m : β), P m → (∀ m, P m → ∀ x ∈ l, P (f m x)) → P (l.foldl f m)
  | [], _, h, _ => h
  | x :: l, m, h, hf => by rw [List.foldl_cons]; exact foldl_inv l _ (hf m h x (by simp)) fun m hm y hy => hf m hm y (by simp [hy])
theorem step3_sound (hn : n ≤ 8) {m : List Bool} (h : SoundG ps n m) {a b c : Nat} (ha : a < n) (hb : b < n) (hc : c < n) : SoundG ps n (step3 m a b c) := by
  refine ⟨by unfold step3; rw [setG_len]; exact h.1, fun a' c' ha' hc' hx => ?_⟩
  unfold step3 at hx
  rw [setG_get h.1 (by omega) (by omega) (by omega)] at hx
  split at hx
  · rename_i e
    rw [← e.1, ← e.2]
    rw [Bool.or_eq_true, Bool.and_eq_true] at hx
    rcases hx with h1 | ⟨h1, h2⟩
    · exact h.2 a c ha hc h1
    · exact reach_trans hb (h.2 a b ha hb h1) hc (h.2 b c hb hc h2)
  · exact h.2 a' c' ha' hc' hx
theorem closeA_sound (hn : n ≤ 8) {m : List Bool} (h : SoundG ps n m) : SoundG ps n (closeA n m) :=
  foldl_inv _ _ h fun _ h1 _a ha => foldl_inv _ _ h1 fun _ h2 _b hb => foldl_inv _ _ h2 fun _ h3 _c hc => step3_sound hn h3 (List.mem_range.1 ha) (List.mem_range.1 hb) (List.mem_range.1 hc)
theorem tableE_spec {ps : List (Nat × Nat)} (hp : ∀ p ∈ ps, p.1 < 8 ∧ p.2 < 8) : (tableE ps).length = 64 ∧ ∀ a c, c < 8 → cellG (tableE ps) a c = edgeB ps a c := by
  have main : ∀ (l : List (Nat × Nat)) (m : List Bool), (∀ p ∈ l, p.1 < 8 ∧ p.2 < 8) → m.length = 64 → (l.foldl (fun m p => setG m p.1 p.2 true) m).length = 64 ∧ ∀ a c, c < 8 → cellG (l.foldl (fun m p => setG m p.1 p.2 true) m) a c = (cellG m a c || edgeB l a c) := by
    intro l
    induction l with
    | nil => intro m _ hm; exact ⟨hm, fun a c _ => by simp [edgeB]⟩
    | cons p l ih =>
      intro m hp hm
      obtain ⟨p1, p2⟩ := hp p (by simp)
      obtain ⟨h1, h2⟩ := ih (setG m p.1 p.2 true) (fun q hq => hp q (by simp [hq])) (by rw [setG_len, hm])
      refine ⟨h1, fun a c hc => ?_⟩
      rw [List.foldl_cons, h2 a c hc, setG_get hm p1 p2 hc]
      unfold edgeB
      by_cases e : p.1 = a ∧ p.2 = c
      · have e' : p = (a, c) := Prod.ext e.1 e.2
        rw [if_pos e, e']
        simp
      · have e' : ¬ (a, c) = p := fun h => e (by rw [← h]; exact ⟨rfl, rfl⟩)
        rw [if_neg e]
        simp [e']
  obtain ⟨h1, h2⟩ := main ps table0 hp (by simp [table0])
  refine ⟨h1, fun a c hc => ?_⟩
  show cellG (ps.foldl (fun m p => setG m p.1 p.2 true) table0) a c = _
  rw [h2 a c hc]
  have h0 : cellG table0 a c = false := by
    unfold cellG table0
    rw [List.getD_eq_getElem?_getD, List.getElem?_replicate]
    split <;> rfl
  rw [h0, Bool.false_or]
theorem closeN_spec (hn : n ≤ 8) {ps : List (Nat × Nat)} (hp : ∀ p ∈ ps, p.1 < n ∧ p.2 < n) : ∀ k, SoundG ps n (closeN n k (tableE ps)) ∧ ∀ a c, a < n → c < n → reachK ps n (k + 1) a c = true → cellG (closeN n k (tableE ps)) a c = true
  | 0 => by
    obtain ⟨h1, h2⟩ := tableE_spec (ps := ps) fun p hp' => ⟨by have := (hp p hp').1; omega, by have := (hp p hp').2; omega⟩
    refine ⟨⟨h1, fun a c _ hc hx => ?_⟩, fun a c _ hc hx => ?_⟩
    · have hx' : cellG (tableE ps) a c = true := hx
      rw [h2 a c (by omega)] at hx'
      exact reach_edge hc hx'
    · show cellG (tableE ps) a c = true
      rw [h2 a c (by omega), ← reach_one (n := n)]
      exact hx
  | k + 1 => by
    obtain ⟨h1, h2⟩ := closeN_spec hn hp k
    refine ⟨closeA_sound hn h1, fun a c ha hc hx => ?_⟩
    show cellG (closeA n (closeN n k (tableE ps))) a c = true
    have he : ∀ a c, a < n → c < n → edgeB ps a c = true → cellG (closeN n k (tableE ps)) a c = true := fun a c ha hc he => h2 a c ha hc (reach_succ.2 (.inr (.inl he)))
    rcases reach_succ.1 hx with h3 | h3 | ⟨b, hb, h3, h4⟩
    · exact ((closeA_le hn) h1.1).2 a c (by omega) (h2 a c ha hc h3)
    · exact ((closeA_le hn) h1.1).2 a c (by omega) (he a c ha hc h3)
    · exact closeA_hit hn h1.1 ha hb hc (h2 a b ha hb h3) (he b c hb hc h4)
/-- THE TABLE TELLS WHAT LEADS WHERE. -/
theorem table_is (hn : n ≤ 8) {ps : List (Nat × Nat)} (hp : ∀ p ∈ ps, p.1 < n ∧ p.2 < n) {a c : Nat} (ha : a < n) (hc : c < n) : cellG (closeN n n (tableE ps)) a c = reachK ps n n a c := bool_iff (by
  obtain ⟨h1, h2⟩ := closeN_spec hn hp n
  exact ⟨h1.2 a c ha hc, fun h => h2 a c ha hc (reach_mono h 1)⟩)
theorem closeN_len (hn : n ≤ 8) {ps : List (Nat × Nat)} (hp : ∀ p ∈ ps, p.1 < n ∧ p.2 < n) (k : Nat) : (closeN n k (tableE ps)).length = 64 := (closeN_spec hn hp k).1.1
end Go.Proofs.YtgoaiohkodbadaaGreat
