/-
  THE TEXTS TopP, TopQ, TopW, Entry, RulesIn, NaiveK, one behind the other.
-/
import Derived.Test.YtchgaofgeflbeaaGreatPk1
import Derived.Test.YtchgaofgeflbeaaGreatPk10
import Derived.Test.YtchgaofgeflbeaaGreatPk14
import Derived.Laws.BytesArg
import Derived.Test.YtchgaofgeflbeaaGreatRows
import Derived.ProofKit
import Derived.OpenShut
import Derived.JoinedCond
import Derived.Carry
import Derived.Deep.Strs
import Derived.Deep.Slices
import Derived.Test.YtchgaofgeflbeaaGreatChecked
/-
  PLAIN: rules in a circle, and chains of roads.
-/
namespace Go.Proofs.YtchgaofgeflbeaaGreat

/-- A town's name. -/
def tn (k : Nat) : Str := ⟨#[116, UInt8.ofNat (97 + k)]⟩
def xroad : Str := ⟨#[114, 111, 97, 100]⟩
def xway : Str := ⟨#[119, 97, 121]⟩
def xcut : Str := ⟨#[99, 117, 116]⟩
def xtown : Str := ⟨#[116, 111, 119, 110]⟩
def roadsP : List PRule := [⟨⟨false, xway, [⟨true, xX⟩, ⟨true, xY⟩]⟩, [⟨false, xroad, [⟨true, xX⟩, ⟨true, xY⟩]⟩]⟩,
  ⟨⟨false, xway, [⟨true, xX⟩, ⟨true, xZ⟩]⟩, [⟨false, xway, [⟨true, xX⟩, ⟨true, xY⟩]⟩, ⟨false, xroad, [⟨true, xY⟩, ⟨true, xZ⟩]⟩]⟩,
  ⟨⟨false, xcut, [⟨true, xX⟩, ⟨true, xY⟩]⟩, [⟨false, xtown, [⟨true, xX⟩]⟩, ⟨false, xtown, [⟨true, xY⟩]⟩, ⟨true, xway, [⟨true, xX⟩, ⟨true, xY⟩]⟩]⟩]
theorem wrong_roads : wrongP roadsP = (0, 0) := by decide +kernel
theorem small_roads : ∀ r ∈ roadsP, RuleSmall r := fun r hr => ruleSmall_of (List.all_eq_true.1 (show roadsP.all ruleSmallB = true by decide +kernel) r hr)
theorem names_roads : ∀ r ∈ roadsP, NameSmall r := fun r hr => nameSmall_of (List.all_eq_true.1 (show roadsP.all nameSmallB = true by decide +kernel) r hr)
theorem least_roads : Least roadsP (fun s => if s = xcut then 1 else 0) := by
  refine ⟨sol_of (fun s hs => ?_) (by decide +kernel), fun M hM s => ?_⟩
  · show (if s = xcut then 1 else 0) = 0
    rw [if_neg]
    rintro rfl
    exact hs (by decide +kernel)
  · show (if s = xcut then 1 else 0) ≤ M s
    split
    · rename_i e
      subst e
      have h := hM.up ⟨⟨false, xcut, [⟨true, xX⟩, ⟨true, xY⟩]⟩, [⟨false, xtown, [⟨true, xX⟩]⟩, ⟨false, xtown, [⟨true, xY⟩]⟩, ⟨true, xway, [⟨true, xX⟩, ⟨true, xY⟩]⟩]⟩ (by simp [roadsP]) ⟨true, xway, [⟨true, xX⟩, ⟨true, xY⟩]⟩ (by simp)
      rw [show dl roadsP ⟨true, xway, [⟨true, xX⟩, ⟨true, xY⟩]⟩ = 1 by decide +kernel] at h
      exact Nat.le_trans (Nat.le_add_left _ _) h
    · exact Nat.zero_le _
theorem strata_roads : StrataIs roadsP [0, 0, 1] (0, 0) := .inr ⟨by rw [wrong_roads], .inl ⟨_, least_roads, by decide +kernel, rfl⟩⟩
/-! ### alive -/
def t7Facts : List PFact := [⟨xroad, [tn 0, tn 1]⟩, ⟨xroad, [tn 1, tn 2]⟩]
def t7All : List PFact := [⟨xroad, [tn 0, tn 1]⟩, ⟨xroad, [tn 1, tn 2]⟩, ⟨xway, [tn 0, tn 1]⟩, ⟨xway, [tn 0, tn 2]⟩, ⟨xway, [tn 1, tn 2]⟩]
theorem naive_t7 : naiveP [0, 0, 1] 0 roadsP t7Facts = (t7All, 0) := by decide +kernel
theorem mem_t7 : memF ⟨xway, [tn 0, tn 2]⟩ t7All = true := by decide +kernel
theorem rising_t7 : Rising t7All := by unfold Rising; decide +kernel
theorem args_t7 : ∀ x ∈ t7All, x.args.length ≤ 1048576 := fun x hx => of_decide_eq_true (List.all_eq_true.1 (show t7All.all (fun a => decide (a.args.length ≤ 1048576)) = true by decide +kernel) x hx)
theorem args_f7 : ∀ x ∈ t7Facts, x.args.length ≤ 1048576 := fun x hx => of_decide_eq_true (List.all_eq_true.1 (show t7Facts.all (fun a => decide (a.args.length ≤ 1048576)) = true by decide +kernel) x hx)
/-! ### A chain -/
def chainF (n : Nat) : List PFact := (List.range n).map fun k => ⟨xroad, [tn k, tn (k + 1)]⟩
def chainL (n : Nat) : List PFact := ofF (chainF n)
def chainR (n : Nat) : PRun := ⟨chainL n, chainL n, 0, 0, false⟩
def risingB : List PFact → Bool
  | [] => true
  | [_] => true
  | a :: b :: l => ltF a b && risingB (b :: l)
def runB (x : PRun) : Bool := risingB x.known && x.known.all (fun a => decide (a.args.length ≤ 1048576)) && decide (x.known.length ≤ 1048576)
def chainB (n : Nat) : Bool := decide (beginP [0, 0, 1] 0 roadsP (chainL n) = (chainR n, 0)) && (chainL n).all (fun a => decide (a.args.length ≤ 1048576)) && decide ((chainL n).length ≤ 1048576) &&
  decide ((stepsRun [0, 0, 1] 0 roadsP (chainR n) ((n : Int) - 1)).2 = 0) && decide ((stepsRun [0, 0, 1] 0 roadsP (chainR n) n).2 = 0) &&
  runB (stepsRun [0, 0, 1] 0 roadsP (chainR n) ((n : Int) - 1)).1 && runB (stepsRun [0, 0, 1] 0 roadsP (chainR n) n).1 &&
  !memF ⟨xway, [tn 0, tn n]⟩ (stepsRun [0, 0, 1] 0 roadsP (chainR n) ((n : Int) - 1)).1.known && memF ⟨xway, [tn 0, tn n]⟩ (stepsRun [0, 0, 1] 0 roadsP (chainR n) n).1.known
theorem chain_all : ([1, 2, 3, 4, 5, 6, 7].all chainB) = true := by decide +kernel
theorem chain_b {n : Nat} (h0 : 1 ≤ n) (h1 : n ≤ 7) : chainB n = true := List.all_eq_true.1 chain_all n (by simp; omega)
theorem ltF_tr {a b c : PFact} : Rising [a, b] → Rising [b, c] → True := fun _ _ => trivial
end Go.Proofs.YtchgaofgeflbeaaGreat

/-
  PLAIN: rules in a circle.
-/
namespace Go.Proofs.YtchgaofgeflbeaaGreat

def nx (b : Bool) (t : Str) : Str := if b then (⟨#[33]⟩ : Str) ++ t else t
/-- What is written of the rest of a circle of n rules, behind s. -/
def circS (n : Nat) : Nat → List Bool → Str → Str
  | _, [], s => s
  | i, b :: l, s => circS n (i + 1) l ((((s ++ tn i) ++ ⟨#[32, 58, 45, 32]⟩) ++ nx b (tn ((i + 1) % n))) ++ ⟨#[46]⟩)
def circP (n : Nat) : Nat → List Bool → List PRule
  | _, [] => []
  | i, b :: l => ⟨⟨false, tn i, []⟩, [⟨b, tn ((i + 1) % n), []⟩]⟩ :: circP n (i + 1) l
def allB : Nat → List (List Bool)
  | 0 => [[]]
  | n + 1 => (allB n).flatMap fun l => [true :: l, false :: l]
theorem mem_allB : ∀ (l : List Bool), l ∈ allB l.length
  | [] => by simp [allB]
  | b :: l => by
    rw [List.length_cons, allB, List.mem_flatMap]
    exact ⟨l, mem_allB l, by cases b <;> simp⟩
def circB (n : Nat) (l : List Bool) : Bool := decide (parseF (circS n 0 l ⟨#[]⟩) = (circP n 0 l, 0, 0)) && decide (wrongP (circP n 0 l) = (0, 0)) && decide ((circS n 0 l ⟨#[]⟩).size ≤ 1048576) && (circP n 0 l).all ruleSmallB && (circP n 0 l).all nameSmallB
theorem circ_1 : ((allB 1).all (circB 1)) = true := by decide +kernel
theorem circ_2 : ((allB 2).all (circB 2)) = true := by decide +kernel
theorem circ_3 : ((allB 3).all (circB 3)) = true := by decide +kernel
theorem circ_4 : ((allB 4).all (circB 4)) = true := by decide +kernel
theorem circ_5 : ((allB 5).all (circB 5)) = true := by decide +kernel
theorem circ_6 : ((allB 6).all (circB 6)) = true := by decide +kernel
theorem circ_7 : ((allB 7).all (circB 7)) = true := by decide +kernel
theorem circ_8 : ((allB 8).all (circB 8)) = true := by decide +kernel
theorem circ_b {l : List Bool} (h0 : 1 ≤ l.length) (h1 : l.length ≤ 8) : circB l.length l = true := by
  have hm := mem_allB l
  have hn : l.length = 1 ∨ l.length = 2 ∨ l.length = 3 ∨ l.length = 4 ∨ l.length = 5 ∨ l.length = 6 ∨ l.length = 7 ∨ l.length = 8 := by omega
  rcases hn with h | h | h | h | h | h | h | h <;> rw [h] at hm ⊢
  · exact List.all_eq_true.1 circ_1 l hm
  · exact List.all_eq_true.1 circ_2 l hm
  · exact List.all_eq_true.1 circ_3 l hm
  · exact List.all_eq_true.1 circ_4 l hm
  · exact List.all_eq_true.1 circ_5 l hm
  · exact List.all_eq_true.1 circ_6 l hm
  · exact List.all_eq_true.1 circ_7 l hm
  · exact List.all_eq_true.1 circ_8 l hm
theorem circP_len (n : Nat) : ∀ (i : Nat) (l : List Bool), (circP n i l).length = l.length
  | _, [] => rfl
  | i, b :: l => by rw [circP, List.length_cons, circP_len n (i + 1) l, List.length_cons]
theorem circ_heads (n : Nat) : ∀ (i : Nat) (l : List Bool) (j : Nat), i ≤ j → j < i + l.length → tn j ∈ headsOf (circP n i l)
  | i, [], j, h1, h2 => by simp at h2; omega
  | i, b :: l, j, h1, h2 => by
    rw [circP]
    show tn j ∈ tn i :: headsOf (circP n (i + 1) l)
    by_cases h : i = j
    · subst h; simp
    · rw [List.length_cons] at h2
      exact List.mem_cons_of_mem _ (circ_heads n (i + 1) l j (by omega) (by omega))
/-- Each one lies as high as the next one, higher where that must not be so. -/
def Chained (M : Str → Nat) (n : Nat) : Nat → List Bool → Prop
  | _, [] => True
  | i, b :: l => M (tn ((i + 1) % n)) + (if b then 1 else 0) ≤ M (tn i) ∧ Chained M n (i + 1) l
theorem chained_of {M : Str → Nat} {n : Nat} {p : List PRule} (hM : Sol p M) (hH : ∀ j, j < n → tn j ∈ headsOf p) (hn : 0 < n) : ∀ {i : Nat} {l : List Bool}, (∀ r ∈ circP n i l, r ∈ p) → Chained M n i l
  | _, [], _ => trivial
  | i, b :: l, h => by
    refine ⟨?_, chained_of hM hH hn fun r hr => h r (by rw [circP]; exact List.mem_cons_of_mem _ hr)⟩
    have h1 := hM.up ⟨⟨false, tn i, []⟩, [⟨b, tn ((i + 1) % n), []⟩]⟩ (h _ (by rw [circP]; simp)) ⟨b, tn ((i + 1) % n), []⟩ (by simp)
    have h2 : dl p ⟨b, tn ((i + 1) % n), []⟩ = if b then 1 else 0 := by
      unfold dl
      have := hH ((i + 1) % n) (Nat.mod_lt _ hn)
      cases b
      · simp
      · simp [this]
    rw [h2] at h1
    exact h1
theorem chained_sum {M : Str → Nat} {n : Nat} : ∀ {i : Nat} {l : List Bool}, l ≠ [] → i + l.length = n → Chained M n i l → M (tn 0) + (if l.any id then 1 else 0) ≤ M (tn i)
  | _, [], h, _, _ => absurd rfl h
  | i, [b], _, hn, h => by
    have h1 := h.1
    have : (i + 1) % n = 0 := by rw [← hn]; simp
    rw [this] at h1
    simpa using h1
  | i, b :: c :: l, _, hn, h => by
    have h1 := h.1
    have h2 := chained_sum (i := i + 1) (l := c :: l) (by simp) (by simp only [List.length_cons] at hn ⊢; omega) h.2
    have : (i + 1) % n = i + 1 := Nat.mod_eq_of_lt (by simp only [List.length_cons] at hn; omega)
    rw [this] at h1
    rw [List.any_cons]
    cases b
    · simpa using Nat.le_trans h2 h1
    · simp only [id_eq, Bool.true_or, if_true] at h1 ⊢
      have h3 : M (tn 0) ≤ M (tn (i + 1)) := Nat.le_trans (Nat.le_add_right _ _) h2
      omega
theorem circ_loop {l : List Bool} (h0 : 1 ≤ l.length) (h : l.any id = true) : ∀ M, ¬ Sol (circP l.length 0 l) M := fun M hM => by
  have h1 := chained_of (n := l.length) hM (fun j hj => circ_heads _ 0 l j (Nat.zero_le _) (by omega)) (by omega) (i := 0) (l := l) (fun r hr => hr)
  have h2 := chained_sum (i := 0) (l := l) (by rintro rfl; simp at h0) (by omega) h1
  rw [h] at h2
  simp at h2
  omega
theorem circ_plain (n : Nat) : ∀ {i : Nat} {l : List Bool}, l.any id = false → ∀ r ∈ circP n i l, ∀ a ∈ r.body, a.neg = false
  | _, [], _, r, hr => by simp [circP] at hr
  | i, b :: l, h, r, hr => by
    rw [List.any_cons, Bool.or_eq_false_iff] at h
    rw [circP] at hr
    rcases List.mem_cons.1 hr with rfl | hr
    · intro a ha
      rcases List.mem_cons.1 ha with rfl | ha
      · exact h.1
      · simp at ha
    · exact circ_plain n h.2 r hr
theorem all_none : ([1, 2, 3, 4, 5, 6, 7, 8].all fun n => decide (naiveP ((circP n 0 (List.replicate n false)).map fun _ => (0 : Int)) 0 (circP n 0 (List.replicate n false)) [] = ([], 0))) = true := by decide +kernel
theorem none_eq {l : List Bool} (h : l.any id = false) : l = List.replicate l.length false := by
  rw [List.eq_replicate_iff]
  refine ⟨rfl, fun b hb => ?_⟩
  cases b
  · rfl
  · rw [List.any_eq_false] at h
    exact absurd rfl (h true hb)
/-- What naive.All answers of a circle. -/
theorem circ_all {l : List Bool} (h0 : 1 ≤ l.length) (h1 : l.length ≤ 8) : ∃ st q, StrataIs (circP l.length 0 l) st q ∧ naiveP st q.1 (circP l.length 0 l) [] = ([], if l.any id then 10 else 0) := by
  have hb := circ_b h0 h1
  simp only [circB, Bool.and_eq_true, decide_eq_true_eq] at hb
  have hw : (wrongP (circP l.length 0 l)).1 = 0 := by rw [hb.1.1.1.2]
  cases h : l.any id
  · refine ⟨_, (0, 0), .inr ⟨hw, .inl ⟨_, least_plain (circ_plain _ h), rfl, rfl⟩⟩, ?_⟩
    have hl := none_eq h
    have h3 := of_decide_eq_true (List.all_eq_true.1 all_none l.length (by simp; omega))
    generalize l.length = n at *
    subst hl
    exact h3
  · exact ⟨[], (10, 0), .inr ⟨hw, .inr ⟨circ_loop h0 h, rfl, rfl⟩⟩, rfl⟩
end Go.Proofs.YtchgaofgeflbeaaGreat

/-
  THE WALKS OF corotop.name, corotop.road, corotop.way, corotop.alive.
-/
namespace Go.Proofs.YtchgaofgeflbeaaGreat
open Go.RowKit

theorem RdStrs.litS {S : Nat → Prop} {w : World} {b : Nat} {t : TypeId} {l : List Str} {n : Nat} (hn : l.length = n) (hm : n ≤ maxLen) (hS : S b) (h : Blk w b t (l.map Value.string).toArray) : RdStrs S w (.slice (some ⟨b, 0, none⟩) n n) l := by
  subst hn
  refine ⟨_, _, rfl, Nat.le_refl _, hm, (fun h => by cases h), fun i x hx => ⟨b, 0, [.string x], rfl, hS, h.lt, rfl, fun j u hu => ?_, rfl⟩⟩
  rcases j with _ | j
  · obtain rfl := Option.some.inj hu
    rw [h.cell]
    simp [hx]
  · simp at hu

set_option maxRecDepth 100000 in
set_option maxHeartbeats 4000000 in
theorem townCalls (k : Nat) (hk : k ≤ 8) (w : World) : Calls Tryz.prog 6 #[.int .i64 (k : Int)] w fun e w' => e = .returned (.string (tn k)) ∧ Below w.heap.size w w' := by
  have kc : ∀ z : Int, (convert 48 9 (.slice (some ⟨w.heap.size, 0, none⟩) 1 1)).run Tryz.prog (w.alloc (.cells #[.int .u8 z] 5)) = .ok (.string (strOfNums [z])) (w.alloc (.cells #[.int .u8 z] 5)) := fun z =>
    run_convert_bytes_arg _ 48 5 Tryz.underlying48 Tryz.underlying5 w.heap.size 0 1 1 [z] rfl (fun i hi => by have h0 : i = 0 := (by omega); subst h0; rw [Nat.zero_add, new_at rfl]; rfl) 9 Tryz.underlying9
  have hc : k = 0 ∨ k = 1 ∨ k = 2 ∨ k = 3 ∨ k = 4 ∨ k = 5 ∨ k = 6 ∨ k = 7 ∨ k = 8 := by omega
  rcases hc with rfl | rfl | rfl | rfl | rfl | rfl | rfl | rfl | rfl
  all_goals
    go_enter Tryz.func6, Tryz.ntmps6
    go_wp2
    go_ret
    exact ⟨rfl, (Below.refl _ _).alloc (Nat.le_refl _) _⟩

/-- A fact of two towns that a call laid. -/
def TwoPost (nm : Str) (i j : Nat) (w : World) (e : Ending) (w' : World) : Prop :=
  ∃ b, e = .returned (.agg #[.string nm, .slice (some ⟨b, 0, none⟩) 2 2]) ∧ w.heap.size ≤ b ∧ Blk w' b 9 #[.string (tn i), .string (tn j)] ∧ Below w.heap.size w w'

set_option maxRecDepth 100000 in
set_option maxHeartbeats 4000000 in
theorem roadCalls (i j : Nat) (hi : i ≤ 8) (hj : j ≤ 8) (w : World) : Calls Tryz.prog 9 #[.int .i64 (i : Int), .int .i64 (j : Int)] w (TwoPost xroad i j w) := by
  obtain ⟨W0, hW0⟩ : ∃ W0 : World, w.alloc (.cells #[.string ⟨#[]⟩, .slice none 0 0] 38) = W0 := ⟨_, rfl⟩
  have HB0 := Lib.hid (show Below w.heap.size w W0 by subst hW0; exact (Below.refl _ _).alloc (Nat.le_refl _) _)
  have HK0 := Lib.hid (show Blk W0 w.heap.size 38 #[.string ⟨#[]⟩, .slice none 0 0] by subst hW0; exact Blk.new w _ _)
  have T1 := Lib.hid True.intro
  go_enter Tryz.func9, Tryz.ntmps9
  go_wp2_with (first
    | (go_at_call 6; have hh := HK1.out; clear hh; refine (townCalls j hj _).mono ?_; rintro e w2 ⟨rfl, hb2⟩; have HB2 := Lib.hid (HB1.out.trans (hb2.mono HB1.out.size)); have HK2 := Lib.hid (HK1.out.below hb2 HK1.out.lt); have HB3 := Lib.hid (HB2.out.alloc HB2.out.size (.cells #[.string (tn i), .string (tn j)] 9)); have HK3 := Lib.hid (HK2.out.alloc (.cells #[.string (tn i), .string (tn j)] 9)); have HN3 := Lib.hid (Blk.new w2 9 #[.string (tn i), .string (tn j)]); have c0 := HK3.out.cell 0; have c1 := HK3.out.cell 1; have z0 := HK3.out.frozen 0; have z1 := HK3.out.frozen 1; simp only [List.getElem?_toArray, List.getElem?_cons_zero, List.getElem?_cons_succ] at c0 c1; clear hb2)
    | (go_at_call 6; clear T1; refine (townCalls i hi _).mono ?_; rintro e w1 ⟨rfl, hb1⟩; have HB1 := Lib.hid (HB0.out.trans (hb1.mono HB0.out.size)); have HK1 := Lib.hid (HK0.out.below hb1 HK0.out.lt); clear hb1))
  have hlt := HK2.out.lt
  have hne : w2.heap.size ≠ w.heap.size := by omega
  refine bodyPost_ret (v := .agg #[.string xroad, .slice (some ⟨w2.heap.size, 0, none⟩) 2 2]) (by simp [results, Tryz.results9, go_sem, c0, c1]; rfl) rfl ⟨w2.heap.size, rfl, by omega, ?_, ?_⟩
  · exact (HN3.out.far (p := ⟨w.heap.size, 0, none⟩) hne _).far (p := ⟨w.heap.size, 1, none⟩) hne _
  · exact (HB3.out.setCell (Nat.le_refl _) _).setCell (Nat.le_refl _) _
set_option maxRecDepth 100000 in
set_option maxHeartbeats 4000000 in
theorem wayCalls (i j : Nat) (hi : i ≤ 8) (hj : j ≤ 8) (w : World) : Calls Tryz.prog 14 #[.int .i64 (i : Int), .int .i64 (j : Int)] w (TwoPost xway i j w) := by
  obtain ⟨W0, hW0⟩ : ∃ W0 : World, w.alloc (.cells #[.string ⟨#[]⟩, .slice none 0 0] 38) = W0 := ⟨_, rfl⟩
  have HB0 := Lib.hid (show Below w.heap.size w W0 by subst hW0; exact (Below.refl _ _).alloc (Nat.le_refl _) _)
  have HK0 := Lib.hid (show Blk W0 w.heap.size 38 #[.string ⟨#[]⟩, .slice none 0 0] by subst hW0; exact Blk.new w _ _)
  have T1 := Lib.hid True.intro
  go_enter Tryz.func14, Tryz.ntmps14
  go_wp2_with (first
    | (go_at_call 6; have hh := HK1.out; clear hh; refine (townCalls j hj _).mono ?_; rintro e w2 ⟨rfl, hb2⟩; have HB2 := Lib.hid (HB1.out.trans (hb2.mono HB1.out.size)); have HK2 := Lib.hid (HK1.out.below hb2 HK1.out.lt); have HB3 := Lib.hid (HB2.out.alloc HB2.out.size (.cells #[.string (tn i), .string (tn j)] 9)); have HK3 := Lib.hid (HK2.out.alloc (.cells #[.string (tn i), .string (tn j)] 9)); have HN3 := Lib.hid (Blk.new w2 9 #[.string (tn i), .string (tn j)]); have c0 := HK3.out.cell 0; have c1 := HK3.out.cell 1; have z0 := HK3.out.frozen 0; have z1 := HK3.out.frozen 1; simp only [List.getElem?_toArray, List.getElem?_cons_zero, List.getElem?_cons_succ] at c0 c1; clear hb2)
    | (go_at_call 6; clear T1; refine (townCalls i hi _).mono ?_; rintro e w1 ⟨rfl, hb1⟩; have HB1 := Lib.hid (HB0.out.trans (hb1.mono HB0.out.size)); have HK1 := Lib.hid (HK0.out.below hb1 HK0.out.lt); clear hb1))
  have hlt := HK2.out.lt
  have hne : w2.heap.size ≠ w.heap.size := by omega
  refine bodyPost_ret (v := .agg #[.string xway, .slice (some ⟨w2.heap.size, 0, none⟩) 2 2]) (by simp [results, Tryz.results14, go_sem, c0, c1]; rfl) rfl ⟨w2.heap.size, rfl, by omega, ?_, ?_⟩
  · exact (HN3.out.far (p := ⟨w.heap.size, 0, none⟩) hne _).far (p := ⟨w.heap.size, 1, none⟩) hne _
  · exact (HB3.out.setCell (Nat.le_refl _) _).setCell (Nat.le_refl _) _
/-- Two roads, laid as the text lays them. -/
theorem t7_lit {W : World} {b1 b2 n : Nat} (h1 : Blk W b1 9 #[.string (tn 0), .string (tn 1)]) (h2 : Blk W b2 9 #[.string (tn 1), .string (tn 2)]) (hn : W.heap.size = n) :
    RdFacts (fun _ => True) (W.alloc (.cells #[.string xroad, .slice (some ⟨b1, 0, none⟩) 2 2, .string xroad, .slice (some ⟨b2, 0, none⟩) 2 2] 38)) (.slice (some ⟨n, 0, none⟩) 2 2) t7Facts :=
  RdFacts.lit [.slice (some ⟨b1, 0, none⟩) 2 2, .slice (some ⟨b2, 0, none⟩) 2 2] rfl (by simp [maxLen]) rfl (Blk.at_ hn) fun i f v hf hv => by
    rcases i with _ | _ | i
    · obtain rfl := Option.some.inj hf
      obtain rfl := Option.some.inj hv
      exact RdStrs.lit rfl (by simp [maxLen]) (h1.alloc _)
    · obtain rfl := Option.some.inj hf
      obtain rfl := Option.some.inj hv
      exact RdStrs.lit rfl (by simp [maxLen]) (h2.alloc _)
    · simp [t7Facts] at hf
def roadsText : Str := ⟨([119, 97, 121, 40, 88, 44, 89, 41, 32, 58, 45, 32, 114, 111, 97, 100, 40, 88, 44, 89, 41, 46, 32, 119, 97, 121, 40, 88, 44, 90, 41, 32, 58, 45, 32, 119, 97, 121, 40, 88, 44, 89, 41, 44, 32, 114, 111, 97].append [100, 40, 89, 44, 90, 41, 46, 32, 99, 117, 116, 40, 88, 44, 89, 41, 32, 58, 45, 32, 116, 111, 119, 110, 40, 88, 41, 44, 32, 116, 111, 119, 110, 40, 89, 41, 44, 32, 33, 119, 97, 121, 40, 88, 44, 89, 41, 46]).toArray⟩
theorem parse_roads : parseF roadsText = (roadsP, 0, 0) := by decide +kernel
set_option maxRecDepth 100000 in
set_option maxHeartbeats 4000000 in
theorem aliveTop (w : World) : Calls Tryz.prog 5 #[] w fun e w' => e = .returned (.bool true) ∧ Below w.heap.size w w' := by
  have T1 := Lib.hid True.intro
  go_enter Tryz.func5, Tryz.ntmps5
  go_wp2_with (first
    | (go_at_call 13; have hh := HW6.out; clear hh; refine (inFact _ t7All ⟨xway, [tn 0, tn 2]⟩ _ _ HF6.out (RdStrs.lit (l := [tn 0, tn 2]) rfl (by simp [maxLen]) HW6.out) rising_t7 (by decide) (fun x hx => Nat.le_trans (args_t7 x hx) (by decide))).mono ?_; rw [mem_t7]; rintro e w7 ⟨rfl, hf7⟩; have HB7 := Lib.hid (HB6.out.trans (hf7.below.mono HB6.out.size)); clear hf7)
    | (go_at_call 14; have hh := HF5.out; clear hh; refine (wayCalls 0 2 (by decide) (by decide) _).mono ?_; rintro e w6 ⟨b6, rfl, -, hk6, hb6⟩; have HW6 := Lib.hid hk6; have HB6 := Lib.hid (HB5.out.trans (hb6.mono HB5.out.size)); have HF6 := Lib.hid (HF5.out.up hb6); clear hk6 hb6)
    | (go_at_call 8; have hh := HK4.out; clear hh; refine (naiveKnown (r := t7All) (n := 5) rfl strata_roads naive_t7 (HR4.out.up ((Below.refl _ _).alloc (Nat.le_refl _) _)) (t7_lit HK4.out HL4.out rfl) (by decide) small_roads names_roads (by decide) args_f7).mono ?_; rintro e w5 ⟨⟨a5, c5, rfl, hr5⟩, hb5⟩; have HF5 := Lib.hid hr5; have HB5 := Lib.hid ((HB4.out.alloc HB4.out.size _).trans (hb5.mono (Nat.le_trans HB4.out.size (by simp)))); have HQ5 := Lib.hid ((HQ4.out.alloc _).below hb5 (HQ4.out.alloc _).lt); have q0 := HQ5.out.cell 0; simp only [List.getElem?_toArray, List.getElem?_cons_zero, List.getElem?_cons_succ] at q0; clear hr5 hb5)
    | (go_at_call 9; have hh := HK3.out; clear hh; refine (roadCalls 1 2 (by decide) (by decide) _).mono ?_; rintro e w4 ⟨b4, rfl, -, hk4, hb4⟩; have HL4 := Lib.hid hk4; have HK4 := Lib.hid (HK3.out.below hb4 HK3.out.lt); have HB4 := Lib.hid (HB3.out.trans (hb4.mono HB3.out.size)); have HR4 := Lib.hid (HR3.out.up hb4); have HQ4 := Lib.hid (HQ3.out.below hb4 HQ3.out.lt); clear hk4 hb4)
    | (go_at_call 9; have hh := HR1.out; clear hh; refine (roadCalls 0 1 (by decide) (by decide) _).mono ?_; rintro e w3 ⟨b3, rfl, -, hk3, hb3⟩; have HK3 := Lib.hid hk3; have HB3 := Lib.hid ((HB1.out.alloc HB1.out.size _).trans (hb3.mono (Nat.le_trans HB1.out.size (by simp)))); have HR3 := Lib.hid ((HR1.out.up ((Below.refl _ _).alloc (Nat.le_refl _) _)).up hb3); have HQ3 := Lib.hid (HQ1.out.below hb3 HQ1.out.lt); clear hk3 hb3)
    | (go_at_call 7; clear T1; refine (parseKnown (s := roadsText) (n := 3) (by rfl) (by decide) parse_roads _).mono ?_; rintro e w1 ⟨⟨a1, c1, rfl, hr1⟩, hb1⟩; have HR1 := Lib.hid hr1; have HB1 := Lib.hid hb1; have HQ1 := Lib.hid (Blk.new w1 29 #[.int .i64 0, .int .i64 0]); clear hr1 hb1))
  go_ret
  exact ⟨ret_bool (by simp), HB7.out⟩
/-! ### Readings -/
def RBool : Reader Bool := fun _ _ cs b => cs = [.bool b]
theorem RBool.steady : Steady RBool := ⟨fun _ h => h, fun _ h => h⟩
abbrev RdBools := RdSlice 1 RBool
theorem RdBools.at {S : Nat → Prop} {w : World} {a : Option Addr} {n cap : Nat} {l : List Bool} (h : RdBools S w (.slice a n cap) l) {i : Nat} {x : Bool} (hx : l[i]? = some x) :
    ∃ b off, a = some ⟨b, off, none⟩ ∧ S b ∧ b < w.heap.size ∧ w.cell? ⟨b, off + i, none⟩ = some (.bool x) := by
  obtain ⟨a', cap', hv, _, _, _, h3⟩ := h
  obtain ⟨b, off, cs, ha, hS, hb, hk, hc, hr⟩ := h3 i x hx
  injection hv with e1 e2 e3
  subst e1
  have hr' : cs = [.bool x] := hr
  subst hr'
  refine ⟨b, off, ha, hS, hb, ?_⟩
  have := hc 0 (.bool x) rfl
  simpa using this
end Go.Proofs.YtchgaofgeflbeaaGreat

/-
  THE ENTRY: from the row's reading of an argument to 'RdSlice': 'Opens'; and the row's end: what was below the heap's size is as it was.
-/
namespace Go.Proofs.YtchgaofgeflbeaaGreat
open Go.RowKit Go.ChangeShapes Go.WideShapes Go.Deep

theorem bulk_append {H : Type} (l r : List (DataW H)) : Rows.uptoBulkAll (l ++ r) = Rows.uptoBulkAll l + Rows.uptoBulkAll r := by
  induction l with
  | nil => simp [Rows.uptoBulkAll]
  | cons x l ih => simp only [List.cons_append, Rows.uptoBulkAll, ih]; omega

theorem cell_spot {w : World} {a : Addr} {v : Value} (h : w.cell? a = some v) : a.spot = none ∧ a.block < w.heap.size := by
  unfold World.cell? at h
  split at h
  · rename_i c t f hc
    refine ⟨?_, (Array.getElem?_eq_some_iff.1 hc).1⟩
    cases hs : a.spot with
    | none => rfl
    | some s => rw [hs] at h; simp at h
  · cases h

/-- How much a list of values is. -/
def sizeL {α : Type} (size : α → Nat) (l : List α) : Nat := 1 + (l.map size).sum
theorem sizeL_le {α : Type} {size : α → Nat} (hp : ∀ x, 1 ≤ size x) (l : List α) : l.length + 1 ≤ sizeL size l := by
  unfold sizeL
  induction l with
  | nil => simp
  | cons x l ih => have := hp x; simp only [List.map_cons, List.sum_cons, List.length_cons]; omega
theorem sizeL_mem {α : Type} {size : α → Nat} {l : List α} {x : α} (h : x ∈ l) : size x ≤ sizeL size l := by
  unfold sizeL
  induction l with
  | nil => cases h
  | cons y l ih =>
    simp only [List.map_cons, List.sum_cons]
    rcases List.mem_cons.1 h with rfl | h
    · omega
    · have := ih h; omega

/-- What the row's reading of a type gives. -/
structure Opens {α : Type} (P : Program) (t : TypeId) (k : Nat) (R : Reader α) (size : α → Nat) : Prop where
  cells : P.cellsOf t = k
  pos : 0 < k
  one : ∀ x, 1 ≤ size x
  opn : ∀ {H : Type} {enc : TypeId × Value → H} {w : World} {n : Nat} {cs : List Value} {x : DataW H × List MemPlace}, DataW.trod enc P w 0 (fun _ => true) true n t cs = some x → ∃ y, R (fun _ => True) w cs y ∧ size y ≤ Rows.uptoBulk x.1

theorem Opens.slice {α : Type} {P : Program} {t e : TypeId} {k : Nat} {R : Reader α} {size : α → Nat} (h : Opens P e k R size) (ht : P.underlying t = some (.slice e)) {H : Type} {enc : TypeId × Value → H} {w : World} {n : Nat} {cs : List Value} {x : DataW H × List MemPlace}
    (hx : DataW.trod enc P w 0 (fun _ => true) true n t cs = some x) : ∃ v l, cs = [v] ∧ RdSlice k R (fun _ => True) w v l ∧ sizeL size l ≤ Rows.uptoBulk x.1 := by
  rcases open_slice ht hx with ⟨rfl, rfl⟩ | ⟨a, len, cap, m, n', D, Pl, rfl, -, hl, hm, hmm, rfl, hi⟩
  · exact ⟨_, [], rfl, ⟨none, 0, rfl, Nat.le_refl _, Nat.zero_le _, fun _ => rfl, fun i x hx => by simp at hx⟩, by simp [sizeL, Rows.uptoBulk]⟩
  · simp only [if_true] at hmm
    subst hmm
    have main : ∀ j, j ≤ len → ∃ l : List α, l.length = j ∧ (∀ i y, l[i]? = some y → ∃ cs', w.cells? 0 (a.add (i * P.cellsOf e)) (P.cellsOf e) = some cs' ∧ R (fun _ => True) w cs' y) ∧ (l.map size).sum ≤ Rows.uptoBulkAll ((List.range j).map D) := by
      intro j
      induction j with
      | zero => exact fun _ => ⟨[], rfl, fun i y hy => by simp at hy, by simp⟩
      | succ j ih =>
        intro hj
        obtain ⟨l, h1, h2, h3⟩ := ih (by omega)
        obtain ⟨cs', g1, g2⟩ := hi j (by omega)
        obtain ⟨y, r1, r2⟩ := h.opn g2
        refine ⟨l ++ [y], by simp [h1], fun i z hz => ?_, ?_⟩
        · by_cases hij : i < j
          · rw [List.getElem?_append_left (by omega)] at hz; exact h2 i z hz
          · rw [List.getElem?_append_right (by omega)] at hz
            have : i - l.length = 0 := by
              have := (List.getElem?_eq_some_iff.1 hz).1
              simp at this; omega
            rw [this] at hz
            obtain rfl : y = z := by simpa using hz
            obtain rfl : i = j := by omega
            exact ⟨cs', g1, r1⟩
        · rw [List.range_succ, List.map_append (f := D), bulk_append, List.map_append, List.sum_append]
          simp [Rows.uptoBulkAll]
          simp at r2
          omega
    obtain ⟨l, h1, h2, h3⟩ := main len (Nat.le_refl _)
    refine ⟨_, l, rfl, ⟨some a, m, by rw [h1], by omega, hm, (fun e => by cases e), fun i y hy => ?_⟩, by simp only [sizeL, Rows.uptoBulk]; omega⟩
    obtain ⟨cs', g1, g2⟩ := h2 i y hy
    obtain ⟨-, hlen, hget⟩ := World.cells?_some g1
    rw [h.cells] at hlen hget
    have hk := h.pos
    obtain ⟨b, off, spot⟩ := a
    have hspot : spot = none ∧ b < w.heap.size := by
      obtain ⟨y0, hy0⟩ : ∃ y0, l[0]? = some y0 := ⟨_, List.getElem?_eq_getElem (by have := (List.getElem?_eq_some_iff.1 hy).1; omega)⟩
      obtain ⟨cs0, g3, -⟩ := h2 0 y0 hy0
      obtain ⟨-, hlen0, hget0⟩ := World.cells?_some g3
      rw [h.cells] at hlen0 hget0
      have h0 := hget0 0 hk
      rw [List.getElem?_eq_getElem (by omega)] at h0
      have := cell_spot h0
      simpa [Addr.add] using this
    obtain ⟨rfl, hb⟩ := hspot
    refine ⟨b, off, cs', rfl, trivial, hb, hlen, fun j u hu => ?_, g2⟩
    · have hj : j < k := by rw [← hlen]; exact (List.getElem?_eq_some_iff.1 hu).1
      have := hget j hj
      rw [hu] at this
      have hadd : ((⟨b, off, none⟩ : Addr).add (i * k)).add j = ⟨b, off + i * k + j, none⟩ := by
        unfold Addr.add
        split
        · split
          · simp_all
          · simp_all
        · split <;> simp_all <;> omega
      rwa [hadd] at this

/-- A struct that is an argument. -/
theorem Opens.arg {α : Type} {P : Program} {t : TypeId} {k : Nat} {R : Reader α} {size : α → Nat} (h : Opens P t k R size) {fs : Array Field} (ht : P.underlying t = some (.struct fs)) {H : Type} {enc : TypeId × Value → H} {W : World} {r : Reach} {b : Nat} {v : Value} {d : DataW H} {p : List MemPlace}
    (hv : Value.okWide P W r b t v) (hd : DataW.Trod enc P W 0 (fun _ => true) true t v d p) : ∃ x cs, v = .agg cs ∧ R (fun _ => True) W cs.toList x ∧ size x ≤ Rows.uptoBulk d := by
  obtain ⟨cs, rfl, -⟩ := okWide_struct ht hv
  obtain ⟨n, hn⟩ := hd
  obtain ⟨x, hr, hb⟩ := h.opn hn
  exact ⟨x, cs, rfl, hr, hb⟩
/-- A slice that is an argument. -/
theorem Opens.sliceArg {α : Type} {P : Program} {t e : TypeId} {k : Nat} {R : Reader α} {size : α → Nat} (h : Opens P e k R size) (ht : P.underlying t = some (.slice e)) {H : Type} {enc : TypeId × Value → H} {W : World} {r : Reach} {b : Nat} {v : Value} {d : DataW H} {p : List MemPlace}
    (hv : Value.okWide P W r b t v) (hd : DataW.Trod enc P W 0 (fun _ => true) true t v d p) : ∃ l, RdSlice k R (fun _ => True) W v l ∧ sizeL size l ≤ Rows.uptoBulk d := by
  obtain ⟨a, len, cap, rfl⟩ := okWide_slice ht hv
  obtain ⟨n, hn⟩ := hd
  obtain ⟨v', l, e1, hr, hb⟩ := h.slice ht hn
  have e2 : [Value.slice a len cap] = [v'] := e1
  obtain rfl : Value.slice a len cap = v' := by simpa using e2
  exact ⟨l, hr, hb⟩

theorem Opens.factArg {P : Program} {t : TypeId} {size : PFact → Nat} (h : Opens P t 2 RFact size) {fs : Array Field} (ht : P.underlying t = some (.struct fs)) {H : Type} {enc : TypeId × Value → H} {W : World} {r : Reach} {b : Nat} {v : Value} {d : DataW H} {p : List MemPlace}
    (hv : Value.okWide P W r b t v) (hd : DataW.Trod enc P W 0 (fun _ => true) true t v d p) : ∃ (f : PFact) (av : Value), v = .agg #[.string f.name, av] ∧ RdStrs (fun _ => True) W av f.args ∧ size f ≤ Rows.uptoBulk d := by
  obtain ⟨f, cs, rfl, ⟨av, e, hr⟩, hb⟩ := h.arg ht hv hd
  exact ⟨f, av, by rw [← Array.toArray_toList (xs := cs), e], hr, hb⟩

theorem Opens.strArg {P : Program} {t : TypeId} (h : Opens P t 1 RStr (fun s => s.size + 1)) (ht : P.underlying t = some .string) {H : Type} {enc : TypeId × Value → H} {W : World} {r : Reach} {b : Nat} {v : Value} {d : DataW H} {p : List MemPlace}
    (hv : Value.okWide P W r b t v) (hd : DataW.Trod enc P W 0 (fun _ => true) true t v d p) : ∃ s : Str, v = .string s ∧ s.size + 1 ≤ Rows.uptoBulk d := by
  obtain ⟨s, rfl⟩ := okWide_string ht hv
  obtain ⟨n, hn⟩ := hd
  obtain ⟨y, e, hb⟩ := h.opn hn
  have e' : [Value.string s] = [.string y] := e
  obtain rfl : s = y := by simpa using e'
  exact ⟨_, rfl, hb⟩
theorem Opens.intArg {P : Program} {t : TypeId} (h : Opens P t 1 RInt (fun _ => 1)) (ht : P.underlying t = some (.int .i64)) {H : Type} {enc : TypeId × Value → H} {W : World} {r : Reach} {b : Nat} {v : Value} {d : DataW H} {p : List MemPlace}
    (hv : Value.okWide P W r b t v) (hd : DataW.Trod enc P W 0 (fun _ => true) true t v d p) : ∃ n : Int, v = .int .i64 n ∧ 1 ≤ Rows.uptoBulk d := by
  obtain ⟨s, rfl⟩ := okWide_int ht hv
  obtain ⟨n, hn⟩ := hd
  obtain ⟨y, e, hb⟩ := h.opn hn
  exact ⟨_, rfl, hb⟩

theorem list2 {l : List Value} (h : l.length = 2) : ∃ a b, l = [a, b] := match l, h with | [a, b], _ => ⟨a, b, rfl⟩
theorem list3 {l : List Value} (h : l.length = 3) : ∃ a b c, l = [a, b, c] := match l, h with | [a, b, c], _ => ⟨a, b, c, rfl⟩
theorem list4 {l : List Value} (h : l.length = 4) : ∃ a b c d, l = [a, b, c, d] := match l, h with | [a, b, c, d], _ => ⟨a, b, c, d, rfl⟩
def sizeStr (s : Str) : Nat := s.size + 1
def sizeInt (_ : Int) : Nat := 1
def sizeFact (f : PFact) : Nat := 1 + sizeStr f.name + sizeL sizeStr f.args
def sizeTerm (f : PTerm) : Nat := 2 + sizeStr f.name
def sizeAtom (f : PAtom) : Nat := 2 + sizeStr f.name + sizeL sizeTerm f.terms
def sizeRule (f : PRule) : Nat := 1 + sizeAtom f.head + sizeL sizeAtom f.body
def sizeBind (f : PBind) : Nat := 1 + sizeStr f.var + sizeStr f.name

theorem openStr : Opens Tryz.prog 9 1 RStr sizeStr where
  cells := by kernel_rfl
  pos := by omega
  one _ := by simp only [sizeStr]; omega
  opn h := by
    obtain ⟨s, rfl, rfl, -⟩ := DataW.trod_string Tryz.underlying9 h
    refine ⟨s, rfl, ?_⟩
    have : s.data.toList.length = s.size := by rw [Array.length_toList]; rfl
    simp only [sizeStr, Rows.uptoBulk]; omega
theorem openInt : Opens Tryz.prog 3 1 RInt sizeInt where
  cells := by kernel_rfl
  pos := by omega
  one _ := by simp [sizeInt]
  opn h := by
    obtain ⟨s, rfl, rfl, -⟩ := DataW.trod_int Tryz.underlying3 h
    exact ⟨s, rfl, by simp [sizeInt, Rows.uptoBulk]⟩
theorem openFact : Opens Tryz.prog 38 2 RFact sizeFact where
  cells := by kernel_rfl
  pos := by omega
  one _ := by simp only [sizeFact]; omega
  opn {H enc w n cs x} h := by
    obtain ⟨y0, y1, n, rfl, hl, h0, h1⟩ := trod_struct2 Tryz.underlying38 h
    rw [show Tryz.prog.cellsOf 38 = 2 by kernel_rfl] at hl
    obtain ⟨c0, c1, rfl⟩ := list2 hl
    rw [show Tryz.prog.cellsOf 9 = 1 by kernel_rfl] at h0
    rw [show Tryz.prog.cellsOf 36 = 1 by kernel_rfl] at h1
    obtain ⟨s, e0, b0⟩ := openStr.opn h0
    obtain ⟨v, l, e1, hr, b1⟩ := openStr.slice Tryz.underlying36 h1
    obtain rfl : c0 = .string s := by simpa [RStr] using e0
    obtain rfl : c1 = v := by simpa using e1
    exact ⟨⟨s, l⟩, ⟨_, rfl, hr⟩, by simp only [sizeFact, Rows.uptoBulk, Rows.uptoBulkAll]; omega⟩
theorem openTerm : Opens Tryz.prog 101 2 RTerm sizeTerm where
  cells := by kernel_rfl
  pos := by omega
  one _ := by simp only [sizeTerm]; omega
  opn {H enc w n cs x} h := by
    obtain ⟨y0, y1, n, rfl, hl, h0, h1⟩ := trod_struct2 Tryz.underlying101 h
    rw [show Tryz.prog.cellsOf 101 = 2 by kernel_rfl] at hl
    obtain ⟨c0, c1, rfl⟩ := list2 hl
    rw [show Tryz.prog.cellsOf 4 = 1 by kernel_rfl] at h0
    rw [show Tryz.prog.cellsOf 9 = 1 by kernel_rfl] at h1
    obtain ⟨b, e0, rfl⟩ := DataW.trod_bool Tryz.underlying4 h0
    obtain ⟨s, e1, b1⟩ := openStr.opn h1
    obtain rfl : c0 = .bool b := by simpa using e0
    obtain rfl : c1 = .string s := by simpa [RStr] using e1
    exact ⟨⟨b, s⟩, rfl, by simp only [sizeTerm, Rows.uptoBulk, Rows.uptoBulkAll]; omega⟩
theorem openAtom : Opens Tryz.prog 74 3 RAtom sizeAtom where
  cells := by kernel_rfl
  pos := by omega
  one _ := by simp only [sizeAtom]; omega
  opn {H enc w n cs x} h := by
    obtain ⟨y0, y1, y2, n, rfl, hl, h0, h1, h2⟩ := trod_struct3 Tryz.underlying74 h
    rw [show Tryz.prog.cellsOf 74 = 3 by kernel_rfl] at hl
    obtain ⟨c0, c1, c2, rfl⟩ := list3 hl
    rw [show Tryz.prog.cellsOf 4 = 1 by kernel_rfl] at h0
    rw [show Tryz.prog.cellsOf 9 = 1 by kernel_rfl] at h1
    rw [show Tryz.prog.cellsOf 72 = 1 by kernel_rfl] at h2
    obtain ⟨b, e0, rfl⟩ := DataW.trod_bool Tryz.underlying4 h0
    obtain ⟨s, e1, b1⟩ := openStr.opn h1
    obtain ⟨v, l, e2, hr, b2⟩ := openTerm.slice Tryz.underlying72 h2
    obtain rfl : c0 = .bool b := by simpa using e0
    obtain rfl : c1 = .string s := by simpa [RStr] using e1
    obtain rfl : c2 = v := by simpa using e2
    exact ⟨⟨b, s, l⟩, ⟨_, rfl, hr⟩, by simp only [sizeAtom, Rows.uptoBulk, Rows.uptoBulkAll]; omega⟩
theorem openRule : Opens Tryz.prog 78 4 RRule sizeRule where
  cells := by kernel_rfl
  pos := by omega
  one _ := by simp only [sizeRule]; omega
  opn {H enc w n cs x} h := by
    obtain ⟨y0, y1, n, rfl, hl, h0, h1⟩ := trod_struct2 Tryz.underlying78 h
    rw [show Tryz.prog.cellsOf 78 = 4 by kernel_rfl] at hl
    obtain ⟨c0, c1, c2, c3, rfl⟩ := list4 hl
    rw [show Tryz.prog.cellsOf 74 = 3 by kernel_rfl] at h0
    rw [show Tryz.prog.cellsOf 76 = 1 by kernel_rfl] at h1
    obtain ⟨a, ⟨tv, e0, hr0⟩, b0⟩ := openAtom.opn h0
    obtain ⟨v, l, e1, hr, b1⟩ := openAtom.slice Tryz.underlying76 h1
    obtain ⟨rfl, rfl, rfl⟩ : c0 = .bool a.neg ∧ c1 = .string a.name ∧ c2 = tv := by simpa using e0
    obtain rfl : c3 = v := by simpa using e1
    exact ⟨⟨a, l⟩, ⟨_, _, rfl, hr0, hr⟩, by simp only [sizeRule, Rows.uptoBulk, Rows.uptoBulkAll]; omega⟩
theorem openBind : Opens Tryz.prog 148 2 RBind sizeBind where
  cells := by kernel_rfl
  pos := by omega
  one _ := by simp only [sizeBind]; omega
  opn {H enc w n cs x} h := by
    obtain ⟨y0, y1, n, rfl, hl, h0, h1⟩ := trod_struct2 Tryz.underlying148 h
    rw [show Tryz.prog.cellsOf 148 = 2 by kernel_rfl] at hl
    obtain ⟨c0, c1, rfl⟩ := list2 hl
    rw [show Tryz.prog.cellsOf 9 = 1 by kernel_rfl] at h0 h1
    obtain ⟨s, e0, b0⟩ := openStr.opn h0
    obtain ⟨s', e1, b1⟩ := openStr.opn h1
    obtain rfl : c0 = .string s := by simpa [RStr] using e0
    obtain rfl : c1 = .string s' := by simpa [RStr] using e1
    exact ⟨⟨s, s'⟩, rfl, by simp only [sizeBind, Rows.uptoBulk, Rows.uptoBulkAll]; omega⟩

/-! ### The row's end -/
theorem trodAll_carry {H : Type} {enc : TypeId × Value → H} {P : Program} (hl : laidOutB P = true) {W W' : World} (hb : Below W.heap.size W W') {sp : Nat → Bool} :
    ∀ {ts : List TypeId} {vs : List Value} {ds : List (DataW H)} {ps : List MemPlace}, ts.all (fun t => P.readableRec t && decide (t < P.types.size)) = true → (∀ x ∈ ps, x.block < W.heap.size) → (∀ x ∈ ps, sp x.block = true) →
      DataW.TrodAll enc P W 0 (fun _ => true) true ts vs ds ps → DataW.TrodAll enc P W' 0 sp true ts vs ds ps
  | [], _, _, _, _, _, _, h => by
    obtain ⟨rfl, rfl, rfl⟩ := trodAll_nil h
    exact trodAll_mk0
  | t :: ts, _, _, _, ht, hlt, hsp, h => by
    obtain ⟨v, vs1, d, ds1, a, b, rfl, rfl, rfl, h1, h2⟩ := trodAll_cons h
    simp only [List.all_cons, Bool.and_eq_true, decide_eq_true_eq] at ht
    exact ⟨a, b, WideElems.Trod_stays hl ht.1.1 ht.1.2 h1 (fun x hx => hb.same (hlt x (by simp [hx]))) (fun x hx => hsp x (by simp [hx])),
      trodAll_carry hl hb (by simpa using ht.2) (fun x hx => hlt x (by simp [hx])) (fun x hx => hsp x (by simp [hx])) h2, rfl⟩

/-- A law's end: it has answered true; nothing below the heap's old size has turned. -/
theorem law_post {H : Type} {enc : TypeId × Value → H} {P : Program} {f : Func} {s : ChangeSpec} {fresh handsOn again : Bool} {W W' : World} {args : Array Value} {ds gs : List (DataW H)} {before : List MemPlace} {tb : TypeId}
    (hW : DataW.Whole enc P f.params.toList s.vars false W args.toList ds gs before) (hv : s.vars = []) (hfn : s.fn H ds = { results := [.lit (.bool true)], args := ds }) (hrt : f.resultTypes = #[tb]) (htb : P.underlying tb = some .bool)
    (hl : laidOutB P = true) (hread : f.params.toList.all (fun t => P.readableRec t && decide (t < P.types.size)) = true) (hb : Below W.heap.size W W') : s.post enc P f false fresh handsOn again W args (.bool true) W' := by
  have hlt := hW.lt
  have hold : ∀ p ∈ before, (fun b => decide (b < W.heap.size)) p.block = true := fun p hp => by simpa using hlt p hp
  have hW' := hW
  obtain ⟨p, q, hA, hV, rfl, hz, hn⟩ := hW
  rw [hv] at hV
  obtain ⟨rfl, rfl⟩ := trodVars_none hV
  have hds : ds ++ ([] : List (DataW H)) = ds := List.append_nil _
  have hargs : ∀ sp : Nat → Bool, (∀ x ∈ p, sp x.block = true) → DataW.TrodAll enc P W' 0 sp true f.params.toList args.toList (s.fn H (ds ++ [])).args p := fun sp hsp => by
    rw [hds, hfn]
    exact trodAll_carry hl hb hread (fun x hx => hlt x (by simp [hx])) hsp hA
  have hres : ∀ (b : Nat) (sp : Nat → Bool) (hd : Bool), DataW.TrodAll enc P W' b sp hd f.resultTypes.toList ((Value.bool true).resultList f.resultTypes.size) (s.fn H (ds ++ [])).results [] := fun b sp hd => by
    rw [hds, hfn, hrt]
    exact trodAll_cons_mk (shut_bool htb _) trodAll_mk0
  have hvars : ∀ sp : Nat → Bool, DataW.TrodVars enc P W' sp s.vars (s.fn H (ds ++ [])).vars [] := fun sp => by
    rw [hds, hfn, hv]; rfl
  refine ⟨ds, [], p ++ [], [], p, [], hW', hres _ _ _, hargs _ (fun x hx => hold x (by simp [hx])), hvars _, World.keptBut_mono (fun x hx => ⟨hx, Or.inr (by simpa using hx)⟩) (hb.frame (· ∈ p ++ [])), fun _ => ?_⟩
  refine ⟨ok_one hrt rfl (okWide_bool_mk htb _), _, _, ([] ++ p) ++ [], ⟨[] ++ p, [], trodAll_append (hargs _ (fun _ _ => rfl)) (hres _ _ _), hvars _, rfl, ?_, ?_⟩, ?_⟩
  · intro b off hp
    have hb' : b < W.heap.size := hlt (.cell b off) (by simpa using hp)
    rw [hb.frozen (p := ⟨b, off, none⟩) hb']
    exact hz b off (by simpa using hp)
  · intro ha; cases ha
  · intro x hx _
    simpa using hx
end Go.Proofs.YtchgaofgeflbeaaGreat

/-
  PLAIN: rules of little bulk are small.
-/
namespace Go.Proofs.YtchgaofgeflbeaaGreat

theorem atom_small {a : PAtom} : a.name.size ≤ sizeAtom a ∧ a.terms.length ≤ sizeAtom a ∧ ∀ t ∈ a.terms, t.name.size ≤ sizeAtom a := by
  have h2 := sizeL_le (size := sizeTerm) openTerm.one a.terms
  refine ⟨by simp only [sizeAtom, sizeStr]; omega, by simp only [sizeAtom]; omega, fun t ht => ?_⟩
  have h1 := sizeL_mem (size := sizeTerm) ht
  have h3 : t.name.size ≤ sizeTerm t := by simp only [sizeTerm, sizeStr]; omega
  simp only [sizeAtom]; omega
theorem rules_small {p : List PRule} (h : sizeL sizeRule p ≤ 1048576) : p.length ≤ 1048576 ∧ (∀ r ∈ p, RuleSmall r) ∧ ∀ r ∈ p, NameSmall r := by
  have l := sizeL_le (size := sizeRule) openRule.one p
  have hr : ∀ r ∈ p, sizeAtom r.head ≤ 1048576 ∧ sizeL sizeAtom r.body ≤ 1048576 := fun r hr => by
    have h1 := sizeL_mem (size := sizeRule) hr
    simp only [sizeRule] at h1
    constructor <;> omega
  have hb : ∀ r ∈ p, ∀ a ∈ r.body, sizeAtom a ≤ 1048576 := fun r h1 a ha => by
    have h2 := sizeL_mem (size := sizeAtom) ha
    have h3 := (hr r h1).2
    omega
  refine ⟨by omega, fun r h1 => ?_, fun r h1 => ?_⟩
  · have h2 := (hr r h1).1
    have h3 := sizeL_le (size := sizeAtom) openAtom.one r.body
    have h4 := (hr r h1).2
    obtain ⟨g1, g2, g3⟩ := atom_small (a := r.head)
    refine ⟨by omega, fun t ht => by have := g3 t ht; omega, by omega, fun a ha => ?_, fun a ha t ht => ?_⟩
    · have := hb r h1 a ha
      have := (atom_small (a := a)).2.1
      omega
    · have := hb r h1 a ha
      have := (atom_small (a := a)).2.2 t ht
      omega
  · have h2 := (hr r h1).1
    have := (atom_small (a := r.head)).1
    refine ⟨by omega, fun a ha => ?_⟩
    have := hb r h1 a ha
    have := (atom_small (a := a)).1
    omega
end Go.Proofs.YtchgaofgeflbeaaGreat

/-
  WHAT THE LAWS OF CHAPTER 5 CALL, its answers being known.
-/
namespace Go.Proofs.YtchgaofgeflbeaaGreat
open Go.RowKit Go.ChangeShapes Go.WideShapes Go.Deep

theorem fix_nil {ps : List (PRule × Int)} {n : Int} : ∀ {k : Nat} {o : List PFact}, (fixP ps n k o).2 ≠ 0 → (fixP ps n k o).1 = []
  | 0, o, h => absurd rfl h
  | k + 1, o, h => by
    rw [fixP] at h ⊢
    split
    · rfl
    · rename_i h1
      rw [if_neg h1] at h
      split
      · rename_i h2; rw [if_pos h2] at h; exact absurd rfl h
      · rename_i h2; rw [if_neg h2] at h; exact fix_nil h
theorem run_nil {ps : List (PRule × Int)} : ∀ {k : Nat} {i : Int} {o : List PFact}, (runP ps k i o).2 ≠ 0 → (runP ps k i o).1 = []
  | 0, _, o, h => absurd rfl h
  | k + 1, i, o, h => by
    rw [runP] at h ⊢
    split
    · rfl
    · rename_i h1; rw [if_neg h1] at h; exact run_nil h
theorem naive_nil {st : List Int} {q : Int} {p : List PRule} {l : List PFact} (h : (naiveP st q p l).2 ≠ 0) : (naiveP st q p l).1 = [] := by
  unfold naiveP at h ⊢
  split
  · rfl
  · rename_i h1
    rw [if_neg h1] at h
    split
    · rfl
    · rename_i h2; rw [if_neg h2] at h; exact run_nil h
theorem less_nil {l m : List PFact} (h : ∀ x ∈ l, x ∈ m) : lessF l m = [] := List.filter_eq_nil_iff.2 fun x hx => by rw [(memF_iff x m).2 (h x hx)]; decide
theorem good_args {l : List PFact} (h : ∀ f ∈ l, wrongF f = 0) : ∀ x ∈ l, x.args.length ≤ 1048576 := fun x hx => by have := (wrongF_zero.1 (h x hx)).2.1; omega

/-- naive.All, read. -/
theorem naiveReads {S S3 : Nat → Prop} (p : List PRule) (v fv : Value) (st : List Int) (q : Int × Int) (l : List PFact) (w : World) (hS : StrataIs p st q) (h : RdRules S w v p) (hf : RdFacts S3 w fv l)
    (n1 : p.length ≤ 1048576) (n2 : ∀ r ∈ p, RuleSmall r) (n3 : ∀ r ∈ p, NameSmall r) (n4 : l.length ≤ 1048576) (n5 : ∀ x ∈ l, x.args.length ≤ 1048576) :
    Calls Tryz.prog 8 #[v, fv] w fun e w' => (∃ a c, e = .returned (.tuple #[.slice a (naiveP st q.1 p l).1.length c, .int .i64 (naiveP st q.1 p l).2]) ∧ RdFacts (fun _ => True) w' (.slice a (naiveP st q.1 p l).1.length c) (naiveP st q.1 p l).1) ∧ Below w.heap.size w w' :=
  naiveKnown rfl hS rfl h hf n1 n2 n3 n4 n5
/-- naive.Heads, read. -/
theorem headsReads {S S2 S3 : Nat → Prop} (x : PRule) (tv bv fv : Value) (facts : List PFact) (w : World) (ht : RdTerms S w tv x.head.terms) (hb : RdAtoms S2 w bv x.body) (hf : RdFacts S3 w fv facts)
    (hs : RuleSmall x) (n4 : facts.length ≤ 1048576) (n5 : ∀ x ∈ facts, x.args.length ≤ 1048576) :
    Calls Tryz.prog 40 #[.agg #[.bool x.head.neg, .string x.head.name, tv, bv], fv] w fun e w' => (∃ a c, e = .returned (.tuple #[.slice a (headsP x facts).1.length c, .int .i64 (headsP x facts).2]) ∧ RdFacts (fun _ => True) w' (.slice a (headsP x facts).1.length c) (headsP x facts).1) ∧ Below w.heap.size w w' :=
  (headsCalls x tv bv fv facts w ht hb hf hs n4 n5).mono fun e w' ⟨hb, v', he, ho⟩ => by
    have h' := (ho.read RFact.steady).more RFact.steady (S' := fun _ => True) (fun _ _ _ => trivial)
    obtain ⟨a, c, rfl, -, -, -⟩ := id h'.form
    exact ⟨⟨a, c, he, h'⟩, hb⟩
/-- fact.Less, read. -/
theorem lessReads {S T : Nat → Prop} {va vb : Value} {l m : List PFact} {w : World} (h : RdFacts S w va l) (hm : RdFacts T w vb m) (hs : Rising m) (n1 : l.length ≤ 1048576) (n2 : ∀ x ∈ l, x.args.length ≤ 1048576) (n3 : m.length ≤ 1048576) (n4 : ∀ x ∈ m, x.args.length ≤ 1048576) :
    Calls Tryz.prog 48 #[va, vb] w fun e w' => (∃ a c, e = .returned (.slice a (lessF l m).length c) ∧ RdFacts (fun _ => True) w' (.slice a (lessF l m).length c) (lessF l m)) ∧ Below w.heap.size w w' :=
  (lessCalls va vb l m w h hm hs (by omega) (fun x hx => by have := n2 x hx; omega) (by omega) (fun x hx => by have := n4 x hx; omega)).mono fun e w' ⟨⟨v', he, ho⟩, hb⟩ => by
    have h' := (ho.read RFact.steady).more RFact.steady (S' := fun _ => True) (fun _ _ _ => trivial)
    obtain ⟨a, c, rfl, -, -, -⟩ := id h'.form
    exact ⟨⟨a, c, he, h'⟩, hb⟩
theorem lessNone {S T : Nat → Prop} {va vb : Value} {l m : List PFact} {w : World} (hlm : ∀ x ∈ l, x ∈ m) (h : RdFacts S w va l) (hm : RdFacts T w vb m) (hs : Rising m) (n1 : l.length ≤ 1048576) (n2 : ∀ x ∈ l, x.args.length ≤ 1048576) (n3 : m.length ≤ 1048576) (n4 : ∀ x ∈ m, x.args.length ≤ 1048576) :
    Calls Tryz.prog 48 #[va, vb] w fun e w' => (∃ a c, e = .returned (.slice a 0 c)) ∧ Below w.heap.size w w' :=
  (lessReads h hm hs n1 n2 n3 n4).mono fun e w' ⟨⟨a, c, he, _⟩, hb⟩ => ⟨⟨a, c, by rw [he, less_nil hlm]; rfl⟩, hb⟩
theorem joinReads {S T : Nat → Prop} {va vb : Value} {a b : List PFact} {w : World} (ha : RdFacts S w va a) (hb : RdFacts T w vb b) (n1 : a.length ≤ 1048576) (n1' : b.length ≤ 1048576) (n2 : ∀ x ∈ a, x.args.length ≤ 1048576) (n3 : ∀ x ∈ b, x.args.length ≤ 1048576) :
    Calls Tryz.prog 41 #[va, vb] w fun e w' => (∃ q c, e = .returned (.slice q (joinF a b).length c) ∧ RdFacts (fun _ => True) w' (.slice q (joinF a b).length c) (joinF a b)) ∧ Below w.heap.size w w' :=
  (joinCalls va vb a b w ha hb (by omega) (fun x hx => by have := n2 x hx; omega) (fun x hx => by have := n3 x hx; omega)).mono fun e w' ⟨⟨v', he, ho⟩, hb⟩ => by
    have h' := (ho.read RFact.steady).more RFact.steady (S' := fun _ => True) (fun _ _ _ => trivial)
    obtain ⟨q, c, rfl, -, -, -⟩ := id h'.form
    exact ⟨⟨q, c, he, h'⟩, hb⟩
/-- A rule of a program, where it lies. -/
theorem RdRules.pick {S : Nat → Prop} {w : World} {a : Option Addr} {n cap : Nat} {l : List PRule} (h : RdRules S w (.slice a n cap) l) {i : Nat} {x : PRule} (hx : l[i]? = some x) :
    ∃ b o ta tc ba bc, a = some ⟨b, o, none⟩ ∧ RuleAt S w b (o + i * 4) x (.slice ta x.head.terms.length tc) (.slice ba x.body.length bc) := by
  obtain ⟨b1, o1, tv, bv, rfl, -, hb1, d0, d1, d2, d3, htv, hbv⟩ := RdRules.at h hx
  obtain ⟨ta, tc, rfl, -, -, -⟩ := id htv.form
  obtain ⟨ba, bc, rfl, -, -, -⟩ := id hbv.form
  exact ⟨b1, o1, ta, tc, ba, bc, rfl, hb1, d0, d1, d2, d3, htv, hbv⟩
theorem Opens.ruleArg {P : Program} {t : TypeId} {size : PRule → Nat} (h : Opens P t 4 RRule size) {fs : Array Field} (ht : P.underlying t = some (.struct fs)) {H : Type} {enc : TypeId × Value → H} {W : World} {r : Reach} {b : Nat} {v : Value} {d : DataW H} {p : List MemPlace}
    (hv : Value.okWide P W r b t v) (hd : DataW.Trod enc P W 0 (fun _ => true) true t v d p) : ∃ (x : PRule) (tv bv : Value), v = .agg #[.bool x.head.neg, .string x.head.name, tv, bv] ∧ RdTerms (fun _ => True) W tv x.head.terms ∧ RdAtoms (fun _ => True) W bv x.body ∧ size x ≤ Rows.uptoBulk d := by
  obtain ⟨f, cs, rfl, ⟨tv, bv, e, h1, h2⟩, hb⟩ := h.arg ht hv hd
  exact ⟨f, tv, bv, by rw [← Array.toArray_toList (xs := cs), e], h1, h2, hb⟩
theorem rule_small {r : PRule} (h : sizeRule r ≤ 1048576) : RuleSmall r := by
  simp only [sizeRule] at h
  have h3 := sizeL_le (size := sizeAtom) openAtom.one r.body
  obtain ⟨g1, g2, g3⟩ := atom_small (a := r.head)
  have hb : ∀ a ∈ r.body, sizeAtom a ≤ 1048576 := fun a ha => by have h2 := sizeL_mem (size := sizeAtom) ha; omega
  exact ⟨by omega, fun t ht => by have := g3 t ht; omega, by omega, fun a ha => by have := hb a ha; have := (atom_small (a := a)).2.1; omega, fun a ha t ht => by have := hb a ha; have := (atom_small (a := a)).2.2 t ht; omega⟩
end Go.Proofs.YtchgaofgeflbeaaGreat
