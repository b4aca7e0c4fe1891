/-
  THE WALK OF cororef1.Walk.Atom.
-/
import Derived.Test.YtobbjapmdpkogaaRefW3
import Derived.Deep.DeepCutAuto
import Derived.Deep.RegionLaw
namespace Go.Proofs.Ytobbjapmdpkogaa
open Go.RowKit

theorem wordOf_idem (r : Bytes) : wordOf (blankF false r) = wordOf r := by unfold wordOf; rw [blankF_idem]
theorem nameL_notVar {l : Bytes} (h : nameL l = true) : varL l = false := by
  cases l with
  | nil => simp [nameL] at h
  | cons c l =>
    simp only [nameL, Bool.and_eq_true, decide_eq_true_eq] at h
    have hu : upperB c = false := by
      rcases byte_cases c with h1 | h1 | h1 | h1 | h1 | h1 | h1 | h1 | h1
      all_goals first | exact h1.2.2.1 | (rw [h1.2.1] at h; exact absurd h.2.1 (by decide))
    simp [varL, hu]
def atomOf (nb : Bool) (x : Str) : Got (List PTerm) → Got PAtom
  | .error e => .error e
  | .ok (ts, r4) => .ok (⟨nb, x, ts⟩, r4)
def endOf (acc : List PTerm) : Got Unit → Got (List PTerm)
  | .error e => .error e
  | .ok (_, r3) => .ok (acc, r3)
/-- Where the name stands. -/
def nameAt (no : Bool) (r : Bytes) : Bytes := if no then eatF [33] r else r
/-- atomF, as the reference reads. -/
theorem atomF_R (no : Bool) (r : Bytes) : atomF no r = match wordR false (nameAt no r) with
    | .error e => .error e
    | .ok (x, r2) => if eatsF [40] r2 then atomOf (negOf no r) x (termsF 4 [] (eatF [40] r2)) else .ok (⟨negOf no r, x, []⟩, eatF [40] r2) := by
  have hb : behindNot no r = blankF false (nameAt no r) := rfl
  unfold atomF wordF wordR
  rw [hb, wordOf_idem, blankF_idem]
  by_cases h1 : wordOf (nameAt no r) = []
  · rw [if_pos h1, if_pos h1]
  · rw [if_neg h1, if_neg h1]
    cases h2 : nameL (wordOf (nameAt no r))
    · cases h3 : varL (wordOf (nameAt no r))
      · simp
      · have h4 : variableS (strOf (wordOf (nameAt no r))) = true := by rw [variableS_strOf]; exact h3
        simp [h4]
    · have h3 := nameL_notVar h2
      have h4 : variableS (strOf (wordOf (nameAt no r))) = false := by rw [variableS_strOf]; exact h3
      simp only [h3, Bool.true_eq_false, false_and, if_false, true_or, if_true]
      rw [h4]
      simp only [Bool.false_eq_true, if_false]
      split
      · rcases termsF 4 [] (eatF [40] (List.drop (List.length (wordOf (nameAt no r))) (blankF false (nameAt no r)))) with e | ⟨ts, r4⟩ <;> rfl
      · rfl
theorem termsF_R (n : Nat) (acc : List PTerm) (r : Bytes) : termsF (n + 1) acc r = match wordR true r with
    | .error e => .error e
    | .ok (x, r1) => if eatsF [44] r1 then termsF n (acc ++ [⟨variableS x, x⟩]) (eatF [44] r1) else endOf (acc ++ [⟨variableS x, x⟩]) (mustF [41] (eatF [44] r1)) := by
  rw [wordR_true, termsF]
  rcases wordF r with e | ⟨x, r1⟩
  · rfl
  · dsimp only
    split
    · rfl
    · rcases mustF [41] (eatF [44] r1) with e | ⟨u, r3⟩ <;> rfl
/-- Where the reading of terms stands: going on, done, or stopped. -/
def TermsAt (TG : Got (List PTerm)) (n : Nat) (acc : List PTerm) (more : Bool) (σ : St) : Prop :=
  (more = true ∧ acc.length + n = 4 ∧ ∃ r, σ = .ok r ∧ TG = termsF n acc r) ∨
  (more = false ∧ n = 0 ∧ ∃ r, σ = .ok r ∧ TG = endOf acc (mustF [41] r)) ∨
  (more = false ∧ n = 0 ∧ ∃ e, σ = .error e ∧ TG = .error e)
theorem TermsAt.done {TG : Got (List PTerm)} {n : Nat} {acc : List PTerm} {σ : St} {nb : Bool} {x : Str} (h : TermsAt TG n acc false σ) : stOf (atomOf nb x TG) = needσ [41] σ ∧ ∀ y r', atomOf nb x TG = .ok (y, r') → y = ⟨nb, x, acc⟩ := by
  rcases h with ⟨h, -⟩ | ⟨-, -, r, rfl, rfl⟩ | ⟨-, -, e, rfl, rfl⟩
  · cases h
  · show stOf (atomOf nb x (endOf acc (mustF [41] r))) = stOf (mustF [41] r) ∧ _
    rcases mustF [41] r with e | ⟨u, r3⟩
    · exact ⟨rfl, fun y r' h => by cases h⟩
    · exact ⟨rfl, fun y r' h => by cases h; rfl⟩
  · exact ⟨rfl, fun y r' h => by cases h⟩
theorem TermsAt.next {TG : Got (List PTerm)} {n : Nat} {acc : List PTerm} {r : Bytes} {y : Str} (hn : acc.length + (n + 1) = 4) (hT : TG = termsF (n + 1) acc r) (hy : ∀ z r', wordR true r = .ok (z, r') → z = y) :
    TermsAt TG (if eatσB [44] (stOf (wordR true r)) then n else 0) (acc ++ [⟨variableS y, y⟩]) (eatσB [44] (stOf (wordR true r))) (eatσ [44] (stOf (wordR true r))) := by
  rw [termsF_R] at hT
  rcases hw : wordR true r with e | ⟨z, r1⟩
  · rw [hw] at hT
    exact .inr (.inr ⟨rfl, rfl, e, rfl, hT⟩)
  · obtain rfl := hy z r1 hw
    rw [hw] at hT
    dsimp only at hT
    show TermsAt TG (if eatsF [44] r1 then n else 0) _ (eatsF [44] r1) (.ok (eatF [44] r1))
    cases he : eatsF [44] r1
    · rw [he, if_neg (by simp)] at hT
      exact .inr (.inl ⟨rfl, rfl, _, rfl, hT⟩)
    · rw [he, if_pos rfl] at hT
      exact .inl ⟨rfl, by simp; omega, _, rfl, hT⟩
def CutR (B : Nat) (s : Str) (σ : St) (w : World) (N1 : Nat) (nb : Bool) (x : Str) (acc : List PTerm) (wx : World) : Prop :=
  ∃ tv, WS B s wx σ ∧ But B w wx ∧ Blk wx w.heap.size 30 #[.bool false, .string ⟨#[]⟩, .slice none 0 0] ∧ Blk wx N1 30 #[.bool nb, .string x, tv] ∧ Owned 2 RTerm (N1 + 1) 65 (fun _ => False) wx tv acc
theorem EndsS.of {α : Type} {B : Nat} {s : Str} {w w' : World} {V : α → Value → World → Prop} {g : Got α} {en : Ending} {σ : St} (hb : But B w w') (hw : WS B s w' σ) (hg : stOf g = σ) {v : Value} {y : α} (he : en = .returned v) (hv : V y v w') (hy : ∀ x r, g = .ok (x, r) → x = y) : EndsS B s w V g en w' :=
  ⟨hb, by rw [hg]; exact hw, v, y, he, hv, hy⟩

attribute [local go_sem ↓] Go.wp_at_zero Go.wp_at_succ
set_option maxRecDepth 100000 in
set_option maxHeartbeats 16000000 in
theorem walkAtom (B : Nat) (s : Str) (r : Bytes) (no : Bool) (w : World) (hs : s.size ≤ 1048576) (h : WS B s w (.ok r)) :
    Calls Try.prog 46 #[.pointer (some ⟨B, 0, none⟩), .bool no] w fun e w' => EndsS B s w (VAtom w) (atomF no r) e w' := by
  have hBw := h.lt
  have HP0 := Lib.hid h
  have hs' : s.size ≤ 1099511627776 := by omega
  clear h
  obtain ⟨nb, HNB⟩ : ∃ nb, Hid (negOf no r = nb) := ⟨_, Lib.hid rfl⟩
  obtain ⟨g, HG⟩ : ∃ g, Hid (atomF no r = g) := ⟨_, Lib.hid rfl⟩
  rw [HG.out]
  have HR0 := Lib.hid (HG.out.symm.trans (atomF_R no r))
  rw [HNB.out] at HR0
  obtain ⟨r1, HR1⟩ : ∃ r1, Hid (nameAt no r = r1) := ⟨_, Lib.hid rfl⟩
  rw [HR1.out] at HR0
  obtain ⟨σ2, HS2⟩ : ∃ σ, Hid (stOf (wordR false r1) = σ) := ⟨_, Lib.hid rfl⟩
  obtain ⟨N1, hN1⟩ : ∃ N1, w.heap.size + 1 = N1 := ⟨_, rfl⟩
  have HNEW := Lib.hid (show WS B s ((w.alloc (.cells #[.bool false, .string ⟨#[]⟩, .slice none 0 0] 30)).alloc (.cells #[.bool false, .string ⟨#[]⟩, .slice none 0 0] 30)) (.ok r) ∧ But B w ((w.alloc (.cells #[.bool false, .string ⟨#[]⟩, .slice none 0 0] 30)).alloc (.cells #[.bool false, .string ⟨#[]⟩, .slice none 0 0] 30)) ∧ Blk ((w.alloc (.cells #[.bool false, .string ⟨#[]⟩, .slice none 0 0] 30)).alloc (.cells #[.bool false, .string ⟨#[]⟩, .slice none 0 0] 30)) w.heap.size 30 #[.bool false, .string ⟨#[]⟩, .slice none 0 0] ∧ Blk ((w.alloc (.cells #[.bool false, .string ⟨#[]⟩, .slice none 0 0] 30)).alloc (.cells #[.bool false, .string ⟨#[]⟩, .slice none 0 0] 30)) N1 30 #[.bool false, .string ⟨#[]⟩, .slice none 0 0] from
    ⟨(HP0.out.alloc _).alloc _, ((But.refl B w).alloc _).alloc _, (Blk.new w _ _).alloc _, by rw [← hN1]; exact heap_new_at (by simp)⟩)
  have hNw : N1 < ((w.alloc (.cells #[.bool false, .string ⟨#[]⟩, .slice none 0 0] 30)).alloc (.cells #[.bool false, .string ⟨#[]⟩, .slice none 0 0] 30)).heap.size := by simp; omega
  obtain ⟨W2, hW2⟩ : ∃ W2, (w.alloc (.cells #[.bool false, .string ⟨#[]⟩, .slice none 0 0] 30)).alloc (.cells #[.bool false, .string ⟨#[]⟩, .slice none 0 0] 30) = W2 := ⟨_, rfl⟩
  rw [hW2] at HNEW hNw
  clear HG HP0
  have hBN : B ≠ N1 := by omega
  have hNB : N1 ≠ B := by omega
  have hBN0 : B ≠ w.heap.size := by omega
  have hNN : w.heap.size ≠ N1 := by omega
  have hlt : w.heap.size < N1 := by omega
  cases no
  · obtain rfl : nb = false := HNB.out.symm
    obtain rfl : r = r1 := HR1.out
    have HP := Lib.hid HNEW.out.1
    have HB := Lib.hid HNEW.out.2.1
    have HN0 := Lib.hid HNEW.out.2.2.1
    have HN1 := Lib.hid HNEW.out.2.2.2
    clear HNEW HR1 HNB
    obtain ⟨b3, hb3⟩ : ∃ b, eatσB [40] σ2 = b := ⟨_, rfl⟩
    have EAT : Hid (∀ W, WS B s W σ2 → Calls Try.prog 47 #[.pointer (some ⟨B, 0, none⟩), .string ⟨#[40]⟩] W fun en w' => en = .returned (.bool b3) ∧ WS B s w' (eatσ [40] σ2) ∧ But B W w') := Lib.hid fun W hW => by
      rw [← hb3]
      exact eatW B s σ2 ⟨#[40]⟩ W hs' (by decide) hW
    cases b3
    · have HE := Lib.hid (show stOf g = eatσ [40] σ2 ∧ ∀ y r', g = .ok (y, r') → ∃ x r2, wordR false r = .ok (x, r2) ∧ y = ⟨false, x, []⟩ from by
        rw [HR0.out, ← HS2.out]
        rw [← HS2.out] at hb3
        rcases hw : wordR false r with e | ⟨x, r2⟩
        · exact ⟨rfl, fun y r' h => by cases h⟩
        · rw [hw] at hb3
          have hb3' : eatsF [40] r2 = false := hb3
          dsimp only
          rw [hb3', if_neg (by simp)]
          exact ⟨rfl, fun y r' h => by cases h; exact ⟨x, r2, rfl, rfl⟩⟩)
      clear hb3 HR0
      go_enter Try.func46, Try.ntmps46
      go_wp2_with (first
        | (go_at_call 65; refine (wordW B s r false _ hs' HP.out).mono ?_; rintro e w4 ⟨hb4, hp4, x, rfl, hxs, hx⟩; have HX := Lib.hid hx; have HP4 := Lib.hid hp4; have HB4 := Lib.hid (HB.out.trans hb4); have HM0 := Lib.hid (HN0.out.but hb4 hBN0.symm); have HM1 := Lib.hid (HN1.out.but hb4 hNB); clear hp4 hb4 hx; have z1 := HM1.out.cell 1; have y1 := HM1.out.frozen 1; simp only [List.getElem?_toArray, List.getElem?_cons_zero, List.getElem?_cons_succ] at z1; rw [HS2.out] at HP4; obtain ⟨W5, hW5⟩ : ∃ W5, w4.setCell ⟨N1, 1, none⟩ (.string x) = W5 := ⟨_, rfl⟩; have HP5 := Lib.hid (show WS B s W5 σ2 from by rw [← hW5]; exact HP4.out.far (p := ⟨N1, 1, none⟩) hBN _); have HB5 := Lib.hid (show But B w W5 from by rw [← hW5]; exact HB4.out.setCell (p := ⟨N1, 1, none⟩) (.inr (Nat.le_of_lt hlt)) _); have HQ0 := Lib.hid (show Blk W5 w.heap.size 30 #[.bool false, .string ⟨#[]⟩, .slice none 0 0] from by rw [← hW5]; exact HM0.out.far (p := ⟨N1, 1, none⟩) hNN _); have HQ1 := Lib.hid (show Blk W5 N1 30 #[.bool false, .string x, .slice none 0 0] from by rw [← hW5]; exact HM1.out.set_ 1 (.string x)); clear HP4 HB4 HM0 HM1)
        | (go_at_call 47; have hq := HP5.out; clear hq; refine (EAT.out _ HP5.out).mono ?_; rintro e w6 ⟨rfl, hp6, hb6⟩; have HP6 := Lib.hid hp6; have HB6 := Lib.hid (HB5.out.trans hb6); have HN06 := Lib.hid (HQ0.out.but hb6 hBN0.symm); have HN16 := Lib.hid (HQ1.out.but hb6 hNB); clear hp6 hb6; have d0 := HN16.out.cell 0; have d1 := HN16.out.cell 1; have d2 := HN16.out.cell 2; have q0 := HN06.out.cell 0; have q1 := HN06.out.cell 1; have q2 := HN06.out.cell 2; have fx0 := HN06.out.frozen 0; have fx1 := HN06.out.frozen 1; have fx2 := HN06.out.frozen 2; simp only [List.getElem?_toArray, List.getElem?_cons_zero, List.getElem?_cons_succ] at d0 d1 d2 q0 q1 q2))
      refine bodyPost_ret (v := .agg #[.bool false, .string x, .slice none 0 0]) (by simp [results, Try.results46, go_sem, q0, q1, q2]) rfl ?_
      refine EndsS.of (σ := eatσ [40] σ2) (((HB6.out.setCell (.inr (Nat.le_refl _)) _).setCell (.inr (Nat.le_refl _)) _).setCell (.inr (Nat.le_refl _)) _) (((HP6.out.far (p := ⟨w.heap.size, 0, none⟩) hBN0 _).far (p := ⟨w.heap.size, 1, none⟩) hBN0 _).far (p := ⟨w.heap.size, 2, none⟩) hBN0 _) HE.out.1 rfl (y := ⟨false, x, []⟩) ⟨_, rfl, RdSlice.nothing (Nat.zero_le _) (fun _ => rfl)⟩ (fun y r' hg => ?_)
      obtain ⟨x', r2, h1, h2⟩ := HE.out.2 y r' hg
      rw [h2, HX.out x' r2 h1]
    · obtain ⟨x0, r2, hw2, hr2⟩ : ∃ x0 r2, wordR false r = .ok (x0, r2) ∧ eatsF [40] r2 = true := by
        rw [← HS2.out] at hb3
        rcases hw : wordR false r with e | ⟨x, r2⟩
        · rw [hw] at hb3; cases hb3
        · rw [hw] at hb3; exact ⟨x, r2, rfl, hb3⟩
      have HW2 := Lib.hid hw2
      obtain ⟨TG, HTG⟩ : ∃ TG, Hid (termsF 4 [] (eatF [40] r2) = TG) := ⟨_, Lib.hid rfl⟩
      have HGT := Lib.hid (show g = atomOf false x0 TG from by
        rw [HR0.out, hw2]
        dsimp only
        rw [hr2, if_pos rfl, HTG.out])
      have hσ3 : eatσ [40] σ2 = .ok (eatF [40] r2) := by rw [← HS2.out, hw2]; rfl
      rw [hσ3] at EAT
      clear hb3 HR0 hw2 hr2 hσ3
      go_enter Try.func46, Try.ntmps46
      go_wp2_with (first
        | (go_at_call 65; refine (wordW B s r false _ hs' HP.out).mono ?_; rintro e w4 ⟨hb4, hp4, x, rfl, hxs, hx⟩; have HX := Lib.hid hx; have HP4 := Lib.hid hp4; have HB4 := Lib.hid (HB.out.trans hb4); have HM0 := Lib.hid (HN0.out.but hb4 hBN0.symm); have HM1 := Lib.hid (HN1.out.but hb4 hNB); clear hp4 hb4 hx; have z1 := HM1.out.cell 1; have y1 := HM1.out.frozen 1; simp only [List.getElem?_toArray, List.getElem?_cons_zero, List.getElem?_cons_succ] at z1; rw [HS2.out] at HP4; obtain ⟨W5, hW5⟩ : ∃ W5, w4.setCell ⟨N1, 1, none⟩ (.string x) = W5 := ⟨_, rfl⟩; have HP5 := Lib.hid (show WS B s W5 σ2 from by rw [← hW5]; exact HP4.out.far (p := ⟨N1, 1, none⟩) hBN _); have HB5 := Lib.hid (show But B w W5 from by rw [← hW5]; exact HB4.out.setCell (p := ⟨N1, 1, none⟩) (.inr (Nat.le_of_lt hlt)) _); have HQ0 := Lib.hid (show Blk W5 w.heap.size 30 #[.bool false, .string ⟨#[]⟩, .slice none 0 0] from by rw [← hW5]; exact HM0.out.far (p := ⟨N1, 1, none⟩) hNN _); have HQ1 := Lib.hid (show Blk W5 N1 30 #[.bool false, .string x, .slice none 0 0] from by rw [← hW5]; exact HM1.out.set_ 1 (.string x)); clear HP4 HB4 HM0 HM1)
        | (go_at_call 47; have hq := HP5.out; clear hq; refine (EAT.out _ HP5.out).mono ?_; rintro e w6 ⟨rfl, hp6, hb6⟩; have HP6 := Lib.hid hp6; have HB6 := Lib.hid (HB5.out.trans hb6); have HN06 := Lib.hid (HQ0.out.but hb6 hBN0.symm); have HN16 := Lib.hid (HQ1.out.but hb6 hNB); clear hp6 hb6; have d0 := HN16.out.cell 0; have d1 := HN16.out.cell 1; have d2 := HN16.out.cell 2; have q0 := HN06.out.cell 0; have q1 := HN06.out.cell 1; have q2 := HN06.out.cell 2; have fx0 := HN06.out.frozen 0; have fx1 := HN06.out.frozen 1; have fx2 := HN06.out.frozen 2; simp only [List.getElem?_toArray, List.getElem?_cons_zero, List.getElem?_cons_succ] at d0 d1 d2 q0 q1 q2))
      obtain rfl : x0 = x := HX.out x0 r2 HW2.out
      have HT0 := Lib.hid (show TermsAt TG 4 [] true (.ok (eatF [40] r2)) from .inl ⟨rfl, rfl, _, rfl, HTG.out.symm⟩)
      clear d0 d1 d2 q0 q1 q2 fx0 fx1 fx2 HW2 HX HTG EAT HP5 HB5 HQ0 HQ1
      have hN16 : Hid (Blk w6 N1 30 #[.bool false, .string x0, .slice none 0 0]) := HN16
      go_loopg [6] 6 (fun gk more wr => ∃ (n : Nat) (acc : List PTerm) (tv : Value) (mb : Bool) (σ : St), more = .bool mb ∧ gk = (if mb then n + 1 else 0) + 1 ∧ Hid (TermsAt TG n acc mb σ) ∧ Hid (WS B s wr σ) ∧ Hid (But B w wr) ∧ Hid (Blk wr w.heap.size 30 #[.bool false, .string ⟨#[]⟩, .slice none 0 0]) ∧ Hid (Blk wr N1 30 #[.bool false, .string x0, tv]) ∧ Hid (Owned 2 RTerm (N1 + 1) 65 (fun _ => False) wr tv acc))
      case atStart => exact ⟨4, [], _, true, _, rfl, rfl, HT0, HP6, HB6, HN06, hN16, Lib.hid Owned.nil⟩
      case round =>
        clear HT0 HP6 HB6 HN06 HN16 hN16
        obtain ⟨n, acc, tv, mb, σ, rfl, hgk, HT, PW, HBW, N0, NN1, HO⟩ := hrel
        obtain ⟨ta, tc, rfl, -, -, -⟩ := id (HO.out.read RTerm.steady).form
        cases mb
        · have HE := Lib.hid (HT.out.done (nb := false) (x := x0))
          have NEED := Lib.hid (needW B s σ ⟨#[41]⟩ wr hs' (by decide) PW.out)
          clear HT
          go_wp2_with (first
            | (go_at_call 49; refine (NEED.out).mono ?_; rintro e w9 ⟨rfl, hp9, hb9⟩; have PW9 := Lib.hid hp9; have HB9 := Lib.hid (HBW.out.trans hb9); have NN9 := Lib.hid (NN1.out.but hb9 hNB); have N09 := Lib.hid (N0.out.but hb9 hBN0.symm); have HO9 := Lib.hid (HO.out.but RTerm.steady hb9 (by omega)); clear hp9 hb9; have d0 := NN9.out.cell 0; have d1 := NN9.out.cell 1; have d2 := NN9.out.cell 2; have q0 := N09.out.cell 0; have q1 := N09.out.cell 1; have q2 := N09.out.cell 2; have fx0 := N09.out.frozen 0; have fx1 := N09.out.frozen 1; have fx2 := N09.out.frozen 2; simp only [List.getElem?_toArray, List.getElem?_cons_zero, List.getElem?_cons_succ] at d0 d1 d2 q0 q1 q2))
          refine bodyPost_ret (v := .agg #[.bool false, .string x0, .slice ta acc.length tc]) (by simp [results, Try.results46, go_sem, q0, q1, q2]) rfl ?_
          refine EndsS.of (σ := needσ [41] σ) (((HB9.out.setCell (.inr (Nat.le_refl _)) _).setCell (.inr (Nat.le_refl _)) _).setCell (.inr (Nat.le_refl _)) _) (((PW9.out.far (p := ⟨w.heap.size, 0, none⟩) hBN0 _).far (p := ⟨w.heap.size, 1, none⟩) hBN0 _).far (p := ⟨w.heap.size, 2, none⟩) hBN0 _) (by rw [HGT.out]; exact HE.out.1) rfl (y := ⟨false, x0, acc⟩) ⟨_, rfl, ((((HO9.out.setCell RTerm.steady (p := ⟨w.heap.size, 0, none⟩) (fun h => h) (fun e => by have := (HO9.out.row_lt e).1; simp at this; omega) _).setCell RTerm.steady (p := ⟨w.heap.size, 1, none⟩) (fun h => h) (fun e => by have := (HO9.out.row_lt e).1; simp at this; omega) _).setCell RTerm.steady (p := ⟨w.heap.size, 2, none⟩) (fun h => h) (fun e => by have := (HO9.out.row_lt e).1; simp at this; omega) _).read RTerm.steady).more RTerm.steady (fun b hb _ => by show w.heap.size ≤ b; rcases hb with hb | hb; exact hb.elim; omega)⟩ (fun y r' hg => ?_)
          rw [HGT.out] at hg
          exact HE.out.2 y r' hg
        · obtain ⟨hn, r, rfl, hTG⟩ : acc.length + n = 4 ∧ ∃ r, σ = .ok r ∧ TG = termsF n acc r := by
            rcases HT.out with ⟨-, h1, r, h2, h3⟩ | ⟨h, -⟩ | ⟨h, -⟩
            · exact ⟨h1, r, h2, h3⟩
            · cases h
            · cases h
          have HTG := Lib.hid hTG
          have OK := Lib.hid (okW B s (.ok r) wr PW.out)
          have d2 := NN1.out.cell 2
          simp only [List.getElem?_toArray, List.getElem?_cons_zero, List.getElem?_cons_succ] at d2
          clear HT hTG
          cases n with
          | zero =>
            have e4 : (4 : Int) ≤ (acc.length : Int) := by omega
            have HE := Lib.hid (show g = .error (5, r) from by rw [HGT.out, HTG.out]; rfl)
            have STOP := Lib.hid (stopW B s (.ok r) 5 (by decide) wr PW.out)
            go_wp2_with (first
              | (go_at_call 44; refine (OK.out).mono ?_; rintro e w7 ⟨rfl, rfl⟩)
              | (go_at_call 45; refine (STOP.out).mono ?_; rintro e w9 ⟨rfl, hp9, hb9⟩; have PW9 := Lib.hid hp9; have HB9 := Lib.hid (HBW.out.trans hb9); have NN9 := Lib.hid (NN1.out.but hb9 hNB); have N09 := Lib.hid (N0.out.but hb9 hBN0.symm); have HO9 := Lib.hid (HO.out.but RTerm.steady hb9 (by omega)); clear hp9 hb9 d2; have d0 := NN9.out.cell 0; have d1 := NN9.out.cell 1; have d2 := NN9.out.cell 2; have q0 := N09.out.cell 0; have q1 := N09.out.cell 1; have q2 := N09.out.cell 2; have fx0 := N09.out.frozen 0; have fx1 := N09.out.frozen 1; have fx2 := N09.out.frozen 2; simp only [List.getElem?_toArray, List.getElem?_cons_zero, List.getElem?_cons_succ] at d0 d1 d2 q0 q1 q2))
            refine bodyPost_ret (v := .agg #[.bool false, .string x0, .slice ta acc.length tc]) (by simp [results, Try.results46, go_sem, q0, q1, q2]) rfl ?_
            exact EndsS.of (σ := .error (5, r)) (((HB9.out.setCell (.inr (Nat.le_refl _)) _).setCell (.inr (Nat.le_refl _)) _).setCell (.inr (Nat.le_refl _)) _) (((PW9.out.far (p := ⟨w.heap.size, 0, none⟩) hBN0 _).far (p := ⟨w.heap.size, 1, none⟩) hBN0 _).far (p := ⟨w.heap.size, 2, none⟩) hBN0 _) (by rw [HE.out]; rfl) rfl (y := ⟨false, x0, acc⟩) ⟨_, rfl, ((((HO9.out.setCell RTerm.steady (p := ⟨w.heap.size, 0, none⟩) (fun h => h) (fun e => by have := (HO9.out.row_lt e).1; simp at this; omega) _).setCell RTerm.steady (p := ⟨w.heap.size, 1, none⟩) (fun h => h) (fun e => by have := (HO9.out.row_lt e).1; simp at this; omega) _).setCell RTerm.steady (p := ⟨w.heap.size, 2, none⟩) (fun h => h) (fun e => by have := (HO9.out.row_lt e).1; simp at this; omega) _).read RTerm.steady).more RTerm.steady (fun b hb _ => by show w.heap.size ≤ b; rcases hb with hb | hb; exact hb.elim; omega)⟩ (fun y r' hg => by rw [HE.out] at hg; cases hg)
          | succ n =>
            have e4 : ¬ ((4 : Int) ≤ (acc.length : Int)) := by omega
            obtain ⟨σ', HS'⟩ : ∃ σ', Hid (stOf (wordR true r) = σ') := ⟨_, Lib.hid rfl⟩
            have WORD : Hid (Calls Try.prog 65 #[.pointer (some ⟨B, 0, none⟩), .bool true] wr fun en w' => But B wr w' ∧ WS B s w' σ' ∧ ∃ x : Str, en = .returned (.string x) ∧ x.size ≤ 1099511627776 ∧ ∀ y r', wordR true r = .ok (y, r') → y = x) := Lib.hid (by rw [← HS'.out]; exact wordW B s r true wr hs' PW.out)
            go_wp2_with (first
              | (go_at_call 44; refine (OK.out).mono ?_; rintro e w7 ⟨rfl, rfl⟩)
              | (go_at_call 65; refine (WORD.out).mono ?_; rintro e w4 ⟨hb4, hp4, y, rfl, hys, hy⟩; have HY := Lib.hid hy; have HP4 := Lib.hid hp4; have HB4 := Lib.hid (HBW.out.trans hb4); have HM1 := Lib.hid (NN1.out.but hb4 hNB); have HM0 := Lib.hid (N0.out.but hb4 hBN0.symm); have HO4 := Lib.hid (HO.out.but RTerm.steady hb4 (by omega)); clear hb4 hp4 hy; have d2' := HM1.out.cell 2; simp only [List.getElem?_toArray, List.getElem?_cons_zero, List.getElem?_cons_succ] at d2'))
            clear HO NN1 N0 PW HBW WORD d2 OK
            obtain ⟨vb, hvb⟩ : ∃ vb, variableS y = vb := ⟨_, rfl⟩
            have HNX := Lib.hid (show TermsAt TG (if eatσB [44] σ' then n else 0) (acc ++ [⟨vb, y⟩]) (eatσB [44] σ') (eatσ [44] σ') from by
              have := TermsAt.next hn HTG.out HY.out
              rwa [HS'.out, hvb] at this)
            have KV := Lib.hid (fun W => variableRef y W hys)
            rw [hvb] at KV
            clear hvb HY HS' HTG
            have hN4 : N1 < w4.heap.size := HM1.out.lt
            have hne := World.new_ne w4 ⟨N1, 2, none⟩ d2'
            have HLEN := Lib.hid (show (acc ++ [(⟨vb, y⟩ : PTerm)]).length = acc.length + 1 by simp)
            obtain ⟨mb', hmb'⟩ : ∃ b, eatσB [44] σ' = b := ⟨_, rfl⟩
            have EATC : Hid (∀ W, WS B s W σ' → Calls Try.prog 47 #[.pointer (some ⟨B, 0, none⟩), .string ⟨#[44]⟩] W fun en w' => en = .returned (.bool mb') ∧ WS B s w' (eatσ [44] σ') ∧ But B W w') := Lib.hid fun W hW => by
              rw [← hmb']
              exact eatW B s σ' ⟨#[44]⟩ W hs' (by decide) hW
            rw [hmb'] at HNX
            clear hmb'
            go_region_law (first
              | (go_simp; go_at_call 22; refine (KV.out _).mono ?_; rintro e w5 ⟨rfl, hb5⟩; have HP5 := Lib.hid (HP4.out.drew.below hb5 HP4.out.drew.lt); have HB5 := Lib.hid (HB4.out.drew.below hb5); have HM15 := Lib.hid (HM1.out.drew.below hb5 HM1.out.drew.lt); have HM05 := Lib.hid (HM0.out.drew.below hb5 HM0.out.drew.lt); have HO5 := Lib.hid ((HO4.out.drew RTerm.steady).below RTerm.steady hb5); have h5s := hb5.size; clear hb5; have d5 := HM15.out.cell 2; simp only [List.getElem?_toArray, List.getElem?_cons_zero, List.getElem?_cons_succ] at d5; have hN5 : N1 < w5.heap.size := HM15.out.lt; have hne5 := World.new_ne w5 ⟨N1, 2, none⟩ d5)
              | (refine step_append_one (by rfl) _ _ 28 (by rfl) RTerm.steady rowTerms _ acc (by rfl) (HO5.out.alloc RTerm.steady _) _ 1 #[.bool vb, .string y] 65 (0, 0) ⟨vb, y⟩ (by rfl) (heap_alloc_new _ _) rfl (by simp [Value.oneCell']) rfl (by omega) (by simp; omega) ?_; intro v6 w6 hown6 hg6 hat6; have HO6 := Lib.hid hown6; have HM6 := Lib.hid ((HM15.out.alloc (.cells #[.bool vb, .string y] 65)).grown hg6 (fun e => by have := (HO5.out.row_lt e.symm).1; omega)); have HM06 := Lib.hid ((HM05.out.alloc (.cells #[.bool vb, .string y] 65)).grown hg6 (fun e => by have := (HO5.out.row_lt e.symm).1; omega)); have HP6 := Lib.hid ((HP5.out.alloc (.cells #[.bool vb, .string y] 65)).grown hg6 (fun e => by have := (HO5.out.row_lt e.symm).1; omega)); have HB6 := Lib.hid ((HB5.out.alloc (.cells #[.bool vb, .string y] 65)).row hg6 (fun q hq => by have := (HO5.out.row_lt hq).1; omega)); have x6 := HM6.out.frozen 2; have d6 : w6.cell? ⟨N1, 2, none⟩ = some (.slice ta acc.length tc) := HM6.out.cell 2; obtain ⟨a6, c6, rfl, -, -, -⟩ := id (HO6.out.read RTerm.steady).form; clear hown6 hg6 hat6))
            all_goals
              have HQ6 := HO6.out
              rw [HLEN.out] at HQ6
              have HP7 := Lib.hid (HP6.out.far (p := ⟨N1, 2, none⟩) hBN (.slice a6 (acc.length + 1) c6))
              have HB7 := Lib.hid (HB6.out.setCell (p := ⟨N1, 2, none⟩) (.inr (Nat.le_of_lt hlt)) (.slice a6 (acc.length + 1) c6))
              have HM07 := Lib.hid (HM06.out.far (p := ⟨N1, 2, none⟩) hNN (.slice a6 (acc.length + 1) c6))
              have HM7 := Lib.hid (HM6.out.set_ 2 (.slice a6 (acc.length + 1) c6))
              have HO7 := Lib.hid (HQ6.setCell RTerm.steady (p := ⟨N1, 2, none⟩) (fun h => h) (fun e => Nat.not_succ_le_self _ (HQ6.row_lt e).1) (.slice a6 (acc.length + 1) c6))
              clear HQ6
              go_wp2_with (go_at_call 47; refine (EATC.out _ HP7.out).mono ?_; rintro e w8 ⟨rfl, hp8, hb8⟩; have HP8 := Lib.hid hp8; have HB8 := Lib.hid (HB7.out.trans hb8); have HM8 := Lib.hid (HM7.out.but hb8 hNB); have HM08 := Lib.hid (HM07.out.but hb8 hBN0.symm); have HO8 := Lib.hid (HO7.out.but RTerm.steady hb8 (by omega)); clear hp8 hb8)
              go_roundg ((if mb' then (if mb' then n else 0) + 1 else 0) + 1)
              case measure => simp at hgk; cases mb' <;> simp <;> omega
              case rel => exact ⟨_, acc ++ [⟨vb, y⟩], _, mb', _, rfl, rfl, HNX, HP8, HB8, HM08, HM8, HO8⟩
  · have hr1 : eatF [33] r = r1 := HR1.out
    have hnb : eatsF [33] r = nb := by have := HNB.out; simpa [negOf] using this
    have HP2 := Lib.hid HNEW.out.1
    have HB2 := Lib.hid HNEW.out.2.1
    have HN02 := Lib.hid HNEW.out.2.2.1
    have HN12 := Lib.hid HNEW.out.2.2.2
    have EATN : Hid (Calls Try.prog 47 #[.pointer (some ⟨B, 0, none⟩), .string ⟨#[33]⟩] W2 fun en w' => en = .returned (.bool nb) ∧ WS B s w' (.ok r1) ∧ But B W2 w') := Lib.hid (by
      have := eatW B s (.ok r) ⟨#[33]⟩ W2 hs' (by decide) HP2.out
      rw [← hr1, ← hnb]
      exact this)
    clear HNEW HR1 HNB hr1 hnb
    obtain ⟨b3, hb3⟩ : ∃ b, eatσB [40] σ2 = b := ⟨_, rfl⟩
    have EAT : Hid (∀ W, WS B s W σ2 → Calls Try.prog 47 #[.pointer (some ⟨B, 0, none⟩), .string ⟨#[40]⟩] W fun en w' => en = .returned (.bool b3) ∧ WS B s w' (eatσ [40] σ2) ∧ But B W w') := Lib.hid fun W hW => by
      rw [← hb3]
      exact eatW B s σ2 ⟨#[40]⟩ W hs' (by decide) hW
    cases b3
    · have HE := Lib.hid (show stOf g = eatσ [40] σ2 ∧ ∀ y r', g = .ok (y, r') → ∃ x r2, wordR false r1 = .ok (x, r2) ∧ y = ⟨nb, x, []⟩ from by
        rw [HR0.out, ← HS2.out]
        rw [← HS2.out] at hb3
        rcases hw : wordR false r1 with e | ⟨x, r2⟩
        · exact ⟨rfl, fun y r' h => by cases h⟩
        · rw [hw] at hb3
          have hb3' : eatsF [40] r2 = false := hb3
          dsimp only
          rw [hb3', if_neg (by simp)]
          exact ⟨rfl, fun y r' h => by cases h; exact ⟨x, r2, rfl, rfl⟩⟩)
      clear hb3 HR0
      go_enter Try.func46, Try.ntmps46
      go_wp2_with (first
        | (go_at_call 47; refine (EATN.out).mono ?_; rintro e w3 ⟨rfl, hp3, hb3⟩; have HP3 := Lib.hid hp3; have HB3 := Lib.hid (HB2.out.trans hb3); have HN03 := Lib.hid (HN02.out.but hb3 hBN0.symm); have HN13 := Lib.hid (HN12.out.but hb3 hNB); clear hp3 hb3 EATN; have z0 := HN13.out.cell 0; have y0 := HN13.out.frozen 0; simp only [List.getElem?_toArray, List.getElem?_cons_zero] at z0; obtain ⟨W0, hW0⟩ : ∃ W0, w3.setCell ⟨N1, 0, none⟩ (.bool nb) = W0 := ⟨_, rfl⟩; have HP := Lib.hid (show WS B s W0 (.ok r1) from by rw [← hW0]; exact HP3.out.far (p := ⟨N1, 0, none⟩) hBN _); have HB := Lib.hid (show But B w W0 from by rw [← hW0]; exact HB3.out.setCell (p := ⟨N1, 0, none⟩) (.inr (Nat.le_of_lt hlt)) _); have HN0 := Lib.hid (show Blk W0 w.heap.size 30 #[.bool false, .string ⟨#[]⟩, .slice none 0 0] from by rw [← hW0]; exact HN03.out.far (p := ⟨N1, 0, none⟩) hNN _); have HN1 := Lib.hid (show Blk W0 N1 30 #[.bool nb, .string ⟨#[]⟩, .slice none 0 0] from by rw [← hW0]; exact HN13.out.set_ 0 (.bool nb)); clear HP3 HB3 HN03 HN13)
        | (go_at_call 65; refine (wordW B s r1 false _ hs' HP.out).mono ?_; rintro e w4 ⟨hb4, hp4, x, rfl, hxs, hx⟩; have HX := Lib.hid hx; have HP4 := Lib.hid hp4; have HB4 := Lib.hid (HB.out.trans hb4); have HM0 := Lib.hid (HN0.out.but hb4 hBN0.symm); have HM1 := Lib.hid (HN1.out.but hb4 hNB); clear hp4 hb4 hx; have z1 := HM1.out.cell 1; have y1 := HM1.out.frozen 1; simp only [List.getElem?_toArray, List.getElem?_cons_zero, List.getElem?_cons_succ] at z1; rw [HS2.out] at HP4; obtain ⟨W5, hW5⟩ : ∃ W5, w4.setCell ⟨N1, 1, none⟩ (.string x) = W5 := ⟨_, rfl⟩; have HP5 := Lib.hid (show WS B s W5 σ2 from by rw [← hW5]; exact HP4.out.far (p := ⟨N1, 1, none⟩) hBN _); have HB5 := Lib.hid (show But B w W5 from by rw [← hW5]; exact HB4.out.setCell (p := ⟨N1, 1, none⟩) (.inr (Nat.le_of_lt hlt)) _); have HQ0 := Lib.hid (show Blk W5 w.heap.size 30 #[.bool false, .string ⟨#[]⟩, .slice none 0 0] from by rw [← hW5]; exact HM0.out.far (p := ⟨N1, 1, none⟩) hNN _); have HQ1 := Lib.hid (show Blk W5 N1 30 #[.bool nb, .string x, .slice none 0 0] from by rw [← hW5]; exact HM1.out.set_ 1 (.string x)); clear HP4 HB4 HM0 HM1)
        | (go_at_call 47; have hq := HP5.out; clear hq; refine (EAT.out _ HP5.out).mono ?_; rintro e w6 ⟨rfl, hp6, hb6⟩; have HP6 := Lib.hid hp6; have HB6 := Lib.hid (HB5.out.trans hb6); have HN06 := Lib.hid (HQ0.out.but hb6 hBN0.symm); have HN16 := Lib.hid (HQ1.out.but hb6 hNB); clear hp6 hb6; have d0 := HN16.out.cell 0; have d1 := HN16.out.cell 1; have d2 := HN16.out.cell 2; have q0 := HN06.out.cell 0; have q1 := HN06.out.cell 1; have q2 := HN06.out.cell 2; have fx0 := HN06.out.frozen 0; have fx1 := HN06.out.frozen 1; have fx2 := HN06.out.frozen 2; simp only [List.getElem?_toArray, List.getElem?_cons_zero, List.getElem?_cons_succ] at d0 d1 d2 q0 q1 q2))
      refine bodyPost_ret (v := .agg #[.bool nb, .string x, .slice none 0 0]) (by simp [results, Try.results46, go_sem, q0, q1, q2]) rfl ?_
      refine EndsS.of (σ := eatσ [40] σ2) (((HB6.out.setCell (.inr (Nat.le_refl _)) _).setCell (.inr (Nat.le_refl _)) _).setCell (.inr (Nat.le_refl _)) _) (((HP6.out.far (p := ⟨w.heap.size, 0, none⟩) hBN0 _).far (p := ⟨w.heap.size, 1, none⟩) hBN0 _).far (p := ⟨w.heap.size, 2, none⟩) hBN0 _) HE.out.1 rfl (y := ⟨nb, x, []⟩) ⟨_, rfl, RdSlice.nothing (Nat.zero_le _) (fun _ => rfl)⟩ (fun y r' hg => ?_)
      obtain ⟨x', r2, h1, h2⟩ := HE.out.2 y r' hg
      rw [h2, HX.out x' r2 h1]
    · obtain ⟨x0, r2, hw2, hr2⟩ : ∃ x0 r2, wordR false r1 = .ok (x0, r2) ∧ eatsF [40] r2 = true := by
        rw [← HS2.out] at hb3
        rcases hw : wordR false r1 with e | ⟨x, r2⟩
        · rw [hw] at hb3; cases hb3
        · rw [hw] at hb3; exact ⟨x, r2, rfl, hb3⟩
      have HW2 := Lib.hid hw2
      obtain ⟨TG, HTG⟩ : ∃ TG, Hid (termsF 4 [] (eatF [40] r2) = TG) := ⟨_, Lib.hid rfl⟩
      have HGT := Lib.hid (show g = atomOf nb x0 TG from by
        rw [HR0.out, hw2]
        dsimp only
        rw [hr2, if_pos rfl, HTG.out])
      have hσ3 : eatσ [40] σ2 = .ok (eatF [40] r2) := by rw [← HS2.out, hw2]; rfl
      rw [hσ3] at EAT
      clear hb3 HR0 hw2 hr2 hσ3
      go_enter Try.func46, Try.ntmps46
      go_wp2_with (first
        | (go_at_call 47; refine (EATN.out).mono ?_; rintro e w3 ⟨rfl, hp3, hb3⟩; have HP3 := Lib.hid hp3; have HB3 := Lib.hid (HB2.out.trans hb3); have HN03 := Lib.hid (HN02.out.but hb3 hBN0.symm); have HN13 := Lib.hid (HN12.out.but hb3 hNB); clear hp3 hb3 EATN; have z0 := HN13.out.cell 0; have y0 := HN13.out.frozen 0; simp only [List.getElem?_toArray, List.getElem?_cons_zero] at z0; obtain ⟨W0, hW0⟩ : ∃ W0, w3.setCell ⟨N1, 0, none⟩ (.bool nb) = W0 := ⟨_, rfl⟩; have HP := Lib.hid (show WS B s W0 (.ok r1) from by rw [← hW0]; exact HP3.out.far (p := ⟨N1, 0, none⟩) hBN _); have HB := Lib.hid (show But B w W0 from by rw [← hW0]; exact HB3.out.setCell (p := ⟨N1, 0, none⟩) (.inr (Nat.le_of_lt hlt)) _); have HN0 := Lib.hid (show Blk W0 w.heap.size 30 #[.bool false, .string ⟨#[]⟩, .slice none 0 0] from by rw [← hW0]; exact HN03.out.far (p := ⟨N1, 0, none⟩) hNN _); have HN1 := Lib.hid (show Blk W0 N1 30 #[.bool nb, .string ⟨#[]⟩, .slice none 0 0] from by rw [← hW0]; exact HN13.out.set_ 0 (.bool nb)); clear HP3 HB3 HN03 HN13)
        | (go_at_call 65; refine (wordW B s r1 false _ hs' HP.out).mono ?_; rintro e w4 ⟨hb4, hp4, x, rfl, hxs, hx⟩; have HX := Lib.hid hx; have HP4 := Lib.hid hp4; have HB4 := Lib.hid (HB.out.trans hb4); have HM0 := Lib.hid (HN0.out.but hb4 hBN0.symm); have HM1 := Lib.hid (HN1.out.but hb4 hNB); clear hp4 hb4 hx; have z1 := HM1.out.cell 1; have y1 := HM1.out.frozen 1; simp only [List.getElem?_toArray, List.getElem?_cons_zero, List.getElem?_cons_succ] at z1; rw [HS2.out] at HP4; obtain ⟨W5, hW5⟩ : ∃ W5, w4.setCell ⟨N1, 1, none⟩ (.string x) = W5 := ⟨_, rfl⟩; have HP5 := Lib.hid (show WS B s W5 σ2 from by rw [← hW5]; exact HP4.out.far (p := ⟨N1, 1, none⟩) hBN _); have HB5 := Lib.hid (show But B w W5 from by rw [← hW5]; exact HB4.out.setCell (p := ⟨N1, 1, none⟩) (.inr (Nat.le_of_lt hlt)) _); have HQ0 := Lib.hid (show Blk W5 w.heap.size 30 #[.bool false, .string ⟨#[]⟩, .slice none 0 0] from by rw [← hW5]; exact HM0.out.far (p := ⟨N1, 1, none⟩) hNN _); have HQ1 := Lib.hid (show Blk W5 N1 30 #[.bool nb, .string x, .slice none 0 0] from by rw [← hW5]; exact HM1.out.set_ 1 (.string x)); clear HP4 HB4 HM0 HM1)
        | (go_at_call 47; have hq := HP5.out; clear hq; refine (EAT.out _ HP5.out).mono ?_; rintro e w6 ⟨rfl, hp6, hb6⟩; have HP6 := Lib.hid hp6; have HB6 := Lib.hid (HB5.out.trans hb6); have HN06 := Lib.hid (HQ0.out.but hb6 hBN0.symm); have HN16 := Lib.hid (HQ1.out.but hb6 hNB); clear hp6 hb6; have d0 := HN16.out.cell 0; have d1 := HN16.out.cell 1; have d2 := HN16.out.cell 2; have q0 := HN06.out.cell 0; have q1 := HN06.out.cell 1; have q2 := HN06.out.cell 2; have fx0 := HN06.out.frozen 0; have fx1 := HN06.out.frozen 1; have fx2 := HN06.out.frozen 2; simp only [List.getElem?_toArray, List.getElem?_cons_zero, List.getElem?_cons_succ] at d0 d1 d2 q0 q1 q2))
      obtain rfl : x0 = x := HX.out x0 r2 HW2.out
      have HT0 := Lib.hid (show TermsAt TG 4 [] true (.ok (eatF [40] r2)) from .inl ⟨rfl, rfl, _, rfl, HTG.out.symm⟩)
      clear d0 d1 d2 q0 q1 q2 fx0 fx1 fx2 HW2 HX HTG EAT HP5 HB5 HQ0 HQ1
      have hN16 : Hid (Blk w6 N1 30 #[.bool nb, .string x0, .slice none 0 0]) := HN16
      go_loopg [6] 6 (fun gk more wr => ∃ (n : Nat) (acc : List PTerm) (tv : Value) (mb : Bool) (σ : St), more = .bool mb ∧ gk = (if mb then n + 1 else 0) + 1 ∧ Hid (TermsAt TG n acc mb σ) ∧ Hid (WS B s wr σ) ∧ Hid (But B w wr) ∧ Hid (Blk wr w.heap.size 30 #[.bool false, .string ⟨#[]⟩, .slice none 0 0]) ∧ Hid (Blk wr N1 30 #[.bool nb, .string x0, tv]) ∧ Hid (Owned 2 RTerm (N1 + 1) 65 (fun _ => False) wr tv acc))
      case atStart => exact ⟨4, [], _, true, _, rfl, rfl, HT0, HP6, HB6, HN06, hN16, Lib.hid Owned.nil⟩
      case round =>
        clear HT0 HP6 HB6 HN06 HN16 hN16
        obtain ⟨n, acc, tv, mb, σ, rfl, hgk, HT, PW, HBW, N0, NN1, HO⟩ := hrel
        obtain ⟨ta, tc, rfl, -, -, -⟩ := id (HO.out.read RTerm.steady).form
        cases mb
        · have HE := Lib.hid (HT.out.done (nb := nb) (x := x0))
          have NEED := Lib.hid (needW B s σ ⟨#[41]⟩ wr hs' (by decide) PW.out)
          clear HT
          go_wp2_with (first
            | (go_at_call 49; refine (NEED.out).mono ?_; rintro e w9 ⟨rfl, hp9, hb9⟩; have PW9 := Lib.hid hp9; have HB9 := Lib.hid (HBW.out.trans hb9); have NN9 := Lib.hid (NN1.out.but hb9 hNB); have N09 := Lib.hid (N0.out.but hb9 hBN0.symm); have HO9 := Lib.hid (HO.out.but RTerm.steady hb9 (by omega)); clear hp9 hb9; have d0 := NN9.out.cell 0; have d1 := NN9.out.cell 1; have d2 := NN9.out.cell 2; have q0 := N09.out.cell 0; have q1 := N09.out.cell 1; have q2 := N09.out.cell 2; have fx0 := N09.out.frozen 0; have fx1 := N09.out.frozen 1; have fx2 := N09.out.frozen 2; simp only [List.getElem?_toArray, List.getElem?_cons_zero, List.getElem?_cons_succ] at d0 d1 d2 q0 q1 q2))
          refine bodyPost_ret (v := .agg #[.bool nb, .string x0, .slice ta acc.length tc]) (by simp [results, Try.results46, go_sem, q0, q1, q2]) rfl ?_
          refine EndsS.of (σ := needσ [41] σ) (((HB9.out.setCell (.inr (Nat.le_refl _)) _).setCell (.inr (Nat.le_refl _)) _).setCell (.inr (Nat.le_refl _)) _) (((PW9.out.far (p := ⟨w.heap.size, 0, none⟩) hBN0 _).far (p := ⟨w.heap.size, 1, none⟩) hBN0 _).far (p := ⟨w.heap.size, 2, none⟩) hBN0 _) (by rw [HGT.out]; exact HE.out.1) rfl (y := ⟨nb, x0, acc⟩) ⟨_, rfl, ((((HO9.out.setCell RTerm.steady (p := ⟨w.heap.size, 0, none⟩) (fun h => h) (fun e => by have := (HO9.out.row_lt e).1; simp at this; omega) _).setCell RTerm.steady (p := ⟨w.heap.size, 1, none⟩) (fun h => h) (fun e => by have := (HO9.out.row_lt e).1; simp at this; omega) _).setCell RTerm.steady (p := ⟨w.heap.size, 2, none⟩) (fun h => h) (fun e => by have := (HO9.out.row_lt e).1; simp at this; omega) _).read RTerm.steady).more RTerm.steady (fun b hb _ => by show w.heap.size ≤ b; rcases hb with hb | hb; exact hb.elim; omega)⟩ (fun y r' hg => ?_)
          rw [HGT.out] at hg
          exact HE.out.2 y r' hg
        · obtain ⟨hn, r, rfl, hTG⟩ : acc.length + n = 4 ∧ ∃ r, σ = .ok r ∧ TG = termsF n acc r := by
            rcases HT.out with ⟨-, h1, r, h2, h3⟩ | ⟨h, -⟩ | ⟨h, -⟩
            · exact ⟨h1, r, h2, h3⟩
            · cases h
            · cases h
          have HTG := Lib.hid hTG
          have OK := Lib.hid (okW B s (.ok r) wr PW.out)
          have d2 := NN1.out.cell 2
          simp only [List.getElem?_toArray, List.getElem?_cons_zero, List.getElem?_cons_succ] at d2
          clear HT hTG
          cases n with
          | zero =>
            have e4 : (4 : Int) ≤ (acc.length : Int) := by omega
            have HE := Lib.hid (show g = .error (5, r) from by rw [HGT.out, HTG.out]; rfl)
            have STOP := Lib.hid (stopW B s (.ok r) 5 (by decide) wr PW.out)
            go_wp2_with (first
              | (go_at_call 44; refine (OK.out).mono ?_; rintro e w7 ⟨rfl, rfl⟩)
              | (go_at_call 45; refine (STOP.out).mono ?_; rintro e w9 ⟨rfl, hp9, hb9⟩; have PW9 := Lib.hid hp9; have HB9 := Lib.hid (HBW.out.trans hb9); have NN9 := Lib.hid (NN1.out.but hb9 hNB); have N09 := Lib.hid (N0.out.but hb9 hBN0.symm); have HO9 := Lib.hid (HO.out.but RTerm.steady hb9 (by omega)); clear hp9 hb9 d2; have d0 := NN9.out.cell 0; have d1 := NN9.out.cell 1; have d2 := NN9.out.cell 2; have q0 := N09.out.cell 0; have q1 := N09.out.cell 1; have q2 := N09.out.cell 2; have fx0 := N09.out.frozen 0; have fx1 := N09.out.frozen 1; have fx2 := N09.out.frozen 2; simp only [List.getElem?_toArray, List.getElem?_cons_zero, List.getElem?_cons_succ] at d0 d1 d2 q0 q1 q2))
            refine bodyPost_ret (v := .agg #[.bool nb, .string x0, .slice ta acc.length tc]) (by simp [results, Try.results46, go_sem, q0, q1, q2]) rfl ?_
            exact EndsS.of (σ := .error (5, r)) (((HB9.out.setCell (.inr (Nat.le_refl _)) _).setCell (.inr (Nat.le_refl _)) _).setCell (.inr (Nat.le_refl _)) _) (((PW9.out.far (p := ⟨w.heap.size, 0, none⟩) hBN0 _).far (p := ⟨w.heap.size, 1, none⟩) hBN0 _).far (p := ⟨w.heap.size, 2, none⟩) hBN0 _) (by rw [HE.out]; rfl) rfl (y := ⟨nb, x0, acc⟩) ⟨_, rfl, ((((HO9.out.setCell RTerm.steady (p := ⟨w.heap.size, 0, none⟩) (fun h => h) (fun e => by have := (HO9.out.row_lt e).1; simp at this; omega) _).setCell RTerm.steady (p := ⟨w.heap.size, 1, none⟩) (fun h => h) (fun e => by have := (HO9.out.row_lt e).1; simp at this; omega) _).setCell RTerm.steady (p := ⟨w.heap.size, 2, none⟩) (fun h => h) (fun e => by have := (HO9.out.row_lt e).1; simp at this; omega) _).read RTerm.steady).more RTerm.steady (fun b hb _ => by show w.heap.size ≤ b; rcases hb with hb | hb; exact hb.elim; omega)⟩ (fun y r' hg => by rw [HE.out] at hg; cases hg)
          | succ n =>
            have e4 : ¬ ((4 : Int) ≤ (acc.length : Int)) := by omega
            obtain ⟨σ', HS'⟩ : ∃ σ', Hid (stOf (wordR true r) = σ') := ⟨_, Lib.hid rfl⟩
            have WORD : Hid (Calls Try.prog 65 #[.pointer (some ⟨B, 0, none⟩), .bool true] wr fun en w' => But B wr w' ∧ WS B s w' σ' ∧ ∃ x : Str, en = .returned (.string x) ∧ x.size ≤ 1099511627776 ∧ ∀ y r', wordR true r = .ok (y, r') → y = x) := Lib.hid (by rw [← HS'.out]; exact wordW B s r true wr hs' PW.out)
            go_wp2_with (first
              | (go_at_call 44; refine (OK.out).mono ?_; rintro e w7 ⟨rfl, rfl⟩)
              | (go_at_call 65; refine (WORD.out).mono ?_; rintro e w4 ⟨hb4, hp4, y, rfl, hys, hy⟩; have HY := Lib.hid hy; have HP4 := Lib.hid hp4; have HB4 := Lib.hid (HBW.out.trans hb4); have HM1 := Lib.hid (NN1.out.but hb4 hNB); have HM0 := Lib.hid (N0.out.but hb4 hBN0.symm); have HO4 := Lib.hid (HO.out.but RTerm.steady hb4 (by omega)); clear hb4 hp4 hy; have d2' := HM1.out.cell 2; simp only [List.getElem?_toArray, List.getElem?_cons_zero, List.getElem?_cons_succ] at d2'))
            clear HO NN1 N0 PW HBW WORD d2 OK
            obtain ⟨vb, hvb⟩ : ∃ vb, variableS y = vb := ⟨_, rfl⟩
            have HNX := Lib.hid (show TermsAt TG (if eatσB [44] σ' then n else 0) (acc ++ [⟨vb, y⟩]) (eatσB [44] σ') (eatσ [44] σ') from by
              have := TermsAt.next hn HTG.out HY.out
              rwa [HS'.out, hvb] at this)
            have KV := Lib.hid (fun W => variableRef y W hys)
            rw [hvb] at KV
            clear hvb HY HS' HTG
            have hN4 : N1 < w4.heap.size := HM1.out.lt
            have hne := World.new_ne w4 ⟨N1, 2, none⟩ d2'
            have HLEN := Lib.hid (show (acc ++ [(⟨vb, y⟩ : PTerm)]).length = acc.length + 1 by simp)
            obtain ⟨mb', hmb'⟩ : ∃ b, eatσB [44] σ' = b := ⟨_, rfl⟩
            have EATC : Hid (∀ W, WS B s W σ' → Calls Try.prog 47 #[.pointer (some ⟨B, 0, none⟩), .string ⟨#[44]⟩] W fun en w' => en = .returned (.bool mb') ∧ WS B s w' (eatσ [44] σ') ∧ But B W w') := Lib.hid fun W hW => by
              rw [← hmb']
              exact eatW B s σ' ⟨#[44]⟩ W hs' (by decide) hW
            rw [hmb'] at HNX
            clear hmb'
            go_region_law (first
              | (go_simp; go_at_call 22; refine (KV.out _).mono ?_; rintro e w5 ⟨rfl, hb5⟩; have HP5 := Lib.hid (HP4.out.drew.below hb5 HP4.out.drew.lt); have HB5 := Lib.hid (HB4.out.drew.below hb5); have HM15 := Lib.hid (HM1.out.drew.below hb5 HM1.out.drew.lt); have HM05 := Lib.hid (HM0.out.drew.below hb5 HM0.out.drew.lt); have HO5 := Lib.hid ((HO4.out.drew RTerm.steady).below RTerm.steady hb5); have h5s := hb5.size; clear hb5; have d5 := HM15.out.cell 2; simp only [List.getElem?_toArray, List.getElem?_cons_zero, List.getElem?_cons_succ] at d5; have hN5 : N1 < w5.heap.size := HM15.out.lt; have hne5 := World.new_ne w5 ⟨N1, 2, none⟩ d5)
              | (refine step_append_one (by rfl) _ _ 28 (by rfl) RTerm.steady rowTerms _ acc (by rfl) (HO5.out.alloc RTerm.steady _) _ 1 #[.bool vb, .string y] 65 (0, 0) ⟨vb, y⟩ (by rfl) (heap_alloc_new _ _) rfl (by simp [Value.oneCell']) rfl (by omega) (by simp; omega) ?_; intro v6 w6 hown6 hg6 hat6; have HO6 := Lib.hid hown6; have HM6 := Lib.hid ((HM15.out.alloc (.cells #[.bool vb, .string y] 65)).grown hg6 (fun e => by have := (HO5.out.row_lt e.symm).1; omega)); have HM06 := Lib.hid ((HM05.out.alloc (.cells #[.bool vb, .string y] 65)).grown hg6 (fun e => by have := (HO5.out.row_lt e.symm).1; omega)); have HP6 := Lib.hid ((HP5.out.alloc (.cells #[.bool vb, .string y] 65)).grown hg6 (fun e => by have := (HO5.out.row_lt e.symm).1; omega)); have HB6 := Lib.hid ((HB5.out.alloc (.cells #[.bool vb, .string y] 65)).row hg6 (fun q hq => by have := (HO5.out.row_lt hq).1; omega)); have x6 := HM6.out.frozen 2; have d6 : w6.cell? ⟨N1, 2, none⟩ = some (.slice ta acc.length tc) := HM6.out.cell 2; obtain ⟨a6, c6, rfl, -, -, -⟩ := id (HO6.out.read RTerm.steady).form; clear hown6 hg6 hat6))
            all_goals
              have HQ6 := HO6.out
              rw [HLEN.out] at HQ6
              have HP7 := Lib.hid (HP6.out.far (p := ⟨N1, 2, none⟩) hBN (.slice a6 (acc.length + 1) c6))
              have HB7 := Lib.hid (HB6.out.setCell (p := ⟨N1, 2, none⟩) (.inr (Nat.le_of_lt hlt)) (.slice a6 (acc.length + 1) c6))
              have HM07 := Lib.hid (HM06.out.far (p := ⟨N1, 2, none⟩) hNN (.slice a6 (acc.length + 1) c6))
              have HM7 := Lib.hid (HM6.out.set_ 2 (.slice a6 (acc.length + 1) c6))
              have HO7 := Lib.hid (HQ6.setCell RTerm.steady (p := ⟨N1, 2, none⟩) (fun h => h) (fun e => Nat.not_succ_le_self _ (HQ6.row_lt e).1) (.slice a6 (acc.length + 1) c6))
              clear HQ6
              go_wp2_with (go_at_call 47; refine (EATC.out _ HP7.out).mono ?_; rintro e w8 ⟨rfl, hp8, hb8⟩; have HP8 := Lib.hid hp8; have HB8 := Lib.hid (HB7.out.trans hb8); have HM8 := Lib.hid (HM7.out.but hb8 hNB); have HM08 := Lib.hid (HM07.out.but hb8 hBN0.symm); have HO8 := Lib.hid (HO7.out.but RTerm.steady hb8 (by omega)); clear hp8 hb8)
              go_roundg ((if mb' then (if mb' then n else 0) + 1 else 0) + 1)
              case measure => simp at hgk; cases mb' <;> simp <;> omega
              case rel => exact ⟨_, acc ++ [⟨vb, y⟩], _, mb', _, rfl, rfl, HNX, HP8, HB8, HM08, HM8, HO8⟩
end Go.Proofs.Ytobbjapmdpkogaa
