/-
  THE WALK OF cororef1.Body.
-/
import Derived.Test.YtobbjapmdpkogaaRefW5
import Derived.Test.YtobbjapmdpkogaaSynW6
namespace Go.Proofs.Ytobbjapmdpkogaa
open Go.RowKit

def blankσ : St → St
  | .ok r => .ok (blankF false r)
  | .error e => .error e
theorem skipW (B : Nat) (s : Str) (σ : St) (w : World) (hs : s.size ≤ 1099511627776) (h : WS B s w σ) :
    Calls Try.prog 43 #[.pointer (some ⟨B, 0, none⟩)] w fun en w' => en = .returned (.tuple #[]) ∧ WS B s w' (blankσ σ) ∧ But B w w' := by
  cases σ with
  | error e =>
    obtain ⟨e, r⟩ := e
    obtain ⟨he, k, hk⟩ := h
    exact (skipRef B s k e _ w hs hk).mono fun en w' ⟨h1, h2, h3⟩ => ⟨h1, ⟨he, _, h2⟩, h3⟩
  | ok r =>
    have hr := rest_posF h.1
    have := skipRef B s _ 0 0 w hs h.2
    rw [hr] at this
    exact this.mono fun en w' ⟨h1, h2, h3⟩ => ⟨h1, ⟨(blankF_suffix _ _).trans h.1, h2⟩, h3⟩
theorem WS.start (w : World) (s : Str) : WS w.heap.size s (w.alloc (.cells #[.string s, .int .i64 0, .int .i64 0, .int .i64 0] 79)) (.ok (rest s 0)) := by
  refine ⟨rest_suffix s 0, ?_⟩
  rw [posF_rest s (Nat.zero_le _)]
  exact ⟨heap_alloc_new w _, Nat.zero_le _⟩
theorem bodyPost_mk {s : Str} {w w' : World} {v : Value} {l : List PAtom} {e a : Int} (h : parseBodyF s = (l, e, a)) (hv : RdAtoms (New w) w' v l) (hb : Below w.heap.size w w') : BodyPost s w (.returned (.tuple #[v, .agg #[.int .i64 e, .int .i64 a]])) w' := by
  unfold BodyPost
  rw [h]
  exact ⟨⟨v, rfl, hv⟩, hb⟩
theorem pos_end {s : Str} {r : Bytes} (h : r = []) : posF s r = s.size := by subst h; unfold posF; simp

attribute [local go_sem ↓] Go.wp_at_zero Go.wp_at_succ
set_option maxRecDepth 100000 in
set_option maxHeartbeats 8000000 in
theorem bodyTextRef (s : Str) (w : World) (hs : s.size ≤ 1048576) : Calls Try.prog 26 #[.string s] w (BodyPost s w) := by
  have hs' : s.size ≤ 1099511627776 := by omega
  by_cases h3 : 3000 < s.size
  · have i1 : (3000 : Int) < (s.size : Int) := by omega
    have HE := Lib.hid (parseBodyF_long h3)
    go_enter Try.func26, Try.ntmps26
    go_wp2
    refine bodyPost_ret (v := .tuple #[.slice none 0 0, .agg #[.int .i64 4, .int .i64 0]]) (by simp [results, Try.results26, go_sem]) rfl ?_
    exact bodyPost_mk HE.out (RdSlice.nothing (Nat.zero_le _) (fun _ => rfl)) ((Below.refl _ _).alloc (Nat.le_refl _) _)
  · have i1 : ¬ (3000 : Int) < (s.size : Int) := by omega
    have H3 := Lib.hid h3
    obtain ⟨W1, hW1⟩ : ∃ W1, w.alloc (.cells #[.int .i64 0, .int .i64 0] 26) = W1 := ⟨_, rfl⟩
    have hsz : W1.heap.size = w.heap.size + 1 := by rw [← hW1]; simp
    obtain ⟨W2, hW2⟩ : ∃ W2, W1.alloc (.cells #[.string s, .int .i64 0, .int .i64 0, .int .i64 0] 79) = W2 := ⟨_, rfl⟩
    have HP := Lib.hid (show WS W1.heap.size s W2 (.ok (rest s 0)) from by rw [← hW2]; exact WS.start W1 s)
    have HF := Lib.hid (show Blk W2 w.heap.size 26 #[.int .i64 0, .int .i64 0] from by rw [← hW2, ← hW1]; exact (Blk.new w _ _).alloc _)
    have HB := Lib.hid (show Below w.heap.size w W2 from by rw [← hW2, ← hW1]; exact ((Below.refl _ _).alloc (Nat.le_refl _) _).alloc (by simp) _)
    have h2s : W2.heap.size = w.heap.size + 2 := by rw [← hW2]; simp [hsz]
    obtain ⟨B, hB⟩ : ∃ B, W1.heap.size = B := ⟨_, rfl⟩
    rw [hB] at HP hsz
    have hBR : B ≠ w.heap.size := by omega
    have HZ := Lib.hid (And.intro hsz h2s)
    obtain ⟨σ, HS⟩ : ∃ σ, Hid (stOf (bodyF 5 [] (rest s 0)) = σ) := ⟨_, Lib.hid rfl⟩
    have ATOMS : Hid (Calls Try.prog 48 #[.pointer (some ⟨B, 0, none⟩)] W2 fun en w' => But B W2 w' ∧ WS B s w' σ ∧ ∃ v y, en = .returned v ∧ VAtoms W2 y v w' ∧ ∀ x r, bodyF 5 [] (rest s 0) = .ok (x, r) → x = y) := Lib.hid (by rw [← HS.out]; exact walkAtoms B s (rest s 0) W2 hs HP.out)
    rcases hg : bodyF 5 [] (rest s 0) with ⟨er, r'⟩ | ⟨l, r⟩
    · have HE := Lib.hid (parseBodyF_error h3 hg)
      rw [hg] at HS
      obtain rfl : Except.error (er, r') = σ := HS.out
      clear hg h3 hsz h2s HS HP
      go_enter Try.func26, Try.ntmps26
      go_wp2_with (first
        | (go_at_call 48; refine (ATOMS.out).mono ?_; rintro e w5 ⟨hb5, hp5, v5, y, rfl, hv5, -⟩; have hv5' : RdAtoms (New W2) w5 v5 y := hv5; obtain ⟨va, vc, rfl, -, -, -⟩ := id hv5'.form; have HP5 := Lib.hid hp5; have HF5 := Lib.hid (HF.out.but hb5 (by have := HZ.out; omega)); have HB5 := Lib.hid (HB.out.grown hb5 (by have := HZ.out; omega) (fun q hq => by have := Option.some.inj hq; have := HZ.out; omega)); clear hb5 hp5 hv5 hv5'; obtain ⟨hne, kk, hwk⟩ := HP5.out; have b2 := hwk.c2; have b3 := hwk.c3; have f0 := HF5.out.frozen 0; have f1 := HF5.out.frozen 1; have c0 := HF5.out.cell 0; have c1 := HF5.out.cell 1; simp only [List.getElem?_toArray, List.getElem?_cons_zero, List.getElem?_cons_succ] at c0 c1; clear hne hwk)
        | (go_at_call 44; refine (okW B s _ _ HP5.out).mono ?_; rintro e w6 ⟨rfl, rfl⟩))
      go_region_law (fail)
      all_goals
        go_wp2
        refine bodyPost_ret (v := .tuple #[.slice none 0 0, .agg #[.int .i64 er, .int .i64 ((posF s r' : Nat) : Int)]]) (by simp [results, Try.results26, go_sem, c0, c1]) rfl ?_
        refine bodyPost_mk HE.out (RdSlice.nothing (Nat.zero_le _) (fun _ => rfl)) ?_
        first
          | exact ((HB5.out.setCell (Nat.le_refl _) _).setCell (Nat.le_refl _) _).drew
          | exact ((HB5.out.drew.setCell (Nat.le_refl _) _).setCell (Nat.le_refl _) _)
    · have HGG := Lib.hid hg
      rw [hg] at HS
      obtain rfl : Except.ok r = σ := HS.out
      have ATOMS2 : Hid (Calls Try.prog 48 #[.pointer (some ⟨B, 0, none⟩)] W2 fun en w' => ∃ va vc, en = .returned (.slice va l.length vc) ∧ RdAtoms (New W2) w' (.slice va l.length vc) l ∧ WS B s w' (.ok r) ∧ Blk w' w.heap.size 26 #[.int .i64 0, .int .i64 0] ∧ Below w.heap.size w w') := Lib.hid (ATOMS.out.mono fun en w' ⟨hb5, hp5, v5, y, he, hv5, hy⟩ => by
        obtain rfl := hy l r hg
        have hv5' : RdAtoms (New W2) w' v5 l := hv5
        obtain ⟨va, vc, rfl, -, -, -⟩ := id hv5'.form
        exact ⟨va, vc, he, hv5', hp5, HF.out.but hb5 (by omega), HB.out.grown hb5 (by omega) (fun q hq => by have := Option.some.inj hq; omega)⟩)
      obtain ⟨n1, hn1⟩ : ∃ n1, posF s (blankF false r) = n1 := ⟨_, rfl⟩
      by_cases hbl : blankF false r = []
      · have HE := Lib.hid (parseBodyF_ok h3 hg hbl)
        have hn1s : n1 = s.size := by rw [← hn1]; exact pos_end hbl
        have i2 : ¬ ((n1 : Int) < (s.size : Int)) := by omega
        have HN1 := Lib.hid hn1
        clear hg h3 hsz h2s HS HP hbl hn1 ATOMS hn1s HGG
        go_enter Try.func26, Try.ntmps26
        go_wp2_with (first
          | (go_at_call 48; refine (ATOMS2.out).mono ?_; rintro e w5 ⟨va, vc, rfl, hv5, hp5, hf5, hb5⟩; have HP5 := Lib.hid hp5; have HF5 := Lib.hid hf5; have HB5 := Lib.hid hb5; have HV5 := Lib.hid hv5; have TK := Lib.hid True.intro; clear hp5 hf5 hb5 hv5)
          | (go_at_call 44; clear TK; refine (okW B s _ _ HP5.out).mono ?_; rintro e w6 ⟨rfl, rfl⟩)
          | (go_at_call 43; refine (skipW B s _ _ hs' HP5.out).mono ?_; rintro e w7 ⟨rfl, hp7, hb7⟩; have HP7 := Lib.hid hp7; have HF7 := Lib.hid (HF5.out.but hb7 hBR.symm); have HV7 := Lib.hid (HV5.out.agree RAtom.steady (But.agree hb7 (fun h => by have h' : W2.heap.size ≤ B := h; have := HZ.out; omega))); have HB7 := Lib.hid (HB5.out.grown hb7 HB5.out.size (fun q hq => by have := Option.some.inj hq; have := HZ.out; omega)); clear hb7; have hwk := hp7.2; rw [HN1.out] at hwk; have b0 := hwk.c0; have b1 := hwk.c1; clear hp7 hwk; have f0 := HF7.out.frozen 0; have f1 := HF7.out.frozen 1; have c0 := HF7.out.cell 0; have c1 := HF7.out.cell 1; simp only [List.getElem?_toArray, List.getElem?_cons_zero, List.getElem?_cons_succ] at c0 c1)
          | (go_at_call 44; refine (okW B s _ _ HP7.out).mono ?_; rintro e w8 ⟨rfl, rfl⟩))
        go_wp2
        refine bodyPost_ret (v := .tuple #[.slice va l.length vc, .agg #[.int .i64 0, .int .i64 0]]) (by simp [results, Try.results26, go_sem, c0, c1]) rfl ?_
        refine bodyPost_mk HE.out ?_ ((HB7.out.setCell (Nat.le_refl _) _).setCell (Nat.le_refl _) _)
        exact ((HV7.out.agree RAtom.steady (Agree.setCell (p := ⟨w.heap.size, 0, none⟩) (fun h => by have h' : W2.heap.size ≤ w.heap.size := h; have := HZ.out; omega) _)).agree RAtom.steady (Agree.setCell (p := ⟨w.heap.size, 1, none⟩) (fun h => by have h' : W2.heap.size ≤ w.heap.size := h; have := HZ.out; omega) _)).more RAtom.steady (fun b hb _ => by have h' : W2.heap.size ≤ b := hb; have := HZ.out; show w.heap.size ≤ b; omega)
      · have HE := Lib.hid (parseBodyF_more h3 hg hbl)
        have hn1s : n1 < s.size := by
          rw [← hn1]
          unfold posF
          have h1 : 0 < (blankF false r).length := List.length_pos_iff.2 hbl
          have h2 := (blankF_suffix false r).length_le
          have h4 : r.length ≤ (rest s 0).length := by
            have := bodyF_suffix 5 [] (rest s 0)
            rw [hg] at this
            exact List.IsSuffix.length_le this
          rw [rest_length] at h4
          omega
        have i2 : ((n1 : Int) < (s.size : Int)) := by omega
        have HN1 := Lib.hid hn1
        clear hg h3 hsz h2s HS HP hbl hn1 ATOMS hn1s HGG
        go_enter Try.func26, Try.ntmps26
        go_wp2_with (first
          | (go_at_call 48; refine (ATOMS2.out).mono ?_; rintro e w5 ⟨va, vc, rfl, hv5, hp5, hf5, hb5⟩; have HP5 := Lib.hid hp5; have HF5 := Lib.hid hf5; have HB5 := Lib.hid hb5; have TK := Lib.hid True.intro; clear hp5 hf5 hb5 hv5)
          | (go_at_call 44; clear TK; refine (okW B s _ _ HP5.out).mono ?_; rintro e w6 ⟨rfl, rfl⟩)
          | (go_at_call 43; refine (skipW B s _ _ hs' HP5.out).mono ?_; rintro e w7 ⟨rfl, hp7, hb7⟩; have HP7 := Lib.hid hp7; have HF7 := Lib.hid (HF5.out.but hb7 hBR.symm); have HB7 := Lib.hid (HB5.out.grown hb7 HB5.out.size (fun q hq => by have := Option.some.inj hq; have := HZ.out; omega)); clear hb7; have hwk := hp7.2; rw [HN1.out] at hwk; have b0 := hwk.c0; have b1 := hwk.c1; clear hp7 hwk)
          | (go_at_call 45; refine (stopW B s _ 2 (by decide) _ HP7.out).mono ?_; rintro e w8 ⟨rfl, hp8, hb8⟩; have HP8 := Lib.hid hp8; have HF8 := Lib.hid (HF7.out.but hb8 hBR.symm); have HB8 := Lib.hid (HB7.out.grown hb8 HB7.out.size (fun q hq => by have := Option.some.inj hq; have := HZ.out; omega)); clear hp8 hb8; obtain ⟨hne, kk, hwk⟩ := HP8.out; have b2 := hwk.c2; have b3 := hwk.c3; have f0 := HF8.out.frozen 0; have f1 := HF8.out.frozen 1; have c0 := HF8.out.cell 0; have c1 := HF8.out.cell 1; simp only [List.getElem?_toArray, List.getElem?_cons_zero, List.getElem?_cons_succ] at c0 c1; clear hne hwk)
          | (go_at_call 44; refine (okW B s _ _ HP8.out).mono ?_; rintro e w9 ⟨rfl, rfl⟩))
        go_region_law (fail)
        all_goals
          go_wp2
          refine bodyPost_ret (v := .tuple #[.slice none 0 0, .agg #[.int .i64 2, .int .i64 ((posF s (blankF false r) : Nat) : Int)]]) (by simp [results, Try.results26, go_sem, c0, c1]) rfl ?_
          refine bodyPost_mk HE.out (RdSlice.nothing (Nat.zero_le _) (fun _ => rfl)) ?_
          first
            | exact ((HB8.out.setCell (Nat.le_refl _) _).setCell (Nat.le_refl _) _).drew
            | exact ((HB8.out.drew.setCell (Nat.le_refl _) _).setCell (Nat.le_refl _) _)
end Go.Proofs.Ytobbjapmdpkogaa
