/-
  THE WALK OF cororef1.Parse.
-/
import Derived.Test.YtobbjapmdpkogaaRefW6
namespace Go.Proofs.Ytobbjapmdpkogaa
open Go.RowKit

def ProgAt (G : Got (List PRule)) (n : Nat) (acc : List PRule) (σ : St) : Prop :=
  (acc.length + n = 16 ∧ ∃ r, σ = .ok r ∧ blankF false r = r ∧ G = progF n acc r) ∨
  (n = 0 ∧ ∃ e, σ = .error e ∧ G = .error e)
theorem rule_next {G : Got (List PRule)} {n : Nat} {acc : List PRule} {r : Bytes} {x : PAtom} {bl : List PAtom} {σ3 : St} (hn : acc.length + (n + 1) = 16) (hbk : blankF false r = r) (hne : r ≠ []) (hG : G = progF (n + 1) acc r) (hx : ∀ z r', atomF false r = .ok (z, r') → z = x)
    (h3 : (eatσB [58, 45] (stOf (atomF false r)) = false ∧ σ3 = eatσ [58, 45] (stOf (atomF false r)) ∧ bl = []) ∨ (∃ r2, eatσB [58, 45] (stOf (atomF false r)) = true ∧ eatσ [58, 45] (stOf (atomF false r)) = .ok r2 ∧ σ3 = stOf (bodyF 5 [] r2) ∧ ∀ z r', bodyF 5 [] r2 = .ok (z, r') → z = bl)) :
    ProgAt G (if isOk (needσ [46] σ3) then n else 0) (acc ++ [⟨x, bl⟩]) (blankσ (needσ [46] σ3)) := by
  rw [progF, hbk, if_neg hne] at hG
  have fin : ∀ (b : List PAtom) (r3 : Bytes), b = bl → σ3 = .ok r3 → (G = match (match mustF [46] r3 with | .error e => (.error e : Got PRule) | .ok (_, r4) => .ok (⟨x, b⟩, r4)) with | .error e => .error e | .ok (y, r1) => progF n (acc ++ [y]) r1) → ProgAt G (if isOk (needσ [46] σ3) then n else 0) (acc ++ [⟨x, bl⟩]) (blankσ (needσ [46] σ3)) := by
    rintro b r3 rfl rfl hG
    show ProgAt G (if isOk (stOf (mustF [46] r3)) then n else 0) _ (blankσ (stOf (mustF [46] r3)))
    rcases hm : mustF [46] r3 with e | ⟨u, r4⟩
    · rw [hm] at hG
      exact .inr ⟨rfl, e, rfl, hG⟩
    · rw [hm] at hG
      refine .inl ⟨by simp [isOk, stOf]; omega, blankF false r4, rfl, blankF_idem _ _, ?_⟩
      rw [progF_blank]
      exact hG
  unfold ruleF headF at hG
  rcases ha : atomF false r with e | ⟨h, r1⟩
  · rw [ha] at hG h3
    rcases h3 with ⟨-, rfl, -⟩ | ⟨r2, h, -⟩
    · exact .inr ⟨rfl, e, rfl, hG⟩
    · cases h
  · obtain rfl := hx h r1 ha
    rw [ha] at hG h3
    dsimp only at hG
    unfold tailF at hG
    rcases h3 with ⟨h1, rfl, rfl⟩ | ⟨r2, h1, h2, rfl, hz⟩
    · have h1' : eatsF [58, 45] r1 = false := h1
      rw [h1', if_neg (by simp)] at hG
      exact fin [] (eatF [58, 45] r1) rfl rfl hG
    · have h1' : eatsF [58, 45] r1 = true := h1
      have h2' : eatF [58, 45] r1 = r2 := by injection h2
      rw [h1', if_pos rfl, h2'] at hG
      rcases hb : bodyF 5 [] r2 with e | ⟨z, r3⟩
      · rw [hb] at hG
        exact .inr ⟨rfl, e, rfl, hG⟩
      · obtain rfl := hz z r3 hb
        rw [hb] at hG fin
        exact fin z r3 rfl rfl hG
theorem parsePost_mk {s : Str} {w w' : World} {v : Value} {l : List PRule} {e a : Int} (h : parseF s = (l, e, a)) (hv : RdRules (New w) w' v l) (hb : Below w.heap.size w w') : ParsePost s w (.returned (.tuple #[v, .agg #[.int .i64 e, .int .i64 a]])) w' := by
  unfold ParsePost
  rw [h]
  exact ⟨⟨v, rfl, hv⟩, hb⟩

attribute [local go_sem ↓] Go.wp_at_zero Go.wp_at_succ
set_option maxRecDepth 100000 in
set_option maxHeartbeats 16000000 in
theorem parseRef (s : Str) (w : World) (hs : s.size ≤ 1048576) : Calls Try.prog 19 #[.string s] w (ParsePost s w) := by
  have hs' : s.size ≤ 1099511627776 := by omega
  by_cases h3 : 3000 < s.size
  · have i1 : (3000 : Int) < (s.size : Int) := by omega
    have HE := Lib.hid (parseF_long h3)
    go_enter Try.func19, Try.ntmps19
    go_wp2
    refine bodyPost_ret (v := .tuple #[.slice none 0 0, .agg #[.int .i64 4, .int .i64 0]]) (by simp [results, Try.results19, go_sem]) rfl ?_
    exact parsePost_mk HE.out (RdSlice.nothing (Nat.zero_le _) (fun _ => rfl)) ((Below.refl _ _).alloc (Nat.le_refl _) _)
  have i1 : ¬ (3000 : Int) < (s.size : Int) := by omega
  have H3 := Lib.hid h3
  obtain ⟨W1, hW1⟩ : ∃ W1, w.alloc (.cells #[.int .i64 0, .int .i64 0] 26) = W1 := ⟨_, rfl⟩
  have hsz : W1.heap.size = w.heap.size + 1 := by rw [← hW1]; simp
  obtain ⟨W2, hW2⟩ : ∃ W2, W1.alloc (.cells #[.string s, .int .i64 0, .int .i64 0, .int .i64 0] 79) = W2 := ⟨_, rfl⟩
  have HP := Lib.hid (show WS W1.heap.size s W2 (.ok (rest s 0)) from by rw [← hW2]; exact WS.start W1 s)
  have HF := Lib.hid (show Blk W2 w.heap.size 26 #[.int .i64 0, .int .i64 0] from by rw [← hW2, ← hW1]; exact (Blk.new w _ _).alloc _)
  have HB0 := Lib.hid (show Below w.heap.size w W2 from by rw [← hW2, ← hW1]; exact ((Below.refl _ _).alloc (Nat.le_refl _) _).alloc (by simp) _)
  have h2s : W2.heap.size = w.heap.size + 2 := by rw [← hW2]; simp [hsz]
  obtain ⟨B, hB⟩ : ∃ B, W1.heap.size = B := ⟨_, rfl⟩
  rw [hB] at HP hsz
  have hBR : B ≠ w.heap.size := by omega
  have hBw : B < W2.heap.size := by omega
  have HZ := Lib.hid (And.intro hsz h2s)
  obtain ⟨G, HG⟩ : ∃ G, Hid (progF 16 [] (rest s 0) = G) := ⟨_, Lib.hid rfl⟩
  have HT0 := Lib.hid (show ProgAt G 16 [] (blankσ (.ok (rest s 0))) from .inl ⟨rfl, _, rfl, blankF_idem _ _, by rw [progF_blank]; exact HG.out.symm⟩)
  have SKIP0 := Lib.hid (skipW B s _ W2 hs' HP.out)
  have HPE := Lib.hid (show ∀ er r', G = .error (er, r') → parseF s = ([], er, ((posF s r' : Nat) : Int)) from fun er r' h => parseF_error H3.out (HG.out.trans h))
  have HPO := Lib.hid (show ∀ l r', G = .ok (l, r') → parseF s = (l, 0, 0) from fun l r' h => parseF_ok H3.out (HG.out.trans h))
  clear h3 HP HG
  have h2s' := h2s
  clear hsz h2s
  go_enter Try.func19, Try.ntmps19
  go_wp2_with (go_at_call 43; refine (SKIP0.out).mono ?_; rintro e w3 ⟨rfl, hp3, hb3⟩; have HP3 := Lib.hid hp3; have HB3 := Lib.hid hb3; clear hp3 hb3 SKIP0)
  go_loopg [5] 18 (fun gk v wr => ∃ (n : Nat) (acc : List PRule) (σ : St), gk = (if isOk σ then n + 1 else 0) + 1 ∧ Hid (ProgAt G n acc σ) ∧ Hid (WS B s wr σ) ∧ Hid (But B W2 wr) ∧ Hid (Owned 4 RRule W2.heap.size 33 (New W2) wr v acc))
  case atStart => exact ⟨16, [], _, rfl, HT0, HP3, HB3, Lib.hid Owned.nil⟩
  case round =>
    clear HT0 HP3 HB3
    obtain ⟨n, acc, σ, hgk, HT, HP, HB, HO⟩ := hrel
    obtain ⟨ta, tc, rfl, -, -, -⟩ := id (HO.out.read RRule.steady).form
    rcases HT.out with ⟨hn, r, rfl, hbk, hG⟩ | ⟨rfl, ⟨er, r'⟩, rfl, hG⟩
    rotate_left
    · have HE := Lib.hid (HPE.out er r' hG)
      have HFw := Lib.hid (HF.out.but HB.out hBR.symm)
      have HBw := Lib.hid (HB0.out.grown HB.out (by omega) (fun q hq => by have := Option.some.inj hq; have := HZ.out; omega))
      obtain ⟨hne, kk, hwk⟩ := HP.out
      have b2 := hwk.c2; have b3 := hwk.c3; have f0 := HFw.out.frozen 0; have f1 := HFw.out.frozen 1; have c0 := HFw.out.cell 0; have c1 := HFw.out.cell 1
      simp only [List.getElem?_toArray, List.getElem?_cons_zero, List.getElem?_cons_succ] at c0 c1
      clear hne hwk HT hG
      go_wp2_with (go_at_call 44; refine (okW B s _ _ HP.out).mono ?_; rintro e w6 ⟨rfl, rfl⟩)
      go_region_law (fail)
      all_goals
        go_wp2
        refine bodyPost_ret (v := .tuple #[.slice none 0 0, .agg #[.int .i64 er, .int .i64 ((posF s r' : Nat) : Int)]]) (by simp [results, Try.results19, go_sem, c0, c1]) rfl ?_
        refine parsePost_mk HE.out (RdSlice.nothing (Nat.zero_le _) (fun _ => rfl)) ?_
        first
          | exact ((HBw.out.setCell (Nat.le_refl _) _).setCell (Nat.le_refl _) _).drew
          | exact ((HBw.out.drew.setCell (Nat.le_refl _) _).setCell (Nat.le_refl _) _)
    have hwk := HP.out.2
    have b0 := hwk.c0; have b1 := hwk.c1
    clear hwk
    by_cases hr : r = []
    · have hps : posF s r = s.size := pos_end hr
      have i2 : ¬ (((posF s r : Nat) : Int) < (s.size : Int)) := by omega
      have HE := Lib.hid (HPO.out acc [] (by rw [hG, hr]; exact progF_end n acc))
      have HFw := Lib.hid (HF.out.but HB.out hBR.symm)
      have HBw := Lib.hid (HB0.out.grown HB.out (by omega) (fun q hq => by have := Option.some.inj hq; have := HZ.out; omega))
      have f0 := HFw.out.frozen 0; have f1 := HFw.out.frozen 1; have c0 := HFw.out.cell 0; have c1 := HFw.out.cell 1
      simp only [List.getElem?_toArray, List.getElem?_cons_zero, List.getElem?_cons_succ] at c0 c1
      clear HT hG hr hbk hps
      go_wp2_with (go_at_call 44; refine (okW B s _ _ HP.out).mono ?_; rintro e w6 ⟨rfl, rfl⟩)
      go_wp2
      refine bodyPost_ret (v := .tuple #[.slice ta acc.length tc, .agg #[.int .i64 0, .int .i64 0]]) (by simp [results, Try.results19, go_sem, c0, c1]) rfl ?_
      refine parsePost_mk HE.out ?_ ((HBw.out.setCell (Nat.le_refl _) _).setCell (Nat.le_refl _) _)
      exact (((HO.out.read RRule.steady).more RRule.steady (S' := New W2) (fun b hb _ => hb.elim id id)).agree RRule.steady (Agree.setCell (p := ⟨w.heap.size, 0, none⟩) (fun h => by have h' : W2.heap.size ≤ w.heap.size := h; omega) _)).agree RRule.steady (Agree.setCell (p := ⟨w.heap.size, 1, none⟩) (fun h => by have h' : W2.heap.size ≤ w.heap.size := h; omega) _) |>.more RRule.steady (fun b hb _ => by have h' : W2.heap.size ≤ b := hb; show w.heap.size ≤ b; omega)
    have hps : posF s r < s.size := by
      have h1 : 0 < r.length := List.length_pos_iff.2 hr
      have h2 := HP.out.1.length_le
      rw [bytesOf_length] at h2
      unfold posF
      omega
    have i2 : (((posF s r : Nat) : Int) < (s.size : Int)) := by omega
    cases n with
    | zero =>
      have e4 : (16 : Int) ≤ (acc.length : Int) := by omega
      have HE := Lib.hid (HPE.out 5 r (by rw [hG]; exact progF_many hbk hr))
      have STOP := Lib.hid (stopW B s (.ok r) 5 (by decide) wr HP.out)
      have OK0 := Lib.hid (okW B s _ _ HP.out)
      have TK := Lib.hid True.intro
      clear HT hG hr hbk hps
      go_wp2_with (first
        | (go_at_call 44; clear TK; refine (OK0.out).mono ?_; rintro e w6 ⟨rfl, rfl⟩)
        | (go_at_call 45; refine (STOP.out).mono ?_; rintro e w8 ⟨rfl, hp8, hb8⟩; have HP8 := Lib.hid hp8; have HB8 := Lib.hid (HB.out.trans hb8); clear hp8 hb8; have HFw := Lib.hid (HF.out.but HB8.out hBR.symm); have HBw := Lib.hid (HB0.out.grown HB8.out (by omega) (fun q hq => by have := Option.some.inj hq; have := HZ.out; omega)); obtain ⟨hne, kk, hwk⟩ := HP8.out; have b2 := hwk.c2; have b3 := hwk.c3; have f0 := HFw.out.frozen 0; have f1 := HFw.out.frozen 1; have c0 := HFw.out.cell 0; have c1 := HFw.out.cell 1; simp only [List.getElem?_toArray, List.getElem?_cons_zero, List.getElem?_cons_succ] at c0 c1; clear hne hwk b0 b1)
        | (go_at_call 44; refine (okW B s _ _ HP8.out).mono ?_; rintro e w6 ⟨rfl, rfl⟩))
      go_region_law (fail)
      all_goals
        go_wp2
        refine bodyPost_ret (v := .tuple #[.slice none 0 0, .agg #[.int .i64 5, .int .i64 ((posF s r : Nat) : Int)]]) (by simp [results, Try.results19, go_sem, c0, c1]) rfl ?_
        refine parsePost_mk HE.out (RdSlice.nothing (Nat.zero_le _) (fun _ => rfl)) ?_
        first
          | exact ((HBw.out.setCell (Nat.le_refl _) _).setCell (Nat.le_refl _) _).drew
          | exact ((HBw.out.drew.setCell (Nat.le_refl _) _).setCell (Nat.le_refl _) _)
    | succ n =>
      have e4 : ¬ ((16 : Int) ≤ (acc.length : Int)) := by omega
      have OK0 := Lib.hid (okW B s _ _ HP.out)
      obtain ⟨σ1, HS1⟩ : ∃ σ', Hid (stOf (atomF false r) = σ') := ⟨_, Lib.hid rfl⟩
      have ATOM : Hid (Calls Try.prog 46 #[.pointer (some ⟨B, 0, none⟩), .bool false] wr fun en w' => But B wr w' ∧ WS B s w' σ1 ∧ ∃ v y, en = .returned v ∧ VAtom wr y v w' ∧ ∀ x r', atomF false r = .ok (x, r') → x = y) := Lib.hid (by rw [← HS1.out]; exact walkAtom B s r false wr hs HP.out)
      obtain ⟨bb, hbb⟩ : ∃ b, eatσB [58, 45] σ1 = b := ⟨_, rfl⟩
      have EAT : Hid (∀ W, WS B s W σ1 → Calls Try.prog 47 #[.pointer (some ⟨B, 0, none⟩), .string ⟨#[58, 45]⟩] W fun en w' => en = .returned (.bool bb) ∧ WS B s w' (eatσ [58, 45] σ1) ∧ But B W w') := Lib.hid fun W hW => by
        rw [← hbb]
        exact eatW B s σ1 ⟨#[58, 45]⟩ W hs' (by decide) hW
      have HNXT := Lib.hid (fun (x : PAtom) (bl : List PAtom) (σ3 : St) (hx : ∀ z r', atomF false r = .ok (z, r') → z = x) (h3 : (eatσB [58, 45] σ1 = false ∧ σ3 = eatσ [58, 45] σ1 ∧ bl = []) ∨ (∃ r2, eatσB [58, 45] σ1 = true ∧ eatσ [58, 45] σ1 = .ok r2 ∧ σ3 = stOf (bodyF 5 [] r2) ∧ ∀ z r', bodyF 5 [] r2 = .ok (z, r') → z = bl)) => rule_next hn hbk hr hG hx (by rw [HS1.out]; exact h3))
      have HBB := Lib.hid hbb
      have hokσ : isOk (.ok r) = true := rfl
      rw [hokσ] at hgk
      clear HT hG hr hbk hps hbb hokσ
      have TK := Lib.hid True.intro
      cases bb
      · go_wp2_with (first
          | (go_at_call 44; clear TK; refine (OK0.out).mono ?_; rintro e w6 ⟨rfl, rfl⟩)
          | (go_at_call 46; refine (ATOM.out).mono ?_; rintro e w4 ⟨hb4, hp4, v4, x, rfl, ⟨tv, rfl, hr4⟩, hy⟩; obtain ⟨xa, xc, rfl, -, -, -⟩ := id hr4.form; have HX := Lib.hid hy; have HP4 := Lib.hid hp4; have HB4 := Lib.hid (HB.out.trans hb4); have HO4 := Lib.hid (HO.out.butS RRule.steady hb4 hBw (by show ¬ W2.heap.size ≤ B; omega)); have HT4 := Lib.hid (show RdTerms (New wr) w4 _ _ from hr4); have hz4 : wr.heap.size ≤ w4.heap.size := hb4.size; have HZQ := Lib.hid (fun q (hq : (Value.slice ta acc.length tc).ownBlock = some q) => (HO.out.row_lt hq).2); clear hb4 hp4 hr4 hy b0 b1)
          | (go_at_call 47; refine (EAT.out _ (HP4.out.alloc (.cells #[.bool x.neg, .string x.name, .slice xa x.terms.length xc, .slice none 0 0] 33))).mono ?_; rintro e w5 ⟨rfl, hp5, hb5⟩; have HP5 := Lib.hid hp5; have HB5 := Lib.hid ((HB4.out.alloc (.cells #[.bool x.neg, .string x.name, .slice xa x.terms.length xc, .slice none 0 0] 33)).trans hb5); have HN5 := Lib.hid ((Blk.new w4 33 #[.bool x.neg, .string x.name, .slice xa x.terms.length xc, .slice none 0 0]).but hb5 (by have := HP4.out.lt; omega)); have HO5 := Lib.hid (((HO4.out.moreS RRule.steady (S' := fun q => W2.heap.size ≤ q ∧ q ≠ w4.heap.size) (fun b hb hlt => ⟨hb, Nat.ne_of_lt hlt⟩)).alloc RRule.steady (.cells #[.bool x.neg, .string x.name, .slice xa x.terms.length xc, .slice none 0 0] 33)).butS RRule.steady hb5 hBw (fun h => by have := h.1; omega)); have HT5 := Lib.hid (((HT4.out.more RTerm.steady (S' := fun q => wr.heap.size ≤ q ∧ q ≠ w4.heap.size) (fun b hb hlt => ⟨hb, Nat.ne_of_lt hlt⟩)).agree RTerm.steady ((Agree.refl _ _).alloc (.cells #[.bool x.neg, .string x.name, .slice xa x.terms.length xc, .slice none 0 0] 33))).agree RTerm.steady (hb5.agree (fun h => by have := h.1; have := HB.out.size; omega))); clear hb5 hp5))
        clear HP4 HB4 HO4 HT4 ATOM EAT OK0
        have hN1 : wr.heap.size ≤ w4.heap.size := hz4
        have hN2 : w4.heap.size < w5.heap.size := HN5.out.lt
        generalize w4.heap.size = N1 at *
        clear hz4
        have hWr := HB.out.size
        obtain ⟨bl, ba, bc, σ3, wA, hwA, HNX, HPA, HBA, HNA, HOA, HTA, HQA⟩ : ∃ (bl : List PAtom) (ba : Option Addr) (bc : Nat) (σ3 : St) (wA : World), wA = w5 ∧ Hid (ProgAt G (if isOk (needσ [46] σ3) then n else 0) (acc ++ [⟨x, bl⟩]) (blankσ (needσ [46] σ3))) ∧ Hid (WS B s wA σ3) ∧ Hid (But B W2 wA) ∧ Hid (Blk wA N1 33 #[.bool x.neg, .string x.name, .slice xa x.terms.length xc, .slice ba bl.length bc]) ∧ Hid (Owned 4 RRule W2.heap.size 33 (fun q => W2.heap.size ≤ q ∧ q ≠ N1) wA (.slice ta acc.length tc) acc) ∧ Hid (RdTerms (fun q => wr.heap.size ≤ q ∧ q ≠ N1) wA (.slice xa x.terms.length xc) x.terms) ∧ Hid (RdAtoms (fun q => wr.heap.size ≤ q ∧ q ≠ N1) wA (.slice ba bl.length bc) bl) :=
          ⟨[], none, 0, _, w5, rfl, Lib.hid (HNXT.out x [] _ HX.out (.inl ⟨HBB.out, rfl, rfl⟩)), HP5, HB5, HN5, HO5, HT5, Lib.hid (RdSlice.nothing (Nat.zero_le _) (fun _ => rfl))⟩
        subst hwA
        have hNA : N1 < wA.heap.size := HNA.out.lt
        have hBN1 : N1 ≠ B := by omega
        clear HP5 HB5 HN5 HO5 HT5 HNXT HX HBB
        have NEED := Lib.hid (needW B s σ3 ⟨#[46]⟩ wA hs' (by decide) HPA.out)
        have HLEN := Lib.hid (show (acc ++ [(⟨x, bl⟩ : PRule)]).length = acc.length + 1 by simp)
        go_wp2_with (first
          | (go_at_call 49; refine (NEED.out).mono ?_; rintro e w7 ⟨rfl, hp7, hb7⟩; have HP7 := Lib.hid hp7; have HB7 := Lib.hid (HBA.out.trans hb7); have HN7 := Lib.hid (HNA.out.but hb7 (by omega)); have HO7 := Lib.hid (HOA.out.butS RRule.steady hb7 hBw (fun h => by have := h.1; omega)); have HT7 := Lib.hid (HTA.out.agree RTerm.steady (hb7.agree (fun h => by have := h.1; omega))); have HQ7 := Lib.hid (HQA.out.agree RAtom.steady (hb7.agree (fun h => by have := h.1; omega))); have d0 : w7.cell? ⟨N1, 0, none⟩ = some (.bool x.neg) := HN7.out.cell 0; have d1 : w7.cell? ⟨N1, 1, none⟩ = some (.string x.name) := HN7.out.cell 1; have d2 : w7.cell? ⟨N1, 2, none⟩ = some (.slice xa x.terms.length xc) := HN7.out.cell 2; have d3 : w7.cell? ⟨N1, 3, none⟩ = some (.slice ba bl.length bc) := HN7.out.cell 3; clear hp7 hb7)
          | (at_builtin; refine wpList_append_one (B := W2.heap.size) (e := 33) (S := fun q => W2.heap.size ≤ q ∧ q ≠ N1) (by rfl) _ _ 23 (by rfl) RRule.steady rowRules _ acc (by rfl) (HO7.out.alloc RRule.steady _) _ 1 #[.bool x.neg, .string x.name, .slice xa x.terms.length xc, .slice ba bl.length bc] 33 (0, 0) ⟨x, bl⟩ (by rfl) (heap_alloc_new _ _) rfl (by simp [Value.oneCell']) ⟨_, _, rfl, (HT7.out.agree RTerm.steady ((Agree.refl _ _).alloc _)).more RTerm.steady (fun q hq _ => ⟨⟨Nat.le_trans HB.out.size hq.1, hq.2⟩, fun e => by have := HZQ.out q e.symm; have := hq.1; omega⟩), (HQ7.out.agree RAtom.steady ((Agree.refl _ _).alloc _)).more RAtom.steady (fun q hq _ => ⟨⟨Nat.le_trans HB.out.size hq.1, hq.2⟩, fun e => by have := HZQ.out q e.symm; have := hq.1; omega⟩)⟩ (by omega) (by have := HB7.out.size; simp; omega) ?_; intro v8 w8 hown8 hg8 hat8; have HO8 := Lib.hid (hown8.moreS RRule.steady (S' := New W2) (fun q hq _ => hq.1)); have HP8 := Lib.hid ((HP7.out.alloc (.cells #[.bool x.neg, .string x.name, .slice xa x.terms.length xc, .slice ba bl.length bc] 33)).grown hg8 (fun e => by have := (HO7.out.row_lt e.symm).1; omega)); have HB8 := Lib.hid ((HB7.out.alloc (.cells #[.bool x.neg, .string x.name, .slice xa x.terms.length xc, .slice ba bl.length bc] 33)).row hg8 (fun q hq => (HO7.out.row_lt hq).1)); obtain ⟨a8, c8, rfl, -, -, -⟩ := id (HO8.out.read RRule.steady).form; clear hown8 hg8 hat8)
          | (go_at_call 43; refine (skipW B s _ _ hs' HP8.out).mono ?_; rintro e w9 ⟨rfl, hp9, hb9⟩; have HP9 := Lib.hid hp9; have HB9 := Lib.hid (HB8.out.trans hb9); have HO9 := Lib.hid (HO8.out.butS RRule.steady hb9 hBw (by show ¬ W2.heap.size ≤ B; omega)); clear hp9 hb9))
        rw [HLEN.out] at HO9
        have hbo : isOk (blankσ (needσ [46] σ3)) = isOk (needσ [46] σ3) := by cases needσ [46] σ3 <;> rfl
        go_roundg ((if isOk (blankσ (needσ [46] σ3)) then (if isOk (needσ [46] σ3) then n else 0) + 1 else 0) + 1)
        case measure => rw [hbo]; simp at hgk; cases isOk (needσ [46] σ3) <;> simp <;> omega
        case rel => exact ⟨_, acc ++ [⟨x, bl⟩], _, rfl, HNX, HP9, HB9, HO9⟩
      · obtain ⟨r2, hr2⟩ : ∃ r2, eatσ [58, 45] σ1 = .ok r2 := by
          have h := HBB.out
          cases σ1 with
          | error e => cases h
          | ok q => exact ⟨_, rfl⟩
        rw [hr2] at EAT
        go_wp2_with (first
          | (go_at_call 44; clear TK; refine (OK0.out).mono ?_; rintro e w6 ⟨rfl, rfl⟩)
          | (go_at_call 46; refine (ATOM.out).mono ?_; rintro e w4 ⟨hb4, hp4, v4, x, rfl, ⟨tv, rfl, hr4⟩, hy⟩; obtain ⟨xa, xc, rfl, -, -, -⟩ := id hr4.form; have HX := Lib.hid hy; have HP4 := Lib.hid hp4; have HB4 := Lib.hid (HB.out.trans hb4); have HO4 := Lib.hid (HO.out.butS RRule.steady hb4 hBw (by show ¬ W2.heap.size ≤ B; omega)); have HT4 := Lib.hid (show RdTerms (New wr) w4 _ _ from hr4); have hz4 : wr.heap.size ≤ w4.heap.size := hb4.size; have HZQ := Lib.hid (fun q (hq : (Value.slice ta acc.length tc).ownBlock = some q) => (HO.out.row_lt hq).2); clear hb4 hp4 hr4 hy b0 b1)
          | (go_at_call 47; refine (EAT.out _ (HP4.out.alloc (.cells #[.bool x.neg, .string x.name, .slice xa x.terms.length xc, .slice none 0 0] 33))).mono ?_; rintro e w5 ⟨rfl, hp5, hb5⟩; have HP5 := Lib.hid hp5; have HB5 := Lib.hid ((HB4.out.alloc (.cells #[.bool x.neg, .string x.name, .slice xa x.terms.length xc, .slice none 0 0] 33)).trans hb5); have HN5 := Lib.hid ((Blk.new w4 33 #[.bool x.neg, .string x.name, .slice xa x.terms.length xc, .slice none 0 0]).but hb5 (by have := HP4.out.lt; omega)); have HO5 := Lib.hid (((HO4.out.moreS RRule.steady (S' := fun q => W2.heap.size ≤ q ∧ q ≠ w4.heap.size) (fun b hb hlt => ⟨hb, Nat.ne_of_lt hlt⟩)).alloc RRule.steady (.cells #[.bool x.neg, .string x.name, .slice xa x.terms.length xc, .slice none 0 0] 33)).butS RRule.steady hb5 hBw (fun h => by have := h.1; omega)); have HT5 := Lib.hid (((HT4.out.more RTerm.steady (S' := fun q => wr.heap.size ≤ q ∧ q ≠ w4.heap.size) (fun b hb hlt => ⟨hb, Nat.ne_of_lt hlt⟩)).agree RTerm.steady ((Agree.refl _ _).alloc (.cells #[.bool x.neg, .string x.name, .slice xa x.terms.length xc, .slice none 0 0] 33))).agree RTerm.steady (hb5.agree (fun h => by have := h.1; have := HB.out.size; omega))); clear hb5 hp5))
        clear HP4 HB4 HO4 HT4 ATOM EAT OK0
        have hN1 : wr.heap.size ≤ w4.heap.size := hz4
        have hN2 : w4.heap.size < w5.heap.size := HN5.out.lt
        generalize w4.heap.size = N1 at *
        clear hz4
        have hWr := HB.out.size
        obtain ⟨σ3, HS3⟩ : ∃ σ', Hid (stOf (bodyF 5 [] r2) = σ') := ⟨_, Lib.hid rfl⟩
        have ATOMS : Hid (Calls Try.prog 48 #[.pointer (some ⟨B, 0, none⟩)] w5 fun en w' => But B w5 w' ∧ WS B s w' σ3 ∧ ∃ v y, en = .returned v ∧ VAtoms w5 y v w' ∧ ∀ x r, bodyF 5 [] r2 = .ok (x, r) → x = y) := Lib.hid (by rw [← HS3.out]; exact walkAtoms B s r2 w5 hs HP5.out)
        go_wp2_with (go_at_call 48; refine (ATOMS.out).mono ?_; rintro e w6 ⟨hb6, hp6, v6, bl, rfl, hv6, hy6⟩; have hv6' : RdAtoms (New w5) w6 v6 bl := hv6; obtain ⟨ba, bc, rfl, -, -, -⟩ := id hv6'.form; have hBN1 : N1 ≠ B := (by omega); have HN6 := Lib.hid (HN5.out.but hb6 hBN1); have hc6 : w6.cell? ⟨N1, 3, none⟩ = some (.slice none 0 0) := HN6.out.cell 3; have hf6 := HN6.out.frozen 3; obtain ⟨wA, hwA⟩ : ∃ wA, w6.setCell ⟨N1, 3, none⟩ (.slice ba bl.length bc) = wA := ⟨_, rfl⟩; have HPA := Lib.hid (show WS B s wA σ3 from by rw [← hwA]; exact hp6.far (p := ⟨N1, 3, none⟩) hBN1.symm _); have HNA := Lib.hid (show Blk wA N1 33 #[.bool x.neg, .string x.name, .slice xa x.terms.length xc, .slice ba bl.length bc] from by rw [← hwA]; exact HN6.out.set_ 3 _); have HBA := Lib.hid (show But B W2 wA from by rw [← hwA]; exact (HB5.out.trans hb6).setCell (p := ⟨N1, 3, none⟩) (.inr (Nat.le_trans hWr hN1)) _); have HOA := Lib.hid (show Owned 4 RRule W2.heap.size 33 (fun q => W2.heap.size ≤ q ∧ q ≠ N1) wA (.slice ta acc.length tc) acc from by rw [← hwA]; exact (HO5.out.butS RRule.steady hb6 hBw (fun h => by have := h.1; omega)).setCell RRule.steady (p := ⟨N1, 3, none⟩) (fun h => h.2 rfl) (fun e => by have := HZQ.out _ e; simp at this; omega) _); have HTA := Lib.hid (show RdTerms (fun q => wr.heap.size ≤ q ∧ q ≠ N1) wA (.slice xa x.terms.length xc) x.terms from by rw [← hwA]; exact (HT5.out.agree RTerm.steady (hb6.agree (fun h => by have := h.1; omega))).agree RTerm.steady (Agree.setCell (p := ⟨N1, 3, none⟩) (fun h => h.2 rfl) _)); have HQA := Lib.hid (show RdAtoms (fun q => wr.heap.size ≤ q ∧ q ≠ N1) wA (.slice ba bl.length bc) bl from by rw [← hwA]; exact (hv6'.more RAtom.steady (S' := fun q => wr.heap.size ≤ q ∧ q ≠ N1) (fun q hq _ => ⟨by have hq' : w5.heap.size ≤ q := hq; omega, by have hq' : w5.heap.size ≤ q := hq; omega⟩)).agree RAtom.steady (Agree.setCell (p := ⟨N1, 3, none⟩) (fun h => h.2 rfl) _)); have HNX := Lib.hid (HNXT.out x bl σ3 HX.out (.inr ⟨r2, HBB.out, hr2, HS3.out.symm, hy6⟩)); clear hb6 hp6 hv6 hv6' hy6)
        have hNA : N1 < wA.heap.size := HNA.out.lt
        clear HP5 HB5 HN5 HO5 HT5 HNXT HX HBB HS3 ATOMS hr2
        have NEED := Lib.hid (needW B s σ3 ⟨#[46]⟩ wA hs' (by decide) HPA.out)
        have HLEN := Lib.hid (show (acc ++ [(⟨x, bl⟩ : PRule)]).length = acc.length + 1 by simp)
        go_wp2_with (first
          | (go_at_call 49; refine (NEED.out).mono ?_; rintro e w7 ⟨rfl, hp7, hb7⟩; have HP7 := Lib.hid hp7; have HB7 := Lib.hid (HBA.out.trans hb7); have HN7 := Lib.hid (HNA.out.but hb7 (by omega)); have HO7 := Lib.hid (HOA.out.butS RRule.steady hb7 hBw (fun h => by have := h.1; omega)); have HT7 := Lib.hid (HTA.out.agree RTerm.steady (hb7.agree (fun h => by have := h.1; omega))); have HQ7 := Lib.hid (HQA.out.agree RAtom.steady (hb7.agree (fun h => by have := h.1; omega))); have d0 : w7.cell? ⟨N1, 0, none⟩ = some (.bool x.neg) := HN7.out.cell 0; have d1 : w7.cell? ⟨N1, 1, none⟩ = some (.string x.name) := HN7.out.cell 1; have d2 : w7.cell? ⟨N1, 2, none⟩ = some (.slice xa x.terms.length xc) := HN7.out.cell 2; have d3 : w7.cell? ⟨N1, 3, none⟩ = some (.slice ba bl.length bc) := HN7.out.cell 3; clear hp7 hb7)
          | (at_builtin; refine wpList_append_one (B := W2.heap.size) (e := 33) (S := fun q => W2.heap.size ≤ q ∧ q ≠ N1) (by rfl) _ _ 23 (by rfl) RRule.steady rowRules _ acc (by rfl) (HO7.out.alloc RRule.steady _) _ 1 #[.bool x.neg, .string x.name, .slice xa x.terms.length xc, .slice ba bl.length bc] 33 (0, 0) ⟨x, bl⟩ (by rfl) (heap_alloc_new _ _) rfl (by simp [Value.oneCell']) ⟨_, _, rfl, (HT7.out.agree RTerm.steady ((Agree.refl _ _).alloc _)).more RTerm.steady (fun q hq _ => ⟨⟨Nat.le_trans HB.out.size hq.1, hq.2⟩, fun e => by have := HZQ.out q e.symm; have := hq.1; omega⟩), (HQ7.out.agree RAtom.steady ((Agree.refl _ _).alloc _)).more RAtom.steady (fun q hq _ => ⟨⟨Nat.le_trans HB.out.size hq.1, hq.2⟩, fun e => by have := HZQ.out q e.symm; have := hq.1; omega⟩)⟩ (by omega) (by have := HB7.out.size; simp; omega) ?_; intro v8 w8 hown8 hg8 hat8; have HO8 := Lib.hid (hown8.moreS RRule.steady (S' := New W2) (fun q hq _ => hq.1)); have HP8 := Lib.hid ((HP7.out.alloc (.cells #[.bool x.neg, .string x.name, .slice xa x.terms.length xc, .slice ba bl.length bc] 33)).grown hg8 (fun e => by have := (HO7.out.row_lt e.symm).1; omega)); have HB8 := Lib.hid ((HB7.out.alloc (.cells #[.bool x.neg, .string x.name, .slice xa x.terms.length xc, .slice ba bl.length bc] 33)).row hg8 (fun q hq => (HO7.out.row_lt hq).1)); obtain ⟨a8, c8, rfl, -, -, -⟩ := id (HO8.out.read RRule.steady).form; clear hown8 hg8 hat8)
          | (go_at_call 43; refine (skipW B s _ _ hs' HP8.out).mono ?_; rintro e w9 ⟨rfl, hp9, hb9⟩; have HP9 := Lib.hid hp9; have HB9 := Lib.hid (HB8.out.trans hb9); have HO9 := Lib.hid (HO8.out.butS RRule.steady hb9 hBw (by show ¬ W2.heap.size ≤ B; omega)); clear hp9 hb9))
        rw [HLEN.out] at HO9
        have hbo : isOk (blankσ (needσ [46] σ3)) = isOk (needσ [46] σ3) := by cases needσ [46] σ3 <;> rfl
        go_roundg ((if isOk (blankσ (needσ [46] σ3)) then (if isOk (needσ [46] σ3) then n else 0) + 1 else 0) + 1)
        case measure => rw [hbo]; simp at hgk; cases isOk (needσ [46] σ3) <;> simp <;> omega
        case rel => exact ⟨_, acc ++ [⟨x, bl⟩], _, rfl, HNX, HP9, HB9, HO9⟩
end Go.Proofs.Ytobbjapmdpkogaa
