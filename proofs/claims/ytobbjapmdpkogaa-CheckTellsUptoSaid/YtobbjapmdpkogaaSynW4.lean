/-
  THE WALKS OF THE PARSER's body AND program.
-/
import Derived.Test.YtobbjapmdpkogaaSynW3
namespace Go.Proofs.Ytobbjapmdpkogaa
open Go.RowKit

theorem rowAtoms : RowT Try.prog 31 30 3 := RowT.mk' (b := 48) (z := .agg #[.bool false, .string ⟨#[]⟩, .slice none 0 0]) Try.underlying31 (by kernel_rfl) (by omega) rfl (by omega)
theorem rowRules : RowT Try.prog 23 33 4 := RowT.mk' (b := 72) (z := .agg #[.bool false, .string ⟨#[]⟩, .slice none 0 0, .slice none 0 0]) Try.underlying23 (by kernel_rfl) (by omega) rfl (by omega)

theorem Owned.butS {α : Type} {k : Nat} {R : Reader α} {B C : Nat} {e : TypeId} {S : Nat → Prop} {w w' : World} {v : Value} {l : List α} (h : Owned k R B e S w v l) (hR : Steady R) (hb : But C w w') (hC : C < B) (hS : ¬ S C) : Owned k R B e S w' v l :=
  h.keep hR ⟨hb.size, fun b hb' hlt => hb.block b hlt (fun e => hS (by rw [← Option.some.inj e]; exact hb'))⟩ fun g hg => hb.block g (h.row_lt hg).2 (fun e => by have := (h.row_lt hg).1; have := Option.some.inj e; omega)
theorem But.agree {B : Nat} {S : Nat → Prop} {w w' : World} (h : But B w w') (hS : ¬ S B) : Agree S w w' :=
  ⟨h.size, fun b hb hlt => h.block b hlt (fun e => hS (by rw [← Option.some.inj e]; exact hb))⟩
theorem Agree.setCell {S : Nat → Prop} {w : World} {p : Addr} (hS : ¬ S p.block) (u : Value) : Agree S w (w.setCell p u) := ⟨by simp [World.setCell], fun b hb _ => Below.heap_setCell _ _ _ _ (fun e => hS (by rw [← e]; exact hb))⟩
theorem atomF_posF {s : Str} {k : Nat} {no : Bool} {x : PAtom} {r : Bytes} (h : atomF no (rest s k) = .ok (x, r)) : rest s (posF s r) = r := by
  have := atomF_suffix no (rest s k)
  rw [h] at this
  exact rest_posF (List.IsSuffix.trans (l₂ := rest s k) this (rest_suffix s k))
theorem bodyF_posF {s : Str} {k n : Nat} {acc x : List PAtom} {r : Bytes} (h : bodyF n acc (rest s k) = .ok (x, r)) : rest s (posF s r) = r := by
  have := bodyF_suffix n acc (rest s k)
  rw [h] at this
  exact rest_posF (List.IsSuffix.trans (l₂ := rest s k) this (rest_suffix s k))
theorem bodyF_bad {n : Nat} {acc : List PAtom} {r r' : Bytes} {er : Int} (h : atomF true r = .error (er, r')) : bodyF (n + 1) acc r = .error (er, r') := by rw [bodyF, h]
theorem bodyF_good {n : Nat} {acc : List PAtom} {r r1 : Bytes} {x : PAtom} (h : atomF true r = .ok (x, r1)) : bodyF (n + 1) acc r = if eatsF [44] r1 then bodyF n (acc ++ [x]) (eatF [44] r1) else .ok (acc ++ [x], eatF [44] r1) := by rw [bodyF, h]

def VAtoms (w : World) (l : List PAtom) (v : Value) (w' : World) : Prop := RdAtoms (New w) w' v l
def VRules (w : World) (l : List PRule) (v : Value) (w' : World) : Prop := RdRules (New w) w' v l

attribute [local go_sem ↓] Go.wp_at_zero Go.wp_at_succ
set_option maxRecDepth 100000 in
set_option maxHeartbeats 8000000 in
theorem bodyCalls (B : Nat) (s : Str) (k : Nat) (w : World) (hs : s.size ≤ 1048576) (h : Ps B s k w) :
    Calls Try.prog 56 #[.pointer (some ⟨B, 0, none⟩)] w fun e w' => Ends B s w (VAtoms w) (bodyF 5 [] (rest s k)) e w' := by
  have hBw := h.lt
  have hk := h.le
  have HP0 := Lib.hid h
  have hs' : s.size ≤ 1099511627776 := by omega
  clear h
  obtain ⟨g, HG⟩ : ∃ g, Hid (bodyF 5 [] (rest s k) = g) := ⟨_, Lib.hid rfl⟩
  rw [HG.out]
  go_enter Try.func56, Try.ntmps56
  go_wp2
  go_loopg [3] 6 (fun gk v wr => ∃ (n : Nat) (acc : List PAtom) (j : Nat), gk = n + 1 ∧ acc.length + n = 5 ∧ j ≤ s.size ∧ Hid (Ps B s j wr) ∧ Hid (But B w wr) ∧ Hid (Owned 3 RAtom w.heap.size 30 (New w) wr v acc) ∧ Hid (g = bodyF n acc (rest s j)))
  case atStart => exact ⟨5, [], k, rfl, rfl, hk, HP0, Lib.hid (But.refl B w), Lib.hid Owned.nil, Lib.hid HG.out.symm⟩
  case round =>
    obtain ⟨n, acc, j, rfl, hn, hj, HP, HB, HO, HR⟩ := hrel
    obtain ⟨ta, tc, rfl, -, -, -⟩ := id (HO.out.read RAtom.steady).form
    cases n with
    | zero =>
      have e4 : ((acc.length : Int) == 5) = true := beq_iff_eq.2 (by omega)
      have HE := Lib.hid (show g = .error (5, rest s j) from HR.out)
      go_wp2_with (go_at_call 58; refine (failCalls B s j 5 _ HP.out).mono ?_; rintro e w7 ⟨rfl, rfl⟩)
      exact ⟨rfl, Ends.mk_error HE.out HB.out (by rw [posF_rest s hj])⟩
    | succ n =>
      have e4 : ((acc.length : Int) == 5) = false := beq_eq_false_iff_ne.2 (by omega)
      rcases hw : atomF true (rest s j) with ⟨er, r'⟩ | ⟨x, r3⟩
      · have HE := Lib.hid (show g = .error (er, r') by rw [HR.out]; exact bodyF_bad hw)
        have HW := Lib.hid hw
        clear hw
        go_wp2_with (go_at_call 62; refine (atomCalls B s j true _ hs HP.out).mono ?_; rintro e w7 h7; obtain ⟨hb7, rfl⟩ := h7.error HW.out; have HB7 := Lib.hid (HB.out.trans hb7); clear h7 hb7)
        exact ⟨rfl, Ends.mk_error HE.out HB7.out rfl⟩
      have HK4 := Lib.hid (atomF_posF hw)
      have hk4 := posF_le s r3
      obtain ⟨k4, hk4'⟩ : ∃ j, posF s r3 = j := ⟨_, rfl⟩
      have HR4 := Lib.hid (show g = if eatsF [44] (rest s k4) then bodyF n (acc ++ [x]) (eatF [44] (rest s k4)) else .ok (acc ++ [x], eatF [44] (rest s k4)) by
        rw [HR.out, bodyF_good hw, ← hk4', HK4.out])
      have HW := Lib.hid hw
      rw [hk4'] at hk4
      have ATOM : Hid (∀ W, Ps B s j W → Calls Try.prog 62 #[.pointer (some ⟨B, 0, none⟩), .bool true] W fun e w' => But B W w' ∧ (∃ tv, e = .returned (.agg #[.bool x.neg, .string x.name, tv]) ∧ RdTerms (New W) w' tv x.terms) ∧ Ps B s k4 w') := Lib.hid fun W hp => (atomCalls B s j true W hs hp).mono fun e w' h4 => by
        obtain ⟨hb4, v, rfl, ⟨tv, rfl, hr⟩, hp4⟩ := h4.ok HW.out
        rw [hk4'] at hp4
        exact ⟨hb4, ⟨tv, rfl, hr⟩, hp4⟩
      have hk5 := posF_le s (eatF [44] (rest s k4))
      have HK5 := Lib.hid (posF_eat s k4 [44])
      obtain ⟨k5, hk5'⟩ : ∃ j, posF s (eatF [44] (rest s k4)) = j := ⟨_, rfl⟩
      have EAT : Hid (∀ W, Ps B s k4 W → Calls Try.prog 63 #[.pointer (some ⟨B, 0, none⟩), .string ⟨#[44]⟩] W fun e w' => e = .returned (.bool (eatsF [44] (rest s k4))) ∧ Ps B s k5 w' ∧ But B W w') := Lib.hid fun W hp => by
        have := eatCalls B s k4 ⟨#[44]⟩ W hs' (by decide) hp
        rw [← hk5']
        exact this
      rw [hk5'] at HK5 hk5
      have HJ5 := Lib.hid hk5'
      have HLEN := Lib.hid (show (acc ++ [x]).length = acc.length + 1 by simp)
      clear hw hk4' hk5' HR HW
      cases he : eatsF [44] (rest s k4)
      all_goals
        rw [he] at HR4 EAT
        first | rw [if_neg (by decide)] at HR4 | rw [if_pos rfl, ← HK5.out] at HR4
        clear he
        go_wp2_with (first
          | (go_at_call 62; refine (ATOM.out _ HP.out).mono ?_; rintro e w4 ⟨hb4, ⟨tv, rfl, hr4⟩, hp4⟩; obtain ⟨xa, xc, rfl, -, -, -⟩ := id hr4.form; have HP4 := Lib.hid hp4; have HB4 := Lib.hid (HB.out.trans hb4); have HO4 := Lib.hid (HO.out.butS RAtom.steady hb4 hBw (by show ¬ w.heap.size ≤ B; omega)); have HT4 := Lib.hid hr4; have hz4 := hb4.size; have HZ := Lib.hid (fun q (hq : (Value.slice ta acc.length tc).ownBlock = some q) => (HO.out.row_lt hq).2); clear hb4 hp4 hr4)
          | (at_builtin; refine wpList_append_one (B := w.heap.size) (e := 30) (S := New w) (by rfl) _ _ 31 (by rfl) RAtom.steady rowAtoms _ acc (by rfl) (HO4.out.alloc RAtom.steady _) _ 1 #[.bool x.neg, .string x.name, .slice xa x.terms.length xc] 30 (0, 0) x (by rfl) (heap_alloc_new _ _) rfl (by simp [Value.oneCell']) ⟨_, rfl, (HT4.out.agree RTerm.steady ((Agree.refl _ _).alloc _)).more RTerm.steady (fun q hq _ => ⟨Nat.le_trans HB.out.size hq, fun e => by have := HZ.out q e.symm; have hq' : wr.heap.size ≤ q := hq; omega⟩)⟩ (by omega) (by have := HB4.out.size; simp; omega) ?_; intro v6 w6 hown6 hg6 hat6; have HO6 := Lib.hid hown6; have HP6 := Lib.hid ((HP4.out.alloc (.cells #[.bool x.neg, .string x.name, .slice xa x.terms.length xc] 30)).grown hg6 (fun e => by have := (HO4.out.row_lt e.symm).1; omega)); have HB6 := Lib.hid ((HB4.out.alloc (.cells #[.bool x.neg, .string x.name, .slice xa x.terms.length xc] 30)).row hg6 (fun q hq => (HO4.out.row_lt hq).1)); obtain ⟨a6, c6, rfl, -, -, -⟩ := id (HO6.out.read RAtom.steady).form; clear hown6 hg6 hat6)
          | (go_at_call 63; refine (EAT.out _ HP6.out).mono ?_; rintro e w8 ⟨rfl, hp8, hb8⟩; have HP8 := Lib.hid hp8; have HB8 := Lib.hid (HB6.out.trans hb8); have HO8 := Lib.hid (HO6.out.butS RAtom.steady hb8 hBw (by show ¬ w.heap.size ≤ B; omega)); clear hp8 hb8))
      · rw [HLEN.out] at HO8
        go_wp2
        go_ret
        exact Ends.mk_ok HR4.out HB8.out rfl ((HO8.out.read RAtom.steady).more RAtom.steady (fun b hb _ => hb.elim id id)) (by rw [HJ5.out]; exact HP8.out)
      · rw [HLEN.out] at HO8
        go_roundg (n + 1)
        case measure => omega
        case rel => exact ⟨n, acc ++ [x], k5, rfl, by have := HLEN.out; omega, hk5, HP8, HB8, HO8, HR4⟩

/-! ### program -/
theorem progF_blank (n : Nat) (acc : List PRule) (r : Bytes) : progF n acc (blankF false r) = progF n acc r := by
  cases n <;> simp only [progF, blankF_idem]
theorem progF_end (n : Nat) (acc : List PRule) : progF n acc [] = .ok (acc, []) := by
  cases n <;> simp [progF, blankF]
theorem progF_many {acc : List PRule} {r : Bytes} (h : blankF false r = r) (hr : r ≠ []) : progF 0 acc r = .error (5, r) := by
  simp only [progF, h, if_neg hr]
def tail3 (n : Nat) (acc : List PRule) (h : PAtom) (b : List PAtom) (r : Bytes) : Got (List PRule) :=
  if eatsF [46] r then progF n (acc ++ [⟨h, b⟩]) (eatF [46] r) else .error (2, eatF [46] r)
theorem progF_step {n : Nat} {acc : List PRule} {r : Bytes} (h : blankF false r = r) (hr : r ≠ []) : progF (n + 1) acc r = match atomF false r with
    | .error e => .error e
    | .ok (x, r1) => match (if eatsF [58, 45] r1 then bodyF 5 [] (eatF [58, 45] r1) else .ok ([], eatF [58, 45] r1) : Got (List PAtom)) with
      | .error e => .error e
      | .ok (b, r3) => tail3 n acc x b r3 := by
  simp only [progF, h, if_neg hr, ruleF, headF, tailF]
  rcases atomF false r with e | ⟨x, r1⟩
  · rfl
  · dsimp only
    rcases (if eatsF [58, 45] r1 then bodyF 5 [] (eatF [58, 45] r1) else .ok ([], eatF [58, 45] r1) : Got (List PAtom)) with e | ⟨b, r3⟩
    · rfl
    · dsimp only
      unfold tail3 mustF
      cases eatsF [46] r3 <;> rfl
theorem rest_ne (s : Str) {k : Nat} (h : k < s.size) : rest s k ≠ [] := by rw [rest_cons s k h]; simp

set_option maxRecDepth 100000 in
set_option maxHeartbeats 8000000 in
theorem programCalls (B : Nat) (s : Str) (k : Nat) (w : World) (hs : s.size ≤ 1048576) (h : Ps B s k w) :
    Calls Try.prog 42 #[.pointer (some ⟨B, 0, none⟩)] w fun e w' => Ends B s w (VRules w) (progF 16 [] (rest s k)) e w' := by
  have hBw := h.lt
  have hk := h.le
  have HP0 := Lib.hid h
  have hs' : s.size ≤ 1099511627776 := by omega
  clear h
  obtain ⟨g, HG⟩ : ∃ g, Hid (progF 16 [] (rest s k) = g) := ⟨_, Lib.hid rfl⟩
  rw [HG.out]
  have HK0 := Lib.hid (posF_blank s k)
  have hk0 := posF_le s (blankF false (rest s k))
  have BL : Hid (∀ W, Ps B s k W → Calls Try.prog 57 #[.pointer (some ⟨B, 0, none⟩)] W fun e w' => e = .returned (.tuple #[]) ∧ Ps B s (posF s (blankF false (rest s k))) w' ∧ But B W w') := Lib.hid fun W hp => blankCalls B s k W hs' hp
  have HG0 := Lib.hid (show g = progF 16 [] (rest s (posF s (blankF false (rest s k)))) by rw [HK0.out, progF_blank, HG.out])
  have HI0 := Lib.hid (show blankF false (rest s (posF s (blankF false (rest s k)))) = rest s (posF s (blankF false (rest s k))) by rw [HK0.out, blankF_idem])
  generalize posF s (blankF false (rest s k)) = k0 at *
  clear HG HK0
  go_enter Try.func42, Try.ntmps42
  go_wp2_with (go_at_call 57; refine (BL.out _ HP0.out).mono ?_; rintro e w1 ⟨rfl, hp1, hb1⟩; have HP1 := Lib.hid hp1; have HB1 := Lib.hid hb1; clear hp1 hb1)
  clear BL HP0
  go_loopg [3] 17 (fun gk v wr => ∃ (n : Nat) (acc : List PRule) (j : Nat), gk = n + 1 ∧ acc.length + n = 16 ∧ j ≤ s.size ∧ Hid (Ps B s j wr) ∧ Hid (But B w wr) ∧ Hid (Owned 4 RRule w.heap.size 33 (New w) wr v acc) ∧ Hid (g = progF n acc (rest s j)) ∧ Hid (blankF false (rest s j) = rest s j))
  case atStart => exact ⟨16, [], k0, rfl, rfl, hk0, HP1, HB1, Lib.hid Owned.nil, HG0, HI0⟩
  case round =>
    clear HG0 HI0 hk0 HP1 HB1
    obtain ⟨n, acc, j, rfl, hn, hj, HP, HB, HO, HR, HI⟩ := hrel
    obtain ⟨ta, tc, rfl, -, -, -⟩ := id (HO.out.read RRule.steady).form
    have c0 := HP.out.c0
    have c1 := HP.out.c1
    have j0 : (0 : Int) ≤ (j : Int) := by omega
    by_cases hlt : j < s.size
    rotate_left
    · have j1 : ¬ (j : Int) < (s.size : Int) := by omega
      obtain rfl : j = s.size := by omega
      have HE := Lib.hid (show g = .ok (acc, []) by rw [HR.out, rest_end s s.size (Nat.le_refl _)]; exact progF_end n acc)
      go_wp2
      go_quiet (fail)
      go_wp2
      go_ret
      exact Ends.mk_ok HE.out (HB.out.drewN _) rfl (((HO.out.below RRule.steady (Fresh.below ⟨_, #[], rfl⟩)).read RRule.steady).more RRule.steady (fun b hb _ => hb.elim id id)) (by show Ps B s (s.size - 0) _; exact HP.out.drewN _)
    have j1 : (j : Int) < (s.size : Int) := by omega
    have HNE := Lib.hid (rest_ne s hlt)
    cases n with
    | zero =>
      have e4 : ((acc.length : Int) == 16) = true := beq_iff_eq.2 (by omega)
      have HE := Lib.hid (show g = .error (5, rest s j) by rw [HR.out]; exact progF_many HI.out HNE.out)
      go_wp2
      go_quiet (fail)
      go_wp2_with (go_at_call 58; refine (failCalls B s j 5 _ (HP.out.drewN _)).mono ?_; rintro e w7 ⟨rfl, rfl⟩)
      exact ⟨rfl, Ends.mk_error HE.out (HB.out.drewN _) (by rw [posF_rest s hj])⟩
    | succ n =>
      have e4 : ((acc.length : Int) == 16) = false := beq_eq_false_iff_ne.2 (by omega)
      have HR1 := Lib.hid (HR.out.trans (progF_step HI.out HNE.out))
      clear HR HI HNE
      rcases hw : atomF false (rest s j) with ⟨er, r'⟩ | ⟨x, r3⟩
      · have HE := Lib.hid (show g = .error (er, r') by rw [HR1.out, hw])
        have HW := Lib.hid hw
        clear hw
        go_wp2
        go_quiet (fail)
        go_wp2_with (go_at_call 62; refine (atomCalls B s j false _ hs (HP.out.drewN _)).mono ?_; rintro e w7 h7; obtain ⟨hb7, rfl⟩ := h7.error HW.out; have HB7 := Lib.hid ((HB.out.drewN _).trans hb7); clear h7 hb7)
        exact ⟨rfl, Ends.mk_error HE.out HB7.out rfl⟩
      have HK1 := Lib.hid (atomF_posF hw)
      have hk1 := posF_le s r3
      obtain ⟨k1, hk1'⟩ : ∃ j, posF s r3 = j := ⟨_, rfl⟩
      rw [hk1'] at HK1 hk1
      have HR2 := Lib.hid (show g = match (if eatsF [58, 45] (rest s k1) then bodyF 5 [] (eatF [58, 45] (rest s k1)) else .ok ([], eatF [58, 45] (rest s k1)) : Got (List PAtom)) with
          | .error e => .error e
          | .ok (b, r3) => tail3 n acc x b r3 by
        rw [HR1.out, hw, HK1.out])
      have HW := Lib.hid hw
      have ATOM : Hid (∀ W, Ps B s j W → Calls Try.prog 62 #[.pointer (some ⟨B, 0, none⟩), .bool false] W fun e w' => But B W w' ∧ (∃ tv, e = .returned (.agg #[.bool x.neg, .string x.name, tv]) ∧ RdTerms (New W) w' tv x.terms) ∧ Ps B s k1 w') := Lib.hid fun W hp => (atomCalls B s j false W hs hp).mono fun e w' h4 => by
        obtain ⟨hb4, v, rfl, ⟨tv, rfl, hr⟩, hp4⟩ := h4.ok HW.out
        rw [hk1'] at hp4
        exact ⟨hb4, ⟨tv, rfl, hr⟩, hp4⟩
      clear hw hk1' HR1 HW HK1
      have hk2 := posF_le s (eatF [58, 45] (rest s k1))
      have HK2 := Lib.hid (posF_eat s k1 [58, 45])
      obtain ⟨k2, hk2'⟩ : ∃ j, posF s (eatF [58, 45] (rest s k1)) = j := ⟨_, rfl⟩
      have EAT : Hid (∀ W, Ps B s k1 W → Calls Try.prog 63 #[.pointer (some ⟨B, 0, none⟩), .string ⟨#[58, 45]⟩] W fun e w' => e = .returned (.bool (eatsF [58, 45] (rest s k1))) ∧ Ps B s k2 w' ∧ But B W w') := Lib.hid fun W hp => by
        have := eatCalls B s k1 ⟨#[58, 45]⟩ W hs' (by decide) hp
        rw [← hk2']
        exact this
      rw [hk2'] at HK2 hk2
      rw [← HK2.out] at HR2
      clear hk2'
      go_wp2
      go_quiet (fail)
      cases he : eatsF [58, 45] (rest s k1)
      all_goals
        rw [he] at HR2 EAT
        first | rw [if_neg (by decide)] at HR2 | rw [if_pos rfl] at HR2
        clear he
        go_wp2_with (first
          | (go_at_call 62; refine (ATOM.out _ (HP.out.drewN _)).mono ?_; rintro e w4 ⟨hb4, ⟨tv, rfl, hr4⟩, hp4⟩; obtain ⟨xa, xc, rfl, -, -, -⟩ := id hr4.form; have HP4 := Lib.hid hp4; have HB4 := Lib.hid ((HB.out.drewN _).trans hb4); have HO4 := Lib.hid ((HO.out.below RRule.steady (Fresh.below ⟨_, #[], rfl⟩)).butS RRule.steady hb4 hBw (by show ¬ w.heap.size ≤ B; omega)); have HT4 := Lib.hid (show RdTerms (New wr) w4 _ _ from hr4); have hz4 : wr.heap.size ≤ w4.heap.size := hb4.size; have HZ := Lib.hid (fun q (hq : (Value.slice ta acc.length tc).ownBlock = some q) => (HO.out.row_lt hq).2); clear hb4 hp4 hr4)
          | (go_at_call 63; refine (EAT.out _ (HP4.out.alloc (.cells #[.bool x.neg, .string x.name, .slice xa x.terms.length xc, .slice none 0 0] 33))).mono ?_; rintro e w5 ⟨rfl, hp5, hb5⟩; have HP5 := Lib.hid hp5; have HB5 := Lib.hid ((HB4.out.alloc (.cells #[.bool x.neg, .string x.name, .slice xa x.terms.length xc, .slice none 0 0] 33)).trans hb5); have HN5 := Lib.hid ((Blk.new w4 33 #[.bool x.neg, .string x.name, .slice xa x.terms.length xc, .slice none 0 0]).but hb5 (by have := HP4.out.lt; omega)); have HO5 := Lib.hid (((HO4.out.moreS RRule.steady (S' := fun q => w.heap.size ≤ q ∧ q ≠ w4.heap.size) (fun b hb hlt => ⟨hb, Nat.ne_of_lt hlt⟩)).alloc RRule.steady (.cells #[.bool x.neg, .string x.name, .slice xa x.terms.length xc, .slice none 0 0] 33)).butS RRule.steady hb5 hBw (fun h => by have := h.1; omega)); have HT5 := Lib.hid (((HT4.out.more RTerm.steady (S' := fun q => wr.heap.size ≤ q ∧ q ≠ w4.heap.size) (fun b hb hlt => ⟨hb, Nat.ne_of_lt hlt⟩)).agree RTerm.steady ((Agree.refl _ _).alloc (.cells #[.bool x.neg, .string x.name, .slice xa x.terms.length xc, .slice none 0 0] 33))).agree RTerm.steady (hb5.agree (fun h => by have := h.1; have := HB.out.size; omega))); clear hb5 hp5))
        clear HP4 HB4 HO4 HT4 ATOM EAT
        have hN1 : wr.heap.size ≤ w4.heap.size := hz4
        have hN2 : w4.heap.size < w5.heap.size := HN5.out.lt
        generalize w4.heap.size = N1 at *
        clear hz4
      · obtain ⟨b, ba, bc, HGA, HNA, HQA⟩ : ∃ (b : List PAtom) (ba : Option Addr) (bc : Nat), Hid (g = tail3 n acc x b (rest s k2)) ∧ Hid (Blk w5 N1 33 #[.bool x.neg, .string x.name, .slice xa x.terms.length xc, .slice ba b.length bc]) ∧ Hid (RdAtoms (fun q => wr.heap.size ≤ q ∧ q ≠ N1) w5 (.slice ba b.length bc) b) :=
          ⟨[], none, 0, HR2, HN5, RdSlice.nothing (Nat.zero_le _) (fun _ => rfl)⟩
        have HPA := HP5
        have HBA := HB5
        have HOA := HO5
        have HTA := HT5
        have hkA := hk2
        clear HR2 HN5 HP5 HB5 HO5 HT5 HK2 hk2
        generalize k2 = k3 at *
        generalize w5 = wA at *
        have hk4 := posF_le s (eatF [46] (rest s k3))
        have HK4 := Lib.hid (posF_eat s k3 [46])
        obtain ⟨k4, hk4'⟩ : ∃ j, posF s (eatF [46] (rest s k3)) = j := ⟨_, rfl⟩
        have MUST := Lib.hid (fun W hp => mustCalls B s k3 ⟨#[46]⟩ W hs' (by decide) hp)
        have hm : eatsF [46] (rest s k3) = true ∨ eatsF [46] (rest s k3) = false := by cases eatsF [46] (rest s k3) <;> simp
        rcases hm with hm | hm
        rotate_left
        · have HE := Lib.hid (show g = .error (2, eatF [46] (rest s k3)) by rw [HGA.out]; unfold tail3; rw [hm]; rfl)
          have MU : Hid (∀ W, Ps B s k3 W → Calls Try.prog 64 #[.pointer (some ⟨B, 0, none⟩), .string ⟨#[46]⟩] W fun e w' => e = .panicked (oopsV 2 (posF s (eatF [46] (rest s k3)))) ∧ But B W w') := Lib.hid fun W hp => (MUST.out W hp).mono fun e w' ⟨he, hp', hb'⟩ => ⟨by rw [he]; exact if_neg (by show ¬ eatsF [46] (rest s k3) = true; rw [hm]; simp), hb'⟩
          clear hm MUST HGA hk4' HK4
          go_wp2_with (go_at_call 64; refine (MU.out _ HPA.out).mono ?_; rintro e w9 ⟨rfl, hb9⟩; have HB9 := Lib.hid (HBA.out.trans hb9); clear hb9)
          exact ⟨rfl, Ends.mk_error HE.out HB9.out rfl⟩
        have HG4 := Lib.hid (show g = progF n (acc ++ [⟨x, b⟩]) (rest s (posF s (blankF false (rest s k4)))) by
          rw [posF_blank, progF_blank, ← hk4', HK4.out, HGA.out]; unfold tail3; rw [hm]; rfl)
        have HI4 := Lib.hid (show blankF false (rest s (posF s (blankF false (rest s k4)))) = rest s (posF s (blankF false (rest s k4))) by rw [posF_blank, blankF_idem])
        have MU : Hid (∀ W, Ps B s k3 W → Calls Try.prog 64 #[.pointer (some ⟨B, 0, none⟩), .string ⟨#[46]⟩] W fun e w' => e = .returned (.tuple #[]) ∧ Ps B s k4 w' ∧ But B W w') := Lib.hid fun W hp => (MUST.out W hp).mono fun e w' ⟨he, hp', hb'⟩ => ⟨by rw [he]; exact if_pos hm, by rw [← hk4']; exact hp', hb'⟩
        have hk5 := posF_le s (blankF false (rest s k4))
        have BLK : Hid (∀ W, Ps B s k4 W → Calls Try.prog 57 #[.pointer (some ⟨B, 0, none⟩)] W fun e w' => e = .returned (.tuple #[]) ∧ Ps B s (posF s (blankF false (rest s k4))) w' ∧ But B W w') := Lib.hid fun W hp => blankCalls B s k4 W hs' hp
        rw [hk4'] at hk4
        have HLEN := Lib.hid (show (acc ++ [(⟨x, b⟩ : PRule)]).length = acc.length + 1 by simp)
        clear hm MUST HGA HK4 hk4'
        generalize posF s (blankF false (rest s k4)) = k5 at *
        go_wp2_with (first
          | (go_at_call 64; refine (MU.out _ HPA.out).mono ?_; rintro e w7 ⟨rfl, hp7, hb7⟩; have HP7 := Lib.hid hp7; have HB7 := Lib.hid (HBA.out.trans hb7); have HN7 := Lib.hid (HNA.out.but hb7 (by have := HB.out.size; omega)); have HO7 := Lib.hid (HOA.out.butS RRule.steady hb7 hBw (fun h => by have := h.1; omega)); have HT7 := Lib.hid (HTA.out.agree RTerm.steady (hb7.agree (fun h => by have := h.1; have := HB.out.size; omega))); have HQ7 := Lib.hid (HQA.out.agree RAtom.steady (hb7.agree (fun h => by have := h.1; have := HB.out.size; omega))); have d0 : w7.cell? ⟨N1, 0, none⟩ = some (.bool x.neg) := HN7.out.cell 0; have d1 : w7.cell? ⟨N1, 1, none⟩ = some (.string x.name) := HN7.out.cell 1; have d2 : w7.cell? ⟨N1, 2, none⟩ = some (.slice xa x.terms.length xc) := HN7.out.cell 2; have d3 : w7.cell? ⟨N1, 3, none⟩ = some (.slice ba b.length bc) := HN7.out.cell 3; clear hp7 hb7)
          | (at_builtin; refine wpList_append_one (B := w.heap.size) (e := 33) (S := fun q => w.heap.size ≤ q ∧ q ≠ N1) (by rfl) _ _ 23 (by rfl) RRule.steady rowRules _ acc (by rfl) (HO7.out.alloc RRule.steady _) _ 1 #[.bool x.neg, .string x.name, .slice xa x.terms.length xc, .slice ba b.length bc] 33 (0, 0) ⟨x, b⟩ (by rfl) (heap_alloc_new _ _) rfl (by simp [Value.oneCell']) ⟨_, _, rfl, (HT7.out.agree RTerm.steady ((Agree.refl _ _).alloc _)).more RTerm.steady (fun q hq _ => ⟨⟨Nat.le_trans HB.out.size hq.1, hq.2⟩, fun e => by have := HZ.out q e.symm; have := hq.1; omega⟩), (HQ7.out.agree RAtom.steady ((Agree.refl _ _).alloc _)).more RAtom.steady (fun q hq _ => ⟨⟨Nat.le_trans HB.out.size hq.1, hq.2⟩, fun e => by have := HZ.out q e.symm; have := hq.1; omega⟩)⟩ (by omega) (by have := HB7.out.size; simp; omega) ?_; intro v8 w8 hown8 hg8 hat8; have HO8 := Lib.hid (hown8.moreS RRule.steady (S' := New w) (fun q hq _ => hq.1)); have HP8 := Lib.hid ((HP7.out.alloc (.cells #[.bool x.neg, .string x.name, .slice xa x.terms.length xc, .slice ba b.length bc] 33)).grown hg8 (fun e => by have := (HO7.out.row_lt e.symm).1; omega)); have HB8 := Lib.hid ((HB7.out.alloc (.cells #[.bool x.neg, .string x.name, .slice xa x.terms.length xc, .slice ba b.length bc] 33)).row hg8 (fun q hq => (HO7.out.row_lt hq).1)); obtain ⟨a8, c8, rfl, -, -, -⟩ := id (HO8.out.read RRule.steady).form; clear hown8 hg8 hat8)
          | (go_at_call 57; refine (BLK.out _ HP8.out).mono ?_; rintro e w9 ⟨rfl, hp9, hb9⟩; have HP9 := Lib.hid hp9; have HB9 := Lib.hid (HB8.out.trans hb9); have HO9 := Lib.hid (HO8.out.butS RRule.steady hb9 hBw (by show ¬ w.heap.size ≤ B; omega)); clear hp9 hb9))
        rw [HLEN.out] at HO9
        go_roundg (n + 1)
        case measure => omega
        case rel => exact ⟨n, acc ++ [⟨x, b⟩], k5, rfl, by have := HLEN.out; omega, hk5, HP9, HB9, HO9, HG4, HI4⟩
      · rcases hw2 : bodyF 5 [] (eatF [58, 45] (rest s k1)) with ⟨er, r'⟩ | ⟨b, r3⟩
        · have HE := Lib.hid (show g = .error (er, r') by rw [HR2.out, HK2.out, hw2])
          have HW := Lib.hid (HK2.out ▸ hw2 : bodyF 5 [] (rest s k2) = .error (er, r'))
          clear hw2
          go_wp2_with (go_at_call 56; refine (bodyCalls B s k2 _ hs HP5.out).mono ?_; rintro e w7 h7; obtain ⟨hb7, rfl⟩ := h7.error HW.out; have HB7 := Lib.hid (HB5.out.trans hb7); clear h7 hb7)
          exact ⟨rfl, Ends.mk_error HE.out HB7.out rfl⟩
        have HW := Lib.hid (show bodyF 5 [] (rest s k2) = .ok (b, r3) by rw [HK2.out]; exact hw2)
        have HK3 := Lib.hid (bodyF_posF HW.out)
        have hkA := posF_le s r3
        obtain ⟨k3, hk3'⟩ : ∃ j, posF s r3 = j := ⟨_, rfl⟩
        rw [hk3'] at HK3 hkA
        have HGA := Lib.hid (show g = tail3 n acc x b (rest s k3) by rw [HR2.out, HK2.out, hw2, HK3.out])
        have HJ3 := Lib.hid hk3'
        clear hw2 hk3' HR2
        go_wp2_with fail
        refine (bodyCalls B s k2 _ hs HP5.out).mono ?_
        rintro e w6 h6
        obtain ⟨hb6, v6, rfl, hv6, hp6⟩ := h6.ok HW.out
        rw [HJ3.out] at hp6
        have hv6' : RdAtoms (New w5) w6 v6 b := hv6
        obtain ⟨ba, bc, rfl, -, -, -⟩ := id hv6'.form
        have HPA := Lib.hid (hp6.far (p := ⟨N1, 3, none⟩) (show B ≠ N1 by have := hp6.lt; have := HP5.out.lt; have := HB.out.size; omega) (.slice ba b.length bc))
        have HN6 := Lib.hid (HN5.out.but hb6 (by have := HB.out.size; omega))
        have HNA := Lib.hid (show Blk (w6.setCell ⟨N1, 3, none⟩ (.slice ba b.length bc)) N1 33 #[.bool x.neg, .string x.name, .slice xa x.terms.length xc, .slice ba b.length bc] from HN6.out.set_ 3 _)
        have hc6 : w6.cell? ⟨N1, 3, none⟩ = some (.slice none 0 0) := HN6.out.cell 3
        have hf6 := HN6.out.frozen 3
        have HBA := Lib.hid ((HB5.out.trans hb6).setCell (p := ⟨N1, 3, none⟩) (.inr (Nat.le_trans HB.out.size hN1)) (.slice ba b.length bc))
        have HOA := Lib.hid ((HO5.out.butS RRule.steady hb6 hBw (fun h => by have := h.1; omega)).setCell RRule.steady (p := ⟨N1, 3, none⟩) (fun h => h.2 rfl) (fun e => by have := HZ.out _ e; simp at this; omega) (.slice ba b.length bc))
        have HTA := Lib.hid ((HT5.out.agree RTerm.steady (hb6.agree (fun h => by have := h.1; have := HB.out.size; omega))).agree RTerm.steady (Agree.setCell (p := ⟨N1, 3, none⟩) (fun h => h.2 rfl) (.slice ba b.length bc)))
        have HQA := Lib.hid ((hv6'.more RAtom.steady (S' := fun q => wr.heap.size ≤ q ∧ q ≠ N1) (fun q hq _ => ⟨by have hq' : w5.heap.size ≤ q := hq; omega, by have hq' : w5.heap.size ≤ q := hq; omega⟩)).agree RAtom.steady (Agree.setCell (p := ⟨N1, 3, none⟩) (fun h => h.2 rfl) (.slice ba b.length bc)))
        clear h6 hb6 hp6 hv6
        clear HP5 HB5 HN5 HO5 HT5 HK2 hk2 HW HK3 HJ3
        have hk4 := posF_le s (eatF [46] (rest s k3))
        have HK4 := Lib.hid (posF_eat s k3 [46])
        obtain ⟨k4, hk4'⟩ : ∃ j, posF s (eatF [46] (rest s k3)) = j := ⟨_, rfl⟩
        have MUST := Lib.hid (fun W hp => mustCalls B s k3 ⟨#[46]⟩ W hs' (by decide) hp)
        have hm : eatsF [46] (rest s k3) = true ∨ eatsF [46] (rest s k3) = false := by cases eatsF [46] (rest s k3) <;> simp
        rcases hm with hm | hm
        rotate_left
        · have HE := Lib.hid (show g = .error (2, eatF [46] (rest s k3)) by rw [HGA.out]; unfold tail3; rw [hm]; rfl)
          have MU : Hid (∀ W, Ps B s k3 W → Calls Try.prog 64 #[.pointer (some ⟨B, 0, none⟩), .string ⟨#[46]⟩] W fun e w' => e = .panicked (oopsV 2 (posF s (eatF [46] (rest s k3)))) ∧ But B W w') := Lib.hid fun W hp => (MUST.out W hp).mono fun e w' ⟨he, hp', hb'⟩ => ⟨by rw [he]; exact if_neg (by show ¬ eatsF [46] (rest s k3) = true; rw [hm]; simp), hb'⟩
          clear hm MUST HGA hk4' HK4
          go_wp2_with (go_at_call 64; refine (MU.out _ HPA.out).mono ?_; rintro e w9 ⟨rfl, hb9⟩; have HB9 := Lib.hid (HBA.out.trans hb9); clear hb9)
          exact ⟨rfl, Ends.mk_error HE.out HB9.out rfl⟩
        have HG4 := Lib.hid (show g = progF n (acc ++ [⟨x, b⟩]) (rest s (posF s (blankF false (rest s k4)))) by
          rw [posF_blank, progF_blank, ← hk4', HK4.out, HGA.out]; unfold tail3; rw [hm]; rfl)
        have HI4 := Lib.hid (show blankF false (rest s (posF s (blankF false (rest s k4)))) = rest s (posF s (blankF false (rest s k4))) by rw [posF_blank, blankF_idem])
        have MU : Hid (∀ W, Ps B s k3 W → Calls Try.prog 64 #[.pointer (some ⟨B, 0, none⟩), .string ⟨#[46]⟩] W fun e w' => e = .returned (.tuple #[]) ∧ Ps B s k4 w' ∧ But B W w') := Lib.hid fun W hp => (MUST.out W hp).mono fun e w' ⟨he, hp', hb'⟩ => ⟨by rw [he]; exact if_pos hm, by rw [← hk4']; exact hp', hb'⟩
        have hk5 := posF_le s (blankF false (rest s k4))
        have BLK : Hid (∀ W, Ps B s k4 W → Calls Try.prog 57 #[.pointer (some ⟨B, 0, none⟩)] W fun e w' => e = .returned (.tuple #[]) ∧ Ps B s (posF s (blankF false (rest s k4))) w' ∧ But B W w') := Lib.hid fun W hp => blankCalls B s k4 W hs' hp
        rw [hk4'] at hk4
        have HLEN := Lib.hid (show (acc ++ [(⟨x, b⟩ : PRule)]).length = acc.length + 1 by simp)
        clear hm MUST HGA HK4 hk4'
        generalize posF s (blankF false (rest s k4)) = k5 at *
        go_wp2_with (first
          | (go_at_call 64; refine (MU.out _ HPA.out).mono ?_; rintro e w7 ⟨rfl, hp7, hb7⟩; have HP7 := Lib.hid hp7; have HB7 := Lib.hid (HBA.out.trans hb7); have HN7 := Lib.hid (HNA.out.but hb7 (by have := HB.out.size; omega)); have HO7 := Lib.hid (HOA.out.butS RRule.steady hb7 hBw (fun h => by have := h.1; omega)); have HT7 := Lib.hid (HTA.out.agree RTerm.steady (hb7.agree (fun h => by have := h.1; have := HB.out.size; omega))); have HQ7 := Lib.hid (HQA.out.agree RAtom.steady (hb7.agree (fun h => by have := h.1; have := HB.out.size; omega))); have d0 : w7.cell? ⟨N1, 0, none⟩ = some (.bool x.neg) := HN7.out.cell 0; have d1 : w7.cell? ⟨N1, 1, none⟩ = some (.string x.name) := HN7.out.cell 1; have d2 : w7.cell? ⟨N1, 2, none⟩ = some (.slice xa x.terms.length xc) := HN7.out.cell 2; have d3 : w7.cell? ⟨N1, 3, none⟩ = some (.slice ba b.length bc) := HN7.out.cell 3; clear hp7 hb7)
          | (at_builtin; refine wpList_append_one (B := w.heap.size) (e := 33) (S := fun q => w.heap.size ≤ q ∧ q ≠ N1) (by rfl) _ _ 23 (by rfl) RRule.steady rowRules _ acc (by rfl) (HO7.out.alloc RRule.steady _) _ 1 #[.bool x.neg, .string x.name, .slice xa x.terms.length xc, .slice ba b.length bc] 33 (0, 0) ⟨x, b⟩ (by rfl) (heap_alloc_new _ _) rfl (by simp [Value.oneCell']) ⟨_, _, rfl, (HT7.out.agree RTerm.steady ((Agree.refl _ _).alloc _)).more RTerm.steady (fun q hq _ => ⟨⟨Nat.le_trans HB.out.size hq.1, hq.2⟩, fun e => by have := HZ.out q e.symm; have := hq.1; omega⟩), (HQ7.out.agree RAtom.steady ((Agree.refl _ _).alloc _)).more RAtom.steady (fun q hq _ => ⟨⟨Nat.le_trans HB.out.size hq.1, hq.2⟩, fun e => by have := HZ.out q e.symm; have := hq.1; omega⟩)⟩ (by omega) (by have := HB7.out.size; simp; omega) ?_; intro v8 w8 hown8 hg8 hat8; have HO8 := Lib.hid (hown8.moreS RRule.steady (S' := New w) (fun q hq _ => hq.1)); have HP8 := Lib.hid ((HP7.out.alloc (.cells #[.bool x.neg, .string x.name, .slice xa x.terms.length xc, .slice ba b.length bc] 33)).grown hg8 (fun e => by have := (HO7.out.row_lt e.symm).1; omega)); have HB8 := Lib.hid ((HB7.out.alloc (.cells #[.bool x.neg, .string x.name, .slice xa x.terms.length xc, .slice ba b.length bc] 33)).row hg8 (fun q hq => (HO7.out.row_lt hq).1)); obtain ⟨a8, c8, rfl, -, -, -⟩ := id (HO8.out.read RRule.steady).form; clear hown8 hg8 hat8)
          | (go_at_call 57; refine (BLK.out _ HP8.out).mono ?_; rintro e w9 ⟨rfl, hp9, hb9⟩; have HP9 := Lib.hid hp9; have HB9 := Lib.hid (HB8.out.trans hb9); have HO9 := Lib.hid (HO8.out.butS RRule.steady hb9 hBw (by show ¬ w.heap.size ≤ B; omega)); clear hp9 hb9))
        rw [HLEN.out] at HO9
        go_roundg (n + 1)
        case measure => omega
        case rel => exact ⟨n, acc ++ [⟨x, b⟩], k5, rfl, by have := HLEN.out; omega, hk5, HP9, HB9, HO9, HG4, HI4⟩
end Go.Proofs.Ytobbjapmdpkogaa
