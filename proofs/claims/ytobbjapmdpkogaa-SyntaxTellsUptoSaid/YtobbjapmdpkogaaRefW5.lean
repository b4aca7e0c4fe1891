/-
  THE WALK OF cororef1.Walk.Atoms.
-/
import Derived.Test.YtobbjapmdpkogaaRefW4
namespace Go.Proofs.Ytobbjapmdpkogaa
open Go.RowKit

def AtomsAt (TG : Got (List PAtom)) (n : Nat) (acc : List PAtom) (more : Bool) (σ : St) : Prop :=
  (more = true ∧ acc.length + n = 5 ∧ ∃ r, σ = .ok r ∧ TG = bodyF n acc r) ∨
  (more = false ∧ n = 0 ∧ ∃ r, σ = .ok r ∧ TG = .ok (acc, r)) ∨
  (more = false ∧ n = 0 ∧ ∃ e, σ = .error e ∧ TG = .error e)
theorem AtomsAt.done {TG : Got (List PAtom)} {n : Nat} {acc : List PAtom} {σ : St} (h : AtomsAt TG n acc false σ) : stOf TG = σ ∧ ∀ y r', TG = .ok (y, r') → y = acc := by
  rcases h with ⟨h, -⟩ | ⟨-, -, r, rfl, rfl⟩ | ⟨-, -, e, rfl, rfl⟩
  · cases h
  · exact ⟨rfl, fun y r' h => by cases h; rfl⟩
  · exact ⟨rfl, fun y r' h => by cases h⟩
theorem AtomsAt.next {TG : Got (List PAtom)} {n : Nat} {acc : List PAtom} {r : Bytes} {y : PAtom} (hn : acc.length + (n + 1) = 5) (hT : TG = bodyF (n + 1) acc r) (hy : ∀ z r', atomF true r = .ok (z, r') → z = y) :
    AtomsAt TG (if eatσB [44] (stOf (atomF true r)) then n else 0) (acc ++ [y]) (eatσB [44] (stOf (atomF true r))) (eatσ [44] (stOf (atomF true r))) := by
  rcases hw : atomF true r with ⟨e, r'⟩ | ⟨z, r1⟩
  · rw [bodyF_bad hw] at hT
    exact .inr (.inr ⟨rfl, rfl, _, rfl, hT⟩)
  · obtain rfl := hy z r1 hw
    rw [bodyF_good hw] at hT
    show AtomsAt TG (if eatsF [44] r1 then n else 0) _ (eatsF [44] r1) (.ok (eatF [44] r1))
    cases he : eatsF [44] r1
    · rw [he, if_neg (by simp)] at hT
      exact .inr (.inl ⟨rfl, rfl, _, rfl, hT⟩)
    · rw [he, if_pos rfl] at hT
      exact .inl ⟨rfl, by simp; omega, _, rfl, hT⟩

attribute [local go_sem ↓] Go.wp_at_zero Go.wp_at_succ
set_option maxRecDepth 100000 in
set_option maxHeartbeats 8000000 in
theorem walkAtoms (B : Nat) (s : Str) (r : Bytes) (w : World) (hs : s.size ≤ 1048576) (h : WS B s w (.ok r)) :
    Calls Try.prog 48 #[.pointer (some ⟨B, 0, none⟩)] w fun e w' => EndsS B s w (VAtoms w) (bodyF 5 [] r) e w' := by
  have hBw := h.lt
  have HP0 := Lib.hid h
  have hs' : s.size ≤ 1099511627776 := by omega
  clear h
  obtain ⟨g, HG⟩ : ∃ g, Hid (bodyF 5 [] r = g) := ⟨_, Lib.hid rfl⟩
  rw [HG.out]
  have HT0 := Lib.hid (show AtomsAt g 5 [] true (.ok r) from .inl ⟨rfl, rfl, _, rfl, HG.out.symm⟩)
  go_enter Try.func48, Try.ntmps48
  go_wp2
  go_loopg [4, 3] 7 (fun gk more v wr => ∃ (n : Nat) (acc : List PAtom) (mb : Bool) (σ : St), more = .bool mb ∧ gk = (if mb then n + 1 else 0) + 1 ∧ Hid (AtomsAt g n acc mb σ) ∧ Hid (WS B s wr σ) ∧ Hid (But B w wr) ∧ Hid (Owned 3 RAtom w.heap.size 30 (New w) wr v acc))
  case atStart => exact ⟨5, [], true, _, rfl, rfl, HT0, HP0, Lib.hid (But.refl B w), Lib.hid Owned.nil⟩
  case round =>
    clear HT0 HP0
    obtain ⟨n, acc, mb, σ, rfl, hgk, HT, HP, HB, HO⟩ := hrel
    obtain ⟨ta, tc, rfl, -, -, -⟩ := id (HO.out.read RAtom.steady).form
    cases mb
    · have HE := Lib.hid HT.out.done
      go_wp2
      go_ret
      exact EndsS.of HB.out HP.out HE.out.1 rfl (y := acc) ((HO.out.read RAtom.steady).more RAtom.steady (fun b hb _ => hb.elim id id)) HE.out.2
    · obtain ⟨hn, r', rfl, hTG⟩ : acc.length + n = 5 ∧ ∃ r', σ = .ok r' ∧ g = bodyF n acc r' := by
        rcases HT.out with ⟨-, h1, r, h2, h3⟩ | ⟨h, -⟩ | ⟨h, -⟩
        · exact ⟨h1, r, h2, h3⟩
        · cases h
        · cases h
      have HTG := Lib.hid hTG
      have OK := Lib.hid (okW B s (.ok r') wr HP.out)
      clear HT hTG
      cases n with
      | zero =>
        have e4 : (5 : Int) ≤ (acc.length : Int) := by omega
        have STOP := Lib.hid (stopW B s (.ok r') 5 (by decide) wr HP.out)
        have HE := Lib.hid (show g = .error (5, r') from HTG.out)
        go_wp2_with (first
          | (go_at_call 44; refine (OK.out).mono ?_; rintro e w7 ⟨rfl, rfl⟩)
          | (go_at_call 45; refine (STOP.out).mono ?_; rintro e w9 ⟨rfl, hp9, hb9⟩; have HP9 := Lib.hid hp9; have HB9 := Lib.hid (HB.out.trans hb9); clear hp9 hb9))
        go_ret
        exact EndsS.of HB9.out HP9.out (by rw [HE.out]; rfl) rfl (y := []) (RdSlice.nothing (Nat.zero_le _) (fun _ => rfl)) (fun y r' hg => by rw [HE.out] at hg; cases hg)
      | succ n =>
        have e4 : ¬ ((5 : Int) ≤ (acc.length : Int)) := by omega
        obtain ⟨σ', HS'⟩ : ∃ σ', Hid (stOf (atomF true r') = σ') := ⟨_, Lib.hid rfl⟩
        have ATOM : Hid (Calls Try.prog 46 #[.pointer (some ⟨B, 0, none⟩), .bool true] wr fun en w' => But B wr w' ∧ WS B s w' σ' ∧ ∃ v y, en = .returned v ∧ VAtom wr y v w' ∧ ∀ x r, atomF true r' = .ok (x, r) → x = y) := Lib.hid (by rw [← HS'.out]; exact walkAtom B s r' true wr hs HP.out)
        obtain ⟨mb', hmb'⟩ : ∃ b, eatσB [44] σ' = b := ⟨_, rfl⟩
        have EATC : Hid (∀ W, WS B s W σ' → Calls Try.prog 47 #[.pointer (some ⟨B, 0, none⟩), .string ⟨#[44]⟩] W fun en w' => en = .returned (.bool mb') ∧ WS B s w' (eatσ [44] σ') ∧ But B W w') := Lib.hid fun W hW => by
          rw [← hmb']
          exact eatW B s σ' ⟨#[44]⟩ W hs' (by decide) hW
        have HMB := Lib.hid hmb'
        clear hmb'
        go_wp2_with (first
          | (go_at_call 44; refine (OK.out).mono ?_; rintro e w7 ⟨rfl, rfl⟩)
          | (go_at_call 46; refine (ATOM.out).mono ?_; rintro e w4 ⟨hb4, hp4, v4, x, rfl, ⟨tv, rfl, hr4⟩, hy⟩; obtain ⟨xa, xc, rfl, -, -, -⟩ := id hr4.form; have HP4 := Lib.hid hp4; have HB4 := Lib.hid (HB.out.trans hb4); have HO4 := Lib.hid (HO.out.butS RAtom.steady hb4 hBw (by show ¬ w.heap.size ≤ B; omega)); have HT4 := Lib.hid hr4; have hz4 := hb4.size; have HZ := Lib.hid (fun q (hq : (Value.slice ta acc.length tc).ownBlock = some q) => (HO.out.row_lt hq).2); have HNX := Lib.hid (show AtomsAt g (if mb' then n else 0) (acc ++ [x]) mb' (eatσ [44] σ') from by have := AtomsAt.next hn HTG.out hy; rwa [HS'.out, HMB.out] at this); have HLEN := Lib.hid (show (acc ++ [x]).length = acc.length + 1 by simp); clear hb4 hp4 hr4 hy)
          | (at_builtin; refine wpList_append_one (B := w.heap.size) (e := 30) (S := New w) (by rfl) _ _ 31 (by rfl) RAtom.steady rowAtoms _ acc (by rfl) (HO4.out.alloc RAtom.steady _) _ 1 #[.bool x.neg, .string x.name, .slice xa x.terms.length xc] 30 (0, 0) x (by rfl) (heap_alloc_new _ _) rfl (by simp [Value.oneCell']) ⟨_, rfl, (HT4.out.agree RTerm.steady ((Agree.refl _ _).alloc _)).more RTerm.steady (fun q hq _ => ⟨Nat.le_trans HB.out.size hq, fun e => by have := HZ.out q e.symm; have hq' : wr.heap.size ≤ q := hq; omega⟩)⟩ (by omega) (by have := HB4.out.size; simp; omega) ?_; intro v6 w6 hown6 hg6 hat6; have HO6 := Lib.hid hown6; have HP6 := Lib.hid ((HP4.out.alloc (.cells #[.bool x.neg, .string x.name, .slice xa x.terms.length xc] 30)).grown hg6 (fun e => by have := (HO4.out.row_lt e.symm).1; omega)); have HB6 := Lib.hid ((HB4.out.alloc (.cells #[.bool x.neg, .string x.name, .slice xa x.terms.length xc] 30)).row hg6 (fun q hq => (HO4.out.row_lt hq).1)); obtain ⟨a6, c6, rfl, -, -, -⟩ := id (HO6.out.read RAtom.steady).form; clear hown6 hg6 hat6)
          | (go_at_call 47; refine (EATC.out _ HP6.out).mono ?_; rintro e w8 ⟨rfl, hp8, hb8⟩; have HP8 := Lib.hid hp8; have HB8 := Lib.hid (HB6.out.trans hb8); have HO8 := Lib.hid (HO6.out.butS RAtom.steady hb8 hBw (by show ¬ w.heap.size ≤ B; omega)); clear hp8 hb8))
        rw [HLEN.out] at HO8
        go_roundg ((if mb' then (if mb' then n else 0) + 1 else 0) + 1)
        case measure => simp at hgk; cases mb' <;> simp <;> omega
        case rel => exact ⟨_, acc ++ [x], mb', _, rfl, rfl, HNX, HP8, HB8, HO8⟩
end Go.Proofs.Ytobbjapmdpkogaa
