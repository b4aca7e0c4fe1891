/-
  THE WALKS OF THE PARSER's body AND program.
-/
import Derived.Test.YtmnpneandkiblaaSynW3
namespace Go.Proofs.Ytmnpneandkiblaa
open Go.RowKit

theorem rowAtoms : RowT Try.prog 22 38 3 := RowT.mk' (b := 48) (z := .agg #[.bool false, .string ⟨#[]⟩, .slice none 0 0]) Try.underlying22 (by kernel_rfl) (by omega) rfl (by omega)


theorem Owned.butS {α : Type} {k : Nat} {R : Reader α} {B C : Nat} {e : TypeId} {S : Nat → Prop} {w w' : World} {v : Value} {l : List α} (h : Owned k R B e S w v l) (hR : Steady R) (hb : But C w w') (hC : C < B) (hS : ¬ S C) : Owned k R B e S w' v l :=
  h.keep hR ⟨hb.size, fun b hb' hlt => hb.block b hlt (fun e => hS (by rw [← Option.some.inj e]; exact hb'))⟩ fun g hg => hb.block g (h.row_lt hg).2 (fun e => by have := (h.row_lt hg).1; have := Option.some.inj e; omega)
theorem But.agree {B : Nat} {S : Nat → Prop} {w w' : World} (h : But B w w') (hS : ¬ S B) : Agree S w w' :=
  ⟨h.size, fun b hb hlt => h.block b hlt (fun e => hS (by rw [← Option.some.inj e]; exact hb))⟩
theorem Agree.setCell {S : Nat → Prop} {w : World} {p : Addr} (hS : ¬ S p.block) (u : Value) : Agree S w (w.setCell p u) := ⟨by simp [World.setCell], fun b hb _ => Below.heap_setCell _ _ _ _ (fun e => hS (by rw [← e]; exact hb))⟩
theorem atomF_posF {s : Str} {k : Nat} {no : Bool} {x : PAtom} {r : Bytes} (h : atomF no (rest s k) = .ok (x, r)) : rest s (posF s r) = r := by
  have := atomF_suffix no (rest s k)
  rw [h] at this
  exact rest_posF (List.IsSuffix.trans (l₂ := rest s k) this (rest_suffix s k))
theorem bodyF_posF {s : Str} {k n : Nat} {acc x : List PAtom} {r : Bytes} (h : bodyF n acc (rest s k) = .ok (x, r)) : rest s (posF s r) = r := by
  have := bodyF_suffix n acc (rest s k)
  rw [h] at this
  exact rest_posF (List.IsSuffix.trans (l₂ := rest s k) this (rest_suffix s k))
theorem bodyF_bad {n : Nat} {acc : List PAtom} {r r' : Bytes} {er : Int} (h : atomF true r = .error (er, r')) : bodyF (n + 1) acc r = .error (er, r') := by rw [bodyF, h]
theorem bodyF_good {n : Nat} {acc : List PAtom} {r r1 : Bytes} {x : PAtom} (h : atomF true r = .ok (x, r1)) : bodyF (n + 1) acc r = if eatsF [44] r1 then bodyF n (acc ++ [x]) (eatF [44] r1) else .ok (acc ++ [x], eatF [44] r1) := by rw [bodyF, h]

def VAtoms (w : World) (l : List PAtom) (v : Value) (w' : World) : Prop := RdAtoms (New w) w' v l
def VRules (w : World) (l : List PRule) (v : Value) (w' : World) : Prop := RdRules (New w) w' v l

attribute [local go_sem ↓] Go.wp_at_zero Go.wp_at_succ
set_option maxRecDepth 100000 in
set_option maxHeartbeats 8000000 in
theorem bodyCalls (B : Nat) (s : Str) (k : Nat) (w : World) (hs : s.size ≤ 1048576) (h : Ps B s k w) :
    Calls Try.prog 58 #[.pointer (some ⟨B, 0, none⟩)] w fun e w' => Ends B s w (VAtoms w) (bodyF 5 [] (rest s k)) e w' := by
  have hBw := h.lt
  have hk := h.le
  have HP0 := Lib.hid h
  have hs' : s.size ≤ 1099511627776 := by omega
  clear h
  obtain ⟨g, HG⟩ : ∃ g, Hid (bodyF 5 [] (rest s k) = g) := ⟨_, Lib.hid rfl⟩
  rw [HG.out]
  go_enter Try.func58, Try.ntmps58
  go_wp2
  go_loopg [3] 6 (fun gk v wr => ∃ (n : Nat) (acc : List PAtom) (j : Nat), gk = n + 1 ∧ acc.length + n = 5 ∧ j ≤ s.size ∧ Hid (Ps B s j wr) ∧ Hid (But B w wr) ∧ Hid (Owned 3 RAtom w.heap.size 38 (New w) wr v acc) ∧ Hid (g = bodyF n acc (rest s j)))
  case atStart => exact ⟨5, [], k, rfl, rfl, hk, HP0, Lib.hid (But.refl B w), Lib.hid Owned.nil, Lib.hid HG.out.symm⟩
  case round =>
    obtain ⟨n, acc, j, rfl, hn, hj, HP, HB, HO, HR⟩ := hrel
    obtain ⟨ta, tc, rfl, -, -, -⟩ := id (HO.out.read RAtom.steady).form
    cases n with
    | zero =>
      have e4 : ((acc.length : Int) == 5) = true := beq_iff_eq.2 (by omega)
      have HE := Lib.hid (show g = .error (5, rest s j) from HR.out)
      go_wp2_with (go_at_call 60; refine (failCalls B s j 5 _ HP.out).mono ?_; rintro e w7 ⟨rfl, rfl⟩)
      exact ⟨rfl, Ends.mk_error HE.out HB.out (by rw [posF_rest s hj])⟩
    | succ n =>
      have e4 : ((acc.length : Int) == 5) = false := beq_eq_false_iff_ne.2 (by omega)
      rcases hw : atomF true (rest s j) with ⟨er, r'⟩ | ⟨x, r3⟩
      · have HE := Lib.hid (show g = .error (er, r') by rw [HR.out]; exact bodyF_bad hw)
        have HW := Lib.hid hw
        clear hw
        go_wp2_with (go_at_call 75; refine (atomCalls B s j true _ hs HP.out).mono ?_; rintro e w7 h7; obtain ⟨hb7, rfl⟩ := h7.error HW.out; have HB7 := Lib.hid (HB.out.trans hb7); clear h7 hb7)
        exact ⟨rfl, Ends.mk_error HE.out HB7.out rfl⟩
      have HK4 := Lib.hid (atomF_posF hw)
      have hk4 := posF_le s r3
      obtain ⟨k4, hk4'⟩ : ∃ j, posF s r3 = j := ⟨_, rfl⟩
      have HR4 := Lib.hid (show g = if eatsF [44] (rest s k4) then bodyF n (acc ++ [x]) (eatF [44] (rest s k4)) else .ok (acc ++ [x], eatF [44] (rest s k4)) by
        rw [HR.out, bodyF_good hw, ← hk4', HK4.out])
      have HW := Lib.hid hw
      rw [hk4'] at hk4
      have ATOM : Hid (∀ W, Ps B s j W → Calls Try.prog 75 #[.pointer (some ⟨B, 0, none⟩), .bool true] W fun e w' => But B W w' ∧ (∃ tv, e = .returned (.agg #[.bool x.neg, .string x.name, tv]) ∧ RdTerms (New W) w' tv x.terms) ∧ Ps B s k4 w') := Lib.hid fun W hp => (atomCalls B s j true W hs hp).mono fun e w' h4 => by
        obtain ⟨hb4, v, rfl, ⟨tv, rfl, hr⟩, hp4⟩ := h4.ok HW.out
        rw [hk4'] at hp4
        exact ⟨hb4, ⟨tv, rfl, hr⟩, hp4⟩
      have hk5 := posF_le s (eatF [44] (rest s k4))
      have HK5 := Lib.hid (posF_eat s k4 [44])
      obtain ⟨k5, hk5'⟩ : ∃ j, posF s (eatF [44] (rest s k4)) = j := ⟨_, rfl⟩
      have EAT : Hid (∀ W, Ps B s k4 W → Calls Try.prog 76 #[.pointer (some ⟨B, 0, none⟩), .string ⟨#[44]⟩] W fun e w' => e = .returned (.bool (eatsF [44] (rest s k4))) ∧ Ps B s k5 w' ∧ But B W w') := Lib.hid fun W hp => by
        have := eatCalls B s k4 ⟨#[44]⟩ W hs' (by decide) hp
        rw [← hk5']
        exact this
      rw [hk5'] at HK5 hk5
      have HJ5 := Lib.hid hk5'
      have HLEN := Lib.hid (show (acc ++ [x]).length = acc.length + 1 by simp)
      clear hw hk4' hk5' HR HW
      cases he : eatsF [44] (rest s k4)
      all_goals
        rw [he] at HR4 EAT
        first | rw [if_neg (by decide)] at HR4 | rw [if_pos rfl, ← HK5.out] at HR4
        clear he
        go_wp2_with (first
          | (go_at_call 75; refine (ATOM.out _ HP.out).mono ?_; rintro e w4 ⟨hb4, ⟨tv, rfl, hr4⟩, hp4⟩; obtain ⟨xa, xc, rfl, -, -, -⟩ := id hr4.form; have HP4 := Lib.hid hp4; have HB4 := Lib.hid (HB.out.trans hb4); have HO4 := Lib.hid (HO.out.butS RAtom.steady hb4 hBw (by show ¬ w.heap.size ≤ B; omega)); have HT4 := Lib.hid hr4; have hz4 := hb4.size; have HZ := Lib.hid (fun q (hq : (Value.slice ta acc.length tc).ownBlock = some q) => (HO.out.row_lt hq).2); clear hb4 hp4 hr4)
          | (at_builtin; refine wpList_append_one (B := w.heap.size) (e := 38) (S := New w) (by rfl) _ _ 22 (by rfl) RAtom.steady rowAtoms _ acc (by rfl) (HO4.out.alloc RAtom.steady _) _ 1 #[.bool x.neg, .string x.name, .slice xa x.terms.length xc] 38 (0, 0) x (by rfl) (heap_alloc_new _ _) rfl (by simp [Value.oneCell']) ⟨_, rfl, (HT4.out.agree RTerm.steady ((Agree.refl _ _).alloc _)).more RTerm.steady (fun q hq _ => ⟨Nat.le_trans HB.out.size hq, fun e => by have := HZ.out q e.symm; have hq' : wr.heap.size ≤ q := hq; omega⟩)⟩ (by omega) (by have := HB4.out.size; simp; omega) ?_; intro v6 w6 hown6 hg6 hat6; have HO6 := Lib.hid hown6; have HP6 := Lib.hid ((HP4.out.alloc (.cells #[.bool x.neg, .string x.name, .slice xa x.terms.length xc] 38)).grown hg6 (fun e => by have := (HO4.out.row_lt e.symm).1; omega)); have HB6 := Lib.hid ((HB4.out.alloc (.cells #[.bool x.neg, .string x.name, .slice xa x.terms.length xc] 38)).row hg6 (fun q hq => (HO4.out.row_lt hq).1)); obtain ⟨a6, c6, rfl, -, -, -⟩ := id (HO6.out.read RAtom.steady).form; clear hown6 hg6 hat6)
          | (go_at_call 76; refine (EAT.out _ HP6.out).mono ?_; rintro e w8 ⟨rfl, hp8, hb8⟩; have HP8 := Lib.hid hp8; have HB8 := Lib.hid (HB6.out.trans hb8); have HO8 := Lib.hid (HO6.out.butS RAtom.steady hb8 hBw (by show ¬ w.heap.size ≤ B; omega)); clear hp8 hb8))
      · rw [HLEN.out] at HO8
        go_wp2
        go_ret
        exact Ends.mk_ok HR4.out HB8.out rfl ((HO8.out.read RAtom.steady).more RAtom.steady (fun b hb _ => hb.elim id id)) (by rw [HJ5.out]; exact HP8.out)
      · rw [HLEN.out] at HO8
        go_roundg (n + 1)
        case measure => omega
        case rel => exact ⟨n, acc ++ [x], k5, rfl, by have := HLEN.out; omega, hk5, HP8, HB8, HO8, HR4⟩

end Go.Proofs.Ytmnpneandkiblaa
