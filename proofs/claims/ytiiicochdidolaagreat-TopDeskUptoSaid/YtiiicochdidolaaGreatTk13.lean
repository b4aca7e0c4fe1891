/-
  THE TEXTS SynW4, AppendW, NaiveW2, one behind the other.
-/
import Derived.Test.YtiiicochdidolaaGreatTk1
import Derived.Test.YtiiicochdidolaaGreatTk3
import Derived.Test.YtiiicochdidolaaGreatTk12
namespace Go.Proofs.YtiiicochdidolaaGreat
open Go.RowKit
theorem rowAtoms : RowT Tryz.prog 47 60 3 := RowT.mk' (b := 48) (z := .agg #[.bool false,.string ⟨#[]⟩,.slice none 0 0]) Tryz.underlying47 (by kernel_rfl) (by omega) rfl (by omega)
theorem rowRules : RowT Tryz.prog 26 62 4 := RowT.mk' (b := 72) (z := .agg #[.bool false,.string ⟨#[]⟩,.slice none 0 0,.slice none 0 0]) Tryz.underlying26 (by kernel_rfl) (by omega) rfl (by omega)
theorem Owned.butS {α : Type} {k : Nat} {R : Reader α} {B C : Nat} {e : TypeId} {S : Nat → Prop} {w w' : World} {v : Value} {l : List α} (h : Owned k R B e S w v l) (hR : Steady R) (hb : But C w w') (hC : C < B) (hS : ¬ S C) : Owned k R B e S w' v l :=
  h.keep hR ⟨hb.size,fun b hb' hlt => hb.block b hlt (fun e => hS (by rw [← Option.some.inj e];exact hb'))⟩ fun g hg => hb.block g (h.row_lt hg).2 (fun e => by have := (h.row_lt hg).1;have := Option.some.inj e;omega)
theorem But.agree {B : Nat} {S : Nat → Prop} {w w' : World} (h : But B w w') (hS : ¬ S B) : Agree S w w' :=
  ⟨h.size,fun b hb hlt => h.block b hlt (fun e => hS (by rw [← Option.some.inj e];exact hb))⟩
theorem Agree.setCell {S : Nat → Prop} {w : World} {p : Addr} (hS : ¬ S p.block) (u : Value) : Agree S w (w.setCell p u) := ⟨by simp [World.setCell],fun b hb _ => Below.heap_setCell _ _ _ _ (fun e => hS (by rw [← e];exact hb))⟩
theorem atomF_posF {s : Str} {k : Nat} {no : Bool} {x : PAtom} {r : Bytes} (h : atomF no (rest s k) = .ok (x,r)) : rest s (posF s r) = r := by
  have := atomF_suffix no (rest s k)
  rw [h] at this
  exact rest_posF (List.IsSuffix.trans (l₂ := rest s k) this (rest_suffix s k))
theorem bodyF_posF {s : Str} {k n : Nat} {acc x : List PAtom} {r : Bytes} (h : bodyF n acc (rest s k) = .ok (x,r)) : rest s (posF s r) = r := by
  have := bodyF_suffix n acc (rest s k)
  rw [h] at this
  exact rest_posF (List.IsSuffix.trans (l₂ := rest s k) this (rest_suffix s k))
theorem bodyF_bad {n : Nat} {acc : List PAtom} {r r' : Bytes} {er : Int} (h : atomF true r = .error (er,r')) : bodyF (n + 1) acc r = .error (er,r') := by rw [bodyF,h]
theorem bodyF_good {n : Nat} {acc : List PAtom} {r r1 : Bytes} {x : PAtom} (h : atomF true r = .ok (x,r1)) : bodyF (n + 1) acc r = if eatsF [44] r1 then bodyF n (acc ++ [x]) (eatF [44] r1) else .ok (acc ++ [x],eatF [44] r1) := by rw [bodyF,h]
def VAtoms (w : World) (l : List PAtom) (v : Value) (w' : World) : Prop := RdAtoms (New w) w' v l
def VRules (w : World) (l : List PRule) (v : Value) (w' : World) : Prop := RdRules (New w) w' v l
attribute [local go_sem ↓] Go.wp_at_zero Go.wp_at_succ
set_option maxRecDepth 100000 in
set_option maxHeartbeats 8000000 in
theorem bodyCalls (B : Nat) (s : Str) (k : Nat) (w : World) (hs : s.size ≤ 1048576) (h : Ps B s k w) :
    Calls Tryz.prog 24 #[.pointer (some ⟨B,0,none⟩)] w fun e w' => Ends B s w (VAtoms w) (bodyF 5 [] (rest s k)) e w' := by
  have hBw := h.lt
  have hk := h.le
  have HP0 := Lib.hid h
  have hs' : s.size ≤ 1099511627776 := by omega
  clear h
  obtain ⟨g,HG⟩ : ∃ g,Hid (bodyF 5 [] (rest s k) = g) := ⟨_,Lib.hid rfl⟩
  rw [HG.out]
  go_enter Tryz.func24,Tryz.ntmps24
  go_wp2
  go_loopg [3] 6 (fun gk v wr => ∃ (n : Nat) (acc : List PAtom) (j : Nat),gk = n + 1 ∧ acc.length + n = 5 ∧ j ≤ s.size ∧ Hid (Ps B s j wr) ∧ Hid (But B w wr) ∧ Hid (Owned 3 RAtom w.heap.size 60 (New w) wr v acc) ∧ Hid (g = bodyF n acc (rest s j)))
  case atStart => exact ⟨5,[],k,rfl,rfl,hk,HP0,Lib.hid (But.refl B w),Lib.hid Owned.nil,Lib.hid HG.out.symm⟩
  case round =>
    obtain ⟨n,acc,j,rfl,hn,hj,HP,HB,HO,HR⟩ := hrel
    obtain ⟨ta,tc,rfl,-,-,-⟩ := id (HO.out.read RAtom.steady).form
    cases n with
    | zero =>
      have e4 : ((acc.length : Int) == 5) = true := beq_iff_eq.2 (by omega)
      have HE := Lib.hid (show g = .error (5,rest s j) from HR.out)
      go_wp2_with (go_at_call 26;refine (failCalls B s j 5 _ HP.out).mono ?_;rintro e w7 ⟨rfl,rfl⟩)
      exact ⟨rfl,Ends.mk_error HE.out HB.out (by rw [posF_rest s hj])⟩
    | succ n =>
      have e4 : ((acc.length : Int) == 5) = false := beq_eq_false_iff_ne.2 (by omega)
      rcases hw : atomF true (rest s j) with ⟨er,r'⟩ | ⟨x,r3⟩
      · have HE := Lib.hid (show g = .error (er,r') by rw [HR.out];exact bodyF_bad hw)
        have HW := Lib.hid hw
        clear hw
        go_wp2_with (go_at_call 52;refine (atomCalls B s j true _ hs HP.out).mono ?_;rintro e w7 h7;obtain ⟨hb7,rfl⟩ := h7.error HW.out;have HB7 := Lib.hid (HB.out.trans hb7);clear h7 hb7)
        exact ⟨rfl,Ends.mk_error HE.out HB7.out rfl⟩
      have HK4 := Lib.hid (atomF_posF hw)
      have hk4 := posF_le s r3
      obtain ⟨k4,hk4'⟩ : ∃ j,posF s r3 = j := ⟨_,rfl⟩
      have HR4 := Lib.hid (show g = if eatsF [44] (rest s k4) then bodyF n (acc ++ [x]) (eatF [44] (rest s k4)) else .ok (acc ++ [x],eatF [44] (rest s k4)) by
        rw [HR.out,bodyF_good hw,← hk4',HK4.out])
      have HW := Lib.hid hw
      rw [hk4'] at hk4
      have ATOM : Hid (∀ W,Ps B s j W → Calls Tryz.prog 52 #[.pointer (some ⟨B,0,none⟩),.bool true] W fun e w' => But B W w' ∧ (∃ tv,e = .returned (.agg #[.bool x.neg,.string x.name,tv]) ∧ RdTerms (New W) w' tv x.terms) ∧ Ps B s k4 w') := Lib.hid fun W hp => (atomCalls B s j true W hs hp).mono fun e w' h4 => by
        obtain ⟨hb4,v,rfl,⟨tv,rfl,hr⟩,hp4⟩ := h4.ok HW.out
        rw [hk4'] at hp4
        exact ⟨hb4,⟨tv,rfl,hr⟩,hp4⟩
      have hk5 := posF_le s (eatF [44] (rest s k4))
      have HK5 := Lib.hid (posF_eat s k4 [44])
      obtain ⟨k5,hk5'⟩ : ∃ j,posF s (eatF [44] (rest s k4)) = j := ⟨_,rfl⟩
      have EAT : Hid (∀ W,Ps B s k4 W → Calls Tryz.prog 53 #[.pointer (some ⟨B,0,none⟩),.string ⟨#[44]⟩] W fun e w' => e = .returned (.bool (eatsF [44] (rest s k4))) ∧ Ps B s k5 w' ∧ But B W w') := Lib.hid fun W hp => by
        have := eatCalls B s k4 ⟨#[44]⟩ W hs' (by decide) hp
        rw [← hk5']
        exact this
      rw [hk5'] at HK5 hk5
      have HJ5 := Lib.hid hk5'
      have HLEN := Lib.hid (show (acc ++ [x]).length = acc.length + 1 by simp)
      clear hw hk4' hk5' HR HW
      cases he : eatsF [44] (rest s k4)
      all_goals
        rw [he] at HR4 EAT
        first | rw [if_neg (by decide)] at HR4 | rw [if_pos rfl,← HK5.out] at HR4
        clear he
        go_wp2_with (first
          | (go_at_call 52;refine (ATOM.out _ HP.out).mono ?_;rintro e w4 ⟨hb4,⟨tv,rfl,hr4⟩,hp4⟩;obtain ⟨xa,xc,rfl,-,-,-⟩ := id hr4.form;have HP4 := Lib.hid hp4;have HB4 := Lib.hid (HB.out.trans hb4);have HO4 := Lib.hid (HO.out.butS RAtom.steady hb4 hBw (by show ¬ w.heap.size ≤ B;omega));have HT4 := Lib.hid hr4;have hz4 := hb4.size;have HZ := Lib.hid (fun q (hq : (Value.slice ta acc.length tc).ownBlock = some q) => (HO.out.row_lt hq).2);clear hb4 hp4 hr4)
          | (at_builtin;refine wpList_append_one (B := w.heap.size) (e := 60) (S := New w) (by rfl) _ _ 47 (by rfl) RAtom.steady rowAtoms _ acc (by rfl) (HO4.out.alloc RAtom.steady _) _ 1 #[.bool x.neg,.string x.name,.slice xa x.terms.length xc] 60 (0,0) x (by rfl) (heap_alloc_new _ _) rfl (by simp [Value.oneCell']) ⟨_,rfl,(HT4.out.agree RTerm.steady ((Agree.refl _ _).alloc _)).more RTerm.steady (fun q hq _ => ⟨Nat.le_trans HB.out.size hq,fun e => by have := HZ.out q e.symm;have hq' : wr.heap.size ≤ q := hq;omega⟩)⟩ (by omega) (by have := HB4.out.size;simp;omega) ?_;intro v6 w6 hown6 hg6 hat6;have HO6 := Lib.hid hown6;have HP6 := Lib.hid ((HP4.out.alloc (.cells #[.bool x.neg,.string x.name,.slice xa x.terms.length xc] 60)).grown hg6 (fun e => by have := (HO4.out.row_lt e.symm).1;omega));have HB6 := Lib.hid ((HB4.out.alloc (.cells #[.bool x.neg,.string x.name,.slice xa x.terms.length xc] 60)).row hg6 (fun q hq => (HO4.out.row_lt hq).1));obtain ⟨a6,c6,rfl,-,-,-⟩ := id (HO6.out.read RAtom.steady).form;clear hown6 hg6 hat6)
          | (go_at_call 53;refine (EAT.out _ HP6.out).mono ?_;rintro e w8 ⟨rfl,hp8,hb8⟩;have HP8 := Lib.hid hp8;have HB8 := Lib.hid (HB6.out.trans hb8);have HO8 := Lib.hid (HO6.out.butS RAtom.steady hb8 hBw (by show ¬ w.heap.size ≤ B;omega));clear hp8 hb8))
      · rw [HLEN.out] at HO8
        go_wp2
        go_ret
        exact Ends.mk_ok HR4.out HB8.out rfl ((HO8.out.read RAtom.steady).more RAtom.steady (fun b hb _ => hb.elim id id)) (by rw [HJ5.out];exact HP8.out)
      · rw [HLEN.out] at HO8
        go_roundg (n + 1)
        case measure => omega
        case rel => exact ⟨n,acc ++ [x],k5,rfl,by have := HLEN.out;omega,hk5,HP8,HB8,HO8,HR4⟩
theorem progF_blank (n : Nat) (acc : List PRule) (r : Bytes) : progF n acc (blankF false r) = progF n acc r := by
  cases n <;> simp only [progF,blankF_idem]
theorem progF_end (n : Nat) (acc : List PRule) : progF n acc [] = .ok (acc,[]) := by
  cases n <;> simp [progF,blankF]
theorem progF_many {acc : List PRule} {r : Bytes} (h : blankF false r = r) (hr : r ≠ []) : progF 0 acc r = .error (5,r) := by
  simp only [progF,h,if_neg hr]
def tail3 (n : Nat) (acc : List PRule) (h : PAtom) (b : List PAtom) (r : Bytes) : Got (List PRule) :=
  if eatsF [46] r then progF n (acc ++ [⟨h,b⟩]) (eatF [46] r) else .error (2,eatF [46] r)
theorem progF_step {n : Nat} {acc : List PRule} {r : Bytes} (h : blankF false r = r) (hr : r ≠ []) : progF (n + 1) acc r = match atomF false r with
    | .error e => .error e
    | .ok (x,r1) => match (if eatsF [58,45] r1 then bodyF 5 [] (eatF [58,45] r1) else .ok ([],eatF [58,45] r1) : Got (List PAtom)) with
      | .error e => .error e
      | .ok (b,r3) => tail3 n acc x b r3 := by
  simp only [progF,h,if_neg hr,ruleF,headF,tailF]
  rcases atomF false r with e | ⟨x,r1⟩
  · rfl
  · dsimp only
    rcases (if eatsF [58,45] r1 then bodyF 5 [] (eatF [58,45] r1) else .ok ([],eatF [58,45] r1) : Got (List PAtom)) with e | ⟨b,r3⟩
    · rfl
    · dsimp only
      unfold tail3 mustF
      cases eatsF [46] r3 <;> rfl
theorem rest_ne (s : Str) {k : Nat} (h : k < s.size) : rest s k ≠ [] := by rw [rest_cons s k h];simp
set_option maxRecDepth 100000 in
set_option maxHeartbeats 8000000 in
theorem programCalls (B : Nat) (s : Str) (k : Nat) (w : World) (hs : s.size ≤ 1048576) (h : Ps B s k w) :
    Calls Tryz.prog 73 #[.pointer (some ⟨B,0,none⟩)] w fun e w' => Ends B s w (VRules w) (progF 16 [] (rest s k)) e w' := by
  have hBw := h.lt
  have hk := h.le
  have HP0 := Lib.hid h
  have hs' : s.size ≤ 1099511627776 := by omega
  clear h
  obtain ⟨g,HG⟩ : ∃ g,Hid (progF 16 [] (rest s k) = g) := ⟨_,Lib.hid rfl⟩
  rw [HG.out]
  have HK0 := Lib.hid (posF_blank s k)
  have hk0 := posF_le s (blankF false (rest s k))
  have BL : Hid (∀ W,Ps B s k W → Calls Tryz.prog 25 #[.pointer (some ⟨B,0,none⟩)] W fun e w' => e = .returned (.tuple #[]) ∧ Ps B s (posF s (blankF false (rest s k))) w' ∧ But B W w') := Lib.hid fun W hp => blankCalls B s k W hs' hp
  have HG0 := Lib.hid (show g = progF 16 [] (rest s (posF s (blankF false (rest s k)))) by rw [HK0.out,progF_blank,HG.out])
  have HI0 := Lib.hid (show blankF false (rest s (posF s (blankF false (rest s k)))) = rest s (posF s (blankF false (rest s k))) by rw [HK0.out,blankF_idem])
  generalize posF s (blankF false (rest s k)) = k0 at *
  clear HG HK0
  go_enter Tryz.func73,Tryz.ntmps73
  go_wp2_with (go_at_call 25;refine (BL.out _ HP0.out).mono ?_;rintro e w1 ⟨rfl,hp1,hb1⟩;have HP1 := Lib.hid hp1;have HB1 := Lib.hid hb1;clear hp1 hb1)
  clear BL HP0
  go_loopg [3] 17 (fun gk v wr => ∃ (n : Nat) (acc : List PRule) (j : Nat),gk = n + 1 ∧ acc.length + n = 16 ∧ j ≤ s.size ∧ Hid (Ps B s j wr) ∧ Hid (But B w wr) ∧ Hid (Owned 4 RRule w.heap.size 62 (New w) wr v acc) ∧ Hid (g = progF n acc (rest s j)) ∧ Hid (blankF false (rest s j) = rest s j))
  case atStart => exact ⟨16,[],k0,rfl,rfl,hk0,HP1,HB1,Lib.hid Owned.nil,HG0,HI0⟩
  case round =>
    clear HG0 HI0 hk0 HP1 HB1
    obtain ⟨n,acc,j,rfl,hn,hj,HP,HB,HO,HR,HI⟩ := hrel
    obtain ⟨ta,tc,rfl,-,-,-⟩ := id (HO.out.read RRule.steady).form
    have c0 := HP.out.c0
    have c1 := HP.out.c1
    have j0 : (0 : Int) ≤ (j : Int) := by omega
    by_cases hlt : j < s.size
    rotate_left
    · have j1 : ¬ (j : Int) < (s.size : Int) := by omega
      obtain rfl : j = s.size := by omega
      have HE := Lib.hid (show g = .ok (acc,[]) by rw [HR.out,rest_end s s.size (Nat.le_refl _)];exact progF_end n acc)
      go_wp2
      go_quiet (fail)
      go_wp2
      go_ret
      exact Ends.mk_ok HE.out (HB.out.drewN _) rfl (((HO.out.below RRule.steady (Fresh.below ⟨_,#[],rfl⟩)).read RRule.steady).more RRule.steady (fun b hb _ => hb.elim id id)) (by show Ps B s (s.size - 0) _;exact HP.out.drewN _)
    have j1 : (j : Int) < (s.size : Int) := by omega
    have HNE := Lib.hid (rest_ne s hlt)
    cases n with
    | zero =>
      have e4 : ((acc.length : Int) == 16) = true := beq_iff_eq.2 (by omega)
      have HE := Lib.hid (show g = .error (5,rest s j) by rw [HR.out];exact progF_many HI.out HNE.out)
      go_wp2
      go_quiet (fail)
      go_wp2_with (go_at_call 26;refine (failCalls B s j 5 _ (HP.out.drewN _)).mono ?_;rintro e w7 ⟨rfl,rfl⟩)
      exact ⟨rfl,Ends.mk_error HE.out (HB.out.drewN _) (by rw [posF_rest s hj])⟩
    | succ n =>
      have e4 : ((acc.length : Int) == 16) = false := beq_eq_false_iff_ne.2 (by omega)
      have HR1 := Lib.hid (HR.out.trans (progF_step HI.out HNE.out))
      clear HR HI HNE
      rcases hw : atomF false (rest s j) with ⟨er,r'⟩ | ⟨x,r3⟩
      · have HE := Lib.hid (show g = .error (er,r') by rw [HR1.out,hw])
        have HW := Lib.hid hw
        clear hw
        go_wp2
        go_quiet (fail)
        go_wp2_with (go_at_call 52;refine (atomCalls B s j false _ hs (HP.out.drewN _)).mono ?_;rintro e w7 h7;obtain ⟨hb7,rfl⟩ := h7.error HW.out;have HB7 := Lib.hid ((HB.out.drewN _).trans hb7);clear h7 hb7)
        exact ⟨rfl,Ends.mk_error HE.out HB7.out rfl⟩
      have HK1 := Lib.hid (atomF_posF hw)
      have hk1 := posF_le s r3
      obtain ⟨k1,hk1'⟩ : ∃ j,posF s r3 = j := ⟨_,rfl⟩
      rw [hk1'] at HK1 hk1
      have HR2 := Lib.hid (show g = match (if eatsF [58,45] (rest s k1) then bodyF 5 [] (eatF [58,45] (rest s k1)) else .ok ([],eatF [58,45] (rest s k1)) : Got (List PAtom)) with
          | .error e => .error e
          | .ok (b,r3) => tail3 n acc x b r3 by
        rw [HR1.out,hw,HK1.out])
      have HW := Lib.hid hw
      have ATOM : Hid (∀ W,Ps B s j W → Calls Tryz.prog 52 #[.pointer (some ⟨B,0,none⟩),.bool false] W fun e w' => But B W w' ∧ (∃ tv,e = .returned (.agg #[.bool x.neg,.string x.name,tv]) ∧ RdTerms (New W) w' tv x.terms) ∧ Ps B s k1 w') := Lib.hid fun W hp => (atomCalls B s j false W hs hp).mono fun e w' h4 => by
        obtain ⟨hb4,v,rfl,⟨tv,rfl,hr⟩,hp4⟩ := h4.ok HW.out
        rw [hk1'] at hp4
        exact ⟨hb4,⟨tv,rfl,hr⟩,hp4⟩
      clear hw hk1' HR1 HW HK1
      have hk2 := posF_le s (eatF [58,45] (rest s k1))
      have HK2 := Lib.hid (posF_eat s k1 [58,45])
      obtain ⟨k2,hk2'⟩ : ∃ j,posF s (eatF [58,45] (rest s k1)) = j := ⟨_,rfl⟩
      have EAT : Hid (∀ W,Ps B s k1 W → Calls Tryz.prog 53 #[.pointer (some ⟨B,0,none⟩),.string ⟨#[58,45]⟩] W fun e w' => e = .returned (.bool (eatsF [58,45] (rest s k1))) ∧ Ps B s k2 w' ∧ But B W w') := Lib.hid fun W hp => by
        have := eatCalls B s k1 ⟨#[58,45]⟩ W hs' (by decide) hp
        rw [← hk2']
        exact this
      rw [hk2'] at HK2 hk2
      rw [← HK2.out] at HR2
      clear hk2'
      go_wp2
      go_quiet (fail)
      cases he : eatsF [58,45] (rest s k1)
      all_goals
        rw [he] at HR2 EAT
        first | rw [if_neg (by decide)] at HR2 | rw [if_pos rfl] at HR2
        clear he
        go_wp2_with (first
          | (go_at_call 52;refine (ATOM.out _ (HP.out.drewN _)).mono ?_;rintro e w4 ⟨hb4,⟨tv,rfl,hr4⟩,hp4⟩;obtain ⟨xa,xc,rfl,-,-,-⟩ := id hr4.form;have HP4 := Lib.hid hp4;have HB4 := Lib.hid ((HB.out.drewN _).trans hb4);have HO4 := Lib.hid ((HO.out.below RRule.steady (Fresh.below ⟨_,#[],rfl⟩)).butS RRule.steady hb4 hBw (by show ¬ w.heap.size ≤ B;omega));have HT4 := Lib.hid (show RdTerms (New wr) w4 _ _ from hr4);have hz4 : wr.heap.size ≤ w4.heap.size := hb4.size;have HZ := Lib.hid (fun q (hq : (Value.slice ta acc.length tc).ownBlock = some q) => (HO.out.row_lt hq).2);clear hb4 hp4 hr4)
          | (go_at_call 53;refine (EAT.out _ (HP4.out.alloc (.cells #[.bool x.neg,.string x.name,.slice xa x.terms.length xc,.slice none 0 0] 62))).mono ?_;rintro e w5 ⟨rfl,hp5,hb5⟩;have HP5 := Lib.hid hp5;have HB5 := Lib.hid ((HB4.out.alloc (.cells #[.bool x.neg,.string x.name,.slice xa x.terms.length xc,.slice none 0 0] 62)).trans hb5);have HN5 := Lib.hid ((Blk.new w4 62 #[.bool x.neg,.string x.name,.slice xa x.terms.length xc,.slice none 0 0]).but hb5 (by have := HP4.out.lt;omega));have HO5 := Lib.hid (((HO4.out.moreS RRule.steady (S' := fun q => w.heap.size ≤ q ∧ q ≠ w4.heap.size) (fun b hb hlt => ⟨hb,Nat.ne_of_lt hlt⟩)).alloc RRule.steady (.cells #[.bool x.neg,.string x.name,.slice xa x.terms.length xc,.slice none 0 0] 62)).butS RRule.steady hb5 hBw (fun h => by have := h.1;omega));have HT5 := Lib.hid (((HT4.out.more RTerm.steady (S' := fun q => wr.heap.size ≤ q ∧ q ≠ w4.heap.size) (fun b hb hlt => ⟨hb,Nat.ne_of_lt hlt⟩)).agree RTerm.steady ((Agree.refl _ _).alloc (.cells #[.bool x.neg,.string x.name,.slice xa x.terms.length xc,.slice none 0 0] 62))).agree RTerm.steady (hb5.agree (fun h => by have := h.1;have := HB.out.size;omega)));clear hb5 hp5))
        clear HP4 HB4 HO4 HT4 ATOM EAT
        have hN1 : wr.heap.size ≤ w4.heap.size := hz4
        have hN2 : w4.heap.size < w5.heap.size := HN5.out.lt
        generalize w4.heap.size = N1 at *
        clear hz4
      · obtain ⟨b,ba,bc,HGA,HNA,HQA⟩ : ∃ (b : List PAtom) (ba : Option Addr) (bc : Nat),Hid (g = tail3 n acc x b (rest s k2)) ∧ Hid (Blk w5 N1 62 #[.bool x.neg,.string x.name,.slice xa x.terms.length xc,.slice ba b.length bc]) ∧ Hid (RdAtoms (fun q => wr.heap.size ≤ q ∧ q ≠ N1) w5 (.slice ba b.length bc) b) :=
          ⟨[],none,0,HR2,HN5,RdSlice.nothing (Nat.zero_le _) (fun _ => rfl)⟩
        have HPA := HP5
        have HBA := HB5
        have HOA := HO5
        have HTA := HT5
        have hkA := hk2
        clear HR2 HN5 HP5 HB5 HO5 HT5 HK2 hk2
        generalize k2 = k3 at *
        generalize w5 = wA at *
        have hk4 := posF_le s (eatF [46] (rest s k3))
        have HK4 := Lib.hid (posF_eat s k3 [46])
        obtain ⟨k4,hk4'⟩ : ∃ j,posF s (eatF [46] (rest s k3)) = j := ⟨_,rfl⟩
        have MUST := Lib.hid (fun W hp => mustCalls B s k3 ⟨#[46]⟩ W hs' (by decide) hp)
        have hm : eatsF [46] (rest s k3) = true ∨ eatsF [46] (rest s k3) = false := by cases eatsF [46] (rest s k3) <;> simp
        rcases hm with hm | hm
        rotate_left
        · have HE := Lib.hid (show g = .error (2,eatF [46] (rest s k3)) by rw [HGA.out];unfold tail3;rw [hm];rfl)
          have MU : Hid (∀ W,Ps B s k3 W → Calls Tryz.prog 87 #[.pointer (some ⟨B,0,none⟩),.string ⟨#[46]⟩] W fun e w' => e = .panicked (oopsV 2 (posF s (eatF [46] (rest s k3)))) ∧ But B W w') := Lib.hid fun W hp => (MUST.out W hp).mono fun e w' ⟨he,hp',hb'⟩ => ⟨by rw [he];exact if_neg (by show ¬ eatsF [46] (rest s k3) = true;rw [hm];simp),hb'⟩
          clear hm MUST HGA hk4' HK4
          go_wp2_with (go_at_call 87;refine (MU.out _ HPA.out).mono ?_;rintro e w9 ⟨rfl,hb9⟩;have HB9 := Lib.hid (HBA.out.trans hb9);clear hb9)
          exact ⟨rfl,Ends.mk_error HE.out HB9.out rfl⟩
        have HG4 := Lib.hid (show g = progF n (acc ++ [⟨x,b⟩]) (rest s (posF s (blankF false (rest s k4)))) by
          rw [posF_blank,progF_blank,← hk4',HK4.out,HGA.out];unfold tail3;rw [hm];rfl)
        have HI4 := Lib.hid (show blankF false (rest s (posF s (blankF false (rest s k4)))) = rest s (posF s (blankF false (rest s k4))) by rw [posF_blank,blankF_idem])
        have MU : Hid (∀ W,Ps B s k3 W → Calls Tryz.prog 87 #[.pointer (some ⟨B,0,none⟩),.string ⟨#[46]⟩] W fun e w' => e = .returned (.tuple #[]) ∧ Ps B s k4 w' ∧ But B W w') := Lib.hid fun W hp => (MUST.out W hp).mono fun e w' ⟨he,hp',hb'⟩ => ⟨by rw [he];exact if_pos hm,by rw [← hk4'];exact hp',hb'⟩
        have hk5 := posF_le s (blankF false (rest s k4))
        have BLK : Hid (∀ W,Ps B s k4 W → Calls Tryz.prog 25 #[.pointer (some ⟨B,0,none⟩)] W fun e w' => e = .returned (.tuple #[]) ∧ Ps B s (posF s (blankF false (rest s k4))) w' ∧ But B W w') := Lib.hid fun W hp => blankCalls B s k4 W hs' hp
        rw [hk4'] at hk4
        have HLEN := Lib.hid (show (acc ++ [(⟨x,b⟩ : PRule)]).length = acc.length + 1 by simp)
        clear hm MUST HGA HK4 hk4'
        generalize posF s (blankF false (rest s k4)) = k5 at *
        go_wp2_with (first
          | (go_at_call 87;refine (MU.out _ HPA.out).mono ?_;rintro e w7 ⟨rfl,hp7,hb7⟩;have HP7 := Lib.hid hp7;have HB7 := Lib.hid (HBA.out.trans hb7);have HN7 := Lib.hid (HNA.out.but hb7 (by have := HB.out.size;omega));have HO7 := Lib.hid (HOA.out.butS RRule.steady hb7 hBw (fun h => by have := h.1;omega));have HT7 := Lib.hid (HTA.out.agree RTerm.steady (hb7.agree (fun h => by have := h.1;have := HB.out.size;omega)));have HQ7 := Lib.hid (HQA.out.agree RAtom.steady (hb7.agree (fun h => by have := h.1;have := HB.out.size;omega)));have d0 : w7.cell? ⟨N1,0,none⟩ = some (.bool x.neg) := HN7.out.cell 0;have d1 : w7.cell? ⟨N1,1,none⟩ = some (.string x.name) := HN7.out.cell 1;have d2 : w7.cell? ⟨N1,2,none⟩ = some (.slice xa x.terms.length xc) := HN7.out.cell 2;have d3 : w7.cell? ⟨N1,3,none⟩ = some (.slice ba b.length bc) := HN7.out.cell 3;clear hp7 hb7)
          | (at_builtin;refine wpList_append_one (B := w.heap.size) (e := 62) (S := fun q => w.heap.size ≤ q ∧ q ≠ N1) (by rfl) _ _ 26 (by rfl) RRule.steady rowRules _ acc (by rfl) (HO7.out.alloc RRule.steady _) _ 1 #[.bool x.neg,.string x.name,.slice xa x.terms.length xc,.slice ba b.length bc] 62 (0,0) ⟨x,b⟩ (by rfl) (heap_alloc_new _ _) rfl (by simp [Value.oneCell']) ⟨_,_,rfl,(HT7.out.agree RTerm.steady ((Agree.refl _ _).alloc _)).more RTerm.steady (fun q hq _ => ⟨⟨Nat.le_trans HB.out.size hq.1,hq.2⟩,fun e => by have := HZ.out q e.symm;have := hq.1;omega⟩),(HQ7.out.agree RAtom.steady ((Agree.refl _ _).alloc _)).more RAtom.steady (fun q hq _ => ⟨⟨Nat.le_trans HB.out.size hq.1,hq.2⟩,fun e => by have := HZ.out q e.symm;have := hq.1;omega⟩)⟩ (by omega) (by have := HB7.out.size;simp;omega) ?_;intro v8 w8 hown8 hg8 hat8;have HO8 := Lib.hid (hown8.moreS RRule.steady (S' := New w) (fun q hq _ => hq.1));have HP8 := Lib.hid ((HP7.out.alloc (.cells #[.bool x.neg,.string x.name,.slice xa x.terms.length xc,.slice ba b.length bc] 62)).grown hg8 (fun e => by have := (HO7.out.row_lt e.symm).1;omega));have HB8 := Lib.hid ((HB7.out.alloc (.cells #[.bool x.neg,.string x.name,.slice xa x.terms.length xc,.slice ba b.length bc] 62)).row hg8 (fun q hq => (HO7.out.row_lt hq).1));obtain ⟨a8,c8,rfl,-,-,-⟩ := id (HO8.out.read RRule.steady).form;clear hown8 hg8 hat8)
          | (go_at_call 25;refine (BLK.out _ HP8.out).mono ?_;rintro e w9 ⟨rfl,hp9,hb9⟩;have HP9 := Lib.hid hp9;have HB9 := Lib.hid (HB8.out.trans hb9);have HO9 := Lib.hid (HO8.out.butS RRule.steady hb9 hBw (by show ¬ w.heap.size ≤ B;omega));clear hp9 hb9))
        rw [HLEN.out] at HO9
        go_roundg (n + 1)
        case measure => omega
        case rel => exact ⟨n,acc ++ [⟨x,b⟩],k5,rfl,by have := HLEN.out;omega,hk5,HP9,HB9,HO9,HG4,HI4⟩
      · rcases hw2 : bodyF 5 [] (eatF [58,45] (rest s k1)) with ⟨er,r'⟩ | ⟨b,r3⟩
        · have HE := Lib.hid (show g = .error (er,r') by rw [HR2.out,HK2.out,hw2])
          have HW := Lib.hid (HK2.out ▸ hw2 : bodyF 5 [] (rest s k2) = .error (er,r'))
          clear hw2
          go_wp2_with (go_at_call 24;refine (bodyCalls B s k2 _ hs HP5.out).mono ?_;rintro e w7 h7;obtain ⟨hb7,rfl⟩ := h7.error HW.out;have HB7 := Lib.hid (HB5.out.trans hb7);clear h7 hb7)
          exact ⟨rfl,Ends.mk_error HE.out HB7.out rfl⟩
        have HW := Lib.hid (show bodyF 5 [] (rest s k2) = .ok (b,r3) by rw [HK2.out];exact hw2)
        have HK3 := Lib.hid (bodyF_posF HW.out)
        have hkA := posF_le s r3
        obtain ⟨k3,hk3'⟩ : ∃ j,posF s r3 = j := ⟨_,rfl⟩
        rw [hk3'] at HK3 hkA
        have HGA := Lib.hid (show g = tail3 n acc x b (rest s k3) by rw [HR2.out,HK2.out,hw2,HK3.out])
        have HJ3 := Lib.hid hk3'
        clear hw2 hk3' HR2
        go_wp2_with fail
        refine (bodyCalls B s k2 _ hs HP5.out).mono ?_
        rintro e w6 h6
        obtain ⟨hb6,v6,rfl,hv6,hp6⟩ := h6.ok HW.out
        rw [HJ3.out] at hp6
        have hv6' : RdAtoms (New w5) w6 v6 b := hv6
        obtain ⟨ba,bc,rfl,-,-,-⟩ := id hv6'.form
        have HPA := Lib.hid (hp6.far (p := ⟨N1,3,none⟩) (show B ≠ N1 by have := hp6.lt;have := HP5.out.lt;have := HB.out.size;omega) (.slice ba b.length bc))
        have HN6 := Lib.hid (HN5.out.but hb6 (by have := HB.out.size;omega))
        have HNA := Lib.hid (show Blk (w6.setCell ⟨N1,3,none⟩ (.slice ba b.length bc)) N1 62 #[.bool x.neg,.string x.name,.slice xa x.terms.length xc,.slice ba b.length bc] from HN6.out.set_ 3 _)
        have hc6 : w6.cell? ⟨N1,3,none⟩ = some (.slice none 0 0) := HN6.out.cell 3
        have hf6 := HN6.out.frozen 3
        have HBA := Lib.hid ((HB5.out.trans hb6).setCell (p := ⟨N1,3,none⟩) (.inr (Nat.le_trans HB.out.size hN1)) (.slice ba b.length bc))
        have HOA := Lib.hid ((HO5.out.butS RRule.steady hb6 hBw (fun h => by have := h.1;omega)).setCell RRule.steady (p := ⟨N1,3,none⟩) (fun h => h.2 rfl) (fun e => by have := HZ.out _ e;simp at this;omega) (.slice ba b.length bc))
        have HTA := Lib.hid ((HT5.out.agree RTerm.steady (hb6.agree (fun h => by have := h.1;have := HB.out.size;omega))).agree RTerm.steady (Agree.setCell (p := ⟨N1,3,none⟩) (fun h => h.2 rfl) (.slice ba b.length bc)))
        have HQA := Lib.hid ((hv6'.more RAtom.steady (S' := fun q => wr.heap.size ≤ q ∧ q ≠ N1) (fun q hq _ => ⟨by have hq' : w5.heap.size ≤ q := hq;omega,by have hq' : w5.heap.size ≤ q := hq;omega⟩)).agree RAtom.steady (Agree.setCell (p := ⟨N1,3,none⟩) (fun h => h.2 rfl) (.slice ba b.length bc)))
        clear h6 hb6 hp6 hv6
        clear HP5 HB5 HN5 HO5 HT5 HK2 hk2 HW HK3 HJ3
        have hk4 := posF_le s (eatF [46] (rest s k3))
        have HK4 := Lib.hid (posF_eat s k3 [46])
        obtain ⟨k4,hk4'⟩ : ∃ j,posF s (eatF [46] (rest s k3)) = j := ⟨_,rfl⟩
        have MUST := Lib.hid (fun W hp => mustCalls B s k3 ⟨#[46]⟩ W hs' (by decide) hp)
        have hm : eatsF [46] (rest s k3) = true ∨ eatsF [46] (rest s k3) = false := by cases eatsF [46] (rest s k3) <;> simp
        rcases hm with hm | hm
        rotate_left
        · have HE := Lib.hid (show g = .error (2,eatF [46] (rest s k3)) by rw [HGA.out];unfold tail3;rw [hm];rfl)
          have MU : Hid (∀ W,Ps B s k3 W → Calls Tryz.prog 87 #[.pointer (some ⟨B,0,none⟩),.string ⟨#[46]⟩] W fun e w' => e = .panicked (oopsV 2 (posF s (eatF [46] (rest s k3)))) ∧ But B W w') := Lib.hid fun W hp => (MUST.out W hp).mono fun e w' ⟨he,hp',hb'⟩ => ⟨by rw [he];exact if_neg (by show ¬ eatsF [46] (rest s k3) = true;rw [hm];simp),hb'⟩
          clear hm MUST HGA hk4' HK4
          go_wp2_with (go_at_call 87;refine (MU.out _ HPA.out).mono ?_;rintro e w9 ⟨rfl,hb9⟩;have HB9 := Lib.hid (HBA.out.trans hb9);clear hb9)
          exact ⟨rfl,Ends.mk_error HE.out HB9.out rfl⟩
        have HG4 := Lib.hid (show g = progF n (acc ++ [⟨x,b⟩]) (rest s (posF s (blankF false (rest s k4)))) by
          rw [posF_blank,progF_blank,← hk4',HK4.out,HGA.out];unfold tail3;rw [hm];rfl)
        have HI4 := Lib.hid (show blankF false (rest s (posF s (blankF false (rest s k4)))) = rest s (posF s (blankF false (rest s k4))) by rw [posF_blank,blankF_idem])
        have MU : Hid (∀ W,Ps B s k3 W → Calls Tryz.prog 87 #[.pointer (some ⟨B,0,none⟩),.string ⟨#[46]⟩] W fun e w' => e = .returned (.tuple #[]) ∧ Ps B s k4 w' ∧ But B W w') := Lib.hid fun W hp => (MUST.out W hp).mono fun e w' ⟨he,hp',hb'⟩ => ⟨by rw [he];exact if_pos hm,by rw [← hk4'];exact hp',hb'⟩
        have hk5 := posF_le s (blankF false (rest s k4))
        have BLK : Hid (∀ W,Ps B s k4 W → Calls Tryz.prog 25 #[.pointer (some ⟨B,0,none⟩)] W fun e w' => e = .returned (.tuple #[]) ∧ Ps B s (posF s (blankF false (rest s k4))) w' ∧ But B W w') := Lib.hid fun W hp => blankCalls B s k4 W hs' hp
        rw [hk4'] at hk4
        have HLEN := Lib.hid (show (acc ++ [(⟨x,b⟩ : PRule)]).length = acc.length + 1 by simp)
        clear hm MUST HGA HK4 hk4'
        generalize posF s (blankF false (rest s k4)) = k5 at *
        go_wp2_with (first
          | (go_at_call 87;refine (MU.out _ HPA.out).mono ?_;rintro e w7 ⟨rfl,hp7,hb7⟩;have HP7 := Lib.hid hp7;have HB7 := Lib.hid (HBA.out.trans hb7);have HN7 := Lib.hid (HNA.out.but hb7 (by have := HB.out.size;omega));have HO7 := Lib.hid (HOA.out.butS RRule.steady hb7 hBw (fun h => by have := h.1;omega));have HT7 := Lib.hid (HTA.out.agree RTerm.steady (hb7.agree (fun h => by have := h.1;have := HB.out.size;omega)));have HQ7 := Lib.hid (HQA.out.agree RAtom.steady (hb7.agree (fun h => by have := h.1;have := HB.out.size;omega)));have d0 : w7.cell? ⟨N1,0,none⟩ = some (.bool x.neg) := HN7.out.cell 0;have d1 : w7.cell? ⟨N1,1,none⟩ = some (.string x.name) := HN7.out.cell 1;have d2 : w7.cell? ⟨N1,2,none⟩ = some (.slice xa x.terms.length xc) := HN7.out.cell 2;have d3 : w7.cell? ⟨N1,3,none⟩ = some (.slice ba b.length bc) := HN7.out.cell 3;clear hp7 hb7)
          | (at_builtin;refine wpList_append_one (B := w.heap.size) (e := 62) (S := fun q => w.heap.size ≤ q ∧ q ≠ N1) (by rfl) _ _ 26 (by rfl) RRule.steady rowRules _ acc (by rfl) (HO7.out.alloc RRule.steady _) _ 1 #[.bool x.neg,.string x.name,.slice xa x.terms.length xc,.slice ba b.length bc] 62 (0,0) ⟨x,b⟩ (by rfl) (heap_alloc_new _ _) rfl (by simp [Value.oneCell']) ⟨_,_,rfl,(HT7.out.agree RTerm.steady ((Agree.refl _ _).alloc _)).more RTerm.steady (fun q hq _ => ⟨⟨Nat.le_trans HB.out.size hq.1,hq.2⟩,fun e => by have := HZ.out q e.symm;have := hq.1;omega⟩),(HQ7.out.agree RAtom.steady ((Agree.refl _ _).alloc _)).more RAtom.steady (fun q hq _ => ⟨⟨Nat.le_trans HB.out.size hq.1,hq.2⟩,fun e => by have := HZ.out q e.symm;have := hq.1;omega⟩)⟩ (by omega) (by have := HB7.out.size;simp;omega) ?_;intro v8 w8 hown8 hg8 hat8;have HO8 := Lib.hid (hown8.moreS RRule.steady (S' := New w) (fun q hq _ => hq.1));have HP8 := Lib.hid ((HP7.out.alloc (.cells #[.bool x.neg,.string x.name,.slice xa x.terms.length xc,.slice ba b.length bc] 62)).grown hg8 (fun e => by have := (HO7.out.row_lt e.symm).1;omega));have HB8 := Lib.hid ((HB7.out.alloc (.cells #[.bool x.neg,.string x.name,.slice xa x.terms.length xc,.slice ba b.length bc] 62)).row hg8 (fun q hq => (HO7.out.row_lt hq).1));obtain ⟨a8,c8,rfl,-,-,-⟩ := id (HO8.out.read RRule.steady).form;clear hown8 hg8 hat8)
          | (go_at_call 25;refine (BLK.out _ HP8.out).mono ?_;rintro e w9 ⟨rfl,hp9,hb9⟩;have HP9 := Lib.hid hp9;have HB9 := Lib.hid (HB8.out.trans hb9);have HO9 := Lib.hid (HO8.out.butS RRule.steady hb9 hBw (by show ¬ w.heap.size ≤ B;omega));clear hp9 hb9))
        rw [HLEN.out] at HO9
        go_roundg (n + 1)
        case measure => omega
        case rel => exact ⟨n,acc ++ [⟨x,b⟩],k5,rfl,by have := HLEN.out;omega,hk5,HP9,HB9,HO9,HG4,HI4⟩
end Go.Proofs.YtiiicochdidolaaGreat
namespace Go.Proofs.YtiiicochdidolaaGreat
open Go.RowKit
end Go.Proofs.YtiiicochdidolaaGreat
namespace Go.Proofs.YtiiicochdidolaaGreat
open Go.RowKit Go.Maps
theorem factsBad_set' {p : List PRule} {l : List PFact} (h : (setF l).1 ≠ 0) : factsBad p l = setF l := by unfold factsBad;rw [if_pos h]
theorem factsBad_hit {p : List PRule} {l : List PFact} {k : Nat} {f : PFact} (h0 : (setF l).1 = 0) (hx : l[k]? = some f) (hm : misfit p f = true) (hall : ∀ g ∈ l.take k,misfit p g = false) : factsBad p l = (8,(k : Int)) := by
  unfold factsBad
  rw [if_neg (by simpa using h0)]
  obtain ⟨hk,e⟩ := List.getElem?_eq_some_iff.1 hx
  have : l.findIdx? (misfit p) = some k := List.findIdx?_eq_some_iff_getElem.2 ⟨hk,by rw [e];exact hm,fun j hj => by
    rw [hall _ (List.mem_iff_getElem?.2 ⟨j,by rw [List.getElem?_take_of_lt hj];exact List.getElem?_eq_getElem (by omega)⟩)];simp⟩
  rw [this]
theorem factsBad_none {p : List PRule} {l : List PFact} (h0 : (setF l).1 = 0) (hall : ∀ g ∈ l,misfit p g = false) : factsBad p l = (0,0) := by
  unfold factsBad
  rw [if_neg (by simpa using h0),List.findIdx?_eq_none_iff.2 fun x hx => by simp [hall x hx]]
theorem named_size {s : Str} (h : named s = true) : s.size ≤ 12 := Classical.byContradiction fun hn => by
  rw [named_long s (by omega)] at h;cases h
structure FcW (w W : World) (mb n : Nat) (m : Known) : Prop where
  below : Below w.heap.size w W
  out : Blk W w.heap.size 49 #[.int .i64 0,.int .i64 0]
  map : MapI W mb n m
  gt : w.heap.size < mb
section
variable {w W W' : World} {mb n n' : Nat} {m m' : Known}
theorem FcW.next (h : FcW w W mb n m) (hb : Below W.heap.size W W') : FcW w W' mb n m := ⟨h.below.trans (hb.mono h.below.size),h.out.below hb h.out.lt,h.map.below hb h.map.lt,h.gt⟩
theorem FcW.alloc (h : FcW w W mb n m) (o : Obj) : FcW w (W.alloc o) mb n m := h.next ((Below.refl _ _).alloc (Nat.le_refl _) o)
theorem FcW.lt (h : FcW w W mb n m) : mb < W.heap.size := h.map.lt
theorem FcW.grow {row : Option Nat} (h : FcW w W mb n m) (hg : W.grownBy W' row) (hr : ∀ q,row = some q → mb < q) : FcW w W' mb n m :=
  ⟨h.below.grown hg h.below.size (fun q hq => by have := hr q hq;have := h.gt;omega),h.out.grown hg (fun e => by have := hr _ e.symm;have := h.gt;omega),h.map.kept hg (fun e => by have := hr _ e.symm;omega),h.gt⟩
theorem FcW.put (h : FcW w W mb n m) (hg : W.grownBy W' (some mb)) (hm : MapI W' mb n' m') : FcW w W' mb n' m' :=
  ⟨h.below.grown hg h.below.size (fun q hq => by injection hq with e;have := h.gt;omega),h.out.grown hg (fun e => by injection e with e;have := h.gt;omega),hm,h.gt⟩
end
theorem atomsOf_snoc {p : List PRule} {k : Nat} {x : PRule} (h : p[k]? = some x) : atomsOf (p.take (k + 1)) = atomsOf (p.take k) ++ (x.head :: x.body) := by
  unfold atomsOf;rw [List.take_add_one,h,List.flatMap_append];simp
set_option maxRecDepth 100000 in
set_option maxHeartbeats 8000000 in
theorem factsCalls {S S2 : Nat → Prop} (p : List PRule) (v : Value) (fv : Value) (l : List PFact) (w : World) (h : RdRules S w v p) (hf : RdFacts S2 w fv l) (n1 : p.length ≤ 16) (n0 : ∀ r ∈ p,r.body.length ≤ 5) (n2 : ∀ r ∈ p,RuleSmall r) (n3 : ∀ r ∈ p,NameSmall r)
    (n4 : l.length ≤ 1048576) (n5 : ∀ x ∈ l,x.args.length ≤ 1048576) :
    Calls Tryz.prog 75 #[v,fv] w fun e w' => e = .returned (.agg #[.int .i64 (factsBad p l).1,.int .i64 (factsBad p l).2]) ∧ Below w.heap.size w w' := by
  obtain ⟨a,c,rfl,-,-,-⟩ := id h.form
  obtain ⟨fa,fc,rfl,-,-,-⟩ := id hf.form
  have H := Lib.hid h
  have HFA := Lib.hid hf
  have N0 := Lib.hid n0
  have N2 := Lib.hid n2
  have N3 := Lib.hid n3
  have KS := Lib.hid (fun W (hW : Below w.heap.size w W) => setCalls (.slice fa l.length fc) l W (hf.up hW) (by omega) (fun x hx => by have := n5 x hx;omega))
  clear h hf n0 n2 n3
  have HB0 := Lib.hid ((Below.refl w.heap.size w).alloc (Nat.le_refl _) (.cells #[.int .i64 0,.int .i64 0] 49))
  have HK0 := Lib.hid (Blk.new w 49 #[.int .i64 0,.int .i64 0])
  by_cases hz : (setF l).1 = 0
  case neg =>
    have g1 : ((setF l).1 != 0) = true := by simpa using hz
    have HE := Lib.hid (factsBad_set' (p := p) hz)
    clear hz
    generalize setF l = q at *
    obtain ⟨q1,q2⟩ := q
    dsimp only at *
    go_enter Tryz.func75,Tryz.ntmps75
    go_wp2_with (go_at_call 55;refine (KS.out _ HB0.out).mono ?_;rintro e w1 ⟨rfl,hb1⟩;have HB1 := Lib.hid ((HB0.out.trans (hb1.mono (Below.size HB0.out))).alloc (Nat.le_trans (Below.size HB0.out) hb1.size) (.cells #[.int .i64 q1,.int .i64 q2] 49));have HK1 := Lib.hid ((HK0.out.below hb1 HK0.out.lt).alloc (.cells #[.int .i64 q1,.int .i64 q2] 49));have c0 := HK1.out.cell 0;have c1 := HK1.out.cell 1;have f0 := HK1.out.frozen 0;have f1 := HK1.out.frozen 1;simp at c0 c1;clear hb1)
    refine bodyPost_ret (v := .agg #[.int .i64 q1,.int .i64 q2]) (by simp [results,Tryz.results75,go_sem,c0,c1]) rfl ⟨by rw [HE.out],?_⟩
    exact (HB1.out.setCell (Nat.le_refl _) _).setCell (Nat.le_refl _) _
  have hsf : setF l = (0,0) := setF_of (setF_set hz).1 (setF_set hz).2.1 (setF_set hz).2.2
  have HZ := Lib.hid hz
  rw [hsf] at KS
  clear hz hsf
  have hmm := @run_makeMap Tryz.prog
  go_enter Tryz.func75,Tryz.ntmps75
  go_wp2_with (go_at_call 55;refine (KS.out _ HB0.out).mono ?_;rintro e w1 ⟨rfl,hb1⟩;have HB1 := Lib.hid (HB0.out.trans (hb1.mono (Below.size HB0.out)));have HK1 := Lib.hid (HK0.out.below hb1 HK0.out.lt);clear hb1)
  have HW0 := Lib.hid (show FcW w ((w1.alloc (.cells #[.int .i64 0,.int .i64 0] 49)).alloc (.map #[] 0)) (w1.heap.size + 1) 0 (fun _ => none) from
    ⟨(HB1.out.alloc (Below.size HB1.out) _).alloc (by have := Below.size HB1.out;simp;omega) _,(HK1.out.alloc _).alloc _,by
      have hms : (w1.alloc (.cells #[.int .i64 0,.int .i64 0] 49)).heap.size = w1.heap.size + 1 := by simp
      have HM := MapI.made (w1.alloc (.cells #[.int .i64 0,.int .i64 0] 49))
      rw [hms] at HM
      exact HM,by have := HK1.out.lt;omega⟩)
  have hmp := HW0.out.gt
  generalize w1.heap.size + 1 = mb at *
  clear HB0 HK0 HB1 HK1 KS
  go_loopw [24] (fun i wr => ∃ (k n : Nat),k ≤ p.length ∧ i = .int .i64 k ∧ n ≤ k * 6 ∧ Hid (FcW w wr mb n ((atomsOf (p.take k)).foldl arityF fun _ => none))) (fun i _ => p.length - (intOf i).toNat)
  case atStart => exact ⟨0,0,Nat.zero_le _,rfl,Nat.zero_le _,HW0⟩
  case round =>
    clear HW0
    obtain ⟨k,n,hk,rfl,hn,HW⟩ := hrel
    by_cases hlt : k < p.length
    · obtain ⟨x,hx⟩ : ∃ x,p[k]? = some x := ⟨_,List.getElem?_eq_getElem hlt⟩
      have hmem := List.mem_of_getElem? hx
      obtain ⟨b1,o1,tv,bv,rfl,-,hb1,d0,d1,d2,d3,htv,hbv⟩ := RdRules.at H.out hx
      obtain ⟨ta,tc,rfl,-,-,-⟩ := id htv.form
      obtain ⟨ba,bc,rfl,-,-,-⟩ := id hbv.form
      have HRA := Lib.hid (show RuleAt S w b1 (o1 + k * 4) x (.slice ta x.head.terms.length tc) (.slice ba x.body.length bc) from ⟨hb1,d0,d1,d2,d3,htv,hbv⟩)
      have HS := Lib.hid (N2.out x hmem)
      have HN := Lib.hid (N3.out x hmem)
      have hb5 := N0.out x hmem
      have HSN := Lib.hid (atomsOf_snoc hx)
      clear d0 d1 d2 d3
      obtain ⟨-,d0,d1,d2,d3,-,-⟩ := HRA.out.up HW.out.below
      have HW1 := Lib.hid (HW.out.alloc (.cells #[.bool x.head.neg,.string x.head.name,.slice ta x.head.terms.length tc,.slice ba x.body.length bc] 62))
      have hwl := HW.out.lt
      have hwb := HW.out.below.size
      clear hx hmem htv hbv
      go_wp2_with (at_builtin;have HO6 := Lib.hid (Owned.lit (k := 3) (R := RAtom) (B := wr.heap.size + 1) (e := 60) (S := fun q => q < w.heap.size) (w := wr.alloc (.cells #[.bool x.head.neg,.string x.head.name,.slice ta x.head.terms.length tc,.slice ba x.body.length bc] 62)) (l := [x.head]) [[.bool x.head.neg,.string x.head.name,.slice ta x.head.terms.length tc]] #[.bool x.head.neg,.string x.head.name,.slice ta x.head.terms.length tc] rfl (by simp) (by simp) rfl (by simp) (by simp [maxLen]) (fun i c z hc hz => by
              rcases i with _ | i
              · simp at hc hz
                subst hc hz
                exact ⟨_,rfl,((HRA.out.t.more (S' := fun q => q < w.heap.size ∧ some q ≠ some (wr.heap.size + 1)) RTerm.steady (fun q _ hq => ⟨hq,fun e => by injection e with e;omega⟩)).agree RTerm.steady ⟨(HW1.out.alloc _).below.size,fun q hq _ => (HW1.out.alloc _).below.block q hq.1⟩) |> fun hh => by simpa using hh⟩
              · simp at hc));have hq9 : (wr.alloc (.cells #[.bool x.head.neg,.string x.head.name,.slice ta x.head.terms.length tc,.slice ba x.body.length bc] 62)).heap.size = wr.heap.size + 1 := (by simp);rw [hq9] at HO6;clear hq9;refine wpList_append_many (B := wr.heap.size + 1) (e := 60) (S := fun q => q < w.heap.size) (by rfl) _ _ 47 (by rfl) RAtom.steady RAtom.one rowAtoms _ [x.head] (by rfl) HO6.out (.slice ba x.body.length bc) x.body (by rfl) ((HRA.out.b.more (S' := fun q => q < w.heap.size) RAtom.steady (fun q _ hq => hq)).agree RAtom.steady ⟨(HW1.out.alloc _).below.size,fun q hq _ => (HW1.out.alloc _).below.block q hq⟩) (fun cs x' hr => RAtom.steady.more (fun q hq _ => ⟨hq,fun e => by have := (HO6.out.row_lt e.symm).1;omega⟩) hr) (by simp;omega) (by simp) ?_;intro v7 w7 hown7 hg7 hat7;have HO7 := Lib.hid (show Owned 3 RAtom (wr.heap.size + 1) 60 (fun q => q < w.heap.size) w7 v7 (x.head :: x.body) from hown7);have HW7 := Lib.hid ((HW1.out.alloc _).grow hg7 (fun q hq => by have := (HO6.out.row_lt hq).1;omega));obtain ⟨a7,c7,rfl,-,-,-⟩ := id (HO7.out.read RAtom.steady).form;clear hown7 hg7 hat7)
      have HRL := Lib.hid (show RdAtoms (fun b => b < w.heap.size ∨ wr.heap.size + 1 ≤ b) w7 (.slice a7 (x.head :: x.body).length c7) (x.head :: x.body) from HO7.out.read RAtom.steady)
      have HSM := Lib.hid (show ∀ y ∈ x.head :: x.body,y.terms.length ≤ 1048576 ∧ y.name.size ≤ 1048576 from fun y hy => by
        rcases List.mem_cons.1 hy with rfl | hy
        · exact ⟨HS.out.h1,HN.out.h⟩
        · exact ⟨HS.out.b1 y hy,HN.out.b y hy⟩)
      obtain ⟨l2,hl2⟩ : ∃ l2,x.head :: x.body = l2 := ⟨_,rfl⟩
      have hl6 : l2.length ≤ 6 := by rw [← hl2];simp only [List.length_cons];omega
      have hlen2 : (x.head :: x.body).length = l2.length := by rw [hl2]
      rw [hl2] at HRL HSM HSN
      have hlc : x.body.length + 1 = l2.length := by rw [← hl2];rfl
      clear HW1 HW HO6 HO7 d0 d1 d2 d3 hl2
      have HF0 := Lib.hid (show FcW w w7 mb n ((atomsOf (p.take k) ++ l2.take 0).foldl arityF fun _ => none) by simpa using HW7.out)
      have hn0 : n ≤ k * 6 + 0 := hn
      try simp only [List.length_cons] at *
      have hlcI : (x.body.length : Int) + 1 = (l2.length : Int) := by omega
      try rw [hlcI]
      try rw [hlc] at *
      clear hlcI HW7
      go_loopw [35] (fun i wx => ∃ (j n' : Nat),j ≤ l2.length ∧ i = .int .i64 j ∧ n' ≤ k * 6 + j ∧ Hid (FcW w wx mb n' ((atomsOf (p.take k) ++ l2.take j).foldl arityF fun _ => none)) ∧ Hid (RdAtoms (fun b => b < w.heap.size ∨ wr.heap.size + 1 ≤ b) wx (.slice a7 l2.length c7) l2)) (fun i _ => l2.length - (intOf i).toNat)
      case atStart => exact ⟨0,n,Nat.zero_le _,rfl,hn0,HF0,HRL⟩
      case round =>
        clear HF0 HRL hn0 hlc hlen2 hn hk
        obtain ⟨j,n',hj,rfl,hn',HW,HRL⟩ := hrel
        by_cases hlj : j < l2.length
        · obtain ⟨y,hy⟩ : ∃ y,l2[j]? = some y := ⟨_,List.getElem?_eq_getElem hlj⟩
          obtain ⟨b4,o4,yv,rfl,hS4,hb4,e0,e1,e2,hyv⟩ := RdAtoms.at HRL.out hy
          obtain ⟨ya,yc,rfl,-,-,-⟩ := id hyv.form
          obtain ⟨ny1,ny2⟩ := HSM.out y (List.mem_of_getElem? hy)
          have HW6 := Lib.hid (HW.out.alloc (.cells #[.bool y.neg,.string y.name,.slice ya y.terms.length yc] 60))
          have HRL6 := Lib.hid (HRL.out.agree RAtom.steady ((Agree.refl _ _).alloc (.cells #[.bool y.neg,.string y.name,.slice ya y.terms.length yc] 60)))
          have hys : y.name.size ≤ maxLen := by unfold maxLen;omega
          obtain ⟨w8,hput,hm8,hg8⟩ := HW6.out.map.put (by unfold maxLen;omega) (s := y.name) hys (x := (y.terms.length : Int)) (WalkArith.wf_i64 (by omega))
          have HSJ := Lib.hid (show ((atomsOf (p.take k) ++ l2.take (j + 1)).foldl arityF fun _ => none) = fun t => if t = y.name then some (y.terms.length : Int) else ((atomsOf (p.take k) ++ l2.take j).foldl arityF fun _ => none) t by
            rw [List.take_add_one,hy,← List.append_assoc,List.foldl_append];rfl)
          have HW8 := Lib.hid (show FcW w w8 mb (n' + 1) ((atomsOf (p.take k) ++ l2.take (j + 1)).foldl arityF fun _ => none) by rw [HSJ.out];exact HW6.out.put hg8 hm8)
          have HRL8 := Lib.hid (HRL6.out.agree RAtom.steady (w' := w8) ⟨hg8.size,fun b hb hlt => hg8.block b hlt (fun e => by injection e with e;omega)⟩)
          clear hy hyv hm8 hg8 HRL HW HSJ HRL6 HW6
          go_wp2
          go_roundw
          case rel => exact ⟨j + 1,n' + 1,by omega,by go_num,by omega,HW8,HRL8⟩
          case measure => simp [intOf];omega
        · have HW2 := Lib.hid (show FcW w _ mb n' ((atomsOf (p.take (k + 1))).foldl arityF fun _ => none) by
            have h1 := HW.out
            rw [List.take_of_length_le (l := l2) (by omega)] at h1
            rw [HSN.out];exact h1)
          go_wp2
          go_roundw
          case rel => exact ⟨k + 1,n',by omega,by go_num,by omega,HW2⟩
          case measure => simp [intOf];omega
    · rw [List.take_of_length_le (by omega)] at HW
      have HM := Lib.hid (show arityP p = (atomsOf p).foldl arityF fun _ => none from rfl)
      rw [← HM.out] at HW
      clear HM H N0 N2 N3
      go_wp2
      obtain ⟨wo,hwo⟩ : ∃ wo : World,wo = wr := ⟨_,rfl⟩
      subst hwo
      go_loopw [49] (fun i wx => ∃ (j : Nat),j ≤ l.length ∧ i = .int .i64 j ∧ Hid (FcW w wx mb n (arityP p)) ∧ Hid (∀ g ∈ l.take j,misfit p g = false)) (fun i _ => l.length - (intOf i).toNat)
      case atStart => exact ⟨0,Nat.zero_le _,rfl,HW,Lib.hid (by simp)⟩
      case round =>
        clear HW hlt hk hn
        obtain ⟨j,hj,rfl,HW,HA⟩ := hrel
        by_cases hlj : j < l.length
        · obtain ⟨f,hy⟩ : ∃ y,l[j]? = some y := ⟨_,List.getElem?_eq_getElem hlj⟩
          have hfw := (setF_set HZ.out).2.2 f (List.mem_of_getElem? hy)
          have hys : f.name.size ≤ maxLen := by have := named_size (wrongF_zero.1 hfw).1;unfold maxLen;omega
          obtain ⟨b4,o4,av,rfl,-,hb4,e0,e1,hav⟩ := RdFacts.at (HFA.out.up HW.out.below) hy
          obtain ⟨xa,xc,rfl,-,-,-⟩ := id hav.form
          have HW6 := Lib.hid (HW.out.alloc (.cells #[.string f.name,.slice xa f.args.length xc] 38))
          have hget := HW6.out.map.getOk hys
          have HMF := Lib.hid (show misfit p f = match arityP p f.name with | none => false | some k => k != (f.args.length : Int) from rfl)
          have HA1 := Lib.hid (show misfit p f = false → ∀ g ∈ l.take (j + 1),misfit p g = false from fun h g hg => by
            rw [List.take_add_one,hy] at hg
            rcases List.mem_append.1 hg with hg | hg
            · exact HA.out g hg
            · obtain rfl : g = f := by simpa using hg
              exact h)
          have HH := Lib.hid (fun h => factsBad_hit (p := p) HZ.out hy h HA.out)
          clear hy hav hfw
          cases hv : arityP p f.name with
          | none =>
            rw [hv] at hget HMF
            simp only [Option.isSome,Option.getD] at hget
            have HA2 := Lib.hid (HA1.out HMF.out)
            clear hv HA1 HMF HH
            go_wp2
            go_roundw
            case rel => exact ⟨j + 1,by omega,by go_num,HW6,HA2⟩
            case measure => simp [intOf];omega
          | some z =>
            rw [hv] at hget HMF
            simp only [Option.isSome,Option.getD] at hget
            cases hzz : (z != (f.args.length : Int))
            · have HA2 := Lib.hid (HA1.out (HMF.out.trans hzz))
              clear hv HA1 HMF HH
              go_wp2
              go_roundw
              case rel => exact ⟨j + 1,by omega,by go_num,HW6,HA2⟩
              case measure => simp [intOf];omega
            · have HE := Lib.hid (HH.out (HMF.out.trans hzz))
              have c0 := HW6.out.out.cell 0;have c1 := HW6.out.out.cell 1;have f0 := HW6.out.out.frozen 0;have f1 := HW6.out.out.frozen 1
              simp at c0 c1
              clear hv HA1 HMF HH
              go_wp2
              refine bodyPost_ret (v := .agg #[.int .i64 8,.int .i64 j]) (by simp [results,Tryz.results75,go_sem,c0,c1]) rfl ⟨by rw [HE.out],?_⟩
              exact (HW6.out.below.setCell (Nat.le_refl _) _).setCell (Nat.le_refl _) _
        · have HE := Lib.hid (factsBad_none (p := p) HZ.out (by have := HA.out;rwa [List.take_of_length_le (by omega)] at this))
          have c0 := HW.out.out.cell 0;have c1 := HW.out.out.cell 1;have f0 := HW.out.out.frozen 0;have f1 := HW.out.out.frozen 1
          simp at c0 c1
          go_wp2
          refine bodyPost_ret (v := .agg #[.int .i64 0,.int .i64 0]) (by simp [results,Tryz.results75,go_sem,c0,c1]) rfl ⟨by rw [HE.out],?_⟩
          exact (HW.out.below.setCell (Nat.le_refl _) _).setCell (Nat.le_refl _) _
end Go.Proofs.YtiiicochdidolaaGreat
