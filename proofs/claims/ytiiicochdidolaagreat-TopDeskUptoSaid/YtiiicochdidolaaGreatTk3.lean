/-
  THE TEXTS SynW3, Names2, one behind the other.
-/
import Derived.Test.YtiiicochdidolaaGreatTk1
import Derived.Test.YtiiicochdidolaaGreatTk2
import Derived.Deep.DeepCutAuto
import Derived.Deep.RegionLaw
namespace Go.Proofs.YtiiicochdidolaaGreat
open Go.RowKit
def Ends {α : Type} (B : Nat) (s : Str) (w : World) (V : α → Value → World → Prop) (g : Got α) (e : Ending) (w' : World) : Prop :=
  But B w w' ∧ match g with
    | .ok (x,r) => ∃ v,e = .returned v ∧ V x v w' ∧ Ps B s (posF s r) w'
    | .error (er,r) => e = .panicked (oopsV er (posF s r))
section
variable {α : Type} {B : Nat} {s : Str} {w w' : World} {V : α → Value → World → Prop} {g : Got α} {e : Ending}
theorem Ends.ok {x : α} {r : Bytes} (h : Ends B s w V g e w') (hg : g = .ok (x,r)) : But B w w' ∧ ∃ v,e = .returned v ∧ V x v w' ∧ Ps B s (posF s r) w' := by subst hg;exact h
theorem Ends.error {er : Int} {r : Bytes} (h : Ends B s w V g e w') (hg : g = .error (er,r)) : But B w w' ∧ e = .panicked (oopsV er (posF s r)) := by subst hg;exact h
theorem Ends.mk_ok {x : α} {r : Bytes} (hg : g = .ok (x,r)) (hb : But B w w') {v : Value} (he : e = .returned v) (hv : V x v w') (hp : Ps B s (posF s r) w') : Ends B s w V g e w' := by subst hg;exact ⟨hb,v,he,hv,hp⟩
theorem Ends.mk_error {er : Int} {r : Bytes} (hg : g = .error (er,r)) (hb : But B w w') (he : e = .panicked (oopsV er (posF s r))) : Ends B s w V g e w' := by subst hg;exact ⟨hb,he⟩
end
theorem wordCalls (B : Nat) (s : Str) (k : Nat) (w : World) (hs : s.size ≤ 1099511627776) (h : Ps B s k w) :
    Calls Tryz.prog 85 #[.pointer (some ⟨B,0,none⟩)] w fun e w' => Ends B s w (fun x v _ => v = .string x) (wordF (rest s k)) e w' := by
  refine (wordCalls0 B s k w hs h _ _ _ rfl rfl rfl).mono fun e w' ⟨he,hp,hb⟩ => ?_
  have hw : wordF (rest s k) = if wordOf (rest s k) = [] then .error (2,blankF false (rest s k)) else if nameL (wordOf (rest s k)) = false ∧ varL (wordOf (rest s k)) = false then .error (7,blankF false (rest s k)) else .ok (strOf (wordOf (rest s k)),(blankF false (rest s k)).drop (wordOf (rest s k)).length) := rfl
  by_cases h1 : wordOf (rest s k) = []
  · rw [if_pos h1] at hw
    have h1' : (blankF false (rest s k)).takeWhile signB = [] := h1
    rw [if_pos h1',if_neg (by decide)] at he
    exact Ends.mk_error hw hb he
  · rw [if_neg h1] at hw
    have h1' : ¬ (blankF false (rest s k)).takeWhile signB = [] := h1
    rw [if_neg h1'] at he hp
    by_cases h2 : nameL (wordOf (rest s k)) = false ∧ varL (wordOf (rest s k)) = false
    · rw [if_pos h2] at hw
      have h2' : nameL ((blankF false (rest s k)).takeWhile signB) = false ∧ varL ((blankF false (rest s k)).takeWhile signB) = false := h2
      rw [if_pos h2',if_neg (by decide)] at he
      exact Ends.mk_error hw hb he
    · rw [if_neg h2] at hw
      have h2' : ¬ (nameL ((blankF false (rest s k)).takeWhile signB) = false ∧ varL ((blankF false (rest s k)).takeWhile signB) = false) := h2
      rw [if_neg h2',if_pos rfl] at he hp
      exact Ends.mk_ok hw hb he rfl hp
def Blk (w : World) (g : Nat) (t : TypeId) (cs : Array Value) : Prop := w.heap[g]? = some (.cells cs t (0,0))
section
variable {w w' : World} {g : Nat} {t : TypeId} {cs : Array Value}
theorem Blk.lt (h : Blk w g t cs) : g < w.heap.size := (Array.getElem?_eq_some_iff.1 h).1
theorem Blk.cell (h : Blk w g t cs) (i : Nat) : w.cell? ⟨g,i,none⟩ = cs[i]? := cell_of_row w g i cs t (0,0) h
theorem Blk.frozen (h : Blk w g t cs) (i : Nat) : w.frozen? ⟨g,i,none⟩ = false := by
  unfold Blk at h
  simp [World.frozen?,h]
theorem Blk.new (w : World) (t : TypeId) (cs : Array Value) : Blk (w.alloc (.cells cs t)) w.heap.size t cs := heap_alloc_new w _
theorem Blk.drew (h : Blk w g t cs) : Blk w.drew g t cs := h
theorem Blk.alloc (h : Blk w g t cs) (o : Obj) : Blk (w.alloc o) g t cs := (Below.heap_alloc w o g h.lt).trans h
theorem Blk.set_ (h : Blk w g t cs) (i : Nat) (u : Value) : Blk (w.setCell ⟨g,i,none⟩ u) g t (cs.setIfInBounds i u) := by
  unfold Blk at h ⊢
  simp [World.setCell,Array.getElem?_modify,h]
theorem Blk.far (h : Blk w g t cs) {p : Addr} (hp : g ≠ p.block) (u : Value) : Blk (w.setCell p u) g t cs := (Below.heap_setCell w p u g hp).trans h
theorem Blk.below {B : Nat} (h : Blk w g t cs) (hb : Below B w w') (hg : g < B) : Blk w' g t cs := (hb.block g hg).trans h
theorem Blk.grown {row : Option Nat} (h : Blk w g t cs) (hb : w.grownBy w' row) (hg : some g ≠ row) : Blk w' g t cs := (hb.block g h.lt hg).trans h
theorem Blk.but {B : Nat} (h : Blk w g t cs) (hb : But B w w') (hg : g ≠ B) : Blk w' g t cs := (hb.block g h.lt (fun e => hg (Option.some.inj e))).trans h
end
theorem rowTerms : RowT Tryz.prog 58 141 2 := RowT.mk' (b := 24) (z := .agg #[.bool false,.string ⟨#[]⟩]) Tryz.underlying58 (by kernel_rfl) (by omega) rfl (by omega)
def VAtom (w : World) (a : PAtom) (v : Value) (w' : World) : Prop := ∃ tv,v = .agg #[.bool a.neg,.string a.name,tv] ∧ RdTerms (New w) w' tv a.terms
def atomG (nb : Bool) (r2 : Bytes) : Got PAtom :=
  match wordF r2 with
  | .error e => .error e
  | .ok (w,r3) => if variableS w then .error (7,r2) else if eatsF [40] r3 then match termsF 4 [] (eatF [40] r3) with
      | .error e => .error e
      | .ok (ts,r4) => .ok (⟨nb,w,ts⟩,r4)
    else .ok (⟨nb,w,[]⟩,eatF [40] r3)
theorem atomF_eq (no : Bool) (r : Bytes) : atomF no r = atomG (negOf no r) (behindNot no r) := rfl
theorem posF_blank (s : Str) (k : Nat) : rest s (posF s (blankF false (rest s k))) = blankF false (rest s k) := rest_posF ((blankF_suffix false _).trans (rest_suffix s k))
theorem posF_eat (s : Str) (k : Nat) (sign : Bytes) : rest s (posF s (eatF sign (rest s k))) = eatF sign (rest s k) := rest_posF ((eatF_suffix sign _).trans (rest_suffix s k))
theorem wordF_posF {s : Str} {k : Nat} {x : Str} {r : Bytes} (h : wordF (rest s k) = .ok (x,r)) : rest s (posF s r) = r := by
  have := wordF_suffix (rest s k)
  rw [h] at this
  exact rest_posF (List.IsSuffix.trans (l₂ := rest s k) this (rest_suffix s k))
def termsG (nb : Bool) (x : Str) (n : Nat) (acc : List PTerm) (r : Bytes) : Got PAtom := match termsF n acc r with
  | .error e => .error e
  | .ok (ts,r4) => .ok (⟨nb,x,ts⟩,r4)
theorem wordF_size {s : Str} {k : Nat} {x : Str} {r : Bytes} (hs : s.size ≤ 1099511627776) (h : wordF (rest s k) = .ok (x,r)) : x.size ≤ 1099511627776 := by
  unfold wordF at h
  split at h
  · cases h
  · split at h
    · cases h
    · injection h with h
      injection h with h _
      have h1 : (wordOf (rest s k)).length ≤ (blankF false (rest s k)).length := (List.takeWhile_prefix _).length_le
      have h2 := (blankF_suffix false (rest s k)).length_le
      rw [rest_length] at h2
      have h3 : x.size = (wordOf (rest s k)).length := by rw [← h,← bytesOf_length];rfl
      omega
def endG (nb : Bool) (x : Str) (acc : List PTerm) (r : Bytes) : Got PAtom := match mustF [41] r with
  | .error e => .error e
  | .ok (_,r3) => .ok (⟨nb,x,acc⟩,r3)
theorem termsG_ok {nb : Bool} {x y : Str} {n : Nat} {acc : List PTerm} {r r1 : Bytes} (h : wordF r = .ok (y,r1)) :
    termsG nb x (n + 1) acc r = if eatsF [44] r1 then termsG nb x n (acc ++ [⟨variableS y,y⟩]) (eatF [44] r1) else endG nb x (acc ++ [⟨variableS y,y⟩]) (eatF [44] r1) := by
  unfold termsG
  rw [termsF,h]
  dsimp only
  cases eatsF [44] r1
  · simp only [Bool.false_eq_true,if_false]
    unfold endG
    rcases mustF [41] (eatF [44] r1) with e | ⟨u,r3⟩ <;> rfl
  · simp only [if_true]
def AtomCut (B : Nat) (s : Str) (k : Nat) (w : World) (N1 : Nat) (nb : Bool) (x : Str) (acc : List PTerm) (wx : World) : Prop :=
  ∃ tv,Ps B s k wx ∧ But B w wx ∧ Blk wx w.heap.size 60 #[.bool false,.string ⟨#[]⟩,.slice none 0 0] ∧ Blk wx N1 60 #[.bool nb,.string x,tv] ∧ Owned 2 RTerm (N1 + 1) 141 (fun _ => False) wx tv acc
theorem Owned.but {α : Type} {k : Nat} {R : Reader α} {B C : Nat} {e : TypeId} {w w' : World} {v : Value} {l : List α} (h : Owned k R B e (fun _ => False) w v l) (hR : Steady R) (hb : But C w w') (hC : C < B) : Owned k R B e (fun _ => False) w' v l :=
  h.keep hR ⟨hb.size,fun _ h => h.elim⟩ fun g hg => hb.block g (h.row_lt hg).2 (fun e => by have := (h.row_lt hg).1;have := Option.some.inj e;omega)
theorem But.row {B : Nat} {a w w' : World} {row : Option Nat} (h : But B a w) (hg : w.grownBy w' row) (hr : ∀ q,row = some q → a.heap.size ≤ q) : But B a w' :=
  ⟨h.os ▸ hg.os ▸ rfl,h.tape ▸ hg.tape ▸ rfl,h.output ▸ hg.output ▸ rfl,Nat.le_trans h.size hg.size,fun i hi hne => (hg.block i (Nat.lt_of_lt_of_le hi h.size) (fun e => by have := hr i e.symm;omega)).trans (h.block i hi hne)⟩
attribute [local go_sem ↓] Go.wp_at_zero Go.wp_at_succ
set_option maxRecDepth 100000 in
set_option maxHeartbeats 8000000 in
theorem atomCalls (B : Nat) (s : Str) (k : Nat) (no : Bool) (w : World) (hs : s.size ≤ 1048576) (h : Ps B s k w) :
    Calls Tryz.prog 52 #[.pointer (some ⟨B,0,none⟩),.bool no] w fun e w' => Ends B s w (VAtom w) (atomF no (rest s k)) e w' := by
  have hBw := h.lt
  have HP0 := Lib.hid h
  have hs' : s.size ≤ 1099511627776 := by omega
  clear h
  obtain ⟨nb,HNB⟩ : ∃ nb,Hid (negOf no (rest s k) = nb) := ⟨_,Lib.hid rfl⟩
  obtain ⟨g,HG⟩ : ∃ g,Hid (atomF no (rest s k) = g) := ⟨_,Lib.hid rfl⟩
  rw [HG.out]
  have HR := Lib.hid (show g = atomG nb (behindNot no (rest s k)) by rw [← HG.out,← HNB.out];exact atomF_eq no (rest s k))
  clear HG
  cases no
  · obtain rfl : nb = false := HNB.out.symm
    go_enter Tryz.func52,Tryz.ntmps52
    go_wp2_with fail
    refine (blankCalls B s k _ hs' ((HP0.out.alloc (.cells #[.bool false,.string ⟨#[]⟩,.slice none 0 0] 60)).alloc (.cells #[.bool false,.string ⟨#[]⟩,.slice none 0 0] 60))).mono ?_
    rintro e w3 ⟨rfl,hp,hb⟩
    have HP := Lib.hid hp
    have HB := Lib.hid ((((But.refl B w).alloc (.cells #[.bool false,.string ⟨#[]⟩,.slice none 0 0] 60)).alloc (.cells #[.bool false,.string ⟨#[]⟩,.slice none 0 0] 60)).trans hb)
    have HN0 := Lib.hid (((Blk.new w 60 #[.bool false,.string ⟨#[]⟩,.slice none 0 0]).alloc (.cells #[.bool false,.string ⟨#[]⟩,.slice none 0 0] 60)).but hb (by omega))
    have HN1 := Lib.hid (show Blk w3 (w.heap.size + 1) 60 #[.bool false,.string ⟨#[]⟩,.slice none 0 0] from (show Blk ((w.alloc (.cells #[.bool false,.string ⟨#[]⟩,.slice none 0 0] 60)).alloc (.cells #[.bool false,.string ⟨#[]⟩,.slice none 0 0] 60)) (w.heap.size + 1) 60 #[.bool false,.string ⟨#[]⟩,.slice none 0 0] from heap_new_at (by simp)).but hb (by omega))
    have hlt : w.heap.size < w.heap.size + 1 := by omega
    have HK := Lib.hid (show rest s (posF s (blankF false (rest s k))) = behindNot false (rest s k) from posF_blank s k)
    have hk := posF_le s (blankF false (rest s k))
    clear hp hb
    generalize posF s (blankF false (rest s k)) = k2 at *
    generalize w.heap.size + 1 = N1 at *
    rw [← HK.out] at HR
    clear HK HP0 HNB
    have c1 := HP.out.c1
    have hf1 := HP.out.f 1
    have hBN : B ≠ N1 := by omega
    have hNB : N1 ≠ B := by omega
    have hBN0 : B ≠ w.heap.size := by omega
    have hNN : w.heap.size ≠ N1 := by omega
    rcases hw : wordF (rest s k2) with ⟨er,r'⟩ | ⟨x,r3⟩
    · have HW := Lib.hid hw
      clear hw
      have HE := Lib.hid (show g = .error (er,r') by rw [HR.out];unfold atomG;rw [HW.out])
      go_wp2_with (go_at_call 85;refine (wordCalls B s k2 _ hs' HP.out).mono ?_;rintro e w4 h4;obtain ⟨hb4,rfl⟩ := h4.error HW.out;have HB4 := Lib.hid (HB.out.trans hb4);clear h4 hb4)
      exact ⟨rfl,Ends.mk_error HE.out HB4.out rfl⟩
    have HW := Lib.hid hw
    have HK4 := Lib.hid (wordF_posF hw)
    have hk4 := posF_le s r3
    have HX := Lib.hid (show x.size ≤ 1099511627776 from wordF_size hs' hw)
    clear hw
    obtain ⟨k4,hk4'⟩ : ∃ j,posF s r3 = j := ⟨_,rfl⟩
    rw [hk4'] at HK4 hk4
    have HJ4 := Lib.hid hk4'
    clear hk4'
    have WORD : Hid (∀ W,Ps B s k2 W → Calls Tryz.prog 85 #[.pointer (some ⟨B,0,none⟩)] W fun e w' => But B W w' ∧ e = .returned (.string x) ∧ Ps B s k4 w') := Lib.hid fun W hp => (wordCalls B s k2 W hs' hp).mono fun e w' h4 => by
      obtain ⟨hb4,v,rfl,rfl,hp4⟩ := h4.ok HW.out
      rw [HJ4.out] at hp4
      exact ⟨hb4,rfl,hp4⟩
    cases hv : variableS x
    rotate_left
    · have HE := Lib.hid (show g = .error (7,rest s k2) by rw [HR.out];unfold atomG;rw [HW.out];show (if variableS x then _ else _) = _;rw [hv];rfl)
      have KV := Lib.hid (fun W => variableCalls x W HX.out)
      rw [hv] at KV
      clear hv
      go_wp2_with (first
        | (go_at_call 85;refine (WORD.out _ HP.out).mono ?_;rintro e w4 ⟨hb4,rfl,hp4⟩;have HP4 := Lib.hid hp4;have HB4 := Lib.hid (HB.out.trans hb4);have HM1 := Lib.hid (HN1.out.but hb4 hNB);have d1 : w4.cell? ⟨N1,1,none⟩ = some (.string ⟨#[]⟩) := HM1.out.cell 1;have x1 := HM1.out.frozen 1;have c1' := hp4.c1;have hf1' := hp4.f 1;clear hb4 hp4)
        | (go_at_call 86;refine (KV.out _).mono ?_;rintro e w5 ⟨rfl,rfl⟩)
        | (go_at_call 26;refine (failCalls B s k2 7 _ ((HP4.out.far (p := ⟨N1,1,none⟩) hBN _).set hk)).mono ?_;rintro e w6 ⟨rfl,rfl⟩))
      exact ⟨rfl,Ends.mk_error HE.out ((HB4.out.setCell (.inr (Nat.le_of_lt hlt)) _).setCell (.inl rfl) _) (by rw [posF_rest s hk])⟩
    have KV := Lib.hid (fun W => variableCalls x W HX.out)
    rw [hv] at KV
    have HR4 := Lib.hid (show g = if eatsF [40] (rest s k4) then termsG false x 4 [] (eatF [40] (rest s k4)) else .ok (⟨false,x,[]⟩,eatF [40] (rest s k4)) by
      rw [HR.out];unfold atomG;rw [HW.out];show (if variableS x then _ else _) = _;rw [hv,HK4.out];rfl)
    clear hv HR
    have hk5 := posF_le s (eatF [40] (rest s k4))
    have HK5 := Lib.hid (posF_eat s k4 [40])
    obtain ⟨k5,hk5'⟩ : ∃ j,posF s (eatF [40] (rest s k4)) = j := ⟨_,rfl⟩
    have EAT : Hid (∀ W,Ps B s k4 W → Calls Tryz.prog 53 #[.pointer (some ⟨B,0,none⟩),.string ⟨#[40]⟩] W fun e w' => e = .returned (.bool (eatsF [40] (rest s k4))) ∧ Ps B s k5 w' ∧ But B W w') := Lib.hid fun W hp => by
      have := eatCalls B s k4 ⟨#[40]⟩ W hs' (by decide) hp
      rw [← hk5']
      exact this
    rw [hk5'] at HK5 hk5
    have HJ5 := Lib.hid hk5'
    clear hk5'
    cases he : eatsF [40] (rest s k4)
    · rw [he,if_neg (by simp)] at HR4
      rw [he] at EAT
      have HE := HR4
      clear he HR4
      go_wp2_with (first
        | (go_at_call 85;refine (WORD.out _ HP.out).mono ?_;rintro e w4 ⟨hb4,rfl,hp4⟩;have HP4 := Lib.hid hp4;have HB4 := Lib.hid (HB.out.trans hb4);have HM1 := Lib.hid (HN1.out.but hb4 hNB);have HM0 := Lib.hid (HN0.out.but hb4 hBN0.symm);have d1 : w4.cell? ⟨N1,1,none⟩ = some (.string ⟨#[]⟩) := HM1.out.cell 1;have x1 := HM1.out.frozen 1;clear hb4 hp4)
        | (go_at_call 86;refine (KV.out _).mono ?_;rintro e w5 ⟨rfl,rfl⟩)
        | (go_at_call 53;refine (EAT.out _ (HP4.out.far (p := ⟨N1,1,none⟩) hBN _)).mono ?_;rintro e w6 ⟨rfl,hp6,hb6⟩;have PW := Lib.hid hp6;have HBW := Lib.hid ((HB4.out.setCell (p := ⟨N1,1,none⟩) (.inr (Nat.le_of_lt hlt)) (.string x)).trans hb6);have NN1 := Lib.hid (show Blk w6 N1 60 #[.bool false,.string x,.slice none 0 0] from (HM1.out.set_ 1 (.string x)).but hb6 hNB);have N0 := Lib.hid ((HM0.out.far (p := ⟨N1,1,none⟩) hNN (.string x)).but hb6 hBN0.symm);clear hp6 hb6 d1 x1;have e0 : w6.cell? ⟨w.heap.size,0,none⟩ = some (.bool false) := N0.out.cell 0;have e1 : w6.cell? ⟨w.heap.size,1,none⟩ = some (.string ⟨#[]⟩) := N0.out.cell 1;have e2 : w6.cell? ⟨w.heap.size,2,none⟩ = some (.slice none 0 0) := N0.out.cell 2;have x0 := N0.out.frozen 0;have x1 := N0.out.frozen 1;have x2 := N0.out.frozen 2;have d0 : w6.cell? ⟨N1,0,none⟩ = some (.bool false) := NN1.out.cell 0;have d1 : w6.cell? ⟨N1,1,none⟩ = some (.string x) := NN1.out.cell 1;have d2 : w6.cell? ⟨N1,2,none⟩ = some (.slice none 0 0) := NN1.out.cell 2))
      refine bodyPost_ret (v := .agg #[.bool false,.string x,.slice none 0 0]) (by simp [results,Tryz.results52,go_sem,e0,e1,e2]) rfl ?_
      exact Ends.mk_ok HE.out (((HBW.out.setCell (.inr (Nat.le_refl _)) _).setCell (.inr (Nat.le_refl _)) _).setCell (.inr (Nat.le_refl _)) _) rfl ⟨_,rfl,RdSlice.nothing (Nat.zero_le _) (fun _ => rfl)⟩ (by rw [HJ5.out];exact ((PW.out.far (p := ⟨w.heap.size,0,none⟩) hBN0 _).far (p := ⟨w.heap.size,1,none⟩) hBN0 _).far (p := ⟨w.heap.size,2,none⟩) hBN0 _)
    rw [he,if_pos rfl] at HR4
    rw [he] at EAT
    rw [← HK5.out] at HR4
    clear he
    go_wp2_with (first
      | (go_at_call 85;refine (WORD.out _ HP.out).mono ?_;rintro e w4 ⟨hb4,rfl,hp4⟩;have HP4 := Lib.hid hp4;have HB4 := Lib.hid (HB.out.trans hb4);have HM1 := Lib.hid (HN1.out.but hb4 hNB);have HM0 := Lib.hid (HN0.out.but hb4 hBN0.symm);have d1 : w4.cell? ⟨N1,1,none⟩ = some (.string ⟨#[]⟩) := HM1.out.cell 1;have x1 := HM1.out.frozen 1;clear hb4 hp4)
      | (go_at_call 86;refine (KV.out _).mono ?_;rintro e w5 ⟨rfl,rfl⟩)
      | (go_at_call 53;refine (EAT.out _ (HP4.out.far (p := ⟨N1,1,none⟩) hBN _)).mono ?_;rintro e w6 ⟨rfl,hp6,hb6⟩;have PW := Lib.hid hp6;have HBW := Lib.hid ((HB4.out.setCell (p := ⟨N1,1,none⟩) (.inr (Nat.le_of_lt hlt)) (.string x)).trans hb6);have NN1 := Lib.hid (show Blk w6 N1 60 #[.bool false,.string x,.slice none 0 0] from (HM1.out.set_ 1 (.string x)).but hb6 hNB);have N0 := Lib.hid ((HM0.out.far (p := ⟨N1,1,none⟩) hNN (.string x)).but hb6 hBN0.symm);clear hp6 hb6 d1 x1))
    clear c1 hf1 HP HB HN0 HN1 HP4 HB4 HM1 HM0 HW HK4 HJ4 WORD KV EAT HK5 HJ5
    go_loopg [7] 5 (fun gk _ wr => ∃ (n : Nat) (acc : List PTerm) (tv : Value) (j : Nat),gk = n + 1 ∧ acc.length + n = 4 ∧ j ≤ s.size ∧ Hid (Ps B s j wr) ∧ Hid (But B w wr) ∧ Hid (Blk wr w.heap.size 60 #[.bool false,.string ⟨#[]⟩,.slice none 0 0]) ∧ Hid (Blk wr N1 60 #[.bool false,.string x,tv]) ∧ Hid (Owned 2 RTerm (N1 + 1) 141 (fun _ => False) wr tv acc) ∧ Hid (g = termsG false x n acc (rest s j)))
    case atStart => exact ⟨4,[],_,k5,rfl,rfl,hk5,PW,HBW,N0,NN1,Lib.hid Owned.nil,HR4⟩
    case round =>
      obtain ⟨n,acc,tv,j,rfl,hn,hj,PW,HBW,N0,NN1,HO,HR⟩ := hrel
      obtain ⟨ta,tc,rfl,-,-,-⟩ := id (HO.out.read RTerm.steady).form
      have d2 : wr.cell? ⟨N1,2,none⟩ = some (.slice ta acc.length tc) := NN1.out.cell 2
      cases n with
      | zero =>
        have e4 : ((acc.length : Int) == 4) = true := beq_iff_eq.2 (by omega)
        have HE := Lib.hid (show g = .error (5,rest s j) from HR.out)
        go_wp2_with (go_at_call 26;refine (failCalls B s j 5 _ PW.out).mono ?_;rintro e w7 ⟨rfl,rfl⟩)
        exact ⟨rfl,Ends.mk_error HE.out HBW.out (by rw [posF_rest s hj])⟩
      | succ n =>
        have e4 : ((acc.length : Int) == 4) = false := beq_eq_false_iff_ne.2 (by omega)
        rcases hw : wordF (rest s j) with ⟨er,r'⟩ | ⟨y,r3⟩
        · have HE := Lib.hid (show g = .error (er,r') by rw [HR.out];unfold termsG termsF;rw [hw])
          have HW := Lib.hid hw
          clear hw
          go_wp2_with (go_at_call 85;refine (wordCalls B s j _ hs' PW.out).mono ?_;rintro e w7 h7;obtain ⟨hb7,rfl⟩ := h7.error HW.out;have HB7 := Lib.hid (HBW.out.trans hb7);clear h7 hb7)
          exact ⟨rfl,Ends.mk_error HE.out HB7.out rfl⟩
        have HK4 := Lib.hid (wordF_posF hw)
        have hk4 := posF_le s r3
        have HX := Lib.hid (show y.size ≤ 1099511627776 from wordF_size hs' hw)
        obtain ⟨k4,hk4'⟩ : ∃ j,posF s r3 = j := ⟨_,rfl⟩
        obtain ⟨vb,hvb⟩ : ∃ vb,variableS y = vb := ⟨_,rfl⟩
        have HR4 := Lib.hid (show g = if eatsF [44] (rest s k4) then termsG false x n (acc ++ [⟨vb,y⟩]) (eatF [44] (rest s k4)) else endG false x (acc ++ [⟨vb,y⟩]) (eatF [44] (rest s k4)) by
          rw [HR.out,termsG_ok hw,hvb,← hk4',HK4.out])
        have KV := Lib.hid (fun W => variableCalls y W HX.out)
        rw [hvb] at KV
        have HW := Lib.hid hw
        rw [hk4'] at HK4 hk4
        have HJ4 := Lib.hid hk4'
        clear hw hvb hk4'
        have WORD : Hid (∀ W,Ps B s j W → Calls Tryz.prog 85 #[.pointer (some ⟨B,0,none⟩)] W fun e w' => But B W w' ∧ e = .returned (.string y) ∧ Ps B s k4 w') := Lib.hid fun W hp => (wordCalls B s j W hs' hp).mono fun e w' h4 => by
          obtain ⟨hb4,v,rfl,rfl,hp4⟩ := h4.ok HW.out
          rw [HJ4.out] at hp4
          exact ⟨hb4,rfl,hp4⟩
        have hk5 := posF_le s (eatF [44] (rest s k4))
        have HK5 := Lib.hid (posF_eat s k4 [44])
        obtain ⟨k5,hk5'⟩ : ∃ j,posF s (eatF [44] (rest s k4)) = j := ⟨_,rfl⟩
        have EAT : Hid (∀ W,Ps B s k4 W → Calls Tryz.prog 53 #[.pointer (some ⟨B,0,none⟩),.string ⟨#[44]⟩] W fun e w' => e = .returned (.bool (eatsF [44] (rest s k4))) ∧ Ps B s k5 w' ∧ But B W w') := Lib.hid fun W hp => by
          have := eatCalls B s k4 ⟨#[44]⟩ W hs' (by decide) hp
          rw [← hk5']
          exact this
        rw [hk5'] at HK5 hk5
        rw [← HK5.out] at HR4
        clear hk5' HR HW HJ4
        go_wp2_with (go_at_call 85;refine (WORD.out _ PW.out).mono ?_;rintro e w4 ⟨hb4,rfl,hp4⟩;have HP4 := Lib.hid hp4;have HB4 := Lib.hid (HBW.out.trans hb4);have HM1 := Lib.hid (NN1.out.but hb4 hNB);have HM0 := Lib.hid (N0.out.but hb4 hBN0.symm);have HO4 := Lib.hid (HO.out.but RTerm.steady hb4 (by omega));have d2' : w4.cell? ⟨N1,2,none⟩ = some (.slice ta acc.length tc) := HM1.out.cell 2;clear hb4 hp4)
        clear HO NN1 N0 PW HBW WORD d2
        have hN4 : N1 < w4.heap.size := HM1.out.lt
        have hne := World.new_ne w4 ⟨N1,2,none⟩ d2'
        have HLEN := Lib.hid (show (acc ++ [(⟨vb,y⟩ : PTerm)]).length = acc.length + 1 by simp)
        go_cut [] (fun wx => AtomCut B s k4 w N1 false x (acc ++ [⟨vb,y⟩]) wx)
        case first =>
          go_region_law (first
            | (go_simp;go_at_call 86;refine (KV.out _).mono ?_;rintro e w5 ⟨rfl,rfl⟩)
            | (refine step_append_one (by rfl) _ _ 58 (by rfl) RTerm.steady rowTerms _ acc (by rfl) ((HO4.out.drew RTerm.steady).alloc RTerm.steady _) _ 1 #[.bool vb,.string y] 141 (0,0) ⟨vb,y⟩ (by rfl) (heap_alloc_new _ _) rfl (by simp [Value.oneCell']) rfl (by omega) (by simp;omega) ?_;intro v6 w6 hown6 hg6 hat6;have HO6 := Lib.hid hown6;have HM6 := Lib.hid ((HM1.out.drew.alloc (.cells #[.bool vb,.string y] 141)).grown hg6 (fun e => by have := (HO4.out.row_lt e.symm).1;omega));have HM06 := Lib.hid ((HM0.out.drew.alloc (.cells #[.bool vb,.string y] 141)).grown hg6 (fun e => by have := (HO4.out.row_lt e.symm).1;omega));have HP6 := Lib.hid ((HP4.out.drew.alloc (.cells #[.bool vb,.string y] 141)).grown hg6 (fun e => by have := (HO4.out.row_lt e.symm).1;omega));have HB6 := Lib.hid ((HB4.out.drew.alloc (.cells #[.bool vb,.string y] 141)).row hg6 (fun q hq => by have := (HO4.out.row_lt hq).1;omega));have x6 := HM6.out.frozen 2;have d6 : w6.cell? ⟨N1,2,none⟩ = some (.slice ta acc.length tc) := HM6.out.cell 2;obtain ⟨a6,c6,rfl,-,-,-⟩ := id (HO6.out.read RTerm.steady).form;clear hown6 hg6 hat6))
          all_goals
            go_wp2_with fail
            go_meet
            have HQ6 := HO6.out
            rw [HLEN.out] at HQ6
            exact ⟨_,HP6.out.far (p := ⟨N1,2,none⟩) hBN _,HB6.out.setCell (p := ⟨N1,2,none⟩) (.inr (Nat.le_of_lt hlt)) _,HM06.out.far (p := ⟨N1,2,none⟩) hNN _,HM6.out.set_ 2 _,HQ6.setCell RTerm.steady (p := ⟨N1,2,none⟩) (fun h => h) (fun e => Nat.not_succ_le_self _ (HQ6.row_lt e).1) _⟩
        clear hne hN4 d2' KV HM1 HM0 HP4 HB4 HO4
        obtain ⟨tv7,HP7,HB7,HM07,HM7,HO7⟩ := hcut
        replace HP7 := Lib.hid HP7
        replace HB7 := Lib.hid HB7
        replace HM7 := Lib.hid HM7
        replace HM07 := Lib.hid HM07
        replace HO7 := Lib.hid HO7
        obtain ⟨a6,c6,rfl,-,-,-⟩ := id (HO7.out.read RTerm.steady).form
        generalize acc ++ [(⟨vb,y⟩ : PTerm)] = acc2 at *
        cases he : eatsF [44] (rest s k4)
        · rw [he,if_neg (by simp)] at HR4
          rw [he] at EAT
          clear he
          have hm : eatsF [41] (rest s k5) = true ∨ eatsF [41] (rest s k5) = false := by cases eatsF [41] (rest s k5) <;> simp
          have MUST := Lib.hid (fun W hp => mustCalls B s k5 ⟨#[41]⟩ W hs' (by decide) hp)
          rcases hm with hm | hm
          · have HE := Lib.hid (show g = .ok (⟨false,x,acc2⟩,eatF [41] (rest s k5)) by rw [HR4.out];unfold endG mustF;rw [hm];rfl)
            have MU : Hid (∀ W,Ps B s k5 W → Calls Tryz.prog 87 #[.pointer (some ⟨B,0,none⟩),.string ⟨#[41]⟩] W fun e w' => e = .returned (.tuple #[]) ∧ Ps B s (posF s (eatF [41] (rest s k5))) w' ∧ But B W w') := Lib.hid fun W hp => (MUST.out W hp).mono fun e w' ⟨he,hp',hb'⟩ => ⟨by rw [he];exact if_pos hm,hp',hb'⟩
            clear hm MUST HR4
            go_wp2_with (first
              | (go_at_call 53;refine (EAT.out _ HP7.out).mono ?_;rintro e w8 ⟨rfl,hp8,hb8⟩;have HP8 := Lib.hid hp8;have HB8 := Lib.hid (HB7.out.trans hb8);have HM8 := Lib.hid (HM7.out.but hb8 hNB);have HM08 := Lib.hid (HM07.out.but hb8 hBN0.symm);have HO8 := Lib.hid (HO7.out.but RTerm.steady hb8 (by omega));clear hp8 hb8)
              | (go_at_call 87;refine (MU.out _ HP8.out).mono ?_;rintro e w9 ⟨rfl,hp9,hb9⟩;have PW := Lib.hid hp9;have HBW := Lib.hid (HB8.out.trans hb9);have NN1 := Lib.hid (HM8.out.but hb9 hNB);have N0 := Lib.hid (HM08.out.but hb9 hBN0.symm);have HO9 := Lib.hid (HO8.out.but RTerm.steady hb9 (by omega));clear hp9 hb9;have e0 : w9.cell? ⟨w.heap.size,0,none⟩ = some (.bool false) := N0.out.cell 0;have e1 : w9.cell? ⟨w.heap.size,1,none⟩ = some (.string ⟨#[]⟩) := N0.out.cell 1;have e2 : w9.cell? ⟨w.heap.size,2,none⟩ = some (.slice none 0 0) := N0.out.cell 2;have x0 := N0.out.frozen 0;have x1 := N0.out.frozen 1;have x2 := N0.out.frozen 2;have d0 : w9.cell? ⟨N1,0,none⟩ = some (.bool false) := NN1.out.cell 0;have d1 : w9.cell? ⟨N1,1,none⟩ = some (.string x) := NN1.out.cell 1;have d2 : w9.cell? ⟨N1,2,none⟩ = some (.slice a6 acc2.length c6) := NN1.out.cell 2))
            refine bodyPost_ret (v := .agg #[.bool false,.string x,.slice a6 acc2.length c6]) (by simp [results,Tryz.results52,go_sem,e0,e1,e2]) rfl ?_
            exact Ends.mk_ok HE.out (((HBW.out.setCell (.inr (Nat.le_refl _)) _).setCell (.inr (Nat.le_refl _)) _).setCell (.inr (Nat.le_refl _)) _) rfl ⟨_,rfl,((((HO9.out.setCell RTerm.steady (p := ⟨w.heap.size,0,none⟩) (fun h => h) (fun e => by have := (HO9.out.row_lt e).1;simp at this;omega) _).setCell RTerm.steady (p := ⟨w.heap.size,1,none⟩) (fun h => h) (fun e => by have := (HO9.out.row_lt e).1;simp at this;omega) _).setCell RTerm.steady (p := ⟨w.heap.size,2,none⟩) (fun h => h) (fun e => by have := (HO9.out.row_lt e).1;simp at this;omega) _).read RTerm.steady).more RTerm.steady (fun b hb _ => by show w.heap.size ≤ b;rcases hb with hb | hb;exact hb.elim;omega)⟩ (by exact ((PW.out.far (p := ⟨w.heap.size,0,none⟩) hBN0 _).far (p := ⟨w.heap.size,1,none⟩) hBN0 _).far (p := ⟨w.heap.size,2,none⟩) hBN0 _)
          · have HE := Lib.hid (show g = .error (2,eatF [41] (rest s k5)) by rw [HR4.out];unfold endG mustF;rw [hm];rfl)
            have MU : Hid (∀ W,Ps B s k5 W → Calls Tryz.prog 87 #[.pointer (some ⟨B,0,none⟩),.string ⟨#[41]⟩] W fun e w' => e = .panicked (oopsV 2 (posF s (eatF [41] (rest s k5)))) ∧ But B W w') := Lib.hid fun W hp => (MUST.out W hp).mono fun e w' ⟨he,hp',hb'⟩ => ⟨by rw [he];exact if_neg (by show ¬ eatsF [41] (rest s k5) = true;rw [hm];simp),hb'⟩
            clear hm MUST HR4
            go_wp2_with (first
              | (go_at_call 53;refine (EAT.out _ HP7.out).mono ?_;rintro e w8 ⟨rfl,hp8,hb8⟩;have HP8 := Lib.hid hp8;have HB8 := Lib.hid (HB7.out.trans hb8);clear hp8 hb8)
              | (go_at_call 87;refine (MU.out _ HP8.out).mono ?_;rintro e w9 ⟨rfl,hb9⟩;have HB9 := Lib.hid (HB8.out.trans hb9);clear hb9))
            exact ⟨rfl,Ends.mk_error HE.out HB9.out rfl⟩
        · rw [he,if_pos rfl] at HR4
          rw [he] at EAT
          clear he
          go_wp2_with (go_at_call 53;refine (EAT.out _ HP7.out).mono ?_;rintro e w8 ⟨rfl,hp8,hb8⟩;have HP8 := Lib.hid hp8;have HB8 := Lib.hid (HB7.out.trans hb8);have HM8 := Lib.hid (HM7.out.but hb8 hNB);have HM08 := Lib.hid (HM07.out.but hb8 hBN0.symm);have HO8 := Lib.hid (HO7.out.but RTerm.steady hb8 (by omega));clear hp8 hb8)
          go_roundg (n + 1)
          case measure => omega
          case rel => exact ⟨n,acc2,_,k5,rfl,by have := HLEN.out;omega,hk5,HP8,HB8,HM08,HM8,HO8,HR4⟩
  · have KE := Lib.hid (show ∀ W,Ps B s k W → Calls Tryz.prog 53 #[.pointer (some ⟨B,0,none⟩),.string ⟨#[33]⟩] W fun e w' => e = .returned (.bool nb) ∧ Ps B s (posF s (eatF [33] (rest s k))) w' ∧ But B W w' from fun W hp => by
      have := eatCalls B s k ⟨#[33]⟩ W hs' (by decide) hp
      rw [show eatsF (bytesOf ⟨#[33]⟩) (rest s k) = nb from HNB.out] at this
      exact this)
    have HK := Lib.hid (show rest s (posF s (blankF false (rest s (posF s (eatF [33] (rest s k)))))) = behindNot true (rest s k) by rw [posF_blank,posF_eat];rfl)
    have hk := posF_le s (blankF false (rest s (posF s (eatF [33] (rest s k)))))
    generalize posF s (eatF [33] (rest s k)) = k1 at *
    go_enter Tryz.func52,Tryz.ntmps52
    go_wp2_with (go_at_call 53;refine (KE.out _ (HP0.out.alloc (.cells #[.bool false,.string ⟨#[]⟩,.slice none 0 0] 60))).mono ?_;rintro e w2 ⟨rfl,hp2,hb2⟩;have HP2 := Lib.hid hp2;have HB2 := Lib.hid (((But.refl B w).alloc (.cells #[.bool false,.string ⟨#[]⟩,.slice none 0 0] 60)).trans hb2);have HN2 := Lib.hid ((Blk.new w 60 #[.bool false,.string ⟨#[]⟩,.slice none 0 0]).but hb2 (by omega));clear hp2 hb2)
    refine (blankCalls B s k1 _ hs' (HP2.out.alloc (.cells #[.bool nb,.string ⟨#[]⟩,.slice none 0 0] 60))).mono ?_
    rintro e w3 ⟨rfl,hp,hb⟩
    have HP := Lib.hid hp
    have HB := Lib.hid ((HB2.out.alloc (.cells #[.bool nb,.string ⟨#[]⟩,.slice none 0 0] 60)).trans hb)
    have HN0 := Lib.hid ((HN2.out.alloc (.cells #[.bool nb,.string ⟨#[]⟩,.slice none 0 0] 60)).but hb (by omega))
    have HN1 := Lib.hid ((Blk.new w2 60 #[.bool nb,.string ⟨#[]⟩,.slice none 0 0]).but hb (by have := HP2.out.lt;omega))
    have hlt : w.heap.size < w2.heap.size := HN2.out.lt
    clear hp hb
    generalize posF s (blankF false (rest s k1)) = k2 at *
    generalize w2.heap.size = N1 at *
    rw [← HK.out] at HR
    clear HK HP0 HNB HP2 HB2 HN2
    have c1 := HP.out.c1
    have hf1 := HP.out.f 1
    have hBN : B ≠ N1 := by omega
    have hNB : N1 ≠ B := by omega
    have hBN0 : B ≠ w.heap.size := by omega
    have hNN : w.heap.size ≠ N1 := by omega
    rcases hw : wordF (rest s k2) with ⟨er,r'⟩ | ⟨x,r3⟩
    · have HW := Lib.hid hw
      clear hw
      have HE := Lib.hid (show g = .error (er,r') by rw [HR.out];unfold atomG;rw [HW.out])
      go_wp2_with (go_at_call 85;refine (wordCalls B s k2 _ hs' HP.out).mono ?_;rintro e w4 h4;obtain ⟨hb4,rfl⟩ := h4.error HW.out;have HB4 := Lib.hid (HB.out.trans hb4);clear h4 hb4)
      exact ⟨rfl,Ends.mk_error HE.out HB4.out rfl⟩
    have HW := Lib.hid hw
    have HK4 := Lib.hid (wordF_posF hw)
    have hk4 := posF_le s r3
    have HX := Lib.hid (show x.size ≤ 1099511627776 from wordF_size hs' hw)
    clear hw
    obtain ⟨k4,hk4'⟩ : ∃ j,posF s r3 = j := ⟨_,rfl⟩
    rw [hk4'] at HK4 hk4
    have HJ4 := Lib.hid hk4'
    clear hk4'
    have WORD : Hid (∀ W,Ps B s k2 W → Calls Tryz.prog 85 #[.pointer (some ⟨B,0,none⟩)] W fun e w' => But B W w' ∧ e = .returned (.string x) ∧ Ps B s k4 w') := Lib.hid fun W hp => (wordCalls B s k2 W hs' hp).mono fun e w' h4 => by
      obtain ⟨hb4,v,rfl,rfl,hp4⟩ := h4.ok HW.out
      rw [HJ4.out] at hp4
      exact ⟨hb4,rfl,hp4⟩
    cases hv : variableS x
    rotate_left
    · have HE := Lib.hid (show g = .error (7,rest s k2) by rw [HR.out];unfold atomG;rw [HW.out];show (if variableS x then _ else _) = _;rw [hv];rfl)
      have KV := Lib.hid (fun W => variableCalls x W HX.out)
      rw [hv] at KV
      clear hv
      go_wp2_with (first
        | (go_at_call 85;refine (WORD.out _ HP.out).mono ?_;rintro e w4 ⟨hb4,rfl,hp4⟩;have HP4 := Lib.hid hp4;have HB4 := Lib.hid (HB.out.trans hb4);have HM1 := Lib.hid (HN1.out.but hb4 hNB);have d1 : w4.cell? ⟨N1,1,none⟩ = some (.string ⟨#[]⟩) := HM1.out.cell 1;have x1 := HM1.out.frozen 1;have c1' := hp4.c1;have hf1' := hp4.f 1;clear hb4 hp4)
        | (go_at_call 86;refine (KV.out _).mono ?_;rintro e w5 ⟨rfl,rfl⟩)
        | (go_at_call 26;refine (failCalls B s k2 7 _ ((HP4.out.far (p := ⟨N1,1,none⟩) hBN _).set hk)).mono ?_;rintro e w6 ⟨rfl,rfl⟩))
      exact ⟨rfl,Ends.mk_error HE.out ((HB4.out.setCell (.inr (Nat.le_of_lt hlt)) _).setCell (.inl rfl) _) (by rw [posF_rest s hk])⟩
    have KV := Lib.hid (fun W => variableCalls x W HX.out)
    rw [hv] at KV
    have HR4 := Lib.hid (show g = if eatsF [40] (rest s k4) then termsG nb x 4 [] (eatF [40] (rest s k4)) else .ok (⟨nb,x,[]⟩,eatF [40] (rest s k4)) by
      rw [HR.out];unfold atomG;rw [HW.out];show (if variableS x then _ else _) = _;rw [hv,HK4.out];rfl)
    clear hv HR
    have hk5 := posF_le s (eatF [40] (rest s k4))
    have HK5 := Lib.hid (posF_eat s k4 [40])
    obtain ⟨k5,hk5'⟩ : ∃ j,posF s (eatF [40] (rest s k4)) = j := ⟨_,rfl⟩
    have EAT : Hid (∀ W,Ps B s k4 W → Calls Tryz.prog 53 #[.pointer (some ⟨B,0,none⟩),.string ⟨#[40]⟩] W fun e w' => e = .returned (.bool (eatsF [40] (rest s k4))) ∧ Ps B s k5 w' ∧ But B W w') := Lib.hid fun W hp => by
      have := eatCalls B s k4 ⟨#[40]⟩ W hs' (by decide) hp
      rw [← hk5']
      exact this
    rw [hk5'] at HK5 hk5
    have HJ5 := Lib.hid hk5'
    clear hk5'
    cases he : eatsF [40] (rest s k4)
    · rw [he,if_neg (by simp)] at HR4
      rw [he] at EAT
      have HE := HR4
      clear he HR4
      go_wp2_with (first
        | (go_at_call 85;refine (WORD.out _ HP.out).mono ?_;rintro e w4 ⟨hb4,rfl,hp4⟩;have HP4 := Lib.hid hp4;have HB4 := Lib.hid (HB.out.trans hb4);have HM1 := Lib.hid (HN1.out.but hb4 hNB);have HM0 := Lib.hid (HN0.out.but hb4 hBN0.symm);have d1 : w4.cell? ⟨N1,1,none⟩ = some (.string ⟨#[]⟩) := HM1.out.cell 1;have x1 := HM1.out.frozen 1;clear hb4 hp4)
        | (go_at_call 86;refine (KV.out _).mono ?_;rintro e w5 ⟨rfl,rfl⟩)
        | (go_at_call 53;refine (EAT.out _ (HP4.out.far (p := ⟨N1,1,none⟩) hBN _)).mono ?_;rintro e w6 ⟨rfl,hp6,hb6⟩;have PW := Lib.hid hp6;have HBW := Lib.hid ((HB4.out.setCell (p := ⟨N1,1,none⟩) (.inr (Nat.le_of_lt hlt)) (.string x)).trans hb6);have NN1 := Lib.hid (show Blk w6 N1 60 #[.bool nb,.string x,.slice none 0 0] from (HM1.out.set_ 1 (.string x)).but hb6 hNB);have N0 := Lib.hid ((HM0.out.far (p := ⟨N1,1,none⟩) hNN (.string x)).but hb6 hBN0.symm);clear hp6 hb6 d1 x1;have e0 : w6.cell? ⟨w.heap.size,0,none⟩ = some (.bool false) := N0.out.cell 0;have e1 : w6.cell? ⟨w.heap.size,1,none⟩ = some (.string ⟨#[]⟩) := N0.out.cell 1;have e2 : w6.cell? ⟨w.heap.size,2,none⟩ = some (.slice none 0 0) := N0.out.cell 2;have x0 := N0.out.frozen 0;have x1 := N0.out.frozen 1;have x2 := N0.out.frozen 2;have d0 : w6.cell? ⟨N1,0,none⟩ = some (.bool nb) := NN1.out.cell 0;have d1 : w6.cell? ⟨N1,1,none⟩ = some (.string x) := NN1.out.cell 1;have d2 : w6.cell? ⟨N1,2,none⟩ = some (.slice none 0 0) := NN1.out.cell 2))
      refine bodyPost_ret (v := .agg #[.bool nb,.string x,.slice none 0 0]) (by simp [results,Tryz.results52,go_sem,e0,e1,e2]) rfl ?_
      exact Ends.mk_ok HE.out (((HBW.out.setCell (.inr (Nat.le_refl _)) _).setCell (.inr (Nat.le_refl _)) _).setCell (.inr (Nat.le_refl _)) _) rfl ⟨_,rfl,RdSlice.nothing (Nat.zero_le _) (fun _ => rfl)⟩ (by rw [HJ5.out];exact ((PW.out.far (p := ⟨w.heap.size,0,none⟩) hBN0 _).far (p := ⟨w.heap.size,1,none⟩) hBN0 _).far (p := ⟨w.heap.size,2,none⟩) hBN0 _)
    rw [he,if_pos rfl] at HR4
    rw [he] at EAT
    rw [← HK5.out] at HR4
    clear he
    go_wp2_with (first
      | (go_at_call 85;refine (WORD.out _ HP.out).mono ?_;rintro e w4 ⟨hb4,rfl,hp4⟩;have HP4 := Lib.hid hp4;have HB4 := Lib.hid (HB.out.trans hb4);have HM1 := Lib.hid (HN1.out.but hb4 hNB);have HM0 := Lib.hid (HN0.out.but hb4 hBN0.symm);have d1 : w4.cell? ⟨N1,1,none⟩ = some (.string ⟨#[]⟩) := HM1.out.cell 1;have x1 := HM1.out.frozen 1;clear hb4 hp4)
      | (go_at_call 86;refine (KV.out _).mono ?_;rintro e w5 ⟨rfl,rfl⟩)
      | (go_at_call 53;refine (EAT.out _ (HP4.out.far (p := ⟨N1,1,none⟩) hBN _)).mono ?_;rintro e w6 ⟨rfl,hp6,hb6⟩;have PW := Lib.hid hp6;have HBW := Lib.hid ((HB4.out.setCell (p := ⟨N1,1,none⟩) (.inr (Nat.le_of_lt hlt)) (.string x)).trans hb6);have NN1 := Lib.hid (show Blk w6 N1 60 #[.bool nb,.string x,.slice none 0 0] from (HM1.out.set_ 1 (.string x)).but hb6 hNB);have N0 := Lib.hid ((HM0.out.far (p := ⟨N1,1,none⟩) hNN (.string x)).but hb6 hBN0.symm);clear hp6 hb6 d1 x1))
    clear c1 hf1 HP HB HN0 HN1 HP4 HB4 HM1 HM0 HW HK4 HJ4 WORD KV EAT HK5 HJ5
    go_loopg [7] 5 (fun gk _ wr => ∃ (n : Nat) (acc : List PTerm) (tv : Value) (j : Nat),gk = n + 1 ∧ acc.length + n = 4 ∧ j ≤ s.size ∧ Hid (Ps B s j wr) ∧ Hid (But B w wr) ∧ Hid (Blk wr w.heap.size 60 #[.bool false,.string ⟨#[]⟩,.slice none 0 0]) ∧ Hid (Blk wr N1 60 #[.bool nb,.string x,tv]) ∧ Hid (Owned 2 RTerm (N1 + 1) 141 (fun _ => False) wr tv acc) ∧ Hid (g = termsG nb x n acc (rest s j)))
    case atStart => exact ⟨4,[],_,k5,rfl,rfl,hk5,PW,HBW,N0,NN1,Lib.hid Owned.nil,HR4⟩
    case round =>
      obtain ⟨n,acc,tv,j,rfl,hn,hj,PW,HBW,N0,NN1,HO,HR⟩ := hrel
      obtain ⟨ta,tc,rfl,-,-,-⟩ := id (HO.out.read RTerm.steady).form
      have d2 : wr.cell? ⟨N1,2,none⟩ = some (.slice ta acc.length tc) := NN1.out.cell 2
      cases n with
      | zero =>
        have e4 : ((acc.length : Int) == 4) = true := beq_iff_eq.2 (by omega)
        have HE := Lib.hid (show g = .error (5,rest s j) from HR.out)
        go_wp2_with (go_at_call 26;refine (failCalls B s j 5 _ PW.out).mono ?_;rintro e w7 ⟨rfl,rfl⟩)
        exact ⟨rfl,Ends.mk_error HE.out HBW.out (by rw [posF_rest s hj])⟩
      | succ n =>
        have e4 : ((acc.length : Int) == 4) = false := beq_eq_false_iff_ne.2 (by omega)
        rcases hw : wordF (rest s j) with ⟨er,r'⟩ | ⟨y,r3⟩
        · have HE := Lib.hid (show g = .error (er,r') by rw [HR.out];unfold termsG termsF;rw [hw])
          have HW := Lib.hid hw
          clear hw
          go_wp2_with (go_at_call 85;refine (wordCalls B s j _ hs' PW.out).mono ?_;rintro e w7 h7;obtain ⟨hb7,rfl⟩ := h7.error HW.out;have HB7 := Lib.hid (HBW.out.trans hb7);clear h7 hb7)
          exact ⟨rfl,Ends.mk_error HE.out HB7.out rfl⟩
        have HK4 := Lib.hid (wordF_posF hw)
        have hk4 := posF_le s r3
        have HX := Lib.hid (show y.size ≤ 1099511627776 from wordF_size hs' hw)
        obtain ⟨k4,hk4'⟩ : ∃ j,posF s r3 = j := ⟨_,rfl⟩
        obtain ⟨vb,hvb⟩ : ∃ vb,variableS y = vb := ⟨_,rfl⟩
        have HR4 := Lib.hid (show g = if eatsF [44] (rest s k4) then termsG nb x n (acc ++ [⟨vb,y⟩]) (eatF [44] (rest s k4)) else endG nb x (acc ++ [⟨vb,y⟩]) (eatF [44] (rest s k4)) by
          rw [HR.out,termsG_ok hw,hvb,← hk4',HK4.out])
        have KV := Lib.hid (fun W => variableCalls y W HX.out)
        rw [hvb] at KV
        have HW := Lib.hid hw
        rw [hk4'] at HK4 hk4
        have HJ4 := Lib.hid hk4'
        clear hw hvb hk4'
        have WORD : Hid (∀ W,Ps B s j W → Calls Tryz.prog 85 #[.pointer (some ⟨B,0,none⟩)] W fun e w' => But B W w' ∧ e = .returned (.string y) ∧ Ps B s k4 w') := Lib.hid fun W hp => (wordCalls B s j W hs' hp).mono fun e w' h4 => by
          obtain ⟨hb4,v,rfl,rfl,hp4⟩ := h4.ok HW.out
          rw [HJ4.out] at hp4
          exact ⟨hb4,rfl,hp4⟩
        have hk5 := posF_le s (eatF [44] (rest s k4))
        have HK5 := Lib.hid (posF_eat s k4 [44])
        obtain ⟨k5,hk5'⟩ : ∃ j,posF s (eatF [44] (rest s k4)) = j := ⟨_,rfl⟩
        have EAT : Hid (∀ W,Ps B s k4 W → Calls Tryz.prog 53 #[.pointer (some ⟨B,0,none⟩),.string ⟨#[44]⟩] W fun e w' => e = .returned (.bool (eatsF [44] (rest s k4))) ∧ Ps B s k5 w' ∧ But B W w') := Lib.hid fun W hp => by
          have := eatCalls B s k4 ⟨#[44]⟩ W hs' (by decide) hp
          rw [← hk5']
          exact this
        rw [hk5'] at HK5 hk5
        rw [← HK5.out] at HR4
        clear hk5' HR HW HJ4
        go_wp2_with (go_at_call 85;refine (WORD.out _ PW.out).mono ?_;rintro e w4 ⟨hb4,rfl,hp4⟩;have HP4 := Lib.hid hp4;have HB4 := Lib.hid (HBW.out.trans hb4);have HM1 := Lib.hid (NN1.out.but hb4 hNB);have HM0 := Lib.hid (N0.out.but hb4 hBN0.symm);have HO4 := Lib.hid (HO.out.but RTerm.steady hb4 (by omega));have d2' : w4.cell? ⟨N1,2,none⟩ = some (.slice ta acc.length tc) := HM1.out.cell 2;clear hb4 hp4)
        clear HO NN1 N0 PW HBW WORD d2
        have hN4 : N1 < w4.heap.size := HM1.out.lt
        have hne := World.new_ne w4 ⟨N1,2,none⟩ d2'
        have HLEN := Lib.hid (show (acc ++ [(⟨vb,y⟩ : PTerm)]).length = acc.length + 1 by simp)
        go_cut [] (fun wx => AtomCut B s k4 w N1 nb x (acc ++ [⟨vb,y⟩]) wx)
        case first =>
          go_region_law (first
            | (go_simp;go_at_call 86;refine (KV.out _).mono ?_;rintro e w5 ⟨rfl,rfl⟩)
            | (refine step_append_one (by rfl) _ _ 58 (by rfl) RTerm.steady rowTerms _ acc (by rfl) ((HO4.out.drew RTerm.steady).alloc RTerm.steady _) _ 1 #[.bool vb,.string y] 141 (0,0) ⟨vb,y⟩ (by rfl) (heap_alloc_new _ _) rfl (by simp [Value.oneCell']) rfl (by omega) (by simp;omega) ?_;intro v6 w6 hown6 hg6 hat6;have HO6 := Lib.hid hown6;have HM6 := Lib.hid ((HM1.out.drew.alloc (.cells #[.bool vb,.string y] 141)).grown hg6 (fun e => by have := (HO4.out.row_lt e.symm).1;omega));have HM06 := Lib.hid ((HM0.out.drew.alloc (.cells #[.bool vb,.string y] 141)).grown hg6 (fun e => by have := (HO4.out.row_lt e.symm).1;omega));have HP6 := Lib.hid ((HP4.out.drew.alloc (.cells #[.bool vb,.string y] 141)).grown hg6 (fun e => by have := (HO4.out.row_lt e.symm).1;omega));have HB6 := Lib.hid ((HB4.out.drew.alloc (.cells #[.bool vb,.string y] 141)).row hg6 (fun q hq => by have := (HO4.out.row_lt hq).1;omega));have x6 := HM6.out.frozen 2;have d6 : w6.cell? ⟨N1,2,none⟩ = some (.slice ta acc.length tc) := HM6.out.cell 2;obtain ⟨a6,c6,rfl,-,-,-⟩ := id (HO6.out.read RTerm.steady).form;clear hown6 hg6 hat6))
          all_goals
            go_wp2_with fail
            go_meet
            have HQ6 := HO6.out
            rw [HLEN.out] at HQ6
            exact ⟨_,HP6.out.far (p := ⟨N1,2,none⟩) hBN _,HB6.out.setCell (p := ⟨N1,2,none⟩) (.inr (Nat.le_of_lt hlt)) _,HM06.out.far (p := ⟨N1,2,none⟩) hNN _,HM6.out.set_ 2 _,HQ6.setCell RTerm.steady (p := ⟨N1,2,none⟩) (fun h => h) (fun e => Nat.not_succ_le_self _ (HQ6.row_lt e).1) _⟩
        clear hne hN4 d2' KV HM1 HM0 HP4 HB4 HO4
        obtain ⟨tv7,HP7,HB7,HM07,HM7,HO7⟩ := hcut
        replace HP7 := Lib.hid HP7
        replace HB7 := Lib.hid HB7
        replace HM7 := Lib.hid HM7
        replace HM07 := Lib.hid HM07
        replace HO7 := Lib.hid HO7
        obtain ⟨a6,c6,rfl,-,-,-⟩ := id (HO7.out.read RTerm.steady).form
        generalize acc ++ [(⟨vb,y⟩ : PTerm)] = acc2 at *
        cases he : eatsF [44] (rest s k4)
        · rw [he,if_neg (by simp)] at HR4
          rw [he] at EAT
          clear he
          have hm : eatsF [41] (rest s k5) = true ∨ eatsF [41] (rest s k5) = false := by cases eatsF [41] (rest s k5) <;> simp
          have MUST := Lib.hid (fun W hp => mustCalls B s k5 ⟨#[41]⟩ W hs' (by decide) hp)
          rcases hm with hm | hm
          · have HE := Lib.hid (show g = .ok (⟨nb,x,acc2⟩,eatF [41] (rest s k5)) by rw [HR4.out];unfold endG mustF;rw [hm];rfl)
            have MU : Hid (∀ W,Ps B s k5 W → Calls Tryz.prog 87 #[.pointer (some ⟨B,0,none⟩),.string ⟨#[41]⟩] W fun e w' => e = .returned (.tuple #[]) ∧ Ps B s (posF s (eatF [41] (rest s k5))) w' ∧ But B W w') := Lib.hid fun W hp => (MUST.out W hp).mono fun e w' ⟨he,hp',hb'⟩ => ⟨by rw [he];exact if_pos hm,hp',hb'⟩
            clear hm MUST HR4
            go_wp2_with (first
              | (go_at_call 53;refine (EAT.out _ HP7.out).mono ?_;rintro e w8 ⟨rfl,hp8,hb8⟩;have HP8 := Lib.hid hp8;have HB8 := Lib.hid (HB7.out.trans hb8);have HM8 := Lib.hid (HM7.out.but hb8 hNB);have HM08 := Lib.hid (HM07.out.but hb8 hBN0.symm);have HO8 := Lib.hid (HO7.out.but RTerm.steady hb8 (by omega));clear hp8 hb8)
              | (go_at_call 87;refine (MU.out _ HP8.out).mono ?_;rintro e w9 ⟨rfl,hp9,hb9⟩;have PW := Lib.hid hp9;have HBW := Lib.hid (HB8.out.trans hb9);have NN1 := Lib.hid (HM8.out.but hb9 hNB);have N0 := Lib.hid (HM08.out.but hb9 hBN0.symm);have HO9 := Lib.hid (HO8.out.but RTerm.steady hb9 (by omega));clear hp9 hb9;have e0 : w9.cell? ⟨w.heap.size,0,none⟩ = some (.bool false) := N0.out.cell 0;have e1 : w9.cell? ⟨w.heap.size,1,none⟩ = some (.string ⟨#[]⟩) := N0.out.cell 1;have e2 : w9.cell? ⟨w.heap.size,2,none⟩ = some (.slice none 0 0) := N0.out.cell 2;have x0 := N0.out.frozen 0;have x1 := N0.out.frozen 1;have x2 := N0.out.frozen 2;have d0 : w9.cell? ⟨N1,0,none⟩ = some (.bool nb) := NN1.out.cell 0;have d1 : w9.cell? ⟨N1,1,none⟩ = some (.string x) := NN1.out.cell 1;have d2 : w9.cell? ⟨N1,2,none⟩ = some (.slice a6 acc2.length c6) := NN1.out.cell 2))
            refine bodyPost_ret (v := .agg #[.bool nb,.string x,.slice a6 acc2.length c6]) (by simp [results,Tryz.results52,go_sem,e0,e1,e2]) rfl ?_
            exact Ends.mk_ok HE.out (((HBW.out.setCell (.inr (Nat.le_refl _)) _).setCell (.inr (Nat.le_refl _)) _).setCell (.inr (Nat.le_refl _)) _) rfl ⟨_,rfl,((((HO9.out.setCell RTerm.steady (p := ⟨w.heap.size,0,none⟩) (fun h => h) (fun e => by have := (HO9.out.row_lt e).1;simp at this;omega) _).setCell RTerm.steady (p := ⟨w.heap.size,1,none⟩) (fun h => h) (fun e => by have := (HO9.out.row_lt e).1;simp at this;omega) _).setCell RTerm.steady (p := ⟨w.heap.size,2,none⟩) (fun h => h) (fun e => by have := (HO9.out.row_lt e).1;simp at this;omega) _).read RTerm.steady).more RTerm.steady (fun b hb _ => by show w.heap.size ≤ b;rcases hb with hb | hb;exact hb.elim;omega)⟩ (by exact ((PW.out.far (p := ⟨w.heap.size,0,none⟩) hBN0 _).far (p := ⟨w.heap.size,1,none⟩) hBN0 _).far (p := ⟨w.heap.size,2,none⟩) hBN0 _)
          · have HE := Lib.hid (show g = .error (2,eatF [41] (rest s k5)) by rw [HR4.out];unfold endG mustF;rw [hm];rfl)
            have MU : Hid (∀ W,Ps B s k5 W → Calls Tryz.prog 87 #[.pointer (some ⟨B,0,none⟩),.string ⟨#[41]⟩] W fun e w' => e = .panicked (oopsV 2 (posF s (eatF [41] (rest s k5)))) ∧ But B W w') := Lib.hid fun W hp => (MUST.out W hp).mono fun e w' ⟨he,hp',hb'⟩ => ⟨by rw [he];exact if_neg (by show ¬ eatsF [41] (rest s k5) = true;rw [hm];simp),hb'⟩
            clear hm MUST HR4
            go_wp2_with (first
              | (go_at_call 53;refine (EAT.out _ HP7.out).mono ?_;rintro e w8 ⟨rfl,hp8,hb8⟩;have HP8 := Lib.hid hp8;have HB8 := Lib.hid (HB7.out.trans hb8);clear hp8 hb8)
              | (go_at_call 87;refine (MU.out _ HP8.out).mono ?_;rintro e w9 ⟨rfl,hb9⟩;have HB9 := Lib.hid (HB8.out.trans hb9);clear hb9))
            exact ⟨rfl,Ends.mk_error HE.out HB9.out rfl⟩
        · rw [he,if_pos rfl] at HR4
          rw [he] at EAT
          clear he
          go_wp2_with (go_at_call 53;refine (EAT.out _ HP7.out).mono ?_;rintro e w8 ⟨rfl,hp8,hb8⟩;have HP8 := Lib.hid hp8;have HB8 := Lib.hid (HB7.out.trans hb8);have HM8 := Lib.hid (HM7.out.but hb8 hNB);have HM08 := Lib.hid (HM07.out.but hb8 hBN0.symm);have HO8 := Lib.hid (HO7.out.but RTerm.steady hb8 (by omega));clear hp8 hb8)
          go_roundg (n + 1)
          case measure => omega
          case rel => exact ⟨n,acc2,_,k5,rfl,by have := HLEN.out;omega,hk5,HP8,HB8,HM08,HM8,HO8,HR4⟩
end Go.Proofs.YtiiicochdidolaaGreat
namespace Go.Proofs.YtiiicochdidolaaGreat
open Go.RowKit
theorem drop_cons {α : Type} {x : α} {l : List α} {k : Nat} (h : l[k]? = some x) : l.drop k = x :: l.drop (k + 1) := by
  obtain ⟨hk,rfl⟩ := List.getElem?_eq_some_iff.1 h
  exact List.drop_eq_getElem_cons hk
theorem drop_end {α : Type} {l : List α} {k : Nat} (h : l.length ≤ k) : l.drop k = [] := List.drop_eq_nil_of_le h
theorem beq_toList (x y : Str) : (x.toList == y.toList) = decide (x = y) := by
  by_cases h : x = y
  · subst h;simp
  · rw [decide_eq_false h,beq_eq_false_iff_ne];exact fun e => h (toList_inj e)
def idxFrom (x : Str) : Nat → List Str → Int
  | _,[] => -1
  | k,y :: l => if x = y then k else idxFrom x (k + 1) l
theorem idxFrom_ge (x : Str) : ∀ l k,decide (0 ≤ idxFrom x k l) = memS x l
  | [],k => by simp [idxFrom,memS]
  | y :: l,k => by
    by_cases h : x = y
    · simp [idxFrom,memS,h]
    · simp only [idxFrom,if_neg h,memS,decide_eq_false h,Bool.false_or]
      exact idxFrom_ge x l (k + 1)
set_option maxHeartbeats 400000 in
theorem indexStr {S : Nat → Prop} (v : Value) (l : List Str) (s : Str) (w : World) (h : RdStrs S w v l) (n1 : l.length ≤ 1125899906842624) :
    Calls Tryz.prog 117 #[v,.string s] w fun e w' => e = .returned (.int .i64 (idxFrom s 0 l)) ∧ w = w' := by
  obtain ⟨a,c,rfl,-,-,-⟩ := h.form
  have H := Lib.hid h
  clear h
  go_enter Tryz.func117,Tryz.ntmps117
  go_wp2
  go_loop [8,5] (fun i _ => ∃ k : Nat,k ≤ l.length ∧ i = .int .i64 k ∧ idxFrom s 0 l = idxFrom s k (l.drop k)) (fun i _ => l.length - (intOf i).toNat)
  case atStart => exact ⟨0,Nat.zero_le _,rfl,rfl⟩
  case round =>
    obtain ⟨k,hk,rfl,hr⟩ := hrel
    have HR := Lib.hid hr
    clear hr
    by_cases hlt : k < l.length
    · obtain ⟨x,hx⟩ : ∃ x,l[k]? = some x := ⟨_,List.getElem?_eq_getElem hlt⟩
      obtain ⟨b,o,rfl,-,-,hc⟩ := H.out.at hx
      have HX := Lib.hid hx
      clear hx
      by_cases hz : s = x
      · have gz : (s.toList == x.toList) = true := by rw [hz];simp
        have HZ := Lib.hid hz
        clear hz
        go_wp2
        go_ret
        refine ⟨ret_int ?_,rfl⟩
        rw [HR.out,drop_cons HX.out]
        simp [idxFrom,HZ.out]
      · have gz : (s.toList == x.toList) = false := by rw [beq_toList];exact decide_eq_false hz
        have HZ := Lib.hid hz
        clear hz
        go_wp2
        go_round
        case rel =>
          refine ⟨k + 1,by omega,by go_num,?_⟩
          rw [HR.out,drop_cons HX.out]
          simp [idxFrom,HZ.out]
        case measure => simp [intOf];omega
    · go_wp2
      go_ret
      refine ⟨ret_int ?_,rfl⟩
      rw [HR.out,drop_end (by omega : l.length ≤ k)]
      rfl
theorem containsStr {S : Nat → Prop} (v : Value) (l : List Str) (s : Str) (w : World) (h : RdStrs S w v l) (n1 : l.length ≤ 1125899906842624) :
    Calls Tryz.prog 91 #[v,.string s] w fun e w' => e = .returned (.bool (memS s l)) ∧ w = w' := by
  have K := indexStr v l s w h n1
  have e := idxFrom_ge s l 0
  rw [← e]
  clear e
  generalize idxFrom s 0 l = r at *
  clear h
  go_enter Tryz.func91,Tryz.ntmps91
  go_wp2_with (go_at_call 117;refine K.mono ?_;rintro e w' ⟨rfl,rfl⟩)
  go_ret
  exact ⟨rfl,rfl⟩
theorem wrong1Calls (s : Str) (w : World) : Calls Tryz.prog 111 #[.string s] w fun e w' => e = .returned (.bool (!named s)) ∧ w = w' := by
  go_enter Tryz.func111,Tryz.ntmps111
  go_wp2_with (go_at_call 109;refine (namedCalls _ _).mono ?_;rintro e w' ⟨rfl,rfl⟩)
  go_ret
  exact ⟨rfl,rfl⟩
def badFrom : Nat → List Str → Int
  | _,[] => -1
  | k,y :: l => if named y then badFrom (k + 1) l else k
theorem badFrom_ge : ∀ l k,decide (0 ≤ badFrom k l) = !l.all named
  | [],k => by simp [badFrom]
  | y :: l,k => by
    cases h : named y
    · simp [badFrom,h]
    · simp only [badFrom,h,if_true,List.all_cons,Bool.true_and]
      exact badFrom_ge l (k + 1)
set_option maxHeartbeats 400000 in
theorem indexFuncStr {S : Nat → Prop} (v : Value) (l : List Str) (w : World) (h : RdStrs S w v l) (n1 : l.length ≤ 1125899906842624) :
    Calls Tryz.prog 133 #[v,.func (.func 111) #[] #[]] w fun e w' => e = .returned (.int .i64 (badFrom 0 l)) ∧ w = w' := by
  obtain ⟨a,c,rfl,-,-,-⟩ := h.form
  have H := Lib.hid h
  clear h
  go_enter Tryz.func133,Tryz.ntmps133
  go_wp2
  go_loop [8,5] (fun i _ => ∃ k : Nat,k ≤ l.length ∧ i = .int .i64 k ∧ badFrom 0 l = badFrom k (l.drop k)) (fun i _ => l.length - (intOf i).toNat)
  case atStart => exact ⟨0,Nat.zero_le _,rfl,rfl⟩
  case round =>
    obtain ⟨k,hk,rfl,hr⟩ := hrel
    have HR := Lib.hid hr
    clear hr
    by_cases hlt : k < l.length
    · obtain ⟨x,hx⟩ : ∃ x,l[k]? = some x := ⟨_,List.getElem?_eq_getElem hlt⟩
      obtain ⟨b,o,rfl,-,-,hc⟩ := H.out.at hx
      have HX := Lib.hid hx
      clear hx
      cases hz : named x
      · have HZ := Lib.hid hz
        have K : Calls Tryz.prog 111 #[.string x] w fun e w' => e = .returned (.bool true) ∧ w = w' := by have := wrong1Calls x w;rwa [hz] at this
        clear hz
        go_wp2_with (go_at_call 111;refine K.mono ?_;rintro e w' ⟨rfl,rfl⟩)
        go_ret
        refine ⟨ret_int ?_,rfl⟩
        rw [HR.out,drop_cons HX.out]
        simp [badFrom,HZ.out]
      · have HZ := Lib.hid hz
        have K : Calls Tryz.prog 111 #[.string x] w fun e w' => e = .returned (.bool false) ∧ w = w' := by have := wrong1Calls x w;rwa [hz] at this
        clear hz
        go_wp2_with (go_at_call 111;refine K.mono ?_;rintro e w' ⟨rfl,rfl⟩)
        go_round
        case rel =>
          refine ⟨k + 1,by omega,by go_num,?_⟩
          rw [HR.out,drop_cons HX.out]
          simp [badFrom,HZ.out]
        case measure => simp [intOf];omega
    · go_wp2
      go_ret
      refine ⟨ret_int ?_,rfl⟩
      rw [HR.out,drop_end (by omega : l.length ≤ k)]
      rfl
theorem containsFuncStr {S : Nat → Prop} (v : Value) (l : List Str) (w : World) (h : RdStrs S w v l) (n1 : l.length ≤ 1125899906842624) :
    Calls Tryz.prog 110 #[v,.func (.func 111) #[] #[]] w fun e w' => e = .returned (.bool (!l.all named)) ∧ w = w' := by
  have K := indexFuncStr v l w h n1
  have e := badFrom_ge l 0
  rw [← e]
  clear e
  generalize badFrom 0 l = r at *
  clear h
  go_enter Tryz.func110,Tryz.ntmps110
  go_wp2_with (go_at_call 133;refine K.mono ?_;rintro e w' ⟨rfl,rfl⟩)
  go_ret
  exact ⟨rfl,rfl⟩
def wrongF (f : PFact) : Int := if !named f.name then 7 else if 4 < f.args.length then 5 else if f.args.all named then 0 else 7
set_option maxHeartbeats 1000000 in
theorem wrongFact {S : Nat → Prop} (f : PFact) (av : Value) (w : World) (h : RdStrs S w av f.args) (n1 : f.args.length ≤ 1125899906842624) :
    Calls Tryz.prog 79 #[.agg #[.string f.name,av]] w fun e w' => e = .returned (.int .i64 (wrongF f)) ∧ Fresh w w' := by
  have K : ∀ w',Agree (fun _ => True) w w' → Calls Tryz.prog 110 #[av,.func (.func 111) #[] #[]] w' fun e w'' => e = .returned (.bool (!f.args.all named)) ∧ w' = w'' :=
    fun w' ha => containsFuncStr av f.args w' ((h.more RStr.steady (fun _ _ _ => trivial)).agree RStr.steady ha) n1
  obtain ⟨a,c,rfl,-,-,-⟩ := h.form
  have e : wrongF f = if !named f.name then 7 else if 4 < f.args.length then 5 else if f.args.all named then 0 else 7 := rfl
  rw [e]
  clear e h
  cases h1 : named f.name
  · have K1 : ∀ w',Calls Tryz.prog 109 #[.string f.name] w' fun e w'' => e = .returned (.bool false) ∧ w' = w'' := fun w' => by have := namedCalls f.name w';rwa [h1] at this
    clear h1 K
    go_enter Tryz.func79,Tryz.ntmps79
    go_wp2_with (go_at_call 109;refine (K1 _).mono ?_;rintro e w' ⟨rfl,rfl⟩)
    go_ret
    exact ⟨rfl,(Fresh.refl _).alloc _⟩
  · have K1 : ∀ w',Calls Tryz.prog 109 #[.string f.name] w' fun e w'' => e = .returned (.bool true) ∧ w' = w'' := fun w' => by have := namedCalls f.name w';rwa [h1] at this
    clear h1
    by_cases h4 : 4 < f.args.length
    · rw [if_neg (by simp),if_pos h4]
      clear K
      go_enter Tryz.func79,Tryz.ntmps79
      go_wp2_with (go_at_call 109;refine (K1 _).mono ?_;rintro e w' ⟨rfl,rfl⟩)
      go_ret
      exact ⟨rfl,(Fresh.refl _).alloc _⟩
    · rw [if_neg (by simp),if_neg h4]
      cases h5 : f.args.all named
      · rw [h5] at K
        have HK := Lib.hid K
        clear K h5
        go_enter Tryz.func79,Tryz.ntmps79
        go_wp2_with (first | (go_at_call 109;refine (K1 _).mono ?_;rintro e w' ⟨rfl,rfl⟩) | (go_at_call 110;refine (HK.out _ ((Agree.refl _ _).alloc _)).mono ?_;rintro e w' ⟨rfl,rfl⟩))
        go_ret
        exact ⟨rfl,(Fresh.refl _).alloc _⟩
      · rw [h5] at K
        have HK := Lib.hid K
        clear K h5
        go_enter Tryz.func79,Tryz.ntmps79
        go_wp2_with (first | (go_at_call 109;refine (K1 _).mono ?_;rintro e w' ⟨rfl,rfl⟩) | (go_at_call 110;refine (HK.out _ ((Agree.refl _ _).alloc _)).mono ?_;rintro e w' ⟨rfl,rfl⟩))
        go_ret
        exact ⟨rfl,(Fresh.refl _).alloc _⟩
end Go.Proofs.YtiiicochdidolaaGreat
