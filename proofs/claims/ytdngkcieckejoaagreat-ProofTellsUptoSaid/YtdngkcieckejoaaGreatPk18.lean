/-
  THE WALK OF cororef1.Add (the plain part so far).
-/
import Derived.Test.YtdngkcieckejoaaGreatPk4
import Derived.Test.YtdngkcieckejoaaGreatPk10
import Derived.Test.YtdngkcieckejoaaGreatPk17
import Derived.Deep.QuietTactic
import Derived.BigQuiet
namespace Go.Proofs.YtdngkcieckejoaaGreat
open Go.RowKit
theorem addF_end {f : PFact} : ∀ {l : List PFact},(∀ x ∈ l,ltF x f = true) → addF f l = l ++ [f]
 | [],_ => rfl
 | g :: l,h => by
  have hg := h g (by simp)
  have h1 : ltF f g = false := ltF_asymm hg
  have h2 : f ≠ g := fun e => by rw [e,ltF_irrefl] at hg;cases hg
  have := addF_end (f := f) (l := l) (fun x hx => h x (by simp [hx]))
  simp [addF,h1,h2,this]
theorem addF_here {f : PFact} : ∀ {l : List PFact} {k : Nat},(∀ x ∈ l.take k,ltF x f = true) → l[k]? = some f → addF f l = l
 | [],k,_,h => by simp at h
 | g :: l,0,_,h => by
  obtain rfl : g = f := by simpa using h
  simp [addF,ltF_irrefl]
 | g :: l,k + 1,h,hk => by
  have hg := h g (by simp)
  have h1 : ltF f g = false := ltF_asymm hg
  have h2 : f ≠ g := fun e => by rw [e,ltF_irrefl] at hg;cases hg
  have := addF_here (f := f) (l := l) (k := k) (fun x hx => h x (by simp [hx])) (by simpa using hk)
  simp [addF,h1,h2,this]
theorem addF_ahead {f x : PFact} : ∀ {l : List PFact} {k : Nat},(∀ x ∈ l.take k,ltF x f = true) → l[k]? = some x → ltF x f = false → x ≠ f → addF f l = l.take k ++ f :: l.drop k
 | [],k,_,h,_,_ => by simp at h
 | g :: l,0,_,h,h3,h4 => by
  obtain rfl : g = x := by simpa using h
  have h1 : ltF f g = true := by
   cases h5 : ltF f g
   ·exact absurd (ltF_tri h3 h5) h4
   ·rfl
  simp [addF,h1]
 | g :: l,k + 1,h,hk,h3,h4 => by
  have hg := h g (by simp)
  have h1 : ltF f g = false := ltF_asymm hg
  have h2 : f ≠ g := fun e => by rw [e,ltF_irrefl] at hg;cases hg
  have := addF_ahead (f := f) (l := l) (k := k) (fun x hx => h x (by simp [hx])) (by simpa using hk) h3 h4
  simp [addF,h1,h2,this]
theorem Owned.empty {α : Type} {k : Nat} {R : Reader α} {B : Nat} {e : TypeId} {S : Nat → Prop} {w : World} {g : Nat} (h : w.heap[g]? = some (.cells #[] e (0,0))) (hb : B ≤ g) : Owned k R B e S w (.slice (some ⟨g,0,none⟩) 0 0) ([] : List α) := by
 exact ⟨[],rfl,by simp,⟨by simp,.inr ⟨g,0,#[],rfl,hb,h,ζn _,Nat.zero_le _,by simp,by simp⟩⟩,by simp⟩
theorem step_append_many {P : Program} {w : World} {α : Type} {k : Nat} {R : Reader α} {B : Nat} {e : TypeId} {S : Nat → Prop} {ops : Array Oper} {o : Oper} {a : Act} {K : Act → World → Prop} {Q : Exit → Act → World → Prop} {E : Prop} (hgd : o.guard = none) (s x : Operand) (t : TypeId)
 (ho : o.op = .call { callee := .builtin .append,args := #[s,x],argTypes := #[t,t] }) (hR : Steady R) (hcell : ∀ {S w cs x},R S w cs x → ∀ u ∈ cs,u.oneCell' = true) (T : RowT P t e k) (v : Value) (l : List α) (hs : a.eval s = v) (hown : Owned k R B e S w v l)
 (v2 : Value) (l2 : List α) (hx : a.eval x = v2) {S2 : Nat → Prop} (h2 : RdSlice k R S2 w v2 l2) (hm : ∀ cs x,R S2 w cs x → R (fun b => S b ∧ some b ≠ v.ownBlock) w cs x) (hlen : l.length + l2.length < 1099511627776) (hbase : B ≤ w.heap.size)
 (h : ∀ v' w',Owned k R B e S w' v' (l ++ l2) → w.grownBy w' v.ownBlock → (v'.ownBlock = v.ownBlock ∨ v'.ownBlock = some w.heap.size) → K (a.put o.dst v') w') :
 if Region.wanted o (yielded ops a.tmps) = true then Oper.wp P o a w K Q else E := by
 have hw : Region.wanted o (yielded ops a.tmps) = true := by simp [Region.wanted,hgd]
 rw [if_pos hw]
 obtain ⟨v',w',hrun,q2,q3,q4⟩ := run_append_many (P := P) (ty := o.type) hR hcell T hown h2 hm hlen hbase
 unfold Oper.wp execOp
 simp only [ho,resolve,invoke,builtin,Sem.run_bind,Sem.run_pure,Result.andThen_ok,List.map_toArray,List.map_cons,List.map_nil,hs,hx,hrun]
 exact h v' w' q2 q3 q4
attribute [local go_sem ↓] Go.wp_at_zero Go.wp_at_succ
set_option maxRecDepth 100000 in
set_option maxHeartbeats 0 in
theorem addRefU {U : Nat → Prop} (v fv : Value) (l : List PFact) (f : PFact) (w : World) (h : RdFacts U w v l) (hf : RdStrs U w fv f.args) (n1 : l.length ≤ 1073741824) (n2 : ∀ x ∈ l,x.args.length ≤ 1073741824) (n3 : f.args.length ≤ 1073741824) :
 Calls Tryz.prog 93 #[v,.agg #[.string f.name,fv]] w fun e w' => (∃ v',e = .returned v' ∧ RdFacts (fun q => U q ∨ w.heap.size ≤ q) w' v' (addF f l)) ∧ Below w.heap.size w w' := by
 obtain ⟨a,c,rfl,hc,-,-⟩ := id h.form
 obtain ⟨fa,fc,efv,-,-,-⟩ := id hf.form
 have HFV := ζ (show ∀ u ∈ #[Value.string f.name,fv].toList,u.oneCell' = true by rw [efv];simp [Value.oneCell'])
 have H := ζ h
 have HF0 := ζ hf
 have N2 := ζ n2
 clear h hf n2 efv
 go_enter Tryz.func93,Tryz.ntmps93
 go_wp2
 have c0 : (w.alloc (.cells #[.string f.name,fv] 27)).cell? ⟨w.heap.size,0,none⟩ = some (.string f.name) := by simp
 have c1 : (w.alloc (.cells #[.string f.name,fv] 27)).cell? ⟨w.heap.size,1,none⟩ = some fv := by simp
 have hz0 : w.heap.size < (w.alloc (.cells #[.string f.name,fv] 27)).heap.size := by simp
 have HB := ζ ((ζb w.heap.size w).alloc (ζn _) (.cells #[.string f.name,fv] 27))
 generalize w.alloc (.cells #[.string f.name,fv] 27) = w0 at *
 go_loopw [5] (fun i wr => ∃ k : Nat,k ≤ l.length ∧ i = .int .i64 k ∧ Hid (Below w.heap.size w wr) ∧ w.heap.size < wr.heap.size ∧ Hid (∀ x ∈ l.take k,ltF x f = true) ∧ wr.cell? ⟨w.heap.size,0,none⟩ = some (.string f.name) ∧ wr.cell? ⟨w.heap.size,1,none⟩ = some fv) (fun i _ => l.length - (intOf i).toNat)
 case atStart => exact ⟨0,Nat.zero_le _,rfl,HB,hz0,ζ (by simp),c0,c1⟩
 case round =>
  obtain ⟨k,hk,rfl,HB,hsz,HZ,c0,c1⟩ := hrel
  by_cases hlt : k < l.length
  ·obtain ⟨x,hx⟩ : ∃ x,l[k]? = some x := ⟨_,ζe hlt⟩
   have hn2 : x.args.length ≤ 1073741824 := N2.out x (ζm hx)
   obtain ⟨b1,o1,av,rfl,-,hb1,hc1,hc2,hav⟩ := RdFacts.at ((H.out.more ζF (S' := fun _ => True) (fun _ _ _ => trivial)).agree ζF (Below.agree HB.out)) hx
   have HX := ζ hx
   have HA0 := ζ hav
   have HW := ζ ((HF0.out.more ζS (S' := fun _ => True) (fun _ _ _ => trivial)).agree ζS (Below.agree HB.out))
   have K := ζ (fun W (ha : Agree (fun _ => True) wr W) => lessRef x f av fv W (HA0.out.agree ζS ha) (HW.out.agree ζS ha) hn2)
   have K2 := ζ (fun W (ha : Agree (fun _ => True) wr W) => equalRef x f av fv W (HA0.out.agree ζS ha) (HW.out.agree ζS ha) hn2 n3)
   have i1 : (0 : Int) ≤ (k : Int) := by omega
   have i2 : (k : Int) < (l.length : Int) := by omega
   have i5 : IntKind.i64.wrap (k : Int) = k := by rw [IntKind.wrap_i64];omega
   clear hx hav
   rcases (show ltF x f = true ∨ ltF x f = false by cases ltF x f <;> simp) with hl | hl
   ·rw [hl] at K
    have HZ1 := ζ (show ∀ y ∈ l.take (k + 1),ltF y f = true by
     intro y hy
     rw [List.take_add_one,HX.out] at hy
     rcases List.mem_append.1 hy with hy | hy
     ·exact HZ.out y hy
     ·obtain rfl : y = x := by simpa using hy
      exact hl)
    clear hl
    go_wp2_with fail
    go_region_held3 (fun w' => w'.cell? ⟨b1,o1 + k * 2,none⟩ = some (.string x.name) ∧ w'.cell? ⟨b1,o1 + k * 2 + 1,none⟩ = some av ∧ w'.cell? ⟨w.heap.size,0,none⟩ = some (.string f.name) ∧ w'.cell? ⟨w.heap.size,1,none⟩ = some fv)
     (first | (refine ⟨?_,?_,?_,?_⟩ <;> (first | (rw [hk2 _ hb1];assumption) | (rw [hk2 _ hsz];assumption))) | go_keep)
     (first
      | (go_at_call 52;refine (K.out _ ((Agree.refl _ _).drew)).mono ?_;rintro e w2 ⟨rfl,hf2⟩;have hk2 : ∀ c,c < wr.heap.size → ∀ off,w2.cell? ⟨c,off,none⟩ = wr.cell? ⟨c,off,none⟩ := fun c hc off => ζl (w := wr.drew) hf2.below hc off))
    have HB2 := ζ (HB.out.drew.trans (hf2.below.mono HB.out.size))
    have m0 := (hk2 _ hsz 0).trans c0
    have m1 := (hk2 _ hsz 1).trans c1
    have hs2 : w.heap.size < w2.heap.size := Nat.lt_of_lt_of_le hsz hf2.below.size
    clear hf2 hk2
    go_wp2
    go_roundw
    case rel => exact ⟨k + 1,by omega,by go_num,HB2,hs2,HZ1,m0,m1⟩
    case measure => simp [intOf];omega
   ·rw [hl] at K
    have HLT := ζ hl
    clear hl
    go_wp2_with fail
    go_region_held3 (fun w' => w'.cell? ⟨b1,o1 + k * 2,none⟩ = some (.string x.name) ∧ w'.cell? ⟨b1,o1 + k * 2 + 1,none⟩ = some av ∧ w'.cell? ⟨w.heap.size,0,none⟩ = some (.string f.name) ∧ w'.cell? ⟨w.heap.size,1,none⟩ = some fv)
     (first | (refine ⟨?_,?_,?_,?_⟩ <;> (first | (rw [hk2 _ hb1];assumption) | (rw [hk2 _ hsz];assumption))) | go_keep)
     (first
      | (go_at_call 52;refine (K.out _ ((Agree.refl _ _).drew)).mono ?_;rintro e w2 ⟨rfl,hf2⟩;have hk2 : ∀ c,c < wr.heap.size → ∀ off,w2.cell? ⟨c,off,none⟩ = wr.cell? ⟨c,off,none⟩ := fun c hc off => ζl (w := wr.drew) hf2.below hc off))
    have HB2 := ζ (HB.out.drew.trans (hf2.below.mono HB.out.size))
    have HG2 := ζ (show Agree (fun _ => True) wr w2 from (Agree.refl _ _).drew.trans (Below.agree hf2.below))
    have m0 := (hk2 _ hsz 0).trans c0
    have m1 := (hk2 _ hsz 1).trans c1
    have hc1' := (hk2 _ hb1 _).trans hc1
    have hc2' := (hk2 _ hb1 _).trans hc2
    have hb2 : b1 < w2.heap.size := Nat.lt_of_lt_of_le hb1 hf2.below.size
    have hs2 : w.heap.size < w2.heap.size := Nat.lt_of_lt_of_le hsz hf2.below.size
    clear hf2 hk2 HB c0 c1 hc1 hc2 hb1 hsz
    have HB := HB2
    have c0 := m0
    have c1 := m1
    have hc1 := hc1'
    have hc2 := hc2'
    have hb1 := hb2
    have hsz := hs2
    clear HB2 m0 m1 hc1' hc2' hb2 hs2
    go_wp2_with fail
    by_cases hxf : x = f
    ·rw [decide_eq_true hxf] at K2
     have HA := ζ (show addF f l = l from addF_here HZ.out (hxf ▸ HX.out))
     clear hxf
     go_region_held3 (fun w' => w'.cell? ⟨b1,o1 + k * 2,none⟩ = some (.string x.name) ∧ w'.cell? ⟨b1,o1 + k * 2 + 1,none⟩ = some av ∧ w'.cell? ⟨w.heap.size,0,none⟩ = some (.string f.name) ∧ w'.cell? ⟨w.heap.size,1,none⟩ = some fv)
      (first | (refine ⟨?_,?_,?_,?_⟩ <;> (first | (rw [hk3 _ hb1];assumption) | (rw [hk3 _ hsz];assumption))) | go_keep)
      (first
       | (go_at_call 28;refine (K2.out _ (HG2.out.drew)).mono ?_;rintro e w3 ⟨rfl,hf3⟩;have hk3 : ∀ c,c < w2.heap.size → ∀ off,w3.cell? ⟨c,off,none⟩ = w2.cell? ⟨c,off,none⟩ := fun c hc off => ζl (w := w2.drew) hf3.below hc off))
     have HB3 := ζ (HB.out.drew.trans (hf3.below.mono HB.out.size))
     clear hf3 hk3
     go_wp2
     go_ret
     exact ⟨⟨_,rfl,by rw [HA.out];exact (H.out.more ζF (fun _ hu _ => .inl hu)).agree ζF (Below.agree HB3.out)⟩,HB3.out⟩
    ·rw [decide_eq_false hxf] at K2
     have HA := ζ (show addF f l = l.take k ++ f :: l.drop k from addF_ahead HZ.out HX.out HLT.out hxf)
     clear hxf
     go_region_held3 (fun w' => w'.cell? ⟨b1,o1 + k * 2,none⟩ = some (.string x.name) ∧ w'.cell? ⟨b1,o1 + k * 2 + 1,none⟩ = some av ∧ w'.cell? ⟨w.heap.size,0,none⟩ = some (.string f.name) ∧ w'.cell? ⟨w.heap.size,1,none⟩ = some fv)
      (first | (refine ⟨?_,?_,?_,?_⟩ <;> (first | (rw [hk3 _ hb1];assumption) | (rw [hk3 _ hsz];assumption))) | go_keep)
      (first
       | (go_at_call 28;refine (K2.out _ (HG2.out.drew)).mono ?_;rintro e w3 ⟨rfl,hf3⟩;have hk3 : ∀ c,c < w2.heap.size → ∀ off,w3.cell? ⟨c,off,none⟩ = w2.cell? ⟨c,off,none⟩ := fun c hc off => ζl (w := w2.drew) hf3.below hc off))
     have HB3 := ζ (HB.out.drew.trans (hf3.below.mono HB.out.size))
     have m0 := (hk3 _ hsz 0).trans c0
     have m1 := (hk3 _ hsz 1).trans c1
     have hs3 : w.heap.size < w3.heap.size := Nat.lt_of_lt_of_le hsz hf3.below.size
     clear hf3 hk3 HB c0 c1 hc1 hc2 hb1 hsz HG2 K K2 HA0 HW
     have HB := HB3
     have c0 := m0
     have c1 := m1
     have hsz := hs3
     clear HB3 m0 m1 hs3
     go_wp2_with fail
     have HT := ζ (show RdFacts (fun q => U q ∧ q < w3.heap.size) w3 (.slice (some ⟨b1,o1,none⟩) l.length c) l from (H.out.agree ζF (Below.agree HB.out)).more ζF (fun _ hu h => ⟨hu,h⟩))
     have HV := ζ (show RdStrs (fun q => U q ∧ q < w3.heap.size) w3 fv f.args from (HF0.out.agree ζS (Below.agree HB.out)).more ζS (fun _ hu h => ⟨hu,h⟩))
     have HD := ζ (HT.out.drop_some hk)
     have HL := ζ (show (l.take k).length ≤ l.length by rw [List.length_take];exact Nat.min_le_right _ _)
     have HLD := ζ (show (l.drop k).length ≤ l.length by rw [List.length_drop];exact Nat.sub_le _ _)
     have i1 : (0 : Int) ≤ (k : Int) := by omega
     have i2 : (k : Int) ≤ (c : Int) := by omega
     have i3 : (k : Int) ≤ (l.length : Int) := by omega
     refine wp_region_held_drew (S := (fun w' => Hid (Below w3.heap.size w3 w') ∧ w'.cell? ⟨w.heap.size,0,none⟩ = some (.string f.name) ∧ w'.cell? ⟨w.heap.size,1,none⟩ = some fv)) (by kernel_rfl) ?_ (fun hHeld => ?_)
     ·exact ⟨ζ ((ζb _ _).drew),(ζl ((ζb _ _).drew) hsz 0).trans c0,(ζl ((ζb _ _).drew) hsz 1).trans c1⟩
     refine ζt (i := 1) (oi := ⟨some 34,_,_,_,_,_⟩) (v := ?_) rfl (Or.inl ⟨by rfl,?_⟩) (by assumption) ?_
     rotate_left
     ·(intro w' hSw;(try dsimp only at hSw);go_simp;try with_reducible rfl)
     try simp only [ζp]
     refine ζt (i := 2) (oi := ⟨some 35,_,_,_,_,_⟩) (v := ?_) rfl (Or.inl ⟨by rfl,?_⟩) (by assumption) ?_
     rotate_left
     ·(intro w' hSw;(try dsimp only at hSw);go_simp;try with_reducible rfl)
     try simp only [ζp]
     refine ζt (i := 3) (oi := ⟨some 36,_,_,_,_,_⟩) (v := ?_) rfl (Or.inl ⟨by rfl,?_⟩) (by assumption) ?_
     rotate_left
     ·(intro w' hSw;(try dsimp only at hSw);go_simp;try with_reducible rfl)
     try simp only [ζp]
     refine ζt (i := 5) (oi := ⟨some 38,_,_,_,_,_⟩) (v := ?_) rfl (Or.inl ⟨by rfl,?_⟩) (by assumption) ?_
     rotate_left
     ·(intro w' hSw;(try dsimp only at hSw);go_simp;try with_reducible rfl)
     try simp only [ζp]
     refine ζt (i := 8) (oi := ⟨some 41,_,_,_,_,_⟩) (v := ?_) rfl (Or.inl ⟨by rfl,?_⟩) (by assumption) ?_
     rotate_left
     ·(intro w' hSw;(try dsimp only at hSw);go_simp;try with_reducible rfl)
     try simp only [ζp]
     refine ζt (i := 9) (oi := ⟨some 42,_,_,_,_,_⟩) (v := ?_) rfl (Or.inl ⟨by rfl,?_⟩) (by assumption) ?_
     rotate_left
     ·(intro w' hSw;(try dsimp only at hSw);go_simp;try with_reducible rfl)
     try simp only [ζp]
     refine ζt (i := 10) (oi := ⟨some 43,_,_,_,_,_⟩) (v := ?_) rfl (Or.inl ⟨by rfl,?_⟩) (by assumption) ?_
     rotate_left
     ·(intro w' hSw;(try dsimp only at hSw);go_simp;try with_reducible rfl)
     try simp only [ζp]
     refine wpAnyH_ready (rs := [0,6]) (by kernel_rfl) (by simp) ?_
     refine AllReadyH.cons (o := ⟨some 33,_,_,_,_,_⟩) rfl (fun K hK => ?_) (AllReadyH.cons (o := ⟨some 39,_,_,_,_,_⟩) rfl (fun K hK => ?_) (AllReadyH.nil))
     ·go_simp
      refine hK.out _ _ ?_ (fun hHeld => ?_)
      ·exact ⟨ζ (((ζb _ _).alloc (ζn _) _).drew),(ζl (((ζb _ _).alloc (ζn _) _).drew) hsz 0).trans c0,(ζl (((ζb _ _).alloc (ζn _) _).drew) hsz 1).trans c1⟩
      clear hK K
      try simp only [ζp]
      refine wpAnyH_ready (rs := [4,6]) (by kernel_rfl) (by simp) ?_
      refine AllReadyH.cons (o := ⟨some 37,_,_,_,_,_⟩) rfl (fun K hK => ?_) (AllReadyH.cons (o := ⟨some 39,_,_,_,_,_⟩) rfl (fun K hK => ?_) (AllReadyH.nil))
      ·have HE := ζ (Owned.empty (α := PFact) (k := 2) (R := RFact) (B := w3.heap.size) (e := 27) (S := fun q => U q ∧ q < w3.heap.size) (w := (w3.alloc (.cells #[] 27)).drew) (g := w3.heap.size) (by exact heap_alloc_new w3 _) (by omega))
       refine step_append_many (B := w3.heap.size) (e := 27) (S := fun q => U q ∧ q < w3.heap.size) (by rfl) _ _ 24 (by rfl) ζF RFact.one rowFacts _ [] (by rfl) HE.out _ (l.take k) (by rfl) ((HT.out.take hk).agree ζF (Below.agree (((ζb _ _).alloc (ζn _) _).drew))) (fun cs x' hr => RFact.steady.more (fun q hq _ => ⟨hq,fun e => by have h9 := hq.2;have := (HE.out.row_lt e.symm).1;omega⟩) hr) (by have := HL.out;simp;omega) (by simp <;> omega) ?_
       intro v4 w4 hown4 hg4 hat4
       have HO4 := ζ hown4
       have HB4 := ζ ((((ζb _ _).alloc (ζn _) _).drew).grown hg4 (by simp <;> omega) (fun q hq => (HE.out.row_lt hq).1))
       clear hown4 hg4 hat4
       refine hK.out _ _ ?_ (fun hHeld => ?_)
       ·exact ⟨ζ (HB4.out),(ζl (HB4.out) hsz 0).trans c0,(ζl (HB4.out) hsz 1).trans c1⟩
       clear hK K
       try simp only [ζp]
       refine wpAnyH_ready (rs := [6]) (by kernel_rfl) (by simp) ?_
       refine AllReadyH.cons (o := ⟨some 39,_,_,_,_,_⟩) rfl (fun K hK => ?_) (AllReadyH.nil)
       go_simp
       refine hK.out _ _ ?_ (fun hHeld => ?_)
       ·exact ⟨ζ ((HB4.out.alloc HB4.out.size _)),(ζl ((HB4.out.alloc HB4.out.size _)) hsz 0).trans c0,(ζl ((HB4.out.alloc HB4.out.size _)) hsz 1).trans c1⟩
       clear hK K
       try simp only [ζp]
       refine wpAnyH_ready (rs := [7]) (by kernel_rfl) (by simp) ?_
       refine AllReadyH.cons (o := ⟨some 40,_,_,_,_,_⟩) rfl (fun K hK => ?_) (AllReadyH.nil)
       refine step_append_one (B := w3.heap.size) (e := 27) (S := fun q => U q ∧ q < w3.heap.size) (by rfl) _ _ 24 (by rfl) ζF rowFacts _ ([] ++ l.take k) (by rfl) (HO4.out.alloc ζF _) _ 1 #[.string f.name,fv] 27 (0,0) f (by rfl) (heap_alloc_new w4 _) rfl HFV.out ⟨_,rfl,(HV.out.agree ζS (Below.agree (HB4.out.alloc HB4.out.size _))).more ζS (fun q hq _ => ⟨hq,fun e => by have h9 := hq.2;have := (HO4.out.row_lt e.symm).1;omega⟩)⟩ (by have := HL.out;simp;omega) (Below.size (HB4.out.alloc HB4.out.size _)) ?_
       intro v7 w7 hown7 hg7 hat7
       have HO7 := ζ hown7
       have HB7 := ζ (Below.grown (HB4.out.alloc HB4.out.size _) hg7 (Below.size (HB4.out.alloc HB4.out.size _)) (fun q hq => (HO4.out.row_lt hq).1))
       clear hown7 hg7 hat7
       refine hK.out _ _ ?_ (fun hHeld => ?_)
       ·exact ⟨ζ (HB7.out),(ζl (HB7.out) hsz 0).trans c0,(ζl (HB7.out) hsz 1).trans c1⟩
       clear hK K
       try simp only [ζp]
       refine wpAnyH_ready (rs := [11]) (by kernel_rfl) (by simp) ?_
       refine AllReadyH.cons (o := ⟨some 44,_,_,_,_,_⟩) rfl (fun K hK => ?_) (AllReadyH.nil)
       refine step_append_many (B := w3.heap.size) (e := 27) (S := fun q => U q ∧ q < w3.heap.size) (by rfl) _ _ 24 (by rfl) ζF RFact.one rowFacts _ ([] ++ l.take k ++ [f]) (by rfl) HO7.out _ (l.drop k) (by rfl) (HD.out.agree ζF (Below.agree HB7.out)) (fun cs x' hr => RFact.steady.more (fun q hq _ => ⟨hq,fun e => by have h9 := hq.2;have := (HO7.out.row_lt e.symm).1;omega⟩) hr) (by have := HL.out;have := HLD.out;simp;omega) (Below.size HB7.out) ?_
       intro v11 w11 hown11 hg11 hat11
       have HO11 := ζ hown11
       have HB11 := ζ (HB7.out.grown hg11 (Below.size HB7.out) (fun q hq => (HO7.out.row_lt hq).1))
       clear hown11 hg11 hat11
       refine hK.out _ _ ?_ (fun hHeld => ?_)
       ·exact ⟨ζ (HB11.out),(ζl (HB11.out) hsz 0).trans c0,(ζl (HB11.out) hsz 1).trans c1⟩
       clear hK K
       try simp only [ζp]
       refine ζt (i := 12) (oi := ⟨some 4,_,_,_,_,_⟩) (v := ?_) rfl (Or.inl ⟨by rfl,?_⟩) (by assumption) ?_
       rotate_left
       ·(intro w' hSw;(try dsimp only at hSw);go_simp;try with_reducible rfl)
       try simp only [ζp]
       refine wpAnyH_done (by kernel_rfl) ?_ _
       go_wp2
       all_goals (go_ret;exact ⟨⟨_,rfl,by rw [HA.out];have := (HO11.out.read ζF).more ζF (S' := fun q => U q ∨ w.heap.size ≤ q) (fun q hq _ => hq.elim (fun h => .inl h.1) (fun h => .inr (Nat.le_trans HB.out.size h)));simpa using this⟩,HB.out.trans (HB11.out.mono HB.out.size)⟩)
      ·go_simp
       refine hK.out _ _ ?_ (fun hHeld => ?_)
       ·exact ⟨ζ ((((ζb _ _).alloc (ζn _) _).alloc (by simp <;> omega) _).drew),(ζl ((((ζb _ _).alloc (ζn _) _).alloc (by simp <;> omega) _).drew) hsz 0).trans c0,(ζl ((((ζb _ _).alloc (ζn _) _).alloc (by simp <;> omega) _).drew) hsz 1).trans c1⟩
       clear hK K
       try simp only [ζp]
       refine wpAnyH_ready (rs := [4]) (by kernel_rfl) (by simp) ?_
       refine AllReadyH.cons (o := ⟨some 37,_,_,_,_,_⟩) rfl (fun K hK => ?_) (AllReadyH.nil)
       have HE := ζ (Owned.empty (α := PFact) (k := 2) (R := RFact) (B := w3.heap.size) (e := 27) (S := fun q => U q ∧ q < w3.heap.size) (w := ((w3.alloc (.cells #[] 27)).alloc (.cells #[.string f.name,fv] 27)).drew) (g := w3.heap.size) (by exact (Below.heap_alloc _ _ _ (by simp <;> omega)).trans (heap_alloc_new w3 _)) (by omega))
       refine step_append_many (B := w3.heap.size) (e := 27) (S := fun q => U q ∧ q < w3.heap.size) (by rfl) _ _ 24 (by rfl) ζF RFact.one rowFacts _ [] (by rfl) HE.out _ (l.take k) (by rfl) ((HT.out.take hk).agree ζF (Below.agree ((((ζb _ _).alloc (ζn _) _).alloc (by simp <;> omega) _).drew))) (fun cs x' hr => RFact.steady.more (fun q hq _ => ⟨hq,fun e => by have h9 := hq.2;have := (HE.out.row_lt e.symm).1;omega⟩) hr) (by have := HL.out;simp;omega) (by simp <;> omega) ?_
       intro v4 w4 hown4 hg4 hat4
       have HO4 := ζ hown4
       have HB4 := ζ (((((ζb _ _).alloc (ζn _) _).alloc (by simp <;> omega) _).drew).grown hg4 (by simp <;> omega) (fun q hq => (HE.out.row_lt hq).1))
       have HF := ζ (show w4.heap[w3.heap.size + 1]? = some (.cells #[.string f.name,fv] 27) from (hg4.block (w3.heap.size + 1) (by simp <;> omega) (by simp [Value.ownBlock])).trans (heap_new_at (by simp)))
       clear hown4 hg4 hat4
       refine hK.out _ _ ?_ (fun hHeld => ?_)
       ·exact ⟨ζ (HB4.out),(ζl (HB4.out) hsz 0).trans c0,(ζl (HB4.out) hsz 1).trans c1⟩
       clear hK K
       try simp only [ζp]
       refine wpAnyH_ready (rs := [7]) (by kernel_rfl) (by simp) ?_
       refine AllReadyH.cons (o := ⟨some 40,_,_,_,_,_⟩) rfl (fun K hK => ?_) (AllReadyH.nil)
       refine step_append_one (B := w3.heap.size) (e := 27) (S := fun q => U q ∧ q < w3.heap.size) (by rfl) _ _ 24 (by rfl) ζF rowFacts _ ([] ++ l.take k) (by rfl) HO4.out _ 1 #[.string f.name,fv] 27 (0,0) f (by rfl) HF.out rfl HFV.out ⟨_,rfl,(HV.out.agree ζS (Below.agree HB4.out)).more ζS (fun q hq _ => ⟨hq,fun e => by have h9 := hq.2;have := (HO4.out.row_lt e.symm).1;omega⟩)⟩ (by have := HL.out;simp;omega) (Below.size HB4.out) ?_
       intro v7 w7 hown7 hg7 hat7
       have HO7 := ζ hown7
       have HB7 := ζ (Below.grown HB4.out hg7 (Below.size HB4.out) (fun q hq => (HO4.out.row_lt hq).1))
       clear hown7 hg7 hat7
       refine hK.out _ _ ?_ (fun hHeld => ?_)
       ·exact ⟨ζ (HB7.out),(ζl (HB7.out) hsz 0).trans c0,(ζl (HB7.out) hsz 1).trans c1⟩
       clear hK K
       try simp only [ζp]
       refine wpAnyH_ready (rs := [11]) (by kernel_rfl) (by simp) ?_
       refine AllReadyH.cons (o := ⟨some 44,_,_,_,_,_⟩) rfl (fun K hK => ?_) (AllReadyH.nil)
       refine step_append_many (B := w3.heap.size) (e := 27) (S := fun q => U q ∧ q < w3.heap.size) (by rfl) _ _ 24 (by rfl) ζF RFact.one rowFacts _ ([] ++ l.take k ++ [f]) (by rfl) HO7.out _ (l.drop k) (by rfl) (HD.out.agree ζF (Below.agree HB7.out)) (fun cs x' hr => RFact.steady.more (fun q hq _ => ⟨hq,fun e => by have h9 := hq.2;have := (HO7.out.row_lt e.symm).1;omega⟩) hr) (by have := HL.out;have := HLD.out;simp;omega) (Below.size HB7.out) ?_
       intro v11 w11 hown11 hg11 hat11
       have HO11 := ζ hown11
       have HB11 := ζ (HB7.out.grown hg11 (Below.size HB7.out) (fun q hq => (HO7.out.row_lt hq).1))
       clear hown11 hg11 hat11
       refine hK.out _ _ ?_ (fun hHeld => ?_)
       ·exact ⟨ζ (HB11.out),(ζl (HB11.out) hsz 0).trans c0,(ζl (HB11.out) hsz 1).trans c1⟩
       clear hK K
       try simp only [ζp]
       refine ζt (i := 12) (oi := ⟨some 4,_,_,_,_,_⟩) (v := ?_) rfl (Or.inl ⟨by rfl,?_⟩) (by assumption) ?_
       rotate_left
       ·(intro w' hSw;(try dsimp only at hSw);go_simp;try with_reducible rfl)
       try simp only [ζp]
       refine wpAnyH_done (by kernel_rfl) ?_ _
       go_wp2
       all_goals (go_ret;exact ⟨⟨_,rfl,by rw [HA.out];have := (HO11.out.read ζF).more ζF (S' := fun q => U q ∨ w.heap.size ≤ q) (fun q hq _ => hq.elim (fun h => .inl h.1) (fun h => .inr (Nat.le_trans HB.out.size h)));simpa using this⟩,HB.out.trans (HB11.out.mono HB.out.size)⟩)
     ·go_simp
      refine hK.out _ _ ?_ (fun hHeld => ?_)
      ·exact ⟨ζ (((ζb _ _).alloc (ζn _) _).drew),(ζl (((ζb _ _).alloc (ζn _) _).drew) hsz 0).trans c0,(ζl (((ζb _ _).alloc (ζn _) _).drew) hsz 1).trans c1⟩
      clear hK K
      try simp only [ζp]
      refine wpAnyH_ready (rs := [0]) (by kernel_rfl) (by simp) ?_
      refine AllReadyH.cons (o := ⟨some 33,_,_,_,_,_⟩) rfl (fun K hK => ?_) (AllReadyH.nil)
      go_simp
      refine hK.out _ _ ?_ (fun hHeld => ?_)
      ·exact ⟨ζ ((((ζb _ _).alloc (ζn _) _).alloc (by simp <;> omega) _).drew),(ζl ((((ζb _ _).alloc (ζn _) _).alloc (by simp <;> omega) _).drew) hsz 0).trans c0,(ζl ((((ζb _ _).alloc (ζn _) _).alloc (by simp <;> omega) _).drew) hsz 1).trans c1⟩
      clear hK K
      try simp only [ζp]
      refine wpAnyH_ready (rs := [4]) (by kernel_rfl) (by simp) ?_
      refine AllReadyH.cons (o := ⟨some 37,_,_,_,_,_⟩) rfl (fun K hK => ?_) (AllReadyH.nil)
      have HE := ζ (Owned.empty (α := PFact) (k := 2) (R := RFact) (B := w3.heap.size) (e := 27) (S := fun q => U q ∧ q < w3.heap.size) (w := ((w3.alloc (.cells #[.string f.name,fv] 27)).alloc (.cells #[] 27)).drew) (g := w3.heap.size + 1) (by exact heap_new_at (by simp)) (by omega))
      refine step_append_many (B := w3.heap.size) (e := 27) (S := fun q => U q ∧ q < w3.heap.size) (by rfl) _ _ 24 (by rfl) ζF RFact.one rowFacts _ [] (by rfl) HE.out _ (l.take k) (by rfl) ((HT.out.take hk).agree ζF (Below.agree ((((ζb _ _).alloc (ζn _) _).alloc (by simp <;> omega) _).drew))) (fun cs x' hr => RFact.steady.more (fun q hq _ => ⟨hq,fun e => by have h9 := hq.2;have := (HE.out.row_lt e.symm).1;omega⟩) hr) (by have := HL.out;simp;omega) (by simp <;> omega) ?_
      intro v4 w4 hown4 hg4 hat4
      have HO4 := ζ hown4
      have HB4 := ζ (((((ζb _ _).alloc (ζn _) _).alloc (by simp <;> omega) _).drew).grown hg4 (by simp <;> omega) (fun q hq => (HE.out.row_lt hq).1))
      have HF := ζ (show w4.heap[w3.heap.size]? = some (.cells #[.string f.name,fv] 27) from (hg4.block w3.heap.size (by simp <;> omega) (by simp [Value.ownBlock])).trans ((Below.heap_alloc _ _ _ (by simp <;> omega)).trans (heap_alloc_new w3 _)))
      clear hown4 hg4 hat4
      refine hK.out _ _ ?_ (fun hHeld => ?_)
      ·exact ⟨ζ (HB4.out),(ζl (HB4.out) hsz 0).trans c0,(ζl (HB4.out) hsz 1).trans c1⟩
      clear hK K
      try simp only [ζp]
      refine wpAnyH_ready (rs := [7]) (by kernel_rfl) (by simp) ?_
      refine AllReadyH.cons (o := ⟨some 40,_,_,_,_,_⟩) rfl (fun K hK => ?_) (AllReadyH.nil)
      refine step_append_one (B := w3.heap.size) (e := 27) (S := fun q => U q ∧ q < w3.heap.size) (by rfl) _ _ 24 (by rfl) ζF rowFacts _ ([] ++ l.take k) (by rfl) HO4.out _ 1 #[.string f.name,fv] 27 (0,0) f (by rfl) HF.out rfl HFV.out ⟨_,rfl,(HV.out.agree ζS (Below.agree HB4.out)).more ζS (fun q hq _ => ⟨hq,fun e => by have h9 := hq.2;have := (HO4.out.row_lt e.symm).1;omega⟩)⟩ (by have := HL.out;simp;omega) (Below.size HB4.out) ?_
      intro v7 w7 hown7 hg7 hat7
      have HO7 := ζ hown7
      have HB7 := ζ (Below.grown HB4.out hg7 (Below.size HB4.out) (fun q hq => (HO4.out.row_lt hq).1))
      clear hown7 hg7 hat7
      refine hK.out _ _ ?_ (fun hHeld => ?_)
      ·exact ⟨ζ (HB7.out),(ζl (HB7.out) hsz 0).trans c0,(ζl (HB7.out) hsz 1).trans c1⟩
      clear hK K
      try simp only [ζp]
      refine wpAnyH_ready (rs := [11]) (by kernel_rfl) (by simp) ?_
      refine AllReadyH.cons (o := ⟨some 44,_,_,_,_,_⟩) rfl (fun K hK => ?_) (AllReadyH.nil)
      refine step_append_many (B := w3.heap.size) (e := 27) (S := fun q => U q ∧ q < w3.heap.size) (by rfl) _ _ 24 (by rfl) ζF RFact.one rowFacts _ ([] ++ l.take k ++ [f]) (by rfl) HO7.out _ (l.drop k) (by rfl) (HD.out.agree ζF (Below.agree HB7.out)) (fun cs x' hr => RFact.steady.more (fun q hq _ => ⟨hq,fun e => by have h9 := hq.2;have := (HO7.out.row_lt e.symm).1;omega⟩) hr) (by have := HL.out;have := HLD.out;simp;omega) (Below.size HB7.out) ?_
      intro v11 w11 hown11 hg11 hat11
      have HO11 := ζ hown11
      have HB11 := ζ (HB7.out.grown hg11 (Below.size HB7.out) (fun q hq => (HO7.out.row_lt hq).1))
      clear hown11 hg11 hat11
      refine hK.out _ _ ?_ (fun hHeld => ?_)
      ·exact ⟨ζ (HB11.out),(ζl (HB11.out) hsz 0).trans c0,(ζl (HB11.out) hsz 1).trans c1⟩
      clear hK K
      try simp only [ζp]
      refine ζt (i := 12) (oi := ⟨some 4,_,_,_,_,_⟩) (v := ?_) rfl (Or.inl ⟨by rfl,?_⟩) (by assumption) ?_
      rotate_left
      ·(intro w' hSw;(try dsimp only at hSw);go_simp;try with_reducible rfl)
      try simp only [ζp]
      refine wpAnyH_done (by kernel_rfl) ?_ _
      go_wp2
      all_goals (go_ret;exact ⟨⟨_,rfl,by rw [HA.out];have := (HO11.out.read ζF).more ζF (S' := fun q => U q ∨ w.heap.size ≤ q) (fun q hq _ => hq.elim (fun h => .inl h.1) (fun h => .inr (Nat.le_trans HB.out.size h)));simpa using this⟩,HB.out.trans (HB11.out.mono HB.out.size)⟩)
  ·obtain rfl : k = l.length := by omega
   have hd : decide ((l.length : Int) < l.length) = false := decide_eq_false (by omega)
   have HA := ζ (show addF f l = l.take l.length ++ f :: l.drop l.length by rw [List.drop_length,List.take_length];exact addF_end (fun x hx => HZ.out x (by rwa [List.take_length])))
   go_wp2_with fail
   go_quiet (fail)
   rename Nat => q1
   go_wp2_with fail
   go_quiet (fail)
   rename Nat => q2
   go_wp2_with fail
   have HB3 := ζ (show Below w.heap.size w ((wr.drewN q1).drewN q2) from ⟨HB.out.os,HB.out.tape,HB.out.output,HB.out.size,HB.out.block⟩)
   have c0' : ((wr.drewN q1).drewN q2).cell? ⟨w.heap.size,0,none⟩ = some (.string f.name) := c0
   have c1' : ((wr.drewN q1).drewN q2).cell? ⟨w.heap.size,1,none⟩ = some fv := c1
   have hsz' : w.heap.size < ((wr.drewN q1).drewN q2).heap.size := hsz
   generalize (wr.drewN q1).drewN q2 = w3 at *
   clear HB c0 c1 hsz hd
   have HB := HB3
   have c0 := c0'
   have c1 := c1'
   have hsz := hsz'
   clear HB3 c0' c1' hsz' 
   have HT := ζ (show RdFacts (fun q => U q ∧ q < w3.heap.size) w3 (.slice a l.length c) l from (H.out.agree ζF (Below.agree HB.out)).more ζF (fun _ hu h => ⟨hu,h⟩))
   have HV := ζ (show RdStrs (fun q => U q ∧ q < w3.heap.size) w3 fv f.args from (HF0.out.agree ζS (Below.agree HB.out)).more ζS (fun _ hu h => ⟨hu,h⟩))
   have HD := ζ (show RdFacts (fun q => U q ∧ q < w3.heap.size) w3 (.slice (if c = l.length then a else Option.map (fun x => x.add (l.length * 2)) a) 0 (c - l.length)) (l.drop l.length) by have := HT.out.drop hk;rwa [Nat.sub_self] at this)
   have HL := ζ (show (l.take l.length).length ≤ l.length by rw [List.length_take];exact Nat.min_le_right _ _)
   have HLD := ζ (show (l.drop l.length).length ≤ l.length by rw [List.length_drop];exact Nat.sub_le _ _)
   have i1 : (0 : Int) ≤ (l.length : Int) := by omega
   have i2 : (l.length : Int) ≤ (c : Int) := by omega
   have i3 : (l.length : Int) ≤ (l.length : Int) := by omega
   refine wp_region_held_drew (S := (fun w' => Hid (Below w3.heap.size w3 w') ∧ w'.cell? ⟨w.heap.size,0,none⟩ = some (.string f.name) ∧ w'.cell? ⟨w.heap.size,1,none⟩ = some fv)) (by kernel_rfl) ?_ (fun hHeld => ?_)
   ·exact ⟨ζ ((ζb _ _).drew),(ζl ((ζb _ _).drew) hsz 0).trans c0,(ζl ((ζb _ _).drew) hsz 1).trans c1⟩
   refine ζt (i := 1) (oi := ⟨some 34,_,_,_,_,_⟩) (v := ?_) rfl (Or.inl ⟨by rfl,?_⟩) (by assumption) ?_
   rotate_left
   ·(intro w' hSw;(try dsimp only at hSw);go_simp;try with_reducible rfl)
   try simp only [ζp]
   refine ζt (i := 2) (oi := ⟨some 35,_,_,_,_,_⟩) (v := ?_) rfl (Or.inl ⟨by rfl,?_⟩) (by assumption) ?_
   rotate_left
   ·(intro w' hSw;(try dsimp only at hSw);go_simp;try with_reducible rfl)
   try simp only [ζp]
   refine ζt (i := 3) (oi := ⟨some 36,_,_,_,_,_⟩) (v := ?_) rfl (Or.inl ⟨by rfl,?_⟩) (by assumption) ?_
   rotate_left
   ·(intro w' hSw;(try dsimp only at hSw);go_simp;try with_reducible rfl)
   try simp only [ζp]
   refine ζt (i := 5) (oi := ⟨some 38,_,_,_,_,_⟩) (v := ?_) rfl (Or.inl ⟨by rfl,?_⟩) (by assumption) ?_
   rotate_left
   ·(intro w' hSw;(try dsimp only at hSw);go_simp;try with_reducible rfl)
   try simp only [ζp]
   refine ζt (i := 8) (oi := ⟨some 41,_,_,_,_,_⟩) (v := ?_) rfl (Or.inl ⟨by rfl,?_⟩) (by assumption) ?_
   rotate_left
   ·(intro w' hSw;(try dsimp only at hSw);go_simp;try with_reducible rfl)
   try simp only [ζp]
   refine ζt (i := 9) (oi := ⟨some 42,_,_,_,_,_⟩) (v := ?_) rfl (Or.inl ⟨by rfl,?_⟩) (by assumption) ?_
   rotate_left
   ·(intro w' hSw;(try dsimp only at hSw);go_simp;try with_reducible rfl)
   try simp only [ζp]
   refine ζt (i := 10) (oi := ⟨some 43,_,_,_,_,_⟩) (v := ?_) rfl (Or.inl ⟨by rfl,?_⟩) (by assumption) ?_
   rotate_left
   ·(intro w' hSw;(try dsimp only at hSw);go_simp;try with_reducible rfl)
   try simp only [ζp]
   refine wpAnyH_ready (rs := [0,6]) (by kernel_rfl) (by simp) ?_
   refine AllReadyH.cons (o := ⟨some 33,_,_,_,_,_⟩) rfl (fun K hK => ?_) (AllReadyH.cons (o := ⟨some 39,_,_,_,_,_⟩) rfl (fun K hK => ?_) (AllReadyH.nil))
   ·go_simp
    refine hK.out _ _ ?_ (fun hHeld => ?_)
    ·exact ⟨ζ (((ζb _ _).alloc (ζn _) _).drew),(ζl (((ζb _ _).alloc (ζn _) _).drew) hsz 0).trans c0,(ζl (((ζb _ _).alloc (ζn _) _).drew) hsz 1).trans c1⟩
    clear hK K
    try simp only [ζp]
    refine wpAnyH_ready (rs := [4,6]) (by kernel_rfl) (by simp) ?_
    refine AllReadyH.cons (o := ⟨some 37,_,_,_,_,_⟩) rfl (fun K hK => ?_) (AllReadyH.cons (o := ⟨some 39,_,_,_,_,_⟩) rfl (fun K hK => ?_) (AllReadyH.nil))
    ·have HE := ζ (Owned.empty (α := PFact) (k := 2) (R := RFact) (B := w3.heap.size) (e := 27) (S := fun q => U q ∧ q < w3.heap.size) (w := (w3.alloc (.cells #[] 27)).drew) (g := w3.heap.size) (by exact heap_alloc_new w3 _) (by omega))
     refine step_append_many (B := w3.heap.size) (e := 27) (S := fun q => U q ∧ q < w3.heap.size) (by rfl) _ _ 24 (by rfl) ζF RFact.one rowFacts _ [] (by rfl) HE.out _ (l.take l.length) (by rfl) ((HT.out.take hk).agree ζF (Below.agree (((ζb _ _).alloc (ζn _) _).drew))) (fun cs x' hr => RFact.steady.more (fun q hq _ => ⟨hq,fun e => by have h9 := hq.2;have := (HE.out.row_lt e.symm).1;omega⟩) hr) (by have := HL.out;simp;omega) (by simp <;> omega) ?_
     intro v4 w4 hown4 hg4 hat4
     have HO4 := ζ hown4
     have HB4 := ζ ((((ζb _ _).alloc (ζn _) _).drew).grown hg4 (by simp <;> omega) (fun q hq => (HE.out.row_lt hq).1))
     clear hown4 hg4 hat4
     refine hK.out _ _ ?_ (fun hHeld => ?_)
     ·exact ⟨ζ (HB4.out),(ζl (HB4.out) hsz 0).trans c0,(ζl (HB4.out) hsz 1).trans c1⟩
     clear hK K
     try simp only [ζp]
     refine wpAnyH_ready (rs := [6]) (by kernel_rfl) (by simp) ?_
     refine AllReadyH.cons (o := ⟨some 39,_,_,_,_,_⟩) rfl (fun K hK => ?_) (AllReadyH.nil)
     go_simp
     refine hK.out _ _ ?_ (fun hHeld => ?_)
     ·exact ⟨ζ ((HB4.out.alloc HB4.out.size _)),(ζl ((HB4.out.alloc HB4.out.size _)) hsz 0).trans c0,(ζl ((HB4.out.alloc HB4.out.size _)) hsz 1).trans c1⟩
     clear hK K
     try simp only [ζp]
     refine wpAnyH_ready (rs := [7]) (by kernel_rfl) (by simp) ?_
     refine AllReadyH.cons (o := ⟨some 40,_,_,_,_,_⟩) rfl (fun K hK => ?_) (AllReadyH.nil)
     refine step_append_one (B := w3.heap.size) (e := 27) (S := fun q => U q ∧ q < w3.heap.size) (by rfl) _ _ 24 (by rfl) ζF rowFacts _ ([] ++ l.take l.length) (by rfl) (HO4.out.alloc ζF _) _ 1 #[.string f.name,fv] 27 (0,0) f (by rfl) (heap_alloc_new w4 _) rfl HFV.out ⟨_,rfl,(HV.out.agree ζS (Below.agree (HB4.out.alloc HB4.out.size _))).more ζS (fun q hq _ => ⟨hq,fun e => by have h9 := hq.2;have := (HO4.out.row_lt e.symm).1;omega⟩)⟩ (by have := HL.out;simp;omega) (Below.size (HB4.out.alloc HB4.out.size _)) ?_
     intro v7 w7 hown7 hg7 hat7
     have HO7 := ζ hown7
     have HB7 := ζ (Below.grown (HB4.out.alloc HB4.out.size _) hg7 (Below.size (HB4.out.alloc HB4.out.size _)) (fun q hq => (HO4.out.row_lt hq).1))
     clear hown7 hg7 hat7
     refine hK.out _ _ ?_ (fun hHeld => ?_)
     ·exact ⟨ζ (HB7.out),(ζl (HB7.out) hsz 0).trans c0,(ζl (HB7.out) hsz 1).trans c1⟩
     clear hK K
     try simp only [ζp]
     refine wpAnyH_ready (rs := [11]) (by kernel_rfl) (by simp) ?_
     refine AllReadyH.cons (o := ⟨some 44,_,_,_,_,_⟩) rfl (fun K hK => ?_) (AllReadyH.nil)
     refine step_append_many (B := w3.heap.size) (e := 27) (S := fun q => U q ∧ q < w3.heap.size) (by rfl) _ _ 24 (by rfl) ζF RFact.one rowFacts _ ([] ++ l.take l.length ++ [f]) (by rfl) HO7.out _ (l.drop l.length) (by rfl) (HD.out.agree ζF (Below.agree HB7.out)) (fun cs x' hr => RFact.steady.more (fun q hq _ => ⟨hq,fun e => by have h9 := hq.2;have := (HO7.out.row_lt e.symm).1;omega⟩) hr) (by have := HL.out;have := HLD.out;simp;omega) (Below.size HB7.out) ?_
     intro v11 w11 hown11 hg11 hat11
     have HO11 := ζ hown11
     have HB11 := ζ (HB7.out.grown hg11 (Below.size HB7.out) (fun q hq => (HO7.out.row_lt hq).1))
     clear hown11 hg11 hat11
     refine hK.out _ _ ?_ (fun hHeld => ?_)
     ·exact ⟨ζ (HB11.out),(ζl (HB11.out) hsz 0).trans c0,(ζl (HB11.out) hsz 1).trans c1⟩
     clear hK K
     try simp only [ζp]
     refine ζt (i := 12) (oi := ⟨some 4,_,_,_,_,_⟩) (v := ?_) rfl (Or.inl ⟨by rfl,?_⟩) (by assumption) ?_
     rotate_left
     ·(intro w' hSw;(try dsimp only at hSw);go_simp;try with_reducible rfl)
     try simp only [ζp]
     refine wpAnyH_done (by kernel_rfl) ?_ _
     go_wp2
     all_goals (go_ret;exact ⟨⟨_,rfl,by rw [HA.out];have := (HO11.out.read ζF).more ζF (S' := fun q => U q ∨ w.heap.size ≤ q) (fun q hq _ => hq.elim (fun h => .inl h.1) (fun h => .inr (Nat.le_trans HB.out.size h)));simpa using this⟩,HB.out.trans (HB11.out.mono HB.out.size)⟩)
    ·go_simp
     refine hK.out _ _ ?_ (fun hHeld => ?_)
     ·exact ⟨ζ ((((ζb _ _).alloc (ζn _) _).alloc (by simp <;> omega) _).drew),(ζl ((((ζb _ _).alloc (ζn _) _).alloc (by simp <;> omega) _).drew) hsz 0).trans c0,(ζl ((((ζb _ _).alloc (ζn _) _).alloc (by simp <;> omega) _).drew) hsz 1).trans c1⟩
     clear hK K
     try simp only [ζp]
     refine wpAnyH_ready (rs := [4]) (by kernel_rfl) (by simp) ?_
     refine AllReadyH.cons (o := ⟨some 37,_,_,_,_,_⟩) rfl (fun K hK => ?_) (AllReadyH.nil)
     have HE := ζ (Owned.empty (α := PFact) (k := 2) (R := RFact) (B := w3.heap.size) (e := 27) (S := fun q => U q ∧ q < w3.heap.size) (w := ((w3.alloc (.cells #[] 27)).alloc (.cells #[.string f.name,fv] 27)).drew) (g := w3.heap.size) (by exact (Below.heap_alloc _ _ _ (by simp <;> omega)).trans (heap_alloc_new w3 _)) (by omega))
     refine step_append_many (B := w3.heap.size) (e := 27) (S := fun q => U q ∧ q < w3.heap.size) (by rfl) _ _ 24 (by rfl) ζF RFact.one rowFacts _ [] (by rfl) HE.out _ (l.take l.length) (by rfl) ((HT.out.take hk).agree ζF (Below.agree ((((ζb _ _).alloc (ζn _) _).alloc (by simp <;> omega) _).drew))) (fun cs x' hr => RFact.steady.more (fun q hq _ => ⟨hq,fun e => by have h9 := hq.2;have := (HE.out.row_lt e.symm).1;omega⟩) hr) (by have := HL.out;simp;omega) (by simp <;> omega) ?_
     intro v4 w4 hown4 hg4 hat4
     have HO4 := ζ hown4
     have HB4 := ζ (((((ζb _ _).alloc (ζn _) _).alloc (by simp <;> omega) _).drew).grown hg4 (by simp <;> omega) (fun q hq => (HE.out.row_lt hq).1))
     have HF := ζ (show w4.heap[w3.heap.size + 1]? = some (.cells #[.string f.name,fv] 27) from (hg4.block (w3.heap.size + 1) (by simp <;> omega) (by simp [Value.ownBlock])).trans (heap_new_at (by simp)))
     clear hown4 hg4 hat4
     refine hK.out _ _ ?_ (fun hHeld => ?_)
     ·exact ⟨ζ (HB4.out),(ζl (HB4.out) hsz 0).trans c0,(ζl (HB4.out) hsz 1).trans c1⟩
     clear hK K
     try simp only [ζp]
     refine wpAnyH_ready (rs := [7]) (by kernel_rfl) (by simp) ?_
     refine AllReadyH.cons (o := ⟨some 40,_,_,_,_,_⟩) rfl (fun K hK => ?_) (AllReadyH.nil)
     refine step_append_one (B := w3.heap.size) (e := 27) (S := fun q => U q ∧ q < w3.heap.size) (by rfl) _ _ 24 (by rfl) ζF rowFacts _ ([] ++ l.take l.length) (by rfl) HO4.out _ 1 #[.string f.name,fv] 27 (0,0) f (by rfl) HF.out rfl HFV.out ⟨_,rfl,(HV.out.agree ζS (Below.agree HB4.out)).more ζS (fun q hq _ => ⟨hq,fun e => by have h9 := hq.2;have := (HO4.out.row_lt e.symm).1;omega⟩)⟩ (by have := HL.out;simp;omega) (Below.size HB4.out) ?_
     intro v7 w7 hown7 hg7 hat7
     have HO7 := ζ hown7
     have HB7 := ζ (Below.grown HB4.out hg7 (Below.size HB4.out) (fun q hq => (HO4.out.row_lt hq).1))
     clear hown7 hg7 hat7
     refine hK.out _ _ ?_ (fun hHeld => ?_)
     ·exact ⟨ζ (HB7.out),(ζl (HB7.out) hsz 0).trans c0,(ζl (HB7.out) hsz 1).trans c1⟩
     clear hK K
     try simp only [ζp]
     refine wpAnyH_ready (rs := [11]) (by kernel_rfl) (by simp) ?_
     refine AllReadyH.cons (o := ⟨some 44,_,_,_,_,_⟩) rfl (fun K hK => ?_) (AllReadyH.nil)
     refine step_append_many (B := w3.heap.size) (e := 27) (S := fun q => U q ∧ q < w3.heap.size) (by rfl) _ _ 24 (by rfl) ζF RFact.one rowFacts _ ([] ++ l.take l.length ++ [f]) (by rfl) HO7.out _ (l.drop l.length) (by rfl) (HD.out.agree ζF (Below.agree HB7.out)) (fun cs x' hr => RFact.steady.more (fun q hq _ => ⟨hq,fun e => by have h9 := hq.2;have := (HO7.out.row_lt e.symm).1;omega⟩) hr) (by have := HL.out;have := HLD.out;simp;omega) (Below.size HB7.out) ?_
     intro v11 w11 hown11 hg11 hat11
     have HO11 := ζ hown11
     have HB11 := ζ (HB7.out.grown hg11 (Below.size HB7.out) (fun q hq => (HO7.out.row_lt hq).1))
     clear hown11 hg11 hat11
     refine hK.out _ _ ?_ (fun hHeld => ?_)
     ·exact ⟨ζ (HB11.out),(ζl (HB11.out) hsz 0).trans c0,(ζl (HB11.out) hsz 1).trans c1⟩
     clear hK K
     try simp only [ζp]
     refine ζt (i := 12) (oi := ⟨some 4,_,_,_,_,_⟩) (v := ?_) rfl (Or.inl ⟨by rfl,?_⟩) (by assumption) ?_
     rotate_left
     ·(intro w' hSw;(try dsimp only at hSw);go_simp;try with_reducible rfl)
     try simp only [ζp]
     refine wpAnyH_done (by kernel_rfl) ?_ _
     go_wp2
     all_goals (go_ret;exact ⟨⟨_,rfl,by rw [HA.out];have := (HO11.out.read ζF).more ζF (S' := fun q => U q ∨ w.heap.size ≤ q) (fun q hq _ => hq.elim (fun h => .inl h.1) (fun h => .inr (Nat.le_trans HB.out.size h)));simpa using this⟩,HB.out.trans (HB11.out.mono HB.out.size)⟩)
   ·go_simp
    refine hK.out _ _ ?_ (fun hHeld => ?_)
    ·exact ⟨ζ (((ζb _ _).alloc (ζn _) _).drew),(ζl (((ζb _ _).alloc (ζn _) _).drew) hsz 0).trans c0,(ζl (((ζb _ _).alloc (ζn _) _).drew) hsz 1).trans c1⟩
    clear hK K
    try simp only [ζp]
    refine wpAnyH_ready (rs := [0]) (by kernel_rfl) (by simp) ?_
    refine AllReadyH.cons (o := ⟨some 33,_,_,_,_,_⟩) rfl (fun K hK => ?_) (AllReadyH.nil)
    go_simp
    refine hK.out _ _ ?_ (fun hHeld => ?_)
    ·exact ⟨ζ ((((ζb _ _).alloc (ζn _) _).alloc (by simp <;> omega) _).drew),(ζl ((((ζb _ _).alloc (ζn _) _).alloc (by simp <;> omega) _).drew) hsz 0).trans c0,(ζl ((((ζb _ _).alloc (ζn _) _).alloc (by simp <;> omega) _).drew) hsz 1).trans c1⟩
    clear hK K
    try simp only [ζp]
    refine wpAnyH_ready (rs := [4]) (by kernel_rfl) (by simp) ?_
    refine AllReadyH.cons (o := ⟨some 37,_,_,_,_,_⟩) rfl (fun K hK => ?_) (AllReadyH.nil)
    have HE := ζ (Owned.empty (α := PFact) (k := 2) (R := RFact) (B := w3.heap.size) (e := 27) (S := fun q => U q ∧ q < w3.heap.size) (w := ((w3.alloc (.cells #[.string f.name,fv] 27)).alloc (.cells #[] 27)).drew) (g := w3.heap.size + 1) (by exact heap_new_at (by simp)) (by omega))
    refine step_append_many (B := w3.heap.size) (e := 27) (S := fun q => U q ∧ q < w3.heap.size) (by rfl) _ _ 24 (by rfl) ζF RFact.one rowFacts _ [] (by rfl) HE.out _ (l.take l.length) (by rfl) ((HT.out.take hk).agree ζF (Below.agree ((((ζb _ _).alloc (ζn _) _).alloc (by simp <;> omega) _).drew))) (fun cs x' hr => RFact.steady.more (fun q hq _ => ⟨hq,fun e => by have h9 := hq.2;have := (HE.out.row_lt e.symm).1;omega⟩) hr) (by have := HL.out;simp;omega) (by simp <;> omega) ?_
    intro v4 w4 hown4 hg4 hat4
    have HO4 := ζ hown4
    have HB4 := ζ (((((ζb _ _).alloc (ζn _) _).alloc (by simp <;> omega) _).drew).grown hg4 (by simp <;> omega) (fun q hq => (HE.out.row_lt hq).1))
    have HF := ζ (show w4.heap[w3.heap.size]? = some (.cells #[.string f.name,fv] 27) from (hg4.block w3.heap.size (by simp <;> omega) (by simp [Value.ownBlock])).trans ((Below.heap_alloc _ _ _ (by simp <;> omega)).trans (heap_alloc_new w3 _)))
    clear hown4 hg4 hat4
    refine hK.out _ _ ?_ (fun hHeld => ?_)
    ·exact ⟨ζ (HB4.out),(ζl (HB4.out) hsz 0).trans c0,(ζl (HB4.out) hsz 1).trans c1⟩
    clear hK K
    try simp only [ζp]
    refine wpAnyH_ready (rs := [7]) (by kernel_rfl) (by simp) ?_
    refine AllReadyH.cons (o := ⟨some 40,_,_,_,_,_⟩) rfl (fun K hK => ?_) (AllReadyH.nil)
    refine step_append_one (B := w3.heap.size) (e := 27) (S := fun q => U q ∧ q < w3.heap.size) (by rfl) _ _ 24 (by rfl) ζF rowFacts _ ([] ++ l.take l.length) (by rfl) HO4.out _ 1 #[.string f.name,fv] 27 (0,0) f (by rfl) HF.out rfl HFV.out ⟨_,rfl,(HV.out.agree ζS (Below.agree HB4.out)).more ζS (fun q hq _ => ⟨hq,fun e => by have h9 := hq.2;have := (HO4.out.row_lt e.symm).1;omega⟩)⟩ (by have := HL.out;simp;omega) (Below.size HB4.out) ?_
    intro v7 w7 hown7 hg7 hat7
    have HO7 := ζ hown7
    have HB7 := ζ (Below.grown HB4.out hg7 (Below.size HB4.out) (fun q hq => (HO4.out.row_lt hq).1))
    clear hown7 hg7 hat7
    refine hK.out _ _ ?_ (fun hHeld => ?_)
    ·exact ⟨ζ (HB7.out),(ζl (HB7.out) hsz 0).trans c0,(ζl (HB7.out) hsz 1).trans c1⟩
    clear hK K
    try simp only [ζp]
    refine wpAnyH_ready (rs := [11]) (by kernel_rfl) (by simp) ?_
    refine AllReadyH.cons (o := ⟨some 44,_,_,_,_,_⟩) rfl (fun K hK => ?_) (AllReadyH.nil)
    refine step_append_many (B := w3.heap.size) (e := 27) (S := fun q => U q ∧ q < w3.heap.size) (by rfl) _ _ 24 (by rfl) ζF RFact.one rowFacts _ ([] ++ l.take l.length ++ [f]) (by rfl) HO7.out _ (l.drop l.length) (by rfl) (HD.out.agree ζF (Below.agree HB7.out)) (fun cs x' hr => RFact.steady.more (fun q hq _ => ⟨hq,fun e => by have h9 := hq.2;have := (HO7.out.row_lt e.symm).1;omega⟩) hr) (by have := HL.out;have := HLD.out;simp;omega) (Below.size HB7.out) ?_
    intro v11 w11 hown11 hg11 hat11
    have HO11 := ζ hown11
    have HB11 := ζ (HB7.out.grown hg11 (Below.size HB7.out) (fun q hq => (HO7.out.row_lt hq).1))
    clear hown11 hg11 hat11
    refine hK.out _ _ ?_ (fun hHeld => ?_)
    ·exact ⟨ζ (HB11.out),(ζl (HB11.out) hsz 0).trans c0,(ζl (HB11.out) hsz 1).trans c1⟩
    clear hK K
    try simp only [ζp]
    refine ζt (i := 12) (oi := ⟨some 4,_,_,_,_,_⟩) (v := ?_) rfl (Or.inl ⟨by rfl,?_⟩) (by assumption) ?_
    rotate_left
    ·(intro w' hSw;(try dsimp only at hSw);go_simp;try with_reducible rfl)
    try simp only [ζp]
    refine wpAnyH_done (by kernel_rfl) ?_ _
    go_wp2
    all_goals (go_ret;exact ⟨⟨_,rfl,by rw [HA.out];have := (HO11.out.read ζF).more ζF (S' := fun q => U q ∨ w.heap.size ≤ q) (fun q hq _ => hq.elim (fun h => .inl h.1) (fun h => .inr (Nat.le_trans HB.out.size h)));simpa using this⟩,HB.out.trans (HB11.out.mono HB.out.size)⟩)
end Go.Proofs.YtdngkcieckejoaaGreat
