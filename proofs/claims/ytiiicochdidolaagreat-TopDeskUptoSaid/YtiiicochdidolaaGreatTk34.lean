/-
  THE TEXTS DeskD6, Alive8, OpenDo, one behind the other.
-/
import Derived.Test.YtiiicochdidolaaGreatTk15
import Derived.Test.YtiiicochdidolaaGreatTk18
import Derived.Test.YtiiicochdidolaaGreatTk23
import Derived.Test.YtiiicochdidolaaGreatTk33
namespace Go.Proofs.YtiiicochdidolaaGreat
open Go.RowKit
def RDo : Reader PDo := fun S w cs x => ∃ av,cs = [.int .i64 x.kind,.int .i64 x.n,.string x.fact.name,av,.string x.text] ∧ RdStrs S w av x.fact.args
theorem RDo.steady : Steady RDo := ⟨fun h ⟨av,hc,r⟩ => ⟨av,hc,r.agree RStr.steady h⟩,fun h ⟨av,hc,r⟩ => ⟨av,hc,r.more RStr.steady h⟩⟩
abbrev RdDos := RdSlice 5 RDo
def RAns : Reader PAns := fun S w cs a => ∃ ba bc s0 aa an ac rl ka kn kc,cs = [.int .i64 a.err,.int .i64 a.at',.int .i64 a.n,.slice ba a.binds.length bc,.string s0,.slice aa an ac,.int .i64 rl,.slice ka kn kc] ∧ RdBindss S w (.slice ba a.binds.length bc) a.binds
theorem RAns.steady : Steady RAns :=
  ⟨fun h ⟨ba,bc,s0,aa,an,ac,rl,ka,kn,kc,hc,r⟩ => ⟨ba,bc,s0,aa,an,ac,rl,ka,kn,kc,hc,RdSlice.agree RBinds.steady h r⟩,fun h ⟨ba,bc,s0,aa,an,ac,rl,ka,kn,kc,hc,r⟩ => ⟨ba,bc,s0,aa,an,ac,rl,ka,kn,kc,hc,RdSlice.more RBinds.steady h r⟩⟩
abbrev RdAnss := RdSlice 8 RAns
theorem RdDos.at {S : Nat → Prop} {w : World} {a : Option Addr} {n cap : Nat} {l : List PDo} (h : RdDos S w (.slice a n cap) l) {i : Nat} {x : PDo} (hx : l[i]? = some x) : ∃ b off aa ac,a = some ⟨b,off,none⟩ ∧ DoAt w b (off + i * 5) x aa ac := by
  obtain ⟨a',cap',hv,_,_,_,h3⟩ := h
  obtain ⟨b,off,cs,ha,hS,hb,hk,hc,av,hr,hq⟩ := h3 i x hx
  injection hv with e1 e2 e3
  subst e1
  subst hr
  obtain ⟨aa,ac,rfl,-,-,-⟩ := id hq.form
  exact ⟨b,off,aa,ac,ha,hb,by simpa using hc 0 _ rfl,hc 1 _ rfl,hc 2 _ rfl,hc 3 _ rfl,hc 4 _ rfl,hq.more RStr.steady (fun _ _ _ => trivial)⟩
theorem rowAns : RowT Tryz.prog 32 46 8 := RowT.mk' (b := 120) (z := .agg #[.int .i64 0,.int .i64 0,.int .i64 0,.slice none 0 0,.string ⟨#[]⟩,.slice none 0 0,.int .i64 0,.slice none 0 0]) Tryz.underlying32 (by kernel_rfl) (by omega) rfl (by omega)
structure DkRd (d : PDesk) (tv rv kv nv sv : Value) (w : World) : Prop where
  told : RdFacts (fun _ => True) w tv d.told
  rules : RdRules (fun _ => True) w rv d.rules
  known : RdFacts (fun _ => True) w kv d.run.known
  new : RdFacts (fun _ => True) w nv d.run.new
  saved : SavedRd (fun _ => True) d.saved w sv
abbrev deskV (d : PDesk) (tv rv kv nv sv : Value) : Value := .agg #[tv,rv,.bool d.running,kv,nv,.int .i64 d.run.stratum,.int .i64 d.run.rounds,.bool d.run.done,sv]
def PlayPost (r : PDesk × List PAns × Int) (w : World) (e : Ending) (w' : World) : Prop :=
  Below w.heap.size w w' ∧ ∃ ta tc ra rc ka kc na nc sa sn sc oa oc,e = .returned (.tuple #[deskV r.1 (.slice ta r.1.told.length tc) (.slice ra r.1.rules.length rc) (.slice ka r.1.run.known.length kc) (.slice na r.1.run.new.length nc) (.slice sa sn sc),.slice oa r.2.1.length oc,.int .i64 r.2.2]) ∧
    DkRd r.1 (.slice ta r.1.told.length tc) (.slice ra r.1.rules.length rc) (.slice ka r.1.run.known.length kc) (.slice na r.1.run.new.length nc) (.slice sa sn sc) w' ∧ RdAnss (fun _ => True) w' (.slice oa r.2.1.length oc) r.2.1
theorem playL_snoc {sp : StrataFn} (l : List PDo) (d : PDesk) {i : Nat} {x : PDo} (h : l[i]? = some x) : (playL sp d (l.take (i + 1))).2 = (playL sp d (l.take i)).2 ++ [(doP sp (playL sp d (l.take i)).1 x).2] := by
  rw [List.take_add_one,h,playL_append]
  rfl
theorem DkAt.rd {S : Nat → Prop} {D : Nat} {d : PDesk} {tv rv kv nv sv : Value} {w : World} (h : DkAt S D d tv rv kv nv sv w) : DkRd d tv rv kv nv sv w :=
  ⟨h.told.more RFact.steady (fun _ _ _ => trivial),RdSlice.more RRule.steady (fun _ _ _ => trivial) h.rules,h.known.more RFact.steady (fun _ _ _ => trivial),h.new.more RFact.steady (fun _ _ _ => trivial),h.saved.more (fun _ _ _ => trivial)⟩
theorem Dk.grown {U : Nat → Prop} {D : Nat} {d : PDesk} {w w' : World} {v v' : Value} (h : Dk (fun q => U q ∧ some q ≠ v.ownBlock) D d w) (hg : w.grownBy w' v.ownBlock) (hD : v.ownBlock ≠ some D) (hat : v'.ownBlock = v.ownBlock ∨ v'.ownBlock = some w.heap.size) : Dk (fun q => U q ∧ some q ≠ v'.ownBlock) D d w' := by
  obtain ⟨tv,rv,kv,nv,sv,h⟩ := h
  have h1 : DkAt (fun q => (U q ∧ some q ≠ v.ownBlock) ∧ q < w.heap.size) D d tv rv kv nv sv w := h.more fun q hq hl => ⟨hq,hl⟩
  have h2 := h1.to (w' := w') (h1.blk.grown hg (fun e => hD e.symm)) ⟨hg.size,fun q hq hl => hg.block q hl hq.1.2⟩
  refine ⟨tv,rv,kv,nv,sv,h2.more fun q hq _ => ⟨hq.1.1,fun e => ?_⟩⟩
  rcases hat with e1 | e1
  · exact hq.1.2 (by rw [e,e1])
  · rw [e1] at e
    have := Option.some.inj e
    have := hq.2
    omega
theorem Dk.alloc {S : Nat → Prop} {D : Nat} {d : PDesk} {w : World} (h : Dk S D d w) (o : Obj) : Dk S D d (w.alloc o) := by obtain ⟨tv,rv,kv,nv,sv,h⟩ := h;exact ⟨tv,rv,kv,nv,sv,h.alloc o⟩
theorem Dk.lt {S : Nat → Prop} {D : Nat} {d : PDesk} {w : World} (h : Dk S D d w) : D < w.heap.size := by obtain ⟨tv,rv,kv,nv,sv,h⟩ := h;exact h.lt
def set9 (W : World) (A : Nat) (u0 u1 u2 u3 u4 u5 u6 u7 u8 : Value) : World := ((((((((W.setCell ⟨A,0,none⟩ u0).setCell ⟨A,1,none⟩ u1).setCell ⟨A,2,none⟩ u2).setCell ⟨A,3,none⟩ u3).setCell ⟨A,4,none⟩ u4).setCell ⟨A,5,none⟩ u5).setCell ⟨A,6,none⟩ u6).setCell ⟨A,7,none⟩ u7).setCell ⟨A,8,none⟩ u8
theorem agree_set9 {S : Nat → Prop} {w : World} {A : Nat} (hp : ¬ S A) (u0 u1 u2 u3 u4 u5 u6 u7 u8 : Value) : Agree S w (set9 w A u0 u1 u2 u3 u4 u5 u6 u7 u8) :=
  (agree_set8 hp u0 u1 u2 u3 u4 u5 u6 u7).trans (Agree.setCell (p := ⟨A,8,none⟩) hp u8)
theorem below_set9 {w W : World} {A B : Nat} (h : Below B w W) (hA : B ≤ A) (u0 u1 u2 u3 u4 u5 u6 u7 u8 : Value) : Below B w (set9 W A u0 u1 u2 u3 u4 u5 u6 u7 u8) :=
  ((((((((h.setCell hA _).setCell hA _).setCell hA _).setCell hA _).setCell hA _).setCell hA _).setCell hA _).setCell hA _).setCell hA _
def DoSmall (x : PDo) : Prop := x.fact.args.length ≤ 1048576 ∧ x.text.size ≤ 1048576
attribute [local go_sem ↓] Go.wp_at_zero Go.wp_at_succ
set_option maxRecDepth 100000 in
set_option maxHeartbeats 8000000 in
theorem playCalls {S : Nat → Prop} {sp : StrataFn} (hsp : ∀ p,StrataIs p (sp p).1 (sp p).2) (l : List PDo) (lv : Value) (w : World) (h : RdDos S w lv l) (n1 : l.length ≤ 1048576) (n2 : ∀ x ∈ l,DoSmall x) :
    Calls Tryz.prog 8 #[lv] w (PlayPost (playP sp l) w) := by
  obtain ⟨la,lc,rfl,-,-,-⟩ := id h.form
  have HL := Lib.hid (h.old RDo.steady (Below.refl _ _))
  have HN2 := Lib.hid n2
  clear h n2
  have hq0 : ∀ q,w.heap.size ≤ q → True := fun _ _ => trivial
  by_cases h60 : 60 < l.length
  · have HE := Lib.hid (show playP sp l = (zeroDesk,[],5) by unfold playP;rw [if_pos h60])
    have h1 : (60 : Int) < (l.length : Int) := by omega
    have HB1 := Lib.hid (Blk.new w 31 #[.slice none 0 0,.slice none 0 0,.bool false,.slice none 0 0,.slice none 0 0,.int .i64 0,.int .i64 0,.bool false,.slice none 0 0])
    have c0 := HB1.out.cell 0;have c1 := HB1.out.cell 1;have c2 := HB1.out.cell 2;have c3 := HB1.out.cell 3;have c4 := HB1.out.cell 4;have c5 := HB1.out.cell 5;have c6 := HB1.out.cell 6;have c7 := HB1.out.cell 7;have c8 := HB1.out.cell 8;simp only [List.getElem?_toArray,List.getElem?_cons_zero,List.getElem?_cons_succ] at c0 c1 c2 c3 c4 c5 c6 c7 c8
    clear h60
    go_enter Tryz.func8,Tryz.ntmps8
    go_wp2
    refine bodyPost_ret (v := .tuple #[deskV zeroDesk (.slice none 0 0) (.slice none 0 0) (.slice none 0 0) (.slice none 0 0) (.slice none 0 0),.slice none 0 0,.int .i64 5]) (by simp [results,Tryz.results8,go_sem,zeroDesk,zeroRun,c0,c1,c2,c3,c4,c5,c6,c7,c8]) rfl ?_
    rw [HE.out]
    exact ⟨(Below.refl _ _).alloc (Nat.le_refl _) _,none,0,none,0,none,0,none,0,none,0,0,none,0,rfl,⟨RdFacts.nil,⟨none,0,rfl,Nat.le_refl _,Nat.zero_le _,fun _ => rfl,fun i x hx => by simp [zeroDesk] at hx⟩,RdFacts.nil,RdFacts.nil,rfl⟩,⟨none,0,rfl,Nat.le_refl _,Nat.zero_le _,fun _ => rfl,fun i x hx => by simp at hx⟩⟩
  have HE := Lib.hid (show playP sp l = ((playL sp zeroDesk l).1,(playL sp zeroDesk l).2,0) by unfold playP;rw [if_neg h60])
  have h1 : ¬ (60 : Int) < (l.length : Int) := by omega
  obtain ⟨W0,hW0⟩ : ∃ W0 : World,(w.alloc (.cells #[.slice none 0 0,.slice none 0 0,.bool false,.slice none 0 0,.slice none 0 0,.int .i64 0,.int .i64 0,.bool false,.slice none 0 0] 31)).alloc (.cells #[.slice none 0 0,.slice none 0 0,.bool false,.slice none 0 0,.slice none 0 0,.int .i64 0,.int .i64 0,.bool false,.slice none 0 0] 80) = W0 := ⟨_,rfl⟩
  have HB0 := Lib.hid (show Below w.heap.size w W0 by subst hW0;exact ((Below.refl _ _).alloc (Nat.le_refl _) _).alloc (by simp) _)
  have HQ0 := Lib.hid (show Blk W0 w.heap.size 31 #[.slice none 0 0,.slice none 0 0,.bool false,.slice none 0 0,.slice none 0 0,.int .i64 0,.int .i64 0,.bool false,.slice none 0 0] by subst hW0;exact (Blk.new w _ _).alloc _)
  have HD0 := Lib.hid (show Dk (fun q => (q ≠ w.heap.size + 1 ∧ q ≠ w.heap.size) ∧ some q ≠ (Value.slice none 0 0).ownBlock) (w.heap.size + 1) (playL sp zeroDesk (l.take 0)).1 W0 from ⟨_,_,_,_,_,by subst hW0;exact heap_new_at (by simp),RdFacts.nil,⟨none,0,rfl,Nat.le_refl _,Nat.zero_le _,fun _ => rfl,fun i x hx => by simp [playL,zeroDesk] at hx⟩,RdFacts.nil,RdFacts.nil,rfl⟩)
  have HO0 := Lib.hid (show Owned 8 RAns (w.heap.size + 2) 46 (fun q => w.heap.size + 2 ≤ q) W0 (.slice none 0 0) (playL sp zeroDesk (l.take 0)).2 from Owned.nil)
  go_enter Tryz.func8,Tryz.ntmps8
  go_wp2
  clear hW0
  go_loopw [16,6] (fun i o wr => ∃ k : Nat,k ≤ l.length ∧ i = .int .i64 k ∧ Hid (Dk (fun q => (q ≠ w.heap.size + 1 ∧ q ≠ w.heap.size) ∧ some q ≠ o.ownBlock) (w.heap.size + 1) (playL sp zeroDesk (l.take k)).1 wr) ∧ Hid (Owned 8 RAns (w.heap.size + 2) 46 (fun q => w.heap.size + 2 ≤ q) wr o (playL sp zeroDesk (l.take k)).2) ∧ Hid (Below w.heap.size w wr) ∧ Hid (Blk wr w.heap.size 31 #[.slice none 0 0,.slice none 0 0,.bool false,.slice none 0 0,.slice none 0 0,.int .i64 0,.int .i64 0,.bool false,.slice none 0 0])) (fun i _ _ => l.length - (intOf i).toNat)
  case atStart => exact ⟨0,Nat.zero_le _,rfl,HD0,HO0,HB0,HQ0⟩
  case round =>
    clear HD0 HO0 HB0 HQ0
    obtain ⟨k,hk,rfl,HD,HO,HB,HQ⟩ := hrel
    obtain ⟨oa,oc,rfl,-,-,-⟩ := id (HO.out.read RAns.steady).form
    by_cases hlt : k < l.length
    · obtain ⟨x,hx⟩ : ∃ x,l[k]? = some x := ⟨_,List.getElem?_eq_getElem hlt⟩
      have hsm := HN2.out x (List.mem_of_getElem? hx)
      obtain ⟨b,off,aa,ac,rfl,hda⟩ := RdDos.at (HL.out.agree RDo.steady (Below.agree' HB.out)) hx
      have HS1 := Lib.hid (playL_take (sp := sp) l zeroDesk hx)
      have HS2 := Lib.hid (playL_snoc (sp := sp) l zeroDesk hx)
      have HOK := Lib.hid (play_ok hsp (l.take k) (zero_ok hsp))
      have HRO := Lib.hid (play_rules (sp := sp) (l.take k) zero_rules)
      have HZ := Lib.hid (fun q (hq : (Value.slice oa (playL sp zeroDesk (l.take k)).2.length oc).ownBlock = some q) => HO.out.row_lt hq)
      have hal : (playL sp zeroDesk (l.take k)).2.length < 1099511627776 := by rw [playL_len,List.length_take];omega
      generalize playL sp zeroDesk (l.take k) = pk at *
      obtain ⟨dk,ak⟩ := pk
      dsimp only at *
      generalize hdx : doP sp dk x = dx at *
      have hws := HB.out.size
      have hlt2 := HD.out.lt
      have KD := Lib.hid (deskDo hsp (w.heap.size + 1) dk x b (off + k * 5) aa ac wr (T := fun q => (q ≠ w.heap.size + 1 ∧ q ≠ w.heap.size) ∧ some q ≠ (Value.slice oa ak.length oc).ownBlock) (fun h => h.1.1 rfl) (fun q hq => ⟨⟨by omega,by omega⟩,fun e => by have := (HZ.out q e.symm).2;omega⟩) HD.out hda HOK.out HRO.out hsm.1 hsm.2)
      rw [hdx] at KD
      clear hdx hda hx hsm
      have hoD : (Value.slice oa ak.length oc).ownBlock ≠ some (w.heap.size + 1) := fun e => by have := (HZ.out _ e).1;omega
      have hoQ : some w.heap.size ≠ (Value.slice oa ak.length oc).ownBlock := fun e => by have := (HZ.out _ e.symm).1;omega
      go_wp2_with (first
        | (at_builtin;have hh := HO9.out;clear hh;refine wpList_append_one (B := w.heap.size + 2) (e := 46) (S := fun q => w.heap.size + 2 ≤ q) (by rfl) _ _ 32 (by rfl) RAns.steady rowAns _ ak (by rfl) (HO9.out.alloc RAns.steady _) _ 1 #[.int .i64 dx.2.err,.int .i64 dx.2.at',.int .i64 dx.2.n,.slice ba dx.2.binds.length bc,.string s0,.slice a9 n9 c9,.int .i64 r9,.slice ka9 kn9 kc9] 46 (0,0) dx.2 (by rfl) (heap_alloc_new w9 _) rfl (by simp [Value.oneCell']) ⟨ba,bc,s0,a9,n9,c9,r9,ka9,kn9,kc9,rfl,HRB.out⟩ hal hs9 ?_;intro v6 w6 hown6 hg6 hat6;have HO6 := Lib.hid hown6;have HD6 := Lib.hid ((HD9.out.alloc (.cells #[.int .i64 dx.2.err,.int .i64 dx.2.at',.int .i64 dx.2.n,.slice ba dx.2.binds.length bc,.string s0,.slice a9 n9 c9,.int .i64 r9,.slice ka9 kn9 kc9] 46)).grown hg6 hoD hat6);have HB6 := Lib.hid ((HB9.out.alloc HB9.out.size (.cells #[.int .i64 dx.2.err,.int .i64 dx.2.at',.int .i64 dx.2.n,.slice ba dx.2.binds.length bc,.string s0,.slice a9 n9 c9,.int .i64 r9,.slice ka9 kn9 kc9] 46)).grown hg6 (by have := HB9.out.size;simp;omega) (fun q hq => by have := (HZ.out q hq).1;omega));have HQ6 := Lib.hid ((HQ9.out.alloc (.cells #[.int .i64 dx.2.err,.int .i64 dx.2.at',.int .i64 dx.2.n,.slice ba dx.2.binds.length bc,.string s0,.slice a9 n9 c9,.int .i64 r9,.slice ka9 kn9 kc9] 46)).grown hg6 hoQ);clear hown6 hg6 hat6)
        | (go_at_call 21;refine (KD.out).mono ?_;rintro e w9 ⟨hd9,hb9,ba,bc,s0,a9,n9,c9,r9,ka9,kn9,kc9,rfl,hr9⟩;have HD9 := Lib.hid hd9;have HB9 := Lib.hid (low_but HB.out hb9 (by omega) (Nat.le_refl _));have HO9 := Lib.hid (HO.out.butS RAns.steady hb9 (by omega) (by show ¬ w.heap.size + 2 ≤ w.heap.size + 1;omega));have HQ9 := Lib.hid (HQ.out.but hb9 (by omega));have HRB := Lib.hid (RdSlice.more RBinds.steady (S' := fun q => w.heap.size + 2 ≤ q ∧ some q ≠ (Value.slice oa ak.length oc).ownBlock) (fun q hq _ => ⟨by have h : wr.heap.size ≤ q := hq;omega,fun e => by have h : wr.heap.size ≤ q := hq;have := (HZ.out q e.symm).2;omega⟩) (RdSlice.agree RBinds.steady ((Agree.refl _ _).alloc (.cells #[.int .i64 dx.2.err,.int .i64 dx.2.at',.int .i64 dx.2.n,.slice ba dx.2.binds.length bc,.string s0,.slice a9 n9 c9,.int .i64 r9,.slice ka9 kn9 kc9] 46)) hr9));have hs9 : w.heap.size + 2 ≤ (w9.alloc (.cells #[.int .i64 dx.2.err,.int .i64 dx.2.at',.int .i64 dx.2.n,.slice ba dx.2.binds.length bc,.string s0,.slice a9 n9 c9,.int .i64 r9,.slice ka9 kn9 kc9] 46)).heap.size := (by have := hb9.size;simp;omega);clear hd9 hb9 hr9))
      rw [← HS1.out] at HD6
      rw [← HS2.out] at HO6
      go_roundw
      case rel => exact ⟨k + 1,by omega,by go_num,HD6,HO6,HB6,HQ6⟩
      case measure => simp [intOf];omega
    · have hkn : k = l.length := by omega
      rw [hkn,List.take_length] at HD HO
      subst hkn
      obtain ⟨tv,rv,kv,nv,sv,hd⟩ := HD.out
      obtain ⟨ta,tc,rfl,-,-,-⟩ := id hd.told.form
      obtain ⟨ra,rc,rfl,-,-,-⟩ := id hd.rules.form
      obtain ⟨ka,kc,rfl,-,-,-⟩ := id hd.known.form
      obtain ⟨na,nc,rfl,-,-,-⟩ := id hd.new.form
      obtain ⟨sa,sn,sc,rfl⟩ := hd.saved.form
      have HDD := Lib.hid hd
      have t0 := hd.blk.cell 0;have t1 := hd.blk.cell 1;have t2 := hd.blk.cell 2;have t3 := hd.blk.cell 3;have t4 := hd.blk.cell 4;have t5 := hd.blk.cell 5;have t6 := hd.blk.cell 6;have t7 := hd.blk.cell 7;have t8 := hd.blk.cell 8;simp only [List.getElem?_toArray,List.getElem?_cons_zero,List.getElem?_cons_succ] at t0 t1 t2 t3 t4 t5 t6 t7 t8
      have c0 := HQ.out.cell 0;have c1 := HQ.out.cell 1;have c2 := HQ.out.cell 2;have c3 := HQ.out.cell 3;have c4 := HQ.out.cell 4;have c5 := HQ.out.cell 5;have c6 := HQ.out.cell 6;have c7 := HQ.out.cell 7;have c8 := HQ.out.cell 8;have f0 := HQ.out.frozen 0;have f1 := HQ.out.frozen 1;have f2 := HQ.out.frozen 2;have f3 := HQ.out.frozen 3;have f4 := HQ.out.frozen 4;have f5 := HQ.out.frozen 5;have f6 := HQ.out.frozen 6;have f7 := HQ.out.frozen 7;have f8 := HQ.out.frozen 8;simp only [List.getElem?_toArray,List.getElem?_cons_zero,List.getElem?_cons_succ] at c0 c1 c2 c3 c4 c5 c6 c7 c8
      clear hd HD
      go_wp2
      refine bodyPost_ret (v := .tuple #[deskV (playL sp zeroDesk l).1 (.slice ta (playL sp zeroDesk l).1.told.length tc) (.slice ra (playL sp zeroDesk l).1.rules.length rc) (.slice ka (playL sp zeroDesk l).1.run.known.length kc) (.slice na (playL sp zeroDesk l).1.run.new.length nc) (.slice sa sn sc),.slice oa (playL sp zeroDesk l).2.length oc,.int .i64 0]) (by simp [results,Tryz.results8,go_sem,c0,c1,c2,c3,c4,c5,c6,c7,c8]) rfl ?_
      rw [HE.out]
      refine ⟨below_set9 HB.out (Nat.le_refl _) _ _ _ _ _ _ _ _ _,ta,tc,ra,rc,ka,kc,na,nc,sa,sn,sc,oa,oc,rfl,?_,?_⟩
      · exact (HDD.out.to (w' := set9 wr w.heap.size _ _ _ _ _ _ _ _ _) ((((((((((HDD.out.blk.far (p := ⟨w.heap.size,0,none⟩) (by simp) _).far (p := ⟨w.heap.size,1,none⟩) (by simp) _).far (p := ⟨w.heap.size,2,none⟩) (by simp) _).far (p := ⟨w.heap.size,3,none⟩) (by simp) _).far (p := ⟨w.heap.size,4,none⟩) (by simp) _).far (p := ⟨w.heap.size,5,none⟩) (by simp) _).far (p := ⟨w.heap.size,6,none⟩) (by simp) _).far (p := ⟨w.heap.size,7,none⟩) (by simp) _).far (p := ⟨w.heap.size,8,none⟩) (by simp) _)) (agree_set9 (fun h => h.1.2 rfl) _ _ _ _ _ _ _ _ _)).rd
      · exact (RdSlice.agree RAns.steady (agree_set9 (S := fun q => w.heap.size + 2 ≤ q) (by omega) _ _ _ _ _ _ _ _ _) ((HO.out.read RAns.steady).more RAns.steady (fun q hq _ => hq.elim id id))).more RAns.steady (fun _ _ _ => trivial)
end Go.Proofs.YtiiicochdidolaaGreat
namespace Go.Proofs.YtiiicochdidolaaGreat
open Go.RowKit
def doCells (x : PDo) (av : Value) : List Value := [.int .i64 x.kind,.int .i64 x.n,.string x.fact.name,av,.string x.text]
theorem RdDos.lit {S : Nat → Prop} {w : World} {b : Nat} {t : TypeId} {l : List PDo} (avs : List Value) {n : Nat} (hn : l.length = n) (hm : n ≤ maxLen) (hl : avs.length = n) (h : Blk w b t (List.zipWith doCells l avs).flatten.toArray) (hS : S b)
    (ha : ∀ (i : Nat) (f : PDo) (v : Value),l[i]? = some f → avs[i]? = some v → RdStrs S w v f.fact.args) : RdDos S w (.slice (some ⟨b,0,none⟩) n n) l := by
  subst hn
  refine ⟨_,_,rfl,Nat.le_refl _,hm,(fun h => by cases h),fun i x hx => ?_⟩
  have hi := (List.getElem?_eq_some_iff.1 hx).1
  obtain ⟨v,hv⟩ : ∃ v,avs[i]? = some v := ⟨_,List.getElem?_eq_getElem (by omega)⟩
  refine ⟨b,0,doCells x v,rfl,hS,h.lt,rfl,fun j u hu => ?_,v,rfl,ha i x v hx hv⟩
  have hz : (List.zipWith doCells l avs)[i]? = some (doCells x v) := by
    rw [List.getElem?_zipWith,hx,hv]
  have hg := flatten_get (k := 5) _ (fun cs hcs => by
    obtain ⟨i,hi⟩ := List.mem_iff_getElem?.1 hcs
    rw [List.getElem?_zipWith] at hi
    split at hi
    · obtain rfl := Option.some.inj hi;rfl
    · cases hi) i _ j u hz hu
  rw [h.cell,List.getElem?_toArray,Nat.zero_add]
  exact hg
end Go.Proofs.YtiiicochdidolaaGreat
namespace Go.Proofs.YtiiicochdidolaaGreat
open Go.RowKit Go.ChangeShapes Go.WideShapes Go.Deep
end Go.Proofs.YtiiicochdidolaaGreat
