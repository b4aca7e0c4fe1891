/-
  THE WALK OF cororef4.With: what is told, by maps.
-/
import Derived.Test.YtdngkcieckejoaaGreatPk9
import Derived.Test.YtdngkcieckejoaaGreatPk17
import Derived.Test.YtdngkcieckejoaaGreatPk19
import Derived.Test.YtdngkcieckejoaaGreatPk20
import Derived.Test.YtdngkcieckejoaaGreatPk25
import Derived.Test.YtdngkcieckejoaaGreatPk26
namespace Go.Proofs.YtdngkcieckejoaaGreat
open Go.RowKit Go.Maps
theorem mergeRef {S : Nat → Prop} (ls : List Binds) (v : Value) (w : World) (h : RdBindss S w v ls) (n1 : ls.length ≤ 1073741824) (n2 : ∀ x ∈ ls,x.length ≤ 1073741824) : Calls Tryz.prog 76 #[v] w (MergePost ls w) :=
 mergeRefN ls.length ls v w h (ζn _) n1 n2
theorem envs_fine {body : List PAtom} {facts other : List PFact} {at' : Int} {ls : List Binds} (hz : bodyBad body = 0) (b1 : ∀ a ∈ body,∀ t ∈ a.terms,t.name.size ≤ 1048576) (h : envsP body facts at' other = some ls) :
 ls.length ≤ 20000 ∧ ∀ l ∈ ls,Nd l ∧ l.length ≤ 20 ∧ ∀ y ∈ l,y.var.size ≤ maxLen := by
 unfold envsP at h
 obtain ⟨l0,hg,rfl⟩ := Option.map_eq_some_iff.1 h
 have g1 := goP_count body 0 _ _ hg (by simp)
 have g3 := notP_count (pick := pickP facts other at') body 0 l0
 have g4 := body_atoms hz
 refine ⟨by omega,fun l hl => ?_⟩
 have hl0 := ((mem_notP body 0 l0 l).1 hl).1
 have h6 := goP_short (c := 0) body 0 _ _ hg (by simp) (fun a ha => body_terms hz ha) l hl0
 obtain ⟨e,he,h7,-,h8,-⟩ := goP_sound body 0 _ _ hg (fun l hl => by obtain rfl := List.mem_singleton.1 hl;exact List.Pairwise.nil) l hl0
 obtain rfl := List.mem_singleton.1 he
 refine ⟨h7,by omega,fun y hy => ?_⟩
 rcases (h8 y.var).1 (List.mem_map.2 ⟨y,hy,rfl⟩) with h | ⟨a,ha,-,hv⟩
 ·cases h
 ·obtain ⟨t,ht,-,e⟩ := (mem_varsOf _ _).1 hv
  rw [← e]
  have := b1 a ha t ht
  unfold maxLen
  omega
theorem with_envs {body : List PAtom} {facts other : List PFact} {at' : Int} (hz : bodyBad body = 0) (h1 : (setF facts).1 = 0) (h2 : (setF other).1 = 0) :
 withP body facts at' other = match envsP body facts at' other with | none => ([],4) | some ls => (ofC cmpBinds (ls.map (ofC cmpBind)),0) := by
 unfold withP envsP
 rw [if_neg (by simpa using hz),if_neg (by simpa using h1),if_neg (by simpa using h2)]
 cases goP (pickP facts other at') 0 [[]] body <;> rfl
def WithR (r : List Binds × Int) (w : World) (e : Ending) (w' : World) : Prop :=
 (∃ a c,e = .returned (.tuple #[.slice a r.1.length c,.int .i64 r.2]) ∧ RdBindss (fun _ => True) w' (.slice a r.1.length c) r.1) ∧ Below w.heap.size w w'
theorem with_no {e : Int} {w w' : World} (hb : Below w.heap.size w w') : WithR ([],e) w (.returned (.tuple #[.slice none 0 0,.int .i64 e])) w' :=
 ⟨⟨none,0,rfl,RdSlice.nothing (Nat.zero_le _) (fun _ => rfl)⟩,hb⟩
attribute [local go_sem ↓] Go.wp_at_zero Go.wp_at_succ
set_option maxRecDepth 100000 in
set_option maxHeartbeats 0 in
theorem withRef {S S2 S3 : Nat → Prop} (body : List PAtom) (bv : Value) (facts : List PFact) (fv : Value) (at' : Int) (other : List PFact) (ov : Value) (w : World) (hb : RdAtoms S w bv body) (hf : RdFacts S2 w fv facts) (ho : RdFacts S3 w ov other)
 (n0 : body.length ≤ 1048576) (b0 : ∀ a ∈ body,a.terms.length ≤ 1048576 ∧ a.name.size ≤ 1048576) (b1 : ∀ a ∈ body,∀ t ∈ a.terms,t.name.size ≤ 1048576)
 (n1 : facts.length ≤ 1048576) (n2 : ∀ x ∈ facts,(x.args.length ≤ 1048576 ∧ ∀ a ∈ x.args,a.size ≤ 1048576) ∧ x.name.size ≤ 1048576) (m1 : other.length ≤ 1048576) (m2 : ∀ x ∈ other,(x.args.length ≤ 1048576 ∧ ∀ a ∈ x.args,a.size ≤ 1048576) ∧ x.name.size ≤ 1048576) :
 Calls Tryz.prog 51 #[bv,fv,.int .i64 at',ov] w (WithR (withP body facts at' other) w) := by
 obtain ⟨ba,bc,rfl,-,-,-⟩ := id hb.form
 obtain ⟨fa,fc,rfl,-,-,-⟩ := id hf.form
 obtain ⟨oa,oc,rfl,-,-,-⟩ := id ho.form
 have KW := ζ (wrongBodyRef body (.slice ba body.length bc) w hb n0 (fun a ha => (b0 a ha).1) b1 (fun a ha => (b0 a ha).2))
 have KF := ζ (fun W (hW : Below w.heap.size w W) => setRef (.slice fa facts.length fc) facts W (hf.up hW) (by omega) (fun x hx => by have := (n2 x hx).1.1;omega) (fun x hx => ⟨by have := (n2 x hx).2;omega,fun a ha => by have := (n2 x hx).1.2 a ha;omega⟩))
 have KO := ζ (fun W (hW : Below w.heap.size w W) => setRef (.slice oa other.length oc) other W (ho.up hW) (by omega) (fun x hx => by have := (m2 x hx).1.1;omega) (fun x hx => ⟨by have := (m2 x hx).2;omega,fun a ha => by have := (m2 x hx).1.2 a ha;omega⟩))
 by_cases hz : bodyBad body = 0
 rotate_left
 ·have HE := ζ (show withP body facts at' other = ([],bodyBad body) by unfold withP;rw [if_pos hz])
  have g1 : (bodyBad body != 0) = true := by simpa using hz
  clear hz hb hf ho n2 m2 b1 b0 KF KO
  generalize bodyBad body = e1 at *
  go_enter Tryz.func51,Tryz.ntmps51
  go_wp2_with (go_at_call 73;refine (KW.out).mono ?_;rintro e w1 ⟨rfl,hb1⟩;have HB1 := ζ hb1;clear hb1)
  go_ret2
  rw [HE.out]
  exact with_no HB1.out
 rw [hz] at KW
 by_cases hq : (setF facts).1 = 0
 rotate_left
 ·have HE := ζ (show withP body facts at' other = ([],(setF facts).1) by unfold withP;rw [if_neg (by simpa using hz),if_pos hq])
  have g1 : ((setF facts).1 != 0) = true := by simpa using hq
  clear hz hq hb hf ho n2 m2 b1 b0 KO
  generalize setF facts = r1 at *
  obtain ⟨e1,a1⟩ := r1
  dsimp only at *
  go_enter Tryz.func51,Tryz.ntmps51
  go_wp2_with (first
   | (go_at_call 68;have hh := HB1.out;clear hh;refine (KF.out _ HB1.out).mono ?_;rintro e w2 ⟨rfl,hb2⟩
      obtain ⟨X3,hX3⟩ : ∃ X : World,w2.alloc (.cells #[.int .i64 e1,.int .i64 a1] 49) = X := ⟨_,rfl⟩
      have HB3 := ζ (show Below w.heap.size w X3 by subst hX3;exact (HB1.out.trans (hb2.mono HB1.out.size)).alloc (HB1.out.trans (hb2.mono HB1.out.size)).size _)
      have HFc := ζ (show Blk X3 w2.heap.size 49 #[.int .i64 e1,.int .i64 a1] by subst hX3;exact Blk.new w2 _ _)
      have c0 := HFc.out.cell 0;have c1 := HFc.out.cell 1;simp only [ζc] at c0 c1
      clear hb2)
   | (go_at_call 73;refine (KW.out).mono ?_;rintro e w1 ⟨rfl,hb1⟩;have HB1 := ζ hb1;clear hb1))
  go_quiet (fail)
  go_wp2
  go_ret2
  rw [HE.out]
  exact with_no (let h := HB3.out;⟨h.os,h.tape,h.output,h.size,h.block⟩)
 rw [hq] at KF
 generalize (setF facts).2 = a1 at KF
 by_cases hq2 : (setF other).1 = 0
 rotate_left
 ·have HE := ζ (show withP body facts at' other = ([],(setF other).1) by unfold withP;rw [if_neg (by simpa using hz),if_neg (by simpa using hq),if_pos hq2])
  have g1 : ((setF other).1 != 0) = true := by simpa using hq2
  clear hz hq hq2 hb hf ho n2 m2 b1 b0
  generalize setF other = r2 at *
  obtain ⟨e2,a2⟩ := r2
  dsimp only at *
  go_enter Tryz.func51,Tryz.ntmps51
  go_wp2_with (first
   | (go_at_call 68;have hh := HB3.out;clear hh;refine (KO.out _ HB3.out).mono ?_;rintro e w4 ⟨rfl,hb2⟩
      obtain ⟨X5,hX5⟩ : ∃ X : World,w4.alloc (.cells #[.int .i64 e2,.int .i64 a2] 49) = X := ⟨_,rfl⟩
      have HB5 := ζ (show Below w.heap.size w X5 by subst hX5;exact (HB3.out.trans (hb2.mono HB3.out.size)).alloc (HB3.out.trans (hb2.mono HB3.out.size)).size _)
      have HFd := ζ (show Blk X5 w4.heap.size 49 #[.int .i64 e2,.int .i64 a2] by subst hX5;exact Blk.new w4 _ _)
      have d0 := HFd.out.cell 0;have d1 := HFd.out.cell 1;simp only [ζc] at d0 d1
      clear hb2)
   | (go_at_call 68;have hh := HB1.out;clear hh;refine (KF.out _ HB1.out).mono ?_;rintro e w2 ⟨rfl,hb2⟩
      obtain ⟨X3,hX3⟩ : ∃ X : World,w2.alloc (.cells #[.int .i64 0,.int .i64 a1] 49) = X := ⟨_,rfl⟩
      have HB3 := ζ (show Below w.heap.size w X3 by subst hX3;exact (HB1.out.trans (hb2.mono HB1.out.size)).alloc (HB1.out.trans (hb2.mono HB1.out.size)).size _)
      have HFc := ζ (show Blk X3 w2.heap.size 49 #[.int .i64 0,.int .i64 a1] by subst hX3;exact Blk.new w2 _ _)
      have c0 := HFc.out.cell 0;have c1 := HFc.out.cell 1;simp only [ζc] at c0 c1
      clear hb2)
   | (go_at_call 73;refine (KW.out).mono ?_;rintro e w1 ⟨rfl,hb1⟩;have HB1 := ζ hb1;clear hb1))
  go_quiet (fail)
  go_wp2
  go_ret2
  rw [HE.out]
  exact with_no (let h := HB5.out;⟨h.os,h.tape,h.output,h.size,h.block⟩)
 rw [hq2] at KO
 generalize (setF other).2 = a2 at KO
 have HE := ζ (with_envs (at' := at') hz hq hq2)
 have KE := ζ (fun W (hW : Below w.heap.size w W) => envsRef body (.slice ba body.length bc) facts (.slice fa facts.length fc) at' other (.slice oa other.length oc) W (hb.up hW) (hf.up hW) (ho.up hW) hz b1 n1 (fun x hx => (n2 x hx).1) m1 (fun x hx => (m2 x hx).1))
 have HFI := ζ (fun ls h => envs_fine (ls := ls) (facts := facts) (other := other) (at' := at') hz b1 h)
 clear hz hq hq2 hb hf ho n2 m2 b1 b0
 cases hen : envsP body facts at' other with
 | none =>
  rw [hen] at KE HE
  have HE2 := ζ HE.out
  clear HE HFI hen
  go_enter Tryz.func51,Tryz.ntmps51
  go_wp2_with (first
   | (go_at_call 74;have hh := HB5.out;clear hh;refine (KE.out _ HB5.out).mono ?_;rintro e w6 ⟨hb6,rfl⟩;have HB6 := ζ (HB5.out.trans (hb6.mono HB5.out.size));clear hb6)
   | (go_at_call 68;have hh := HB3.out;clear hh;refine (KO.out _ HB3.out).mono ?_;rintro e w4 ⟨rfl,hb2⟩
      obtain ⟨X5,hX5⟩ : ∃ X : World,w4.alloc (.cells #[.int .i64 0,.int .i64 a2] 49) = X := ⟨_,rfl⟩
      have HB5 := ζ (show Below w.heap.size w X5 by subst hX5;exact (HB3.out.trans (hb2.mono HB3.out.size)).alloc (HB3.out.trans (hb2.mono HB3.out.size)).size _)
      have HFd := ζ (show Blk X5 w4.heap.size 49 #[.int .i64 0,.int .i64 a2] by subst hX5;exact Blk.new w4 _ _)
      have d0 := HFd.out.cell 0;have d1 := HFd.out.cell 1;simp only [ζc] at d0 d1
      clear hb2)
   | (go_at_call 68;have hh := HB1.out;clear hh;refine (KF.out _ HB1.out).mono ?_;rintro e w2 ⟨rfl,hb2⟩
      obtain ⟨X3,hX3⟩ : ∃ X : World,w2.alloc (.cells #[.int .i64 0,.int .i64 a1] 49) = X := ⟨_,rfl⟩
      have HB3 := ζ (show Below w.heap.size w X3 by subst hX3;exact (HB1.out.trans (hb2.mono HB1.out.size)).alloc (HB1.out.trans (hb2.mono HB1.out.size)).size _)
      have HFc := ζ (show Blk X3 w2.heap.size 49 #[.int .i64 0,.int .i64 a1] by subst hX3;exact Blk.new w2 _ _)
      have c0 := HFc.out.cell 0;have c1 := HFc.out.cell 1;simp only [ζc] at c0 c1
      clear hb2)
   | (go_at_call 73;refine (KW.out).mono ?_;rintro e w1 ⟨rfl,hb1⟩;have HB1 := ζ hb1;clear hb1))
  go_ret2
  rw [HE2.out]
  exact with_no HB6.out
 | some ls =>
  rw [hen] at KE HE
  obtain ⟨hll,hlf⟩ := HFI.out ls hen
  have HLF := ζ hlf
  have HE2 := ζ HE.out
  clear HE HFI hen hlf
  go_enter Tryz.func51,Tryz.ntmps51
  go_wp2_with (first
   | (go_at_call 74;have hh := HB5.out;clear hh;refine (KE.out _ HB5.out).mono ?_;rintro e w6 ⟨hb6,la,lc,rfl,hr6⟩;have HB6 := ζ (HB5.out.trans (hb6.mono HB5.out.size));have HR6 := ζ hr6;clear hb6 hr6)
   | (go_at_call 68;have hh := HB3.out;clear hh;refine (KO.out _ HB3.out).mono ?_;rintro e w4 ⟨rfl,hb2⟩
      obtain ⟨X5,hX5⟩ : ∃ X : World,w4.alloc (.cells #[.int .i64 0,.int .i64 a2] 49) = X := ⟨_,rfl⟩
      have HB5 := ζ (show Below w.heap.size w X5 by subst hX5;exact (HB3.out.trans (hb2.mono HB3.out.size)).alloc (HB3.out.trans (hb2.mono HB3.out.size)).size _)
      have HFd := ζ (show Blk X5 w4.heap.size 49 #[.int .i64 0,.int .i64 a2] by subst hX5;exact Blk.new w4 _ _)
      have d0 := HFd.out.cell 0;have d1 := HFd.out.cell 1;simp only [ζc] at d0 d1
      clear hb2)
   | (go_at_call 68;have hh := HB1.out;clear hh;refine (KF.out _ HB1.out).mono ?_;rintro e w2 ⟨rfl,hb2⟩
      obtain ⟨X3,hX3⟩ : ∃ X : World,w2.alloc (.cells #[.int .i64 0,.int .i64 a1] 49) = X := ⟨_,rfl⟩
      have HB3 := ζ (show Below w.heap.size w X3 by subst hX3;exact (HB1.out.trans (hb2.mono HB1.out.size)).alloc (HB1.out.trans (hb2.mono HB1.out.size)).size _)
      have HFc := ζ (show Blk X3 w2.heap.size 49 #[.int .i64 0,.int .i64 a1] by subst hX3;exact Blk.new w2 _ _)
      have c0 := HFc.out.cell 0;have c1 := HFc.out.cell 1;simp only [ζc] at c0 c1
      clear hb2)
   | (go_at_call 73;refine (KW.out).mono ?_;rintro e w1 ⟨rfl,hb1⟩;have HB1 := ζ hb1;clear hb1))
  clear KW KF KO KE HB1 HB3 HB5 HFc HFd c0 c1 d0 d1 hX3 hX5
  go_loopw [50,15] (fun i v wr => ∃ k : Nat,k ≤ ls.length ∧ i = .int .i64 k ∧ Hid (Below w6.heap.size w6 wr) ∧ Hid (Owned 1 RBinds w6.heap.size 82 (fun _ => True) wr v ((ls.take k).map (ofC cmpBind)))) (fun i _ _ => ls.length - (intOf i).toNat)
  case atStart => exact ⟨0,Nat.zero_le _,rfl,ζ (ζb _ _),ζ Owned.nil⟩
  case round =>
   obtain ⟨k,hk,rfl,HB,HO⟩ := hrel
   obtain ⟨ga,gc,rfl,-,-,-⟩ := id (HO.out.read RBinds.steady).form
   by_cases hlt : k < ls.length
   ·obtain ⟨x,hx⟩ : ∃ x,ls[k]? = some x := ⟨_,ζe hlt⟩
    obtain ⟨hx1,hx2,hx3⟩ := HLF.out x (ζm hx)
    have HSN := ζ (show (ls.take (k + 1)).map (ofC cmpBind) = (ls.take k).map (ofC cmpBind) ++ [ofC cmpBind x] by rw [List.take_add_one,hx];simp)
    have hgl : ((ls.take k).map (ofC cmpBind)).length < 1099511627776 := by rw [List.length_map,List.length_take];omega
    obtain ⟨b1,o1,m,rfl,-,hb1,d0,hm0,hm⟩ := RdEnvs.at (RdSlice.agree (REnv.steady 20) (Below.agree HB.out) (HR6.out.more (REnv.steady 20) (S' := fun _ => True) (fun _ _ _ => trivial))) hx
    have KBI := ζ (bindsRef x m 20 wr hm hx1 hx3 (by omega))
    have HRW := ζ (fun q (hq : (Value.slice ga ((ls.take k).map (ofC cmpBind)).length gc).ownBlock = some q) => HO.out.row_lt hq)
    clear hx hx1 hx3 hm hm0
    generalize (ls.take k).map (ofC cmpBind) = gl at *
    generalize ofC cmpBind x = y at *
    go_wp2_with (first
     | (at_builtin
        have hh := HB7.out
        clear hh
        refine wpList_append_one (B := w6.heap.size) (e := 82) (S := fun _ => True) (by rfl) _ _ 106 (by rfl) RBinds.steady rowBindss _ gl (by rfl) (HO7.out.alloc RBinds.steady _) w7.heap.size 1 #[.slice ya y.length yc] 82 (0,0) y (by rfl) (heap_alloc_new _ _) rfl (by simp [Value.oneCell']) ⟨_,rfl,(HY7.out.agree RBind.steady ((Agree.refl _ _).alloc _)).more RBind.steady (fun q hq _ => ⟨trivial,fun e => by have h1 := (HRW.out q e.symm).2;have h2 : wr.heap.size ≤ q := hq;omega⟩)⟩ hgl (by have := HB7.out.size;simp;omega) ?_
        intro v8 w8 ho8 hg8 hat8
        have HO8 := ζ ho8
        have HB8 := ζ ((HB7.out.alloc HB7.out.size (.cells #[.slice ya y.length yc] 82)).grown hg8 (by have := HB7.out.size;simp;omega) (fun q hq => (HRW.out q hq).1))
        clear ho8 hg8 hat8)
     | (go_at_call 75;refine (KBI.out).mono ?_;rintro e w7 ⟨⟨yv,rfl,hy7⟩,hb7⟩;obtain ⟨ya,yc,rfl,-,-,-⟩ := id hy7.form;have HY7 := ζ hy7;have HB7 := ζ (HB.out.trans (hb7.mono HB.out.size));have HO7 := ζ (HO.out.below RBinds.steady hb7);clear hy7 hb7))
    go_roundw
    case rel => exact ⟨k + 1,by omega,by go_num,HB8,ζ (by rw [HSN.out];exact HO8.out)⟩
    case measure => simp [intOf];omega
   ·have hkn : k = ls.length := by omega
    subst hkn
    rw [List.take_length] at HO
    rw [List.take_length]
    have HRD := ζ (HO.out.read RBinds.steady)
    have KM := ζ (mergeRef (ls.map (ofC cmpBind)) _ wr HRD.out (by rw [List.length_map];omega) (fun y hy => by
     obtain ⟨l,hl,rfl⟩ := List.mem_map.1 hy
     have h1 := ofC_len cmpBind l
     have h2 := (HLF.out l hl).2.1
     omega))
    have HBW := ζ (HB6.out.trans (HB.out.mono HB6.out.size))
    clear HO HRD
    generalize ls.map (ofC cmpBind) = ml at *
    go_wp2_with (go_at_call 76;refine (KM.out).mono ?_;rintro e w9 ⟨⟨ra,rc,rfl,hr9⟩,hb9⟩;have HR9 := ζ hr9;have HB9 := ζ (HBW.out.trans (hb9.mono HBW.out.size));clear hr9 hb9)
    go_ret2
    rw [HE2.out]
    exact ⟨⟨ra,rc,rfl,HR9.out⟩,HB9.out⟩
end Go.Proofs.YtdngkcieckejoaaGreat
