/-
  THE WALK OF (*cororef7.Why).Of: why a fact is so.
-/
import Derived.Test.YtdngkcieckejoaaGreatPk16
import Derived.Test.YtdngkcieckejoaaGreatPk23
import Derived.Test.YtdngkcieckejoaaGreatPk24
import Derived.Test.YtdngkcieckejoaaGreatPk27
namespace Go.Proofs.YtdngkcieckejoaaGreat
open Go.RowKit Go.Maps
structure WEnv (S : Nat → Prop) (p : List PRule) (zs : List (List PFact)) (D : Nat) (pv zv : Value) (w : World) (sz : Nat) : Prop where
 hD : Blk w D 71 #[pv,zv,.int .i64 (sz : Int)]
 hp : RdRules S w pv p
 hz : RdLists S w zv zs
 nS : ¬ S D
section
variable {S : Nat → Prop} {p : List PRule} {zs : List (List PFact)} {D : Nat} {pv zv : Value} {w w' : World} {sz sz' : Nat}
theorem WEnv.but (h : WEnv S p zs D pv zv w sz) (hb : But D w w') (hD : Blk w' D 71 #[pv,zv,.int .i64 (sz' : Int)]) : WEnv S p zs D pv zv w' sz' :=
 ⟨hD,h.hp.agree RRule.steady (hb.agree h.nS),h.hz.agree RList.steady (hb.agree h.nS),h.nS⟩
theorem WEnv.other {B : Nat} (h : WEnv S p zs D pv zv w sz) (hb : But B w w') (hS : ¬ S B) (h1 : D ≠ B) : WEnv S p zs D pv zv w' sz :=
 ⟨h.hD.but hb h1,h.hp.agree RRule.steady (hb.agree hS),h.hz.agree RList.steady (hb.agree hS),h.nS⟩
theorem WEnv.grown {row : Option Nat} (h : WEnv S p zs D pv zv w sz) (hg : w.grownBy w' row) (hr : ∀ q,row = some q → ¬ S q) (h1 : some D ≠ row) : WEnv S p zs D pv zv w' sz :=
 ⟨h.hD.grown hg h1,h.hp.agree RRule.steady (grown_agree hg hr),h.hz.agree RList.steady (grown_agree hg hr),h.nS⟩
theorem WEnv.shrink (h : WEnv S p zs D pv zv w sz) {S' : Nat → Prop} (hS : ∀ b,S b → b < w.heap.size → S' b) (hn : ¬ S' D) : WEnv S' p zs D pv zv w sz :=
 ⟨h.hD,h.hp.more RRule.steady hS,h.hz.more RList.steady hS,hn⟩
theorem WEnv.below (h : WEnv S p zs D pv zv w sz) (hb : Below w.heap.size w w') : WEnv S p zs D pv zv w' sz := h.but (But.of_below hb) (h.hD.below hb h.hD.lt)
end
def OfPost (r : Option PProof × Nat) (n D : Nat) (S0 : Nat → Prop) (pv zv : Value) (w : World) (e : Ending) (w' : World) : Prop :=
 But D w w' ∧ Blk w' D 71 #[pv,zv,.int .i64 (r.2 : Int)] ∧ match r.1 with
  | none => e = .returned (.pointer none)
  | some x => ∃ B aa ac ka kc,e = .returned (.pointer (some ⟨B,0,none⟩)) ∧ w.heap.size ≤ B ∧ Blk w' B 30 #[.string x.fact.name,.slice aa x.fact.args.length ac,.int .i64 x.rule,.slice ka x.kids.length kc] ∧
   RdStrs S0 w' (.slice aa x.fact.args.length ac) x.fact.args ∧ RdProofs n (fun q => S0 q ∨ w.heap.size ≤ q) w' (.slice ka x.kids.length kc) x.kids
theorem of_none {r : Option PProof × Nat} {s n D : Nat} {S0 : Nat → Prop} {pv zv : Value} {w w' : World} (h : r = (none,s)) (hb : But D w w') (hD : Blk w' D 71 #[pv,zv,.int .i64 (s : Int)]) :
 OfPost r n D S0 pv zv w (.returned (.pointer none)) w' := by subst h;exact ⟨hb,hD,rfl⟩
theorem of_some {r : Option PProof × Nat} {f : PFact} {rl : Int} {ks : List PProof} {s n D B : Nat} {S0 : Nat → Prop} {pv zv : Value} {aa ka : Option Addr} {ac kc : Nat} {w w' : World} (h : r = (some (.mk f rl ks),s)) (hb : But D w w') (hD : Blk w' D 71 #[pv,zv,.int .i64 (s : Int)])
 (hB : w.heap.size ≤ B) (hk : Blk w' B 30 #[.string f.name,.slice aa f.args.length ac,.int .i64 rl,.slice ka ks.length kc]) (ha : RdStrs S0 w' (.slice aa f.args.length ac) f.args) (hr : RdProofs n (fun q => S0 q ∨ w.heap.size ≤ q) w' (.slice ka ks.length kc) ks) :
 OfPost r n D S0 pv zv w (.returned (.pointer (some ⟨B,0,none⟩))) w' := by subst h;exact ⟨hb,hD,B,aa,ac,ka,kc,rfl,hB,hk,ha,hr⟩
theorem RdProofs.none_ {n : Nat} {S : Nat → Prop} {w : World} : RdProofs n S w (.slice none 0 0) [] := RdSlice.nothing (Nat.zero_le _) (fun _ => rfl)
structure KidW (S S4 : Nat → Prop) (p : List PRule) (zs : List (List PFact)) (D lo X : Nat) (pv zv : Value) (f : PFact) (aa ka : Option Addr) (ac kc n : Nat) (ks : List PFact) (w : World) (s : Nat) (kv : Value) (W : World) : Prop where
 but : But D w W
 env : WEnv (fun b => S b ∧ b < w.heap.size) p zs D pv zv W s
 blk : Blk W X 30 #[.string f.name,.slice aa f.args.length ac,.int .i64 (n : Int),kv]
 args : RdStrs (fun b => S4 b ∧ b < w.heap.size) W (.slice aa f.args.length ac) f.args
 kids : RdFacts (fun b => lo ≤ b ∧ b < X) W (.slice ka ks.length kc) ks
 hD : D < w.heap.size
 hlo : w.heap.size ≤ lo
 hX : w.heap.size ≤ X
 nS4 : ¬ S4 D
section
variable {S S4 : Nat → Prop} {p : List PRule} {zs : List (List PFact)} {D lo X : Nat} {pv zv : Value} {f : PFact} {aa ka : Option Addr} {ac kc n : Nat} {ks : List PFact} {w : World} {s s' : Nat} {kv kv' : Value} {W W' : World}
theorem KidW.grown (h : KidW S S4 p zs D lo X pv zv f aa ka ac kc n ks w s kv W) {row : Option Nat} (hg : W.grownBy W' row) (hr : ∀ q,row = some q → X + 1 ≤ q) : KidW S S4 p zs D lo X pv zv f aa ka ac kc n ks w s kv W' :=
 ⟨h.but.row hg (fun q hq => by have := hr q hq;have := h.hX;omega),h.env.grown hg (fun q hq hb => by have := hr q hq;have := hb.2;have := h.hX;omega) (fun e => by have := hr D e.symm;have := h.hD;have := h.hX;omega),h.blk.grown hg (fun e => by have := hr X e.symm;omega),
  RdSlice.agree ζS (grown_agree hg (fun q hq hb => by have := hr q hq;have := hb.2;have := h.hX;omega)) h.args,RdSlice.agree ζF (grown_agree hg (fun q hq hb => by have := hr q hq;have := hb.2;omega)) h.kids,h.hD,h.hlo,h.hX,h.nS4⟩
theorem KidW.below (h : KidW S S4 p zs D lo X pv zv f aa ka ac kc n ks w s kv W) (hb : Below W.heap.size W W') : KidW S S4 p zs D lo X pv zv f aa ka ac kc n ks w s kv W' :=
 ⟨h.but.below hb,h.env.below hb,h.blk.below hb h.blk.lt,RdSlice.agree ζS (Below.agree hb) h.args,RdSlice.agree ζF (Below.agree hb) h.kids,h.hD,h.hlo,h.hX,h.nS4⟩
theorem KidW.call (h : KidW S S4 p zs D lo X pv zv f aa ka ac kc n ks w s kv W) (hb : But D W W') (hD : Blk W' D 71 #[pv,zv,.int .i64 (s' : Int)]) : KidW S S4 p zs D lo X pv zv f aa ka ac kc n ks w s' kv W' :=
 ⟨h.but.trans hb,h.env.but hb hD,h.blk.but hb (fun e => by have := h.hD;have := h.hX;omega),RdSlice.agree ζS (hb.agree (fun e => h.nS4 e.1)) h.args,RdSlice.agree ζF (hb.agree (fun e => by have := e.1;have := h.hD;have := h.hlo;omega)) h.kids,h.hD,h.hlo,h.hX,h.nS4⟩
theorem KidW.laid (h : KidW S S4 p zs D lo X pv zv f aa ka ac kc n ks w s kv W) (kv' : Value) : KidW S S4 p zs D lo X pv zv f aa ka ac kc n ks w s kv' (W.setCell ⟨X,3,none⟩ kv') :=
 ⟨h.but.setCell (p := ⟨X,3,none⟩) (.inr h.hX) _,h.env.other ((But.refl X W).setCell (p := ⟨X,3,none⟩) (.inl rfl) _) (fun e => by have := e.2;have := h.hX;omega) (fun e => by have := h.hD;have := h.hX;omega),h.blk.set_ 3 _,
  RdSlice.agree ζS (((But.refl X W).setCell (p := ⟨X,3,none⟩) (.inl rfl) _).agree (fun e => by have := e.2;have := h.hX;omega)) h.args,RdSlice.agree ζF (((But.refl X W).setCell (p := ⟨X,3,none⟩) (.inl rfl) _).agree (fun e => by have := e.2;omega)) h.kids,h.hD,h.hlo,h.hX,h.nS4⟩
end
def zeroP : PProof := .mk ⟨⟨#[]⟩,[]⟩ 0 []
theorem zeroP_read {m : Nat} {S : Nat → Prop} {w : World} : RProofN (m + 1) S w [.string ⟨#[]⟩,.slice none 0 0,.int .i64 0,.slice none 0 0] zeroP := ⟨_,_,rfl,RdStrs.nil,RdProofs.none_⟩
theorem Owned.spot {m B : Nat} {e : TypeId} {S : Nat → Prop} {w : World} {v : Value} {xs : List PProof} (h : Owned 4 (RProofN (m + 1)) B e S w v (xs ++ [zeroP])) :
 ∃ g c,v = .slice (some ⟨g,0,none⟩) (xs.length + 1) c ∧ B ≤ g ∧ g < w.heap.size ∧ w.cell? ⟨g,xs.length * 4,none⟩ = some (.string ⟨#[]⟩) ∧ (∃ u,w.cell? ⟨g,xs.length * 4 + 1,none⟩ = some u) ∧ w.cell? ⟨g,xs.length * 4 + 2,none⟩ = some (.int .i64 0) ∧ (∃ u,w.cell? ⟨g,xs.length * 4 + 3,none⟩ = some u) ∧ ∀ j,w.frozen? ⟨g,j,none⟩ = false := by
 have hr := h.read (RProofN.steady _)
 obtain ⟨a,c,hv,-,-,-⟩ := id hr.form
 obtain ⟨css,h1,h2,ho,h3⟩ := h
 rcases id ho.2 with ⟨rfl,h0⟩ | ⟨g,cap,cur,rfl,hb,hgg,-,-,-,-⟩
 ·simp at h0
 ·rw [List.length_append,List.length_singleton] at hv ho
  obtain ⟨b,off,av,kv,ha,-,hbl,d0,d1,d2,d3,-,-⟩ := RdProofs.at hr (i := xs.length) (x := zeroP) (by rw [List.getElem?_append_right (ζn _),Nat.sub_self];rfl)
  injection ha with ha
  injection ha with e1 e2 e3
  subst e1 e2
  rw [Nat.zero_add] at d0 d1 d2 d3
  exact ⟨g,cap,by rw [List.length_append,List.length_singleton],hb,hbl,d0,⟨_,d1⟩,d2,⟨_,d3⟩,fun j => by
   have ho' := ho
   rw [show xs.length + 1 = xs.length + 1 from rfl] at ho'
   exact World.ownsRow.frozenAt (n := xs.length + 1) (cap := cap) (by simpa using ho) j⟩
section
variable {S S4 : Nat → Prop} {p : List PRule} {zs : List (List PFact)} {D lo X : Nat} {pv zv : Value} {f : PFact} {aa ka : Option Addr} {ac kc n : Nat} {ks : List PFact} {w : World} {s : Nat} {kv : Value}
theorem kid_laid {m s11 s12 g c : Nat} {xs : List PProof} {x : PProof} {c0 c1 c2 c3 : Value} {W13 W14 W15 : World} (HK : KidW S S4 p zs D lo X pv zv f aa ka ac kc n ks w s kv W14)
 (HX : RProofN (m + 1) (fun b => ((lo ≤ b ∧ b < X) ∨ s11 ≤ b) ∧ b < s12) W13 [c0,c1,c2,c3] x) (h13 : Below W13.heap.size W13 W14) (_hs : s11 ≤ s12) (hs12 : s12 ≤ W14.heap.size) (hX11 : X < s11)
 (hgl : ∀ q,kv.ownBlock = some q → X + 1 ≤ q ∧ q < s11) (hown : Owned 4 (RProofN (m + 1)) (X + 1) 30 (fun q => w.heap.size ≤ q ∧ q ≠ X) W15 (.slice (some ⟨g,0,none⟩) (xs.length + 1) c) (xs ++ [zeroP]))
 (hg : W14.grownBy W15 kv.ownBlock) (hat : some g = kv.ownBlock ∨ some g = some W14.heap.size) (hB : X + 1 ≤ g) :
 (KidW S S4 p zs D lo X pv zv f aa ka ac kc n ks w s (.slice (some ⟨g,0,none⟩) (xs.length + 1) c) (((((W15.setCell ⟨g,xs.length * 4,none⟩ c0).setCell ⟨g,xs.length * 4 + 1,none⟩ c1).setCell ⟨g,xs.length * 4 + 2,none⟩ c2).setCell ⟨g,xs.length * 4 + 3,none⟩ c3).setCell ⟨X,3,none⟩ (.slice (some ⟨g,0,none⟩) (xs.length + 1) c)) ∧
  Owned 4 (RProofN (m + 1)) (X + 1) 30 (fun q => w.heap.size ≤ q ∧ q ≠ X) (((((W15.setCell ⟨g,xs.length * 4,none⟩ c0).setCell ⟨g,xs.length * 4 + 1,none⟩ c1).setCell ⟨g,xs.length * 4 + 2,none⟩ c2).setCell ⟨g,xs.length * 4 + 3,none⟩ c3).setCell ⟨X,3,none⟩ (.slice (some ⟨g,0,none⟩) (xs.length + 1) c)) (.slice (some ⟨g,0,none⟩) (xs.length + 1) c) (xs ++ [x])) ∧
 (KidW S S4 p zs D lo X pv zv f aa ka ac kc n ks w s (.slice (some ⟨g,0,none⟩) (xs.length + 1) c) (((((W15.setCell ⟨X,3,none⟩ (.slice (some ⟨g,0,none⟩) (xs.length + 1) c)).setCell ⟨g,xs.length * 4,none⟩ c0).setCell ⟨g,xs.length * 4 + 1,none⟩ c1).setCell ⟨g,xs.length * 4 + 2,none⟩ c2).setCell ⟨g,xs.length * 4 + 3,none⟩ c3) ∧
  Owned 4 (RProofN (m + 1)) (X + 1) 30 (fun q => w.heap.size ≤ q ∧ q ≠ X) (((((W15.setCell ⟨X,3,none⟩ (.slice (some ⟨g,0,none⟩) (xs.length + 1) c)).setCell ⟨g,xs.length * 4,none⟩ c0).setCell ⟨g,xs.length * 4 + 1,none⟩ c1).setCell ⟨g,xs.length * 4 + 2,none⟩ c2).setCell ⟨g,xs.length * 4 + 3,none⟩ c3) (.slice (some ⟨g,0,none⟩) (xs.length + 1) c) (xs ++ [x])) := by
 have hlo := HK.hlo
 have hXw := HK.hX
 have hgo : ∀ b,((lo ≤ b ∧ b < X) ∨ s11 ≤ b) ∧ b < s12 → some b ≠ kv.ownBlock ∧ b ≠ g := fun b hb => by
  constructor
  ·intro e
   have := hgl b e.symm
   omega
  ·intro e
   rcases hat with h | h
   ·have := hgl g h.symm
    omega
   ·have := Option.some.inj h
    omega
 have HK15 := HK.grown hg (fun q hq => (hgl q hq).1)
 have hx1 : RProofN (m + 1) (fun b => ((lo ≤ b ∧ b < X) ∨ s11 ≤ b) ∧ b < s12) W15 [c0,c1,c2,c3] x :=
  (RProofN.steady (m + 1)).agree (Agree.trans (Below.agree h13) (grown_agree hg (fun q hq hb => (hgo q hb).1 hq.symm))) HX
 have hxr : RProofN (m + 1) (fun b => (w.heap.size ≤ b ∧ b ≠ X) ∧ b ≠ g) W15 [c0,c1,c2,c3] x :=
  (RProofN.steady (m + 1)).more (fun b hb _ => ⟨by have := hb.1;omega,(hgo b hb).2⟩) hx1
 have hgX : g ≠ X := by omega
 obtain ⟨oA,gA⟩ := hown.last4 (RProofN.steady (m + 1)) hxr
 have hown2 := hown.setCell (RProofN.steady (m + 1)) (p := ⟨X,3,none⟩) (fun h => h.2 rfl) (fun e => hgX (Option.some.inj e)) (.slice (some ⟨g,0,none⟩) (xs.length + 1) c)
 have hxr2 : RProofN (m + 1) (fun b => (w.heap.size ≤ b ∧ b ≠ X) ∧ b ≠ g) (W15.setCell ⟨X,3,none⟩ (.slice (some ⟨g,0,none⟩) (xs.length + 1) c)) [c0,c1,c2,c3] x :=
  (RProofN.steady (m + 1)).agree (((But.refl X W15).setCell (p := ⟨X,3,none⟩) (.inl rfl) _).agree (fun h => h.1.2 rfl)) hxr
 obtain ⟨oB,gB⟩ := hown2.last4 (RProofN.steady (m + 1)) hxr2
 exact ⟨⟨(HK15.grown gA (fun q hq => by rw [← Option.some.inj hq];exact hB)).laid _,oA.setCell (RProofN.steady (m + 1)) (p := ⟨X,3,none⟩) (fun h => h.2 rfl) (fun e => hgX (Option.some.inj e)) _⟩,
  ⟨(HK15.laid _).grown gB (fun q hq => by rw [← Option.some.inj hq];exact hB),oB⟩⟩
end
attribute [local go_sem ↓] Go.wp_at_zero Go.wp_at_succ
set_option maxRecDepth 100000 in
set_option maxHeartbeats 0 in
theorem ofWalk {S S4 : Nat → Prop} (age : Str → Option Int) (p : List PRule) (told M : List PFact) (zs : List (List PFact)) (D m zl : Nat) (za : Option Addr) (zc : Nat) (pv : Value) (F : Nat → PFact → Option PProof × Nat) (f : PFact) (av : Value) (sz d : Nat) (w : World)
 (hzl : zs.length = zl + 1) (hE : WEnv S p zs D pv (.slice za (zl + 1) zc) w sz) (ha : RdStrs S4 w av f.args) (hS4 : ¬ S4 D)
 (K : d ≤ 60 → ∀ (S' S5 : Nat → Prop) (s : Nat) (k : PFact) (av : Value) (W : World),s ≤ 400 → k ∈ M → WEnv S' p zs D pv (.slice za (zl + 1) zc) W s → RdStrs S5 W av k.args → ¬ S5 D → (∀ x,(F s k).1 = some x → (F s k).2 ≤ 400) ∧
  Calls Tryz.prog 27 #[.pointer (some ⟨D,0,none⟩),.agg #[.string k.name,av],.int .i64 ((d + 1 : Nat) : Int)] W (OfPost (F s k) m D S5 pv (.slice za (zl + 1) zc) W))
 (_hs : sz ≤ 400) (hd : d ≤ 61) (hf : f ∈ M) (hA : AgesIn age zs M) (hh : zs.head? = some told) (hl : zl ≤ 1000) (hz2 : ∀ z ∈ zs,z.length ≤ 200) (hR : ∀ r ∈ p,ruleBad r = 0) (hRS : ∀ r ∈ p,RuleSmall r) (hpl : p.length ≤ 1048576) (hM : Good M) :
 Calls Tryz.prog 27 #[.pointer (some ⟨D,0,none⟩),.agg #[.string f.name,av],.int .i64 (d : Int)] w (OfPost (findStep p told M age F sz f d) (m + 1) D S4 pv (.slice za (zl + 1) zc) w) := by
 obtain ⟨pa,pc,rfl,-,-,-⟩ := id hE.hp.form
 obtain ⟨aa,ac,rfl,-,-,-⟩ := id ha.form
 have hDl := hE.hD.lt
 replace hE := hE.shrink (S' := fun b => S b ∧ b < w.heap.size) (fun b h1 h2 => ⟨h1,h2⟩) (fun h => hE.nS h.1)
 have ha' : RdStrs (fun b => S4 b ∧ b < w.heap.size) w (.slice aa f.args.length ac) f.args := ha.more ζS (fun b h1 h2 => ⟨h1,h2⟩)
 have hmm := @run_makeMap Tryz.prog
 have hqq : ∀ (W : World) (r : Option Nat),(binOp .eql 88 (.map r) (.map none)).run Tryz.prog W = .ok (.bool r.isNone) W := fun W r => run_eql_map_nil W _ _ _ r Tryz.underlying88
 obtain ⟨W0,hW0⟩ : ∃ W0 : World,w.alloc (.cells #[.string f.name,.slice aa f.args.length ac] 27) = W0 := ⟨_,rfl⟩
 have HB0 := ζ (show Below w.heap.size w W0 by subst hW0;exact (ζb _ _).alloc (ζn _) _)
 have HF0 := ζ (show Blk W0 w.heap.size 27 #[.string f.name,.slice aa f.args.length ac] by subst hW0;exact Blk.new w _ _)
 have HE0 := ζ (hE.below HB0.out)
 have HA0 := ζ (RdSlice.agree ζS (Below.agree HB0.out) ha')
 have d2 := HE0.out.hD.cell 2
 have z2 := HE0.out.hD.frozen 2
 simp only [ζc] at d2
 have hne3 : w.heap.size ≠ D := by omega
 have hcast : ((sz + 1 : Nat) : Int) = (sz : Int) + 1 := by omega
 obtain ⟨W1,hW1⟩ : ∃ W1 : World,W0.setCell ⟨D,2,none⟩ (.int .i64 ((sz : Int) + 1)) = W1 := ⟨_,rfl⟩
 have HBD := ζ (show But D w W1 by subst hW1;exact (But.of_below HB0.out).setCell (p := ⟨D,2,none⟩) (.inl rfl) _)
 have HE1 := ζ (show WEnv (fun b => S b ∧ b < w.heap.size) p zs D (.slice pa p.length pc) (.slice za (zl + 1) zc) W1 (sz + 1) by subst hW1;exact HE0.out.but ((But.refl D W0).setCell (p := ⟨D,2,none⟩) (.inl rfl) _) (by rw [hcast];exact HE0.out.hD.set_ 2 _))
 have HF1 := ζ (show Blk W1 w.heap.size 27 #[.string f.name,.slice aa f.args.length ac] by subst hW1;exact HF0.out.far (p := ⟨D,2,none⟩) hne3 _)
 have HA1 := ζ (show RdStrs (fun b => S4 b ∧ b < w.heap.size) W1 (.slice aa f.args.length ac) f.args by subst hW1;exact HA0.out.agree ζS (((But.refl D W0).setCell (p := ⟨D,2,none⟩) (.inl rfl) (.int .i64 ((sz : Int) + 1))).agree (fun h => hS4 h.1)))
 have e2 := HE1.out.hD.cell 2
 have f0 := HF1.out.cell 0;have f1 := HF1.out.cell 1
 simp only [ζc] at e2 f0 f1
 rw [hcast] at e2
 have HK := ζ K
 have HR := ζ hR
 have HRS := ζ hRS
 have HM := ζ hM
 have HFM := ζ hf
 have HAG := ζ hA
 have HHD := ζ hh
 have HS4 := ζ hS4
 have HZL := ζ hzl
 have HZ2 := ζ hz2
 have HFW := ζ (hM.fine f hf)
 clear K hE ha ha' hS4 hf hR hRS hM hA hh hzl hz2
 by_cases hbig : 400 < sz + 1 ∨ 60 < d
 ·have HE := ζ (show findStep p told M age F sz f d = (none,sz + 1) from if_pos hbig)
  have hcs : (400 : Int) < (sz : Int) + 1 ∨ ¬ (400 : Int) < (sz : Int) + 1 ∧ (60 : Int) < (d : Int) := by omega
  clear hbig
  rcases hcs with h1 | ⟨h1,h2⟩
  all_goals
   go_enter Tryz.func27,Tryz.ntmps27
   go_wp2
   go_ret
   exact of_none HE.out HBD.out HE1.out.hD
 have h1 : ¬ (400 : Int) < (sz : Int) + 1 := by omega
 have h2 : ¬ (60 : Int) < (d : Int) := by omega
 have hd60 : d ≤ 60 := by omega
 have hs1 : sz + 1 ≤ 400 := by omega
 have HFS := ζ (show findStep p told M age F sz f d = if memF f told then (some (.mk f (-1) []),sz + 1) else match pickRule age M f 0 p with
  | none => (none,sz + 1)
  | some (i,ks) => match kidsAcc F [] (sz + 1) ks with
   | (none,s') => (none,s')
   | (some xs,s') => (some (.mk f i xs),s') from if_neg hbig)
 clear hbig
 obtain ⟨-,hfa,hfn⟩ := wrongF_zero.1 HFW.out
 have HFN := ζ hfn
 clear hfn
 have KAg := ζ (fun (W : World) (hW : Below W1.heap.size W1 W) (x : PFact) (bv : Value) (T : Nat → Prop) (hx : RdStrs T W bv x.args) (hn : x.args.length ≤ 4) => by
  have h := ageRef D (.slice pa p.length pc) (.int .i64 ((sz + 1 : Nat) : Int)) za zc zs x bv W (by rw [HZL.out];exact HE1.out.hD.below hW HE1.out.hD.lt) (by rw [HZL.out];exact HE1.out.hz.agree RList.steady (Below.agree hW)) hx (by rw [HZL.out];omega) (fun z hz => ⟨Nat.le_trans (HZ2.out z hz) (by decide),fun y hy => by have := (wrongF_zero.1 (HM.out.fine y (HAG.out.sub z hz y hy))).2.1;omega⟩) (by omega)
  exact h)
 have KA1 := ζ (KAg.out W1 (ζb _ _) f _ _ HA1.out hfa)
 by_cases hm0 : memF f told = true
 ·have HE := ζ (show findStep p told M age F sz f d = (some (.mk f (-1) []),sz + 1) by rw [HFS.out,if_pos hm0])
  have hz0 : ixR f zs = 0 := by rw [ixR_zero HHD.out];exact hm0
  rw [hz0] at KA1
  clear hm0 HFS hz0
  go_enter Tryz.func27,Tryz.ntmps27
  go_wp2_with (go_at_call 50;refine (KA1.out).mono ?_;rintro e w2 ⟨rfl,hb2⟩;have HB2 := ζ hb2;have g0 := (HF1.out.below hb2 HF1.out.lt).cell 0;have g1 := (HF1.out.below hb2 HF1.out.lt).cell 1;simp only [ζc] at g0 g1;clear hb2)
  go_ret
  have hbx := HB2.out.alloc HB2.out.size (.cells #[.string f.name,.slice aa f.args.length ac,.int .i64 (-1),.slice none 0 0] 30)
  exact of_some HE.out (HBD.out.below hbx) (HE1.out.hD.below hbx HE1.out.hD.lt) (Nat.le_trans HBD.out.size HB2.out.size) (Blk.new w2 _ _) ((RdSlice.agree ζS (Below.agree hbx) HA1.out).more ζS (fun b h _ => h.1)) RdProofs.none_
 have hagn : ¬ ixR f zs = 0 := by rw [ixR_zero HHD.out];exact hm0
 have HFP := ζ (show findStep p told M age F sz f d = match pickRule age M f 0 p with
  | none => (none,sz + 1)
  | some (i,ks) => match kidsAcc F [] (sz + 1) ks with
   | (none,s') => (none,s')
   | (some xs,s') => (some (.mk f i xs),s') by rw [HFS.out,if_neg hm0])
 have HOLD := ζ (fun (k : PFact) (hk : k ∈ M) => older_ix HAG.out HFM.out hk)
 obtain ⟨ag,hag⟩ : ∃ ag,ixR f zs = ag := ⟨_,rfl⟩
 rw [hag] at KA1 HOLD hagn
 have hagi : ¬ (ag : Int) = 0 := by omega
 have hagb : ((ag : Int) == 0) = false := by simpa using hagi
 have hz9 : zs[zl]? = some M := by
  have h := HAG.out.last
  rw [List.getLast?_eq_getElem?,HZL.out] at h
  exact h
 clear hm0 HFS hag hagn
 have hw1 : IntKind.i64.wrap ((zl : Int) + 1 - 1) = (zl : Int) := by rw [IntKind.wrap_i64];omega
 have hw2 : IntKind.i64.wrap (zl : Int) = (zl : Int) := by rw [IntKind.wrap_i64];omega
 have i1 : (0 : Int) ≤ (zl : Int) := by omega
 have i2 : (zl : Int) < (zl : Int) + 1 := by omega
 obtain ⟨g,o,cv,rfl,-,hg2,c2,hcv⟩ := RdLists.at HE1.out.hz hz9
 obtain ⟨ca,cc,rfl,-,-,-⟩ := id hcv.form
 have HMV := ζ (hcv.more ζF (S' := fun _ => True) (fun _ _ _ => trivial))
 have y1 := HE1.out.hD.cell 1;have y0 := HE1.out.hD.cell 0
 simp only [ζc] at y0 y1
 generalize findStep p told M age F sz f d = RR at *
 clear hcv hz9 HF0 HA0 HE0
 go_enter Tryz.func27,Tryz.ntmps27
 go_wp2_with (go_at_call 50;refine (KA1.out).mono ?_;rintro e w2 ⟨rfl,hb2⟩;have HB2 := ζ hb2;have g1 := (HE1.out.hD.below hb2 HE1.out.hD.lt).cell 1;have g0 := (HE1.out.hD.below hb2 HE1.out.hD.lt).cell 0;have g3 := (ζl hb2 hg2 _).trans c2;simp only [ζc] at g0 g1;clear hb2)
 clear hW0 hW1 d2 z2 e2 f0 f1 c2 y0 y1 KA1
 go_region
 obtain ⟨W3,hW3⟩ : ∃ W3 : World,w2.drew = W3 := ⟨_,rfl⟩
 have HB3 := ζ (show Below W1.heap.size W1 W3 by subst hW3;exact HB2.out.drew)
 have q0 : W3.cell? ⟨D,0,none⟩ = some (.slice pa p.length pc) := by subst hW3;exact g0
 have HBD3 := ζ (HBD.out.below HB3.out)
 have HP0 := ζ (show pickRule age M f 0 (p.drop 0) = pickRule age M f 0 p from rfl)
 have HR0 := ζ (ζb W3.heap.size W3)
 clear HB2 g0 g1 g3 hw1 hw2 i1 i2
 subst hW3
 go_wp2
 generalize w2.drew = W3 at *
 go_loopw [78] (fun i wr => ∃ n : Nat,n ≤ p.length ∧ i = .int .i64 n ∧ Hid (pickRule age M f n (p.drop n) = pickRule age M f 0 p) ∧ Hid (Below W3.heap.size W3 wr)) (fun i _ => p.length - (intOf i).toNat)
 case atStart => exact ⟨0,Nat.zero_le _,rfl,HP0,HR0⟩
 case round =>
  clear HP0 HR0 q0
  obtain ⟨n,hn,rfl,HP,HBR⟩ := hrel
  obtain ⟨wa,hwa⟩ : ∃ wa : World,wa = wr := ⟨_,rfl⟩
  subst hwa
  have HBA := ζ (HBD3.out.below HBR.out)
  have HB1A := ζ (HB3.out.trans (HBR.out.mono HB3.out.size))
  have HEA := ζ (HE1.out.below HB1A.out)
  have hDa := HEA.out.hD.lt
  by_cases hlt : n < p.length
  rotate_left
  ·have HE := ζ (show RR = (none,sz + 1) by rw [HFP.out,← HP.out,List.drop_eq_nil_of_le (by omega)];rfl)
   go_wp2
   go_ret
   exact of_none HE.out HBA.out HEA.out.hD
  obtain ⟨r,hrr⟩ : ∃ r,p[n]? = some r := ⟨_,ζe hlt⟩
  have hrm := ζm hrr
  obtain ⟨u1,u2,u3⟩ := rules_terms HR.out r hrm
  have HSM := ζ (HRS.out r hrm)
  have HBAD := ζ (HR.out r hrm)
  obtain ⟨b1,o1,tv,bv,rfl,-,hb1,r0,r1,r2,r3,hrt,hrb⟩ := HEA.out.hp.at hrr
  obtain ⟨ta1,tc1,rfl,-,-,-⟩ := id hrt.form
  obtain ⟨ba1,bc1,rfl,-,-,-⟩ := id hrb.form
  have HHIT := ζ (fun ks h => (pick_hit (ks := ks) hrr h).symm.trans HP.out)
  have HMIS := ζ (fun h => (pick_miss hrr h).symm.trans HP.out)
  have HT := ζ hrt
  have HBB := ζ hrb
  have U3 := ζ u3
  clear hrt hrb u3 hrr HP hrm
  obtain ⟨W4,hW4⟩ : ∃ W4 : World,wa.alloc (.cells #[.bool r.head.neg,.string r.head.name,.slice ta1 r.head.terms.length tc1,.slice ba1 r.body.length bc1] 81) = W4 := ⟨_,rfl⟩
  have HB4 := ζ (show Below wa.heap.size wa W4 by subst hW4;exact (ζb _ _).alloc (ζn _) _)
  have HR4 := ζ (show Blk W4 wa.heap.size 81 #[.bool r.head.neg,.string r.head.name,.slice ta1 r.head.terms.length tc1,.slice ba1 r.body.length bc1] by subst hW4;exact Blk.new wa _ _)
  have HF4 := ζ (HF1.out.below (HB1A.out.trans (HB4.out.mono HB1A.out.size)) HF1.out.lt)
  have y0 := HF4.out.cell 0;have y1 := HF4.out.cell 1
  have z0 := HR4.out.cell 0;have z1 := HR4.out.cell 1;have z2 := HR4.out.cell 2
  simp only [ζc] at y0 y1 z0 z1 z2
  obtain ⟨W5,hW5⟩ : ∃ W5 : World,W4.alloc (.map #[] 0) = W5 := ⟨_,rfl⟩
  obtain ⟨bm,hbm⟩ : ∃ bm,W4.heap.size = bm := ⟨_,rfl⟩
  have HB5 := ζ (show Below wa.heap.size wa W5 by subst hW5;exact HB4.out.alloc HB4.out.size _)
  have HM5 := ζ (show MapE W5 bm 0 (fun v => getB v []) by subst hW5;subst hbm;exact MapE.nil_)
  have HR5 := ζ (show Blk W5 wa.heap.size 81 #[.bool r.head.neg,.string r.head.name,.slice ta1 r.head.terms.length tc1,.slice ba1 r.body.length bc1] by subst hW5;exact HR4.out.alloc _)
  have HA5 := ζ (RdSlice.agree ζS (Below.agree (HB1A.out.trans (HB5.out.mono HB1A.out.size))) HA1.out)
  cases hm0 : meetP r.head f [] with
  | none =>
   have KE := ζ (tryMiss hm0 (HT.out.up HB5.out) HA5.out HM5.out u1 (by omega) (by omega) HSM.out.h2 (fun x hx => Nat.le_trans (named_size (HFN.out x hx)) (by decide)))
   have HP1 := ζ (HMIS.out (ruleG_none (age := age) (M := M) hm0))
   clear hm0 HHIT HMIS
   go_wp2_with (go_at_call 32;refine (KE.out).mono ?_;rintro e w6 ⟨rfl,hb6⟩;have HB6 := ζ (HBR.out.trans ((HB5.out.trans (hb6.mono HB5.out.size)).mono HBR.out.size));clear hb6)
   go_roundw
   case rel => exact ⟨n + 1,by omega,by go_num,HP1,HB6⟩
   case measure => simp [intOf];omega
  | some s =>
  have KE := ζ (tryHit hm0 (HT.out.up HB5.out) HA5.out HM5.out u1 (by omega) (by omega) HSM.out.h2 (fun x hx => Nat.le_trans (named_size (HFN.out x hx)) (by decide)))
  have HRF := ζ (ruleG_some (age := age) (M := M) hm0)
  have HSB := ζ (sub_small hm0 HSM.out HFN.out)
  have HSV := ζ (fun (v x : Str) (hg : getB v s = some x) => Nat.le_trans (named_size (HFN.out x (meetP_names hm0 hg))) (show 12 ≤ 1048576 by decide))
  clear hm0
  go_wp2_with (go_at_call 32;refine (KE.out).mono ?_;rintro e w6 ⟨⟨eb,rfl,heb,hme⟩,hb6⟩;have HSE := ζ hme;have HB6 := ζ (HB5.out.trans (hb6.mono HB5.out.size));have z3 := (HR5.out.below hb6 HR5.out.lt).cell 3;simp only [ζc] at z3;clear hb6 hme heb)
  have HBL := ζ u2
  clear KE HM5 HR5 HA5 HB5 hW5 hW4 HB4 HR4 HF4 y0 y1 z0 z1 z2 hbm HT u1 u2 hmm r0 r1 r2 r3
  have HI0 := ζ (ζb w6.heap.size w6)
  have HO0 := ζ (show Owned 3 RAtom w6.heap.size 78 (New w6) w6 (.slice none 0 0) ((r.body.take 0).map (subA s)) from Owned.nil)
  go_loopw [93,12] (fun i v wr => ∃ (k : Nat) (bv : Value),k ≤ r.body.length ∧ i = .int .i64 k ∧ bv = v ∧ Hid (Owned 3 RAtom w6.heap.size 78 (New w6) wr bv ((r.body.take k).map (subA s))) ∧ Hid (Below w6.heap.size w6 wr)) (fun i _ _ => r.body.length - (intOf i).toNat)
  case atStart => exact ⟨0,_,Nat.zero_le _,rfl,rfl,HO0,HI0⟩
  case round =>
   clear HO0 HI0 z3
   obtain ⟨k,bv,hk,rfl,rfl,HO,HI⟩ := hrel
   have HBW := ζ (HB6.out.trans (HI.out.mono HB6.out.size))
   by_cases hlt2 : k < r.body.length
   ·as_aux_lemma =>
    obtain ⟨a,ha⟩ : ∃ a,r.body[k]? = some a := ⟨_,ζe hlt2⟩
    have ham := ζm ha
    obtain ⟨b4,o4,tv4,rfl,-,hb4,a0,a1,a2,hat⟩ := (HBB.out.up HBW.out).at ha
    obtain ⟨ta4,tc4,rfl,-,-,-⟩ := id hat.form
    have ht4 := U3.out a ham
    have HST := ζ (fun t ht => HSM.out.b2 a ham t ht)
    have HSN := ζ (map_snoc (g := subA s) ha)
    have HAT := ζ hat
    obtain ⟨wk,hwk⟩ : ∃ wk : World,wk = wr := ⟨_,rfl⟩
    subst hwk
    have HI1 := ζ (show Below wk.heap.size wk ((wk.alloc (.cells #[.bool a.neg,.string a.name,.slice ta4 a.terms.length tc4] 78)).alloc (.cells #[.bool a.neg,.string a.name,.slice none 0 0] 78)) from ((ζb _ _).alloc (ζn _) _).alloc (by simp) _)
    have HQ1 := ζ (show Blk ((wk.alloc (.cells #[.bool a.neg,.string a.name,.slice ta4 a.terms.length tc4] 78)).alloc (.cells #[.bool a.neg,.string a.name,.slice none 0 0] 78)) (wk.heap.size + 1) 78 #[.bool a.neg,.string a.name,.slice none 0 0] from heap_new_at (by simp))
    have hlo : ((r.body.take k).map (subA s)).length ≤ 5 := by have := HBL.out;simp;omega
    have HTO := ζ (show Owned 2 RTerm (wk.heap.size + 2) 104 (fun _ => False) ((wk.alloc (.cells #[.bool a.neg,.string a.name,.slice ta4 a.terms.length tc4] 78)).alloc (.cells #[.bool a.neg,.string a.name,.slice none 0 0] 78)) (.slice none 0 0) ((a.terms.take 0).map (subT s)) from Owned.nil)
    generalize (r.body.take k).map (subA s) = out at *
    clear hat ha ham
    go_wp2
    go_loopw [105] (fun i wr => ∃ (j : Nat) (tv : Value),j ≤ a.terms.length ∧ i = .int .i64 j ∧ Hid (Below wk.heap.size wk wr) ∧ Hid (Blk wr (wk.heap.size + 1) 78 #[.bool a.neg,.string a.name,tv]) ∧ Hid (Owned 2 RTerm (wk.heap.size + 2) 104 (fun _ => False) wr tv ((a.terms.take j).map (subT s)))) (fun i _ => a.terms.length - (intOf i).toNat)
    case atStart => exact ⟨0,_,Nat.zero_le _,rfl,HI1,HQ1,HTO⟩
    case round =>
     clear HI1 HQ1 HTO
     obtain ⟨j,tv,hj,rfl,HI1,HQ,HTO⟩ := hrel
     obtain ⟨va,vc,efm,-,-,-⟩ := (HTO.out.read RTerm.steady).form
     subst efm
     have hsz : wk.heap.size + 2 ≤ wr.heap.size := by have := HQ.out.lt;omega
     by_cases hlt3 : j < a.terms.length
     ·obtain ⟨t,hx⟩ : ∃ t,a.terms[j]? = some t := ⟨_,ζe hlt3⟩
      obtain ⟨b7,o7,rfl,-,-,t0,t1⟩ := RdTerms.at (HAT.out.up HI1.out) hx
      have HTN := ζ (map_snoc (g := subT s) hx)
      have hlt4 : ((a.terms.take j).map (subT s)).length ≤ 4 := by simp;omega
      have HI3 := ζ (HI.out.trans (HI1.out.mono HI.out.size))
      have hts : t.name.size ≤ maxLen := by have := HST.out t (ζm hx);unfold maxLen;omega
      obtain ⟨W7,hW7⟩ : ∃ W7 : World,wr.alloc (.cells #[.bool t.var,.string t.name] 104) = W7 := ⟨_,rfl⟩
      have hs7 : W7.heap.size = wr.heap.size + 1 := by subst hW7;simp
      have hbx : Below wr.heap.size wr W7 := by subst hW7;exact (ζb _ _).alloc (ζn _) _
      have HT7 := ζ (show Blk W7 wr.heap.size 104 #[.bool t.var,.string t.name] by subst hW7;exact Blk.new wr _ _)
      have HI7 := ζ (HI1.out.trans (hbx.mono HI1.out.size))
      have HQ7 := ζ (HQ.out.below hbx HQ.out.lt)
      have HO7 := ζ (HTO.out.below RTerm.steady hbx)
      have k0 := HT7.out.cell 0;have k1 := HT7.out.cell 1
      have m2 := HQ7.out.cell 2
      simp only [ζc] at k0 k1 m2
      have hget := (HSE.out.below (HI3.out.trans (hbx.mono HI3.out.size)) HSE.out.lt).getOk hts
      clear hx hbx HI3
      generalize (a.terms.take j).map (subT s) = ts at *
      cases hg : getB t.name s with
      | none =>
       rw [hg] at hget
       have HTS := ζ (show subT s t = t by unfold subT;rw [hg];simp)
       clear hg
       go_wp2_with (at_builtin;refine wpList_append_one (B := wk.heap.size + 2) (e := 104) (S := fun _ => False) (by rfl) _ _ 76 (by rfl) RTerm.steady rowTerms _ ts (by rfl) (HO7.out.alloc RTerm.steady _) (wr.heap.size + 1) 1 #[.bool t.var,.string t.name] 104 (0,0) t (by rfl) (heap_new_at hs7) rfl (by simp [Value.oneCell']) rfl (by omega) (by simp;omega) ?_;intro v8 w8 hown8 hg8 hat8;obtain ⟨a8,c8,rfl,-,-,-⟩ := id (hown8.read RTerm.steady).form;rw [List.length_append,List.length_singleton] at hown8;have HO8 := ζ hown8;have HI8 := ζ ((HI7.out.alloc HI7.out.size _).grown hg8 (by have := HI7.out.size;simp at this ⊢;omega) (fun q hq => by have := (HO7.out.row_lt hq).1;omega));have HQ8 := ζ ((HQ7.out.alloc _).grown hg8 (fun e => by have := (HO7.out.row_lt e.symm).1;omega));have g2 := HQ8.out.cell 2;have x2 := HQ8.out.frozen 2;simp only [ζc] at g2;clear hown8 hg8 hat8)
       go_roundw
       case rel => exact ⟨j + 1,_,by omega,by go_num,ζ (HI8.out.setCell (p := ⟨wk.heap.size + 1,2,none⟩) (by show wk.heap.size ≤ wk.heap.size + 1;omega) _),ζ (HQ8.out.set_ 2 _),ζ (by rw [HTN.out,HTS.out];exact HO8.out.setCell RTerm.steady (p := ⟨wk.heap.size + 1,2,none⟩) (fun h => h) (fun e => by have := (HO8.out.row_lt e).1;have h2 : wk.heap.size + 2 ≤ wk.heap.size + 1 := this;omega) _)⟩
       case measure => simp [intOf];omega
      | some n5 =>
       rw [hg] at hget
       have hn5 := HSV.out _ _ hg
       cases htv : t.var with
       | false =>
        rw [htv] at t0 hW7 HT7 k0
        have HTS := ζ (show subT s t = ⟨false,t.name⟩ by rw [subT_name htv,← htv])
        clear hg
        go_wp2_with (at_builtin;refine wpList_append_one (B := wk.heap.size + 2) (e := 104) (S := fun _ => False) (by rfl) _ _ 76 (by rfl) RTerm.steady rowTerms _ ts (by rfl) (HO7.out.alloc RTerm.steady _) (wr.heap.size + 1) 1 #[.bool false,.string t.name] 104 (0,0) ⟨false,t.name⟩ (by rfl) (heap_new_at hs7) rfl (by simp [Value.oneCell']) rfl (by omega) (by simp;omega) ?_;intro v8 w8 hown8 hg8 hat8;obtain ⟨a8,c8,rfl,-,-,-⟩ := id (hown8.read RTerm.steady).form;rw [List.length_append,List.length_singleton] at hown8;have HO8 := ζ hown8;have HI8 := ζ ((HI7.out.alloc HI7.out.size _).grown hg8 (by have := HI7.out.size;simp at this ⊢;omega) (fun q hq => by have := (HO7.out.row_lt hq).1;omega));have HQ8 := ζ ((HQ7.out.alloc _).grown hg8 (fun e => by have := (HO7.out.row_lt e.symm).1;omega));have g2 := HQ8.out.cell 2;have x2 := HQ8.out.frozen 2;simp only [ζc] at g2;clear hown8 hg8 hat8)
        go_roundw
        case rel => exact ⟨j + 1,_,by omega,by go_num,ζ (HI8.out.setCell (p := ⟨wk.heap.size + 1,2,none⟩) (by show wk.heap.size ≤ wk.heap.size + 1;omega) _),ζ (HQ8.out.set_ 2 _),ζ (by rw [HTN.out,HTS.out];exact HO8.out.setCell RTerm.steady (p := ⟨wk.heap.size + 1,2,none⟩) (fun h => h) (fun e => by have := (HO8.out.row_lt e).1;have h2 : wk.heap.size + 2 ≤ wk.heap.size + 1 := this;omega) _)⟩
        case measure => simp [intOf];omega
       | true =>
        rw [htv] at t0 hW7 HT7 k0
        have HTS := ζ (subT_var htv hg)
        have x0 := HT7.out.frozen 0;have x1 := HT7.out.frozen 1
        obtain ⟨W8,hW8⟩ : ∃ W8 : World,(W7.setCell ⟨wr.heap.size,0,none⟩ (.bool false)).setCell ⟨wr.heap.size,1,none⟩ (.string n5) = W8 := ⟨_,rfl⟩
        have hs8 : W8.heap.size = wr.heap.size + 1 := by subst hW8;simpa [World.setCell] using hs7
        have HT8 := ζ (show Blk W8 wr.heap.size 104 #[.bool false,.string n5] by subst hW8;exact (HT7.out.set_ 0 _).set_ 1 _)
        replace HI7 := ζ (show Below wk.heap.size wk W8 by subst hW8;exact (HI7.out.setCell (p := ⟨wr.heap.size,0,none⟩) (by show wk.heap.size ≤ wr.heap.size;omega) (.bool false)).setCell (p := ⟨wr.heap.size,1,none⟩) (by show wk.heap.size ≤ wr.heap.size;omega) (.string n5))
        replace HQ7 := ζ (show Blk W8 (wk.heap.size + 1) 78 #[.bool a.neg,.string a.name,.slice va ts.length vc] by subst hW8;exact (HQ7.out.far (p := ⟨wr.heap.size,0,none⟩) (by show wk.heap.size + 1 ≠ wr.heap.size;omega) (.bool false)).far (p := ⟨wr.heap.size,1,none⟩) (by show wk.heap.size + 1 ≠ wr.heap.size;omega) (.string n5))
        replace HO7 := ζ (show Owned 2 RTerm (wk.heap.size + 2) 104 (fun _ => False) W8 (.slice va ts.length vc) ts by subst hW8;exact (HO7.out.setCell RTerm.steady (p := ⟨wr.heap.size,0,none⟩) (fun h => h) (fun e => by have := (HTO.out.row_lt e).2;have h2 : wr.heap.size < wr.heap.size := this;omega) (.bool false)).setCell RTerm.steady (p := ⟨wr.heap.size,1,none⟩) (fun h => h) (fun e => by have := (HTO.out.row_lt e).2;have h2 : wr.heap.size < wr.heap.size := this;omega) (.string n5))
        have l0 := HT8.out.cell 0;have l1 := HT8.out.cell 1;have l2 := HQ7.out.cell 2
        simp only [ζc] at l0 l1 l2
        clear hg
        go_wp2_with (at_builtin;refine wpList_append_one (B := wk.heap.size + 2) (e := 104) (S := fun _ => False) (by rfl) _ _ 76 (by rfl) RTerm.steady rowTerms _ ts (by rfl) (HO7.out.alloc RTerm.steady _) (wr.heap.size + 1) 1 #[.bool false,.string n5] 104 (0,0) ⟨false,n5⟩ (by rfl) (heap_new_at hs8) rfl (by simp [Value.oneCell']) rfl (by omega) (by simp;omega) ?_;intro v8 w8 hown8 hg8 hat8;obtain ⟨a8,c8,rfl,-,-,-⟩ := id (hown8.read RTerm.steady).form;rw [List.length_append,List.length_singleton] at hown8;have HO8 := ζ hown8;have HI8 := ζ ((HI7.out.alloc HI7.out.size _).grown hg8 (by have := HI7.out.size;simp at this ⊢;omega) (fun q hq => by have := (HO7.out.row_lt hq).1;omega));have HQ8 := ζ ((HQ7.out.alloc _).grown hg8 (fun e => by have := (HO7.out.row_lt e.symm).1;omega));have g2 := HQ8.out.cell 2;have x2 := HQ8.out.frozen 2;simp only [ζc] at g2;clear hown8 hg8 hat8)
        go_roundw
        case rel => exact ⟨j + 1,_,by omega,by go_num,ζ (HI8.out.setCell (p := ⟨wk.heap.size + 1,2,none⟩) (by show wk.heap.size ≤ wk.heap.size + 1;omega) _),ζ (HQ8.out.set_ 2 _),ζ (by rw [HTN.out,HTS.out];exact HO8.out.setCell RTerm.steady (p := ⟨wk.heap.size + 1,2,none⟩) (fun h => h) (fun e => by have := (HO8.out.row_lt e).1;have h2 : wk.heap.size + 2 ≤ wk.heap.size + 1 := this;omega) _)⟩
        case measure => simp [intOf];omega
     ·obtain rfl : j = a.terms.length := by omega
      have HTR := ζ (show RdTerms (fun b => wk.heap.size + 2 ≤ b ∧ b < wr.heap.size) wr (.slice va ((a.terms.take a.terms.length).map (subT s)).length vc) (subA s a).terms by
       have h1 := HTO.out.read RTerm.steady
       have e1 : (a.terms.take a.terms.length).map (subT s) = (subA s a).terms := by rw [List.take_length];rfl
       rw [e1] at h1 ⊢
       exact h1.more RTerm.steady (fun b hb hl => hb.elim False.elim (fun e => ⟨e,hl⟩)))
      have m0 := HQ.out.cell 0;have m1 := HQ.out.cell 1;have m2 := HQ.out.cell 2
      simp only [ζc] at m0 m1 m2
      have HO1 := ζ (HO.out.below RAtom.steady HI1.out)
      have HI3 := ζ (HI.out.trans (HI1.out.mono HI.out.size))
      have hk1 := HI.out.size
      have hbl5 : r.body.length ≤ 5 := HBL.out
      generalize ((a.terms.take a.terms.length).map (subT s)).length = tn at *
      go_wp2_with (at_builtin;refine wpList_append_one (B := w6.heap.size) (e := 78) (S := New w6) (by rfl) _ _ 79 (by rfl) RAtom.steady rowAtoms _ out (by rfl) (HO1.out.alloc RAtom.steady _) wr.heap.size 1 #[.bool a.neg,.string a.name,.slice va tn vc] 78 (0,0) (subA s a) (by rfl) (heap_new_at rfl) rfl (by simp [Value.oneCell']) ⟨_,rfl,(RdSlice.agree RTerm.steady ((Agree.refl _ _).alloc _) HTR.out).more RTerm.steady (fun b hb _ => ⟨by have := hb.1;show w6.heap.size ≤ b;omega,fun e => by have h1 := (HO.out.row_lt e.symm).2;have h2 := hb.1;omega⟩)⟩ (by omega) (by simp;omega) ?_;intro v7 w7 hown7 hg7 hat7;rw [← HSN.out] at hown7;have HO7 := ζ hown7;have HI7 := ζ ((HI3.out.alloc HI3.out.size _).grown hg7 (by have := HI3.out.size;simp;omega) (fun q hq => (HO1.out.row_lt hq).1));clear hown7 hg7 hat7)
      go_roundw
      case rel => exact ⟨k + 1,_,by omega,by go_num,rfl,HO7,HI7⟩
      case measure => simp [intOf];omega
   ·obtain rfl : k = r.body.length := by omega
    have HRB := ζ (show RdAtoms (New w6) wr bv (subBody s r.body) by
     have h1 := HO.out.read RAtom.steady
     rw [List.take_length] at h1
     exact h1.more RAtom.steady (fun b hb _ => hb.elim id id))
    obtain ⟨va,vc,rfl,-,-,-⟩ := id HRB.out.form
    have hbl5 : r.body.length ≤ 5 := HBL.out
    have HB5 := ζ (show (subBody s r.body).length ≤ 5 by unfold subBody;rw [List.length_map];exact hbl5)
    have HBT := ζ (show ∀ a ∈ subBody s r.body,a.terms.length ≤ 4 from fun a ha => by obtain ⟨y,hy,rfl⟩ := List.mem_map.1 ha;show (y.terms.map (subT s)).length ≤ 4;rw [List.length_map];exact U3.out y hy)
    have HBN := ζ (show ∀ a ∈ subBody s r.body,a.name.size ≤ 1048576 from fun a ha => by obtain ⟨y,hy,rfl⟩ := List.mem_map.1 ha;exact Nat.le_trans (named_size (atomBad_zero (body_bad_atoms (ruleBad_zero HBAD.out).2.2.1 hy)).1) (by decide))
    have KW := ζ (withRef (subBody s r.body) (.slice va (subBody s r.body).length vc) M (.slice ca M.length cc) (-1) [] (.slice none 0 0) wr HRB.out (HMV.out.agree ζF (Below.agree (HB1A.out.trans (HBW.out.mono HB1A.out.size)))) (RdFacts.nil (S := fun _ => True)) (Nat.le_trans HB5.out (by decide)) (fun a ha => ⟨Nat.le_trans (HBT.out a ha) (by decide),HBN.out a ha⟩) HSB.out (Nat.le_trans HM.out.len (by decide)) (fun x hx => by
     obtain ⟨x1,x2,x3⟩ := wrongF_zero.1 (HM.out.fine x hx)
     exact ⟨⟨Nat.le_trans x2 (by decide),fun a ha => Nat.le_trans (named_size (x3 a ha)) (by decide)⟩,Nat.le_trans (named_size x1) (by decide)⟩) (by simp) (by simp))
    have HCS := ζ (allP_cases (subBody s r.body) M)
    have HSH := ζ (all_short (subBody s r.body) M)
    rw [show withP (subBody s r.body) M (-1) [] = allP (subBody s r.body) M from rfl] at KW
    clear HO HBL HBN
    generalize subBody s r.body = B at *
    generalize allP B M = z at *
    obtain ⟨ls,q⟩ := z
    dsimp only at *
    by_cases hq : q = 0
    case neg =>
     have g1 : (q != 0) = true := by simpa using hq
     have HP1 := ζ (HMIS.out (show ruleG age M r f = none by rw [HRF.out,if_pos hq]))
     clear hq HRF HCS
     go_wp2_with (go_at_call 51;refine (KW.out).mono ?_;rintro e w8 ⟨⟨la,lc,rfl,hr8⟩,hb8⟩;have HB8 := ζ (HBR.out.trans ((HBW.out.trans (hb8.mono HBW.out.size)).mono HBR.out.size));clear hr8 hb8)
     go_roundw
     case rel => exact ⟨n + 1,by omega,by go_num,HP1,HB8⟩
     case measure => simp [intOf];omega
    subst hq
    have HRE := ζ (show ruleG age M r f = (ls.find? fun b => (kidsOf B b).all (olderP age f)).map (kidsOf B) by rw [HRF.out,if_neg (by simp)])
    have HTL := ζ (show ∀ m ∈ ls,∀ a ∈ B,a.neg = false → ∃ x,fillP a m = some x ∧ x ∈ M from fun m hm a ha hn => by
     rcases HCS.out with ⟨h1,-⟩ | ⟨-,-,-,-,h5⟩
     ·exact absurd rfl h1
     ·obtain ⟨jj,hjj⟩ := List.mem_iff_getElem?.1 ha
      obtain ⟨x,hx,hxm⟩ := ((h5 m).1 hm).2.2.2 jj a hjj
      rw [hn] at hxm
      exact ⟨x,hx,(memF_iff x M).1 hxm⟩)
    have HTZ := ζ (show ∀ m ∈ ls,Nd m ∧ ∀ y ∈ m,y.var.size ≤ 1048576 ∧ y.name.size ≤ 1048576 from fun m hm => by
     rcases HCS.out with ⟨h1,-⟩ | ⟨-,h2,-,-,h5⟩
     ·exact absurd rfl h1
     ·exact ⟨((h5 m).1 hm).2.1,told_sizes HM.out h2 ((h5 m).1 hm) HSB.out⟩)
    clear HRF HCS
    go_wp2_with (go_at_call 51;refine (KW.out).mono ?_;rintro e w8 ⟨⟨la,lc,rfl,hr8⟩,hb8⟩;have HB8 := ζ (HBW.out.trans (hb8.mono HBW.out.size));have HLS := ζ hr8;have HRB8 := ζ (HRB.out.up hb8);clear hr8 hb8)
    clear KW HRB HBW HI HB6
    have HI0 := ζ (ζb w8.heap.size w8)
    have HF0 := ζ (show ((ls.drop 0).find? fun b => (kidsOf B b).all (olderP age f)) = ls.find? fun b => (kidsOf B b).all (olderP age f) from rfl)
    go_loopw [145] (fun i wr => ∃ m : Nat,m ≤ ls.length ∧ i = .int .i64 m ∧ Hid (((ls.drop m).find? fun b => (kidsOf B b).all (olderP age f)) = ls.find? fun b => (kidsOf B b).all (olderP age f)) ∧ Hid (Below w8.heap.size w8 wr)) (fun i _ => ls.length - (intOf i).toNat)
    case atStart => exact ⟨0,Nat.zero_le _,rfl,HF0,HI0⟩
    case round =>
     clear HI0 HF0
     obtain ⟨mm,hmn,rfl,HFN,HI⟩ := hrel
     obtain ⟨wi,hwi⟩ : ∃ wi : World,wi = wr := ⟨_,rfl⟩
     subst hwi
     have HAI := ζ (HB8.out.trans (HI.out.mono HB8.out.size))
     by_cases hltn : mm < ls.length
     rotate_left
     ·have HP1 := ζ (HMIS.out (show ruleG age M r f = none by rw [HRE.out,← HFN.out,List.drop_eq_nil_of_le (by omega)];rfl))
      have HB9 := ζ (HBR.out.trans (HAI.out.mono HBR.out.size))
      go_wp2
      go_roundw
      case rel => exact ⟨n + 1,by omega,by go_num,HP1,HB9⟩
      case measure => simp [intOf];omega
     obtain ⟨l,hl⟩ : ∃ l,ls[mm]? = some l := ⟨_,ζe hltn⟩
     have hlm := ζm hl
     obtain ⟨b9,o9,lv,rfl,-,hb9,e9,hlv⟩ := RdBindss.at' HLS.out hl
     obtain ⟨l9,c9,rfl,-,-,-⟩ := id hlv.form
     have f9 := (ζl HI.out hb9 _).trans e9
     have hll := HSH.out.2 l hlm
     have hln := HSH.out.1
     obtain ⟨hnd,hlz⟩ := HTZ.out l hlm
     have HND := ζ hnd
     have HLZ := ζ hlz
     have HTM := ζ (HTL.out l hlm)
     have HHI2 := ζ (fun h => (find_hit (P := fun b => (kidsOf B b).all (olderP age f)) hl h).symm.trans HFN.out)
     have HMI2 := ζ (fun h => (find_miss (P := fun b => (kidsOf B b).all (olderP age f)) hl h).symm.trans HFN.out)
     have HLI := ζ (hlv.up HI.out)
     have hmm := @run_makeMap Tryz.prog
     obtain ⟨W9,hW9⟩ : ∃ W9 : World,wi.alloc (.map #[] 0) = W9 := ⟨_,rfl⟩
     have HJ9 := ζ (show Below wi.heap.size wi W9 by subst hW9;exact (ζb _ _).alloc (ζn _) _)
     have HM9 := ζ (show MapE W9 wi.heap.size 0 (fun v => getB v (l.take 0)) by subst hW9;exact MapE.nil_)
     clear e9 hl hlv hlm hnd hlz
     go_wp2
     clear hW9 hmm f9
     go_loopw [152] (fun i wr => ∃ j : Nat,j ≤ l.length ∧ i = .int .i64 j ∧ Hid (MapE wr wi.heap.size j (fun v => getB v (l.take j))) ∧ Hid (Below wi.heap.size wi wr)) (fun i _ => l.length - (intOf i).toNat)
     case atStart => exact ⟨0,Nat.zero_le _,rfl,HM9,HJ9⟩
     case round =>
      clear HM9 HJ9
      obtain ⟨j,hj,rfl,HMJ,HJ⟩ := hrel
      by_cases hltj : j < l.length
      ·obtain ⟨y,hy⟩ : ∃ y,l[j]? = some y := ⟨_,ζe hltj⟩
       obtain ⟨b3,o3,rfl,-,hb3,d0,d1⟩ := RdBinds.at (HLI.out.up HJ.out) hy
       obtain ⟨hyv,hyn⟩ := HLZ.out y (ζm hy)
       obtain ⟨W2',hW2'⟩ : ∃ W2' : World,wr.alloc (.cells #[.string y.var,.string y.name] 110) = W2' := ⟨_,rfl⟩
       have HJ2 := ζ (show Below wi.heap.size wi W2' by subst hW2';exact HJ.out.alloc HJ.out.size _)
       have HY2 := ζ (show Blk W2' wr.heap.size 110 #[.string y.var,.string y.name] by subst hW2';exact Blk.new wr _ _)
       have k0 := HY2.out.cell 0;have k1 := HY2.out.cell 1
       simp only [ζc] at k0 k1
       have hmj : MapE W2' wi.heap.size j (fun v => getB v (l.take j)) := by subst hW2';exact HMJ.out.alloc _
       obtain ⟨w5,hput,hm5,hg5⟩ := hmj.put (s := y.var) (x := y.name) (by unfold maxLen;omega) (Nat.le_trans hyv (by decide)) (Nat.le_trans hyn (by decide))
       rw [getB_take HND.out hy] at hm5
       have HM5' := ζ hm5
       have HJ5 := ζ (HJ2.out.grown hg5 HJ2.out.size (fun q hq => by cases hq;exact ζn _))
       clear hy hm5 hg5 hmj
       go_wp2
       go_roundw
       case rel => exact ⟨j + 1,by omega,by go_num,HM5',HJ5⟩
       case measure => simp [intOf];omega
      ·obtain rfl : j = l.length := by omega
       have HME := ζ (show MapE wr wi.heap.size 20 (fun v => getB v l) by have h := HMJ.out;rw [List.take_length] at h;exact h.mono hll)
       have HAJ := ζ (HAI.out.trans (HJ.out.mono HAI.out.size))
       have HJI := HJ
       clear HMJ
       obtain ⟨wj,hwj⟩ : ∃ wj : World,wj = wr := ⟨_,rfl⟩
       subst hwj
       have HJ0 := ζ (ζb wj.heap.size wj)
       have HO0 := ζ (show Owned 2 RFact wj.heap.size 27 (New wj) wj (.slice none 0 0) (kidsOf (B.take 0) l) from Owned.nil)
       go_wp2
       go_loopw [164,27,28] (fun i v o wr => ∃ (j : Nat) (kv : Value),j ≤ B.length ∧ i = .int .i64 j ∧ kv = v ∧ o = .bool ((kidsOf (B.take j) l).all (olderP age f)) ∧ Hid (Owned 2 RFact wj.heap.size 27 (New wj) wr kv (kidsOf (B.take j) l)) ∧ Hid (Below wj.heap.size wj wr)) (fun i _ _ _ => B.length - (intOf i).toNat)
       case atStart => exact ⟨0,_,Nat.zero_le _,rfl,rfl,rfl,HO0,HJ0⟩
       case round =>
        clear HJ0 HO0
        obtain ⟨j,kv,hj,rfl,rfl,rfl,HO,HJ⟩ := hrel
        have hbl5 := HB5.out
        have HAW := ζ (HAJ.out.trans (HJ.out.mono HAJ.out.size))
        by_cases hltj : j < B.length
        ·as_aux_lemma =>
         obtain ⟨a,ha⟩ : ∃ a,B[j]? = some a := ⟨_,ζe hltj⟩
         have ham := ζm ha
         obtain ⟨b4,o4,tv4,rfl,-,hb4,a0,a1,a2,hat⟩ := (HRB8.out.up ((HI.out.trans (HJI.out.mono HI.out.size)).trans (HJ.out.mono (HI.out.trans (HJI.out.mono HI.out.size)).size))).at ha
         obtain ⟨ta4,tc4,rfl,-,-,-⟩ := id hat.form
         have ht4 := HBT.out a ham
         have HSA := ζ (fun t ht => HSB.out a ham t ht)
         have hkl := kidsOf_le B l j
         obtain ⟨W7,hW7⟩ : ∃ W7 : World,wr.alloc (.cells #[.bool a.neg,.string a.name,.slice ta4 a.terms.length tc4] 78) = W7 := ⟨_,rfl⟩
         have HB7 := ζ (show Below wr.heap.size wr W7 by subst hW7;exact (ζb _ _).alloc (ζn _) _)
         have HC7 := ζ (show Blk W7 wr.heap.size 78 #[.bool a.neg,.string a.name,.slice ta4 a.terms.length tc4] by subst hW7;exact Blk.new wr _ _)
         have HAT := ζ (hat.up HB7.out)
         have HME7 := ζ ((HME.out.below HJ.out HME.out.lt).below HB7.out (Nat.lt_of_lt_of_le HME.out.lt HJ.out.size))
         clear hat
         cases hng : a.neg with
         | true =>
          rw [hng] at a0 hW7 HC7
          have c0 := HC7.out.cell 0
          simp only [ζc] at c0
          have HKN := ζ (kidsOf_neg (b := l) ha hng)
          have HJ1 := ζ (HJ.out.trans (HB7.out.mono HJ.out.size))
          have HO1 := ζ (HO.out.below ζF HB7.out)
          clear ha ham hng
          go_wp2
          go_roundw
          case rel => exact ⟨j + 1,_,by omega,by go_num,rfl,by rw [HKN.out],by rw [HKN.out];exact HO1,HJ1⟩
          case measure => simp [intOf];omega
         | false =>
          rw [hng] at a0 hW7 HC7
          have c0 := HC7.out.cell 0;have c1 := HC7.out.cell 1;have c2 := HC7.out.cell 2
          simp only [ζc] at c0 c1 c2
          obtain ⟨x,hfx,hxM⟩ := HTM.out a ham hng
          have HKP := ζ (kidsOf_pos (b := l) ha hng hfx)
          have ke := fillHitR hfx HAT.out HME7.out ht4 HSA.out
          rw [hng] at ke
          have KE := ζ ke
          have hx4 := (wrongF_zero.1 (HM.out.fine x hxM)).2.1
          have HOX := ζ (HOLD.out x hxM)
          clear ha ham hng hfx ke hxM
          generalize kidsOf (B.take j) l = ks at *
          cases hob : ks.all (olderP age f) with
          | false =>
           have HOB := ζ (show (kidsOf (B.take (j + 1)) l).all (olderP age f) = false by rw [HKP.out,List.all_append,hob];rfl)
           clear hob
           go_wp2_with (first
            | (at_builtin;have hh := HB11.out;clear hh;refine wpList_append_one (B := wj.heap.size) (e := 27) (S := New wj) (by rfl) _ _ 24 (by rfl) ζF rowFacts _ ks (by rfl) ((HO.out.below ζF HB11.out).alloc ζF _) (w10.heap.size + 1) 1 #[.string x.name,.slice xa x.args.length xc] 27 (0,0) x (by rfl) (heap_new_at (by simp)) rfl (by simp [Value.oneCell']) (RFact.behind (x := x) (W1 := wr) HO.out HJ.out.size (ζn _) HXR.out ((Agree.refl _ _).alloc _)) (by omega) (by have := HJ.out.size;have := HB11.out.size;simp at this ⊢;omega) ?_;intro v13 w13 hown13 hg13 hat13;rw [← HKP.out] at hown13;have HO13 := ζ hown13;have HJ13 := ζ (((HJ.out.trans (HB11.out.mono HJ.out.size)).alloc (HJ.out.trans (HB11.out.mono HJ.out.size)).size _).grown hg13 (by have := HJ.out.size;have := HB11.out.size;simp at this ⊢;omega) (fun q hq => (HO.out.row_lt hq).1));clear hown13 hg13 hat13)
            | (go_at_call 33;refine (KE.out).mono ?_;rintro e w10 ⟨⟨xa,xc,rfl,hr10⟩,hb10⟩;have hb10' := HB7.out.trans (hb10.mono HB7.out.size);have HX10 := ζ hr10;have HB11 := ζ (hb10'.alloc hb10'.size (.cells #[.string x.name,.slice xa x.args.length xc] 27));have HX11 := ζ (Blk.new w10 27 #[.string x.name,.slice xa x.args.length xc]);have f0 := HX11.out.cell 0;have f1 := HX11.out.cell 1;simp only [ζc] at f0 f1;have hs10 := hb10'.size;have HXR := ζ ((hr10.more ζS (S' := New wr) (fun b hb _ => Nat.le_trans HB7.out.size hb)).agree ζS (Below.agree ((ζb w10.heap.size w10).alloc (ζn _) (.cells #[.string x.name,.slice xa x.args.length xc] 27))));clear hb10 hb10' hr10))
           go_roundw
           case rel => exact ⟨j + 1,_,by omega,by go_num,rfl,by rw [HOB.out],HO13,HJ13⟩
           case measure => simp [intOf];omega
          | true =>
           have HOB := ζ (show (kidsOf (B.take (j + 1)) l).all (olderP age f) = olderP age f x by rw [HKP.out,List.all_append,hob];simp)
           have KAX := ζ (fun (W : World) (hW : Below W1.heap.size W1 W) (bv : Value) (hx : RdStrs (New wr) W bv x.args) => KAg.out W hW x bv _ hx hx4)
           clear hob
           generalize ixR x zs = ax at *
           by_cases hold : ax < ag
           ·have i5 : (ax : Int) < (ag : Int) := by omega
            have HOC := ζ (show (kidsOf (B.take (j + 1)) l).all (olderP age f) = true by rw [HOB.out,HOX.out];simpa using hold)
            clear hold
            go_wp2_with (first
             | (at_builtin;have hh := HB12.out;clear hh;refine wpList_append_one (B := wj.heap.size) (e := 27) (S := New wj) (by rfl) _ _ 24 (by rfl) ζF rowFacts _ ks (by rfl) ((HO.out.below ζF HB12.out).alloc ζF _) w12.heap.size 1 #[.string x.name,.slice xa x.args.length xc] 27 (0,0) x (by rfl) (heap_new_at (by simp)) rfl (by simp [Value.oneCell']) (RFact.behind (x := x) (W1 := wr) HO.out HJ.out.size (ζn _) HXR.out ((Below.agree hb12).alloc _)) (by omega) (by have := HJ.out.size;have := HB12.out.size;simp at this ⊢;omega) ?_;intro v13 w13 hown13 hg13 hat13;rw [← HKP.out] at hown13;have HO13 := ζ hown13;have HJ13 := ζ (((HJ.out.trans (HB12.out.mono HJ.out.size)).alloc (HJ.out.trans (HB12.out.mono HJ.out.size)).size _).grown hg13 (by have := HJ.out.size;have := HB12.out.size;simp at this ⊢;omega) (fun q hq => (HO.out.row_lt hq).1));clear hown13 hg13 hat13)
             | (go_at_call 50;have hh := HB11.out;clear hh;refine (KAX.out _ (HB1A.out.trans ((HAW.out.trans (HB11.out.mono HAW.out.size)).mono HB1A.out.size)) _ HXR.out).mono ?_;rintro e w12 ⟨rfl,hb12⟩;have HB12 := ζ (HB11.out.trans (hb12.mono HB11.out.size));have g0 := (HX11.out.below hb12 HX11.out.lt).cell 0;have g1 := (HX11.out.below hb12 HX11.out.lt).cell 1;simp only [ζc] at g0 g1)
             | (go_at_call 33;refine (KE.out).mono ?_;rintro e w10 ⟨⟨xa,xc,rfl,hr10⟩,hb10⟩;have hb10' := HB7.out.trans (hb10.mono HB7.out.size);have HX10 := ζ hr10;have HB11 := ζ (hb10'.alloc hb10'.size (.cells #[.string x.name,.slice xa x.args.length xc] 27));have HX11 := ζ (Blk.new w10 27 #[.string x.name,.slice xa x.args.length xc]);have f0 := HX11.out.cell 0;have f1 := HX11.out.cell 1;simp only [ζc] at f0 f1;have hs10 := hb10'.size;have HXR := ζ ((hr10.more ζS (S' := New wr) (fun b hb _ => Nat.le_trans HB7.out.size hb)).agree ζS (Below.agree ((ζb w10.heap.size w10).alloc (ζn _) (.cells #[.string x.name,.slice xa x.args.length xc] 27))));clear hb10 hb10' hr10))
            go_roundw
            case rel => exact ⟨j + 1,_,by omega,by go_num,rfl,by rw [HOC.out],HO13,HJ13⟩
            case measure => simp [intOf];omega
           ·have i5 : ¬ (ax : Int) < (ag : Int) := by omega
            have HOC := ζ (show (kidsOf (B.take (j + 1)) l).all (olderP age f) = false by rw [HOB.out,HOX.out];simpa using hold)
            clear hold
            go_wp2_with (first
             | (at_builtin;have hh := HB12.out;clear hh;refine wpList_append_one (B := wj.heap.size) (e := 27) (S := New wj) (by rfl) _ _ 24 (by rfl) ζF rowFacts _ ks (by rfl) ((HO.out.below ζF HB12.out).alloc ζF _) w12.heap.size 1 #[.string x.name,.slice xa x.args.length xc] 27 (0,0) x (by rfl) (heap_new_at (by simp)) rfl (by simp [Value.oneCell']) (RFact.behind (x := x) (W1 := wr) HO.out HJ.out.size (ζn _) HXR.out ((Below.agree hb12).alloc _)) (by omega) (by have := HJ.out.size;have := HB12.out.size;simp at this ⊢;omega) ?_;intro v13 w13 hown13 hg13 hat13;rw [← HKP.out] at hown13;have HO13 := ζ hown13;have HJ13 := ζ (((HJ.out.trans (HB12.out.mono HJ.out.size)).alloc (HJ.out.trans (HB12.out.mono HJ.out.size)).size _).grown hg13 (by have := HJ.out.size;have := HB12.out.size;simp at this ⊢;omega) (fun q hq => (HO.out.row_lt hq).1));clear hown13 hg13 hat13)
             | (go_at_call 50;have hh := HB11.out;clear hh;refine (KAX.out _ (HB1A.out.trans ((HAW.out.trans (HB11.out.mono HAW.out.size)).mono HB1A.out.size)) _ HXR.out).mono ?_;rintro e w12 ⟨rfl,hb12⟩;have HB12 := ζ (HB11.out.trans (hb12.mono HB11.out.size));have g0 := (HX11.out.below hb12 HX11.out.lt).cell 0;have g1 := (HX11.out.below hb12 HX11.out.lt).cell 1;simp only [ζc] at g0 g1)
             | (go_at_call 33;refine (KE.out).mono ?_;rintro e w10 ⟨⟨xa,xc,rfl,hr10⟩,hb10⟩;have hb10' := HB7.out.trans (hb10.mono HB7.out.size);have HX10 := ζ hr10;have HB11 := ζ (hb10'.alloc hb10'.size (.cells #[.string x.name,.slice xa x.args.length xc] 27));have HX11 := ζ (Blk.new w10 27 #[.string x.name,.slice xa x.args.length xc]);have f0 := HX11.out.cell 0;have f1 := HX11.out.cell 1;simp only [ζc] at f0 f1;have hs10 := hb10'.size;have HXR := ζ ((hr10.more ζS (S' := New wr) (fun b hb _ => Nat.le_trans HB7.out.size hb)).agree ζS (Below.agree ((ζb w10.heap.size w10).alloc (ζn _) (.cells #[.string x.name,.slice xa x.args.length xc] 27))));clear hb10 hb10' hr10))
            go_roundw
            case rel => exact ⟨j + 1,_,by omega,by go_num,rfl,by rw [HOC.out] <;> exact congrArg Value.bool (decide_eq_false (by omega)),HO13,HJ13⟩
            case measure => simp [intOf];omega
        ·obtain rfl : j = B.length := by omega
         have HTK := ζ (show B.take B.length = B from List.take_length)
         rw [HTK.out] at HO
         rw [HTK.out]
         have hro := HO.out.read ζF
         obtain ⟨ka,kc,rfl,-,-,-⟩ := id hro.form
         have HRO := ζ (hro.more ζF (S' := New wj) (fun b hb _ => hb.elim id id))
         clear hro HO
         cases hob : (kidsOf B l).all (olderP age f) with
         | false =>
          have HFN1 := ζ (HMI2.out hob)
          have HI9 := ζ (HI.out.trans ((HJI.out.trans (HJ.out.mono HJI.out.size)).mono HI.out.size))
          clear hob
          go_wp2
          go_roundw
          case rel => exact ⟨mm + 1,by omega,by go_num,HFN1,HI9⟩
          case measure => simp [intOf];omega
         | true =>
          have hrg : ruleG age M r f = some (kidsOf B l) := by rw [HRE.out,← HHI2.out hob];rfl
          have HPK := ζ (HHIT.out _ hrg)
          have HKM := ζ (ruleG_in hrg)
          have HKL5 := ζ (Nat.le_trans (kidsOf_le B l B.length) HB5.out)
          rw [HTK.out] at HKL5
          clear hrg hob
          generalize kidsOf B l = ks at *
          have HFK := ζ (show RR = match kidsAcc F [] (sz + 1) ks with
           | (none,s') => (none,s')
           | (some xs,s') => (some (.mk f n xs),s') by rw [HFP.out,← HPK.out])
          have HAY := ζ (HB1A.out.trans ((HAJ.out.trans (HJ.out.mono HAJ.out.size)).mono HB1A.out.size))
          have hF := HF1.out.below HAY.out HF1.out.lt
          have f0 := hF.cell 0;have f1 := hF.cell 1
          simp only [ζc] at f0 f1
          have hloj : w.heap.size ≤ wj.heap.size := Nat.le_trans HBD.out.size (HB1A.out.trans (HAJ.out.mono HB1A.out.size)).size
          have hXw : wj.heap.size ≤ wr.heap.size := HJ.out.size
          obtain ⟨W10,hW10⟩ : ∃ W10 : World,wr.alloc (.cells #[.string f.name,.slice aa f.args.length ac,.int .i64 (n : Int),.slice none 0 0] 30) = W10 := ⟨_,rfl⟩
          obtain ⟨X,hX⟩ : ∃ X,wr.heap.size = X := ⟨_,rfl⟩
          have HKW := ζ (show KidW S S4 p zs D wj.heap.size X (.slice (some ⟨b1,o1,none⟩) p.length pc) (.slice (some ⟨g,o,none⟩) (zl + 1) zc) f aa ka ac kc n ks w (sz + 1) (.slice none 0 0) W10 by
           subst hW10 hX
           have hba := HAY.out.alloc HAY.out.size (.cells #[.string f.name,.slice aa f.args.length ac,.int .i64 (n : Int),.slice none 0 0] 30)
           exact ⟨HBD.out.below hba,HE1.out.below hba,Blk.new wr _ _,RdSlice.agree ζS (Below.agree hba) HA1.out,RdSlice.agree ζF ((Agree.refl _ _).alloc _) (HRO.out.more ζF (fun b hb hl => ⟨hb,hl⟩)),hDl,hloj,Nat.le_trans hloj hXw,HS4.out⟩)
          have HOX := ζ (show Owned 4 (RProofN (m + 1)) (X + 1) 30 (fun q => w.heap.size ≤ q ∧ q ≠ X) W10 (.slice none 0 0) [] from Owned.nil)
          have HKZ := ζ (show kidsAcc F [] (sz + 1) (ks.drop 0) = kidsAcc F [] (sz + 1) ks from rfl)
          generalize kidsAcc F [] (sz + 1) ks = T at *
          have HXL := ζ (show ([] : List PProof).length ≤ 0 from ζn _)
          have HKLE := ζ (show ks.length ≤ 5 from HKL5.out)
          rw [hX] at hXw
          go_wp2
          clear hW10 hX f0 f1
          clear HRO HJ HJI HME HAJ HI HFN HHI2 HMI2 HTM HND HLZ HLI HHIT HMIS HRE HPK HFP HSH HTZ HTL HLS HRB8 HB8 HSE HSB HSV HBA HB1A HEA HBR HAY
          go_loopw [197] (fun i wr => ∃ (j : Nat) (xs : List PProof) (s : Nat) (kv : Value),j ≤ ks.length ∧ s ≤ 400 ∧ i = .int .i64 j ∧ Hid (kidsAcc F xs s (ks.drop j) = T) ∧ Hid (KidW S S4 p zs D wj.heap.size X (.slice (some ⟨b1,o1,none⟩) p.length pc) (.slice (some ⟨g,o,none⟩) (zl + 1) zc) f aa ka ac kc n ks w s kv wr) ∧ Hid (Owned 4 (RProofN (m + 1)) (X + 1) 30 (fun q => w.heap.size ≤ q ∧ q ≠ X) wr kv xs) ∧ Hid (xs.length ≤ j)) (fun i _ => ks.length - (intOf i).toNat)
          case atStart => exact ⟨0,[],sz + 1,_,Nat.zero_le _,hs1,rfl,HKZ,HKW,HOX,HXL⟩
          case round =>
           clear HKZ HKW HOX HXL
           obtain ⟨j,xs,t5,kv,hj,hs4,rfl,HKA,HKW,HO,HXL⟩ := hrel
           have hro := HO.out.read (RProofN.steady _)
           obtain ⟨va2,vc2,rfl,-,-,-⟩ := id hro.form
           have HRP := ζ hro
           clear hro
           have hlX := HKW.out.blk.lt
           have hxl0 : xs.length ≤ j := HXL.out
           have hkl : ks.length ≤ 5 := HKLE.out
           by_cases hltj2 : j < ks.length
           ·obtain ⟨k,hk⟩ : ∃ k,ks[j]? = some k := ⟨_,ζe hltj2⟩
            obtain ⟨b8,o8,av8,rfl,-,hb8l,e0,e1,hka⟩ := RdFacts.at HKW.out.kids hk
            obtain ⟨a8,c8,rfl,-,-,-⟩ := id hka.form
            obtain ⟨W11,hW11⟩ : ∃ W11 : World,wr.alloc (.cells #[.string k.name,.slice a8 k.args.length c8] 27) = W11 := ⟨_,rfl⟩
            have HB11 := ζ (show Below wr.heap.size wr W11 by subst hW11;exact (ζb _ _).alloc (ζn _) _)
            have HF11 := ζ (show Blk W11 wr.heap.size 27 #[.string k.name,.slice a8 k.args.length c8] by subst hW11;exact Blk.new wr _ _)
            have k0 := HF11.out.cell 0;have k1 := HF11.out.cell 1
            simp only [ζc] at k0 k1
            have hs11 : wr.heap.size ≤ W11.heap.size := HB11.out.size
            have HK11 := ζ (HKW.out.below HB11.out)
            have HO11 := ζ (HO.out.below (RProofN.steady _) HB11.out)
            have HGL := ζ (fun q (hq : (Value.slice va2 xs.length vc2).ownBlock = some q) => (show X + 1 ≤ q ∧ q < W11.heap.size from ⟨(HO.out.row_lt hq).1,Nat.lt_of_lt_of_le (HO.out.row_lt hq).2 hs11⟩))
            obtain ⟨hle,kc0⟩ := HK.out hd60 _ (fun b => wj.heap.size ≤ b ∧ b < X) t5 k (.slice a8 k.args.length c8) W11 hs4 (HKM.out k (ζm hk)) HK11.out.env (RdSlice.agree ζS (Below.agree HB11.out) hka) (fun h => by have := h.1;omega)
            rw [show ((d + 1 : Nat) : Int) = (d : Int) + 1 by omega] at kc0
            generalize hF5 : F t5 k = y at *
            obtain ⟨yo,ys⟩ := y
            dsimp only at hle
            cases yo with
            | none =>
             have HRN := ζ (show RR = (none,ys) by rw [HFK.out,← HKA.out,kids_none hk hF5])
             have KC := ζ kc0
             clear hle kc0 hF5 hk hka
             go_wp2_with (go_at_call 27;refine (KC.out).mono ?_;rintro e w12 ⟨hb12,hd12,rfl⟩;have HB12 := ζ (HK11.out.but.trans hb12);have HD12 := ζ hd12;clear hb12 hd12)
             go_ret
             exact of_none HRN.out HB12.out HD12.out
            | some x =>
             have hys := hle x rfl
             have HN := ζ ((kids_some hk hF5).symm.trans HKA.out)
             have KC := ζ kc0
             have i7 : (xs.length : Int) < (xs.length : Int) + 1 := by omega
             have i8 : (0 : Int) ≤ (xs.length : Int) := by omega
             have hxm : xs.length < 1099511627776 := by omega
             have hxm1 : xs.length < maxLen := by unfold maxLen;omega
             have HXL1 := ζ (show (xs ++ [x]).length ≤ j + 1 by simp;omega)
             clear hle kc0 hF5 hk hka HKA HXL HRP
             go_wp2_with (go_at_call 27;refine (KC.out).mono ?_;rintro e w12 ⟨hb12,hd12,B9,a9,c9,k9,l9,rfl,hB9,hbk,hra,hrk⟩;have HK13 := ζ (HK11.out.call hb12 hd12);have HO13 := ζ (HO11.out.keep (RProofN.steady _) (hb12.agree (fun h => by have := h.1;omega)) (fun q hq => hb12.block q (HGL.out q hq).2 (fun e => by have h1 := (HGL.out q hq).1;have h2 := Option.some.inj e;omega)));have HBK := ζ hbk;have hs12 : W11.heap.size ≤ w12.heap.size := hb12.size;have HXR := ζ (show RProofN (m + 1) (fun b => ((wj.heap.size ≤ b ∧ b < X) ∨ W11.heap.size ≤ b) ∧ b < w12.heap.size) w12 [.string x.fact.name,.slice a9 x.fact.args.length c9,.int .i64 x.rule,.slice k9 x.kids.length l9] x from ⟨_,_,rfl,hra.more ζS (fun b hb hl => ⟨.inl hb,hl⟩),RdSlice.more (RProofN.steady m) (fun b hb hl => ⟨hb,hl⟩) hrk⟩);have t0 := HBK.out.cell 0;have t1 := HBK.out.cell 1;have t2 := HBK.out.cell 2;have t3 := HBK.out.cell 3;have s0 := (HBK.out.alloc (.cells #[.string ⟨#[]⟩,.slice none 0 0,.int .i64 0,.slice none 0 0] 30)).cell 0;have s1 := (HBK.out.alloc (.cells #[.string ⟨#[]⟩,.slice none 0 0,.int .i64 0,.slice none 0 0] 30)).cell 1;have s2 := (HBK.out.alloc (.cells #[.string ⟨#[]⟩,.slice none 0 0,.int .i64 0,.slice none 0 0] 30)).cell 2;have s3 := (HBK.out.alloc (.cells #[.string ⟨#[]⟩,.slice none 0 0,.int .i64 0,.slice none 0 0] 30)).cell 3;have HK14 := ζ (HK13.out.below (((ζb w12.heap.size w12).alloc (ζn _) (.cells #[.string ⟨#[]⟩,.slice none 0 0,.int .i64 0,.slice none 0 0] 30)).drew));have p3 := HK13.out.blk.cell 3;have q3 := (HK13.out.blk.alloc (.cells #[.string ⟨#[]⟩,.slice none 0 0,.int .i64 0,.slice none 0 0] 30)).cell 3;have HO14 := ζ ((HO13.out.alloc (RProofN.steady _) (.cells #[.string ⟨#[]⟩,.slice none 0 0,.int .i64 0,.slice none 0 0] 30)).drew (RProofN.steady _));have hs14 : X + 1 ≤ (w12.alloc (.cells #[.string ⟨#[]⟩,.slice none 0 0,.int .i64 0,.slice none 0 0] 30)).drew.heap.size := HK14.out.blk.lt;simp only [ζc] at t0 t1 t2 t3 s0 s1 s2 s3 p3 q3;clear hb12 hd12 hbk hra hrk)
             go_region_law
              (first
               | (have hh := HO14.out;clear hh;refine step_append_one (by rfl) _ _ 28 (by rfl) (RProofN.steady (m + 1)) rowProofs _ xs (by rfl) HO14.out _ 1 #[.string ⟨#[]⟩,.slice none 0 0,.int .i64 0,.slice none 0 0] 30 (0,0) zeroP (by rfl) (show ((w12.alloc (.cells #[.string ⟨#[]⟩,.slice none 0 0,.int .i64 0,.slice none 0 0] 30)).drew).heap[w12.heap.size]? = some (.cells #[.string ⟨#[]⟩,.slice none 0 0,.int .i64 0,.slice none 0 0] 30) from heap_alloc_new _ _) rfl (by simp [Value.oneCell']) zeroP_read hxm hs14 ?_;intro v15 w15 hown15 hg15 hat15;obtain ⟨g15,c15,rfl,hB15,hl15,r0,⟨u1',r1⟩,r2,⟨u3',r3⟩,hfr⟩ := hown15.spot;have HK15 := ζ (HK14.out.grown hg15 (fun q hq => (HGL.out q hq).1));have HAB := ζ (kid_laid HK14.out HXR.out (((ζb w12.heap.size w12).alloc (ζn _) (.cells #[.string ⟨#[]⟩,.slice none 0 0,.int .i64 0,.slice none 0 0] 30)).drew) hs12 (by simp) (by omega) HGL.out hown15 hg15 hat15 hB15);have hgx : g15 ≠ X := (by omega);have hxg : X ≠ g15 := hgx.symm;have x3 := HK15.out.blk.cell 3;have xf := HK15.out.blk.frozen 3;have n0 := hfr (xs.length * 4);have n1 := hfr (xs.length * 4 + 1);have n2 := hfr (xs.length * 4 + 2);have n3 := hfr (xs.length * 4 + 3);simp only [ζc] at x3;clear hown15 hg15 hat15 hfr))
             all_goals
              go_wp2
              go_roundw
              case rel => first
               | with_reducible exact ⟨j + 1,xs ++ [x],ys,_,by omega,hys,by go_num,HN,ζ HAB.out.1.1,ζ HAB.out.1.2,HXL1⟩
               | with_reducible exact ⟨j + 1,xs ++ [x],ys,_,by omega,hys,by go_num,HN,ζ HAB.out.2.1,ζ HAB.out.2.2,HXL1⟩
              case measure => simp [intOf];omega
           ·have HRN := ζ (show RR = (some (.mk f n xs),t5) by rw [HFK.out,← HKA.out,List.drop_eq_nil_of_le (by omega)];rfl)
            go_wp2
            go_ret
            exact of_some HRN.out HKW.out.but HKW.out.env.hD HKW.out.hX HKW.out.blk (HKW.out.args.more ζS (fun b h _ => h.1)) (HRP.out.more (RProofN.steady _) (fun b hb _ => .inr (hb.elim (fun h => h.1) (fun h => by have := HKW.out.hX;omega))))
end Go.Proofs.YtdngkcieckejoaaGreat
