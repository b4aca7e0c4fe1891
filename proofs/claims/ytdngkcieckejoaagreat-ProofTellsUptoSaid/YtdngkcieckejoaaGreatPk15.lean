/-
  THE TEXTS ProofO, ProofFind, EnvR, ProofA, one behind the other.
-/
import Derived.Test.YtdngkcieckejoaaGreatPk4
import Derived.Test.YtdngkcieckejoaaGreatPk5
import Derived.Test.YtdngkcieckejoaaGreatPk6
import Derived.Test.YtdngkcieckejoaaGreatPk13
import Derived.Test.YtdngkcieckejoaaGreatPk14
namespace Go.Proofs.YtdngkcieckejoaaGreat
section
open Go.RowKit
def Span (lo hi : Nat) : Nat → Prop := fun b => lo ≤ b ∧ b < hi
structure Quad where
 nm : Str
 av : Value
 rl : Int
 kv : Value
 lo : Nat
 hi : Nat
def RQuad : Reader Quad := fun _ _ cs z => cs = [.string z.nm,z.av,.int .i64 z.rl,z.kv]
theorem RQuad.steady : Steady RQuad := ⟨fun _ h => h,fun _ h => h⟩
abbrev PrfR := Nat → Nat → World → Value → Value → PProof → Prop
structure KSide (P : PrfR) (B hi : Nat) (v : Value) (zs : List Quad) (xs : List PProof) (w : World) : Prop where
 len : zs.length = xs.length
 apart : zs.Pairwise fun a b => a.hi ≤ b.lo
 row : ∀ q,v.ownBlock = some q → ∀ z ∈ zs,¬ Span z.lo z.hi q
 inside : ∀ z ∈ zs,B ≤ z.lo ∧ z.lo ≤ z.hi ∧ z.hi ≤ hi
 each : ∀ (i : Nat) z x,zs[i]? = some z → xs[i]? = some x → z.nm = x.fact.name ∧ z.rl = x.rule ∧ P z.lo z.hi w z.av z.kv x
def OwnRow (P : PrfR) (lo hi : Nat) (w : World) (kv : Value) (xs : List PProof) : Prop := ∃ zs,Owned 4 RQuad lo 30 (fun _ => False) w kv zs ∧ (∀ q,kv.ownBlock = some q → Span lo hi q) ∧ KSide P lo hi kv zs xs w
def OwnP : Nat → PrfR
 | 0 => fun _ _ _ _ _ _ => False
 | n + 1 => fun lo hi w av kv x => ∃ mid,lo ≤ mid ∧ mid ≤ hi ∧ RdStrs (Span lo mid) w av x.fact.args ∧ OwnRow (OwnP n) mid hi w kv x.kids
theorem Span.sub {lo hi lo' hi' b : Nat} (h : Span lo' hi' b) (h1 : lo ≤ lo') (h2 : hi' ≤ hi) : Span lo hi b := ⟨Nat.le_trans h1 h.1,Nat.lt_of_lt_of_le h.2 h2⟩
theorem agree_sub {S T : Nat → Prop} {w w' : World} (h : Agree S w w') (hs : ∀ b,T b → S b) : Agree T w w' := ⟨h.1,fun b hb hl => h.2 b (hs b hb) hl⟩
theorem KSide.agree {P : PrfR} {B hi : Nat} {v : Value} {zs : List Quad} {xs : List PProof} {w w' : World} (h : KSide P B hi v zs xs w) (ha : ∀ z ∈ zs,Agree (Span z.lo z.hi) w w')
 (hP : ∀ lo hi av kv x,P lo hi w av kv x → Agree (Span lo hi) w w' → P lo hi w' av kv x) : KSide P B hi v zs xs w' :=
 ⟨h.len,h.apart,h.row,h.inside,fun i z x hz hx => by
  obtain ⟨h1,h2,h3⟩ := h.each i z x hz hx
  exact ⟨h1,h2,hP _ _ _ _ _ h3 (ha z (ζm hz))⟩⟩
theorem OwnRow.agree {P : PrfR} {lo hi : Nat} {w w' : World} {kv : Value} {xs : List PProof} (h : OwnRow P lo hi w kv xs) (ha : Agree (Span lo hi) w w')
 (hP : ∀ lo hi av kv x,P lo hi w av kv x → Agree (Span lo hi) w w' → P lo hi w' av kv x) : OwnRow P lo hi w' kv xs := by
 obtain ⟨zs,h1,h0,h2⟩ := h
 exact ⟨zs,h1.keep RQuad.steady (agree_sub ha fun b hb => hb.elim) (fun g hg => ha.2 g (h0 g hg) (h1.row_lt hg).2),h0,h2.agree (fun z hz => agree_sub ha fun b hb => hb.sub (h2.inside z hz).1 (h2.inside z hz).2.2) hP⟩
theorem OwnP.agree : ∀ {n lo hi : Nat} {w w' : World} {av kv : Value} {x : PProof},OwnP n lo hi w av kv x → Agree (Span lo hi) w w' → OwnP n lo hi w' av kv x
 | 0,_,_,_,_,_,_,_,h,_ => h.elim
 | _n + 1,_lo,_hi,_w,_w',_av,_kv,_x,⟨mid,h1,h2,h3,h4⟩,ha => ⟨mid,h1,h2,h3.agree ζS (agree_sub ha fun _b hb => hb.sub (ζn _) h2),h4.agree (agree_sub ha fun _b hb => hb.sub h1 (ζn _)) fun _ _ _ _ _ => OwnP.agree⟩
theorem OwnRow.wide {P : PrfR} {lo hi lo' hi' : Nat} {w : World} {kv : Value} {xs : List PProof} (h : OwnRow P lo hi w kv xs) (h1 : lo' ≤ lo) (h2 : hi ≤ hi') : OwnRow P lo' hi' w kv xs := by
 obtain ⟨zs,k1,k0,k2⟩ := h
 exact ⟨zs,k1.lower h1,fun q hq => (k0 q hq).sub h1 h2,k2.len,k2.apart,k2.row,fun z hz => ⟨Nat.le_trans h1 (k2.inside z hz).1,(k2.inside z hz).2.1,Nat.le_trans (k2.inside z hz).2.2 h2⟩,k2.each⟩
theorem OwnP.wide {n lo hi lo' hi' : Nat} {w : World} {av kv : Value} {x : PProof} (h : OwnP n lo hi w av kv x) (h1 : lo' ≤ lo) (h2 : hi ≤ hi') : OwnP n lo' hi' w av kv x := by
 cases n with
 | zero => exact h.elim
 | succ n =>
  obtain ⟨mid,k1,k2,k3,k4⟩ := h
  exact ⟨mid,Nat.le_trans h1 k1,Nat.le_trans k2 h2,k3.more ζS (fun b hb _ => hb.sub h1 (ζn _)),k4.wide (ζn _) h2⟩
theorem quad_slice {R : Reader PProof} {S S' : Nat → Prop} {w : World} {kv : Value} {zs : List Quad} {xs : List PProof} (h : RdSlice 4 RQuad S w kv zs) (hl : zs.length = xs.length) (hS : ∀ b,S b → S' b)
 (hR : ∀ (i : Nat) z x,zs[i]? = some z → xs[i]? = some x → R S' w [.string z.nm,z.av,.int .i64 z.rl,z.kv] x) : RdSlice 4 R S' w kv xs := by
 obtain ⟨a,c,rfl,h1,h2,h3,h4⟩ := h
 refine ⟨a,c,by rw [hl],by rw [← hl];exact h1,h2,h3,fun i x hx => ?_⟩
 obtain ⟨z,hz⟩ : ∃ z,zs[i]? = some z := ⟨_,ζe (by rw [hl];exact (List.getElem?_eq_some_iff.1 hx).1)⟩
 obtain ⟨b,off,cs,e1,hb,hlt,hk,hc,hr⟩ := h4 i z hz
 have hr' : cs = [.string z.nm,z.av,.int .i64 z.rl,z.kv] := hr
 subst hr'
 exact ⟨b,off,_,e1,hS b hb,hlt,hk,hc,hR i z x hz hx⟩
theorem own_slice {lo hi : Nat} {e : TypeId} {w : World} {kv : Value} {zs : List Quad} (h : Owned 4 RQuad lo e (fun _ => False) w kv zs) (h0 : ∀ q,kv.ownBlock = some q → Span lo hi q) : RdSlice 4 RQuad (Span lo hi) w kv zs := by
 obtain ⟨a,c,rfl,h1,h2,h3,h4⟩ := h.read RQuad.steady
 refine ⟨a,c,rfl,h1,h2,h3,fun i x hx => ?_⟩
 obtain ⟨b,off,cs,rfl,-,hlt,hk,hc,hr⟩ := h4 i x hx
 exact ⟨b,off,cs,rfl,h0 b rfl,hlt,hk,hc,hr⟩
theorem OwnP.kids : ∀ {n lo hi : Nat} {w : World} {av kv : Value} {x : PProof},OwnP (n + 1) lo hi w av kv x → RdStrs (Span lo hi) w av x.fact.args ∧ RdProofs n (Span lo hi) w kv x.kids
 | 0,lo,hi,w,av,kv,x,⟨mid,h1,h2,h3,zs,h4,h0,h5⟩ => ⟨h3.more ζS (fun b hb _ => hb.sub (ζn _) h2),quad_slice (own_slice h4 h0) h5.len (fun b hb => hb.sub h1 (ζn _)) fun i z x hz hx => (h5.each i z x hz hx).2.2.elim⟩
 | n + 1,lo,hi,w,av,kv,x,⟨mid,h1,h2,h3,zs,h4,h0,h5⟩ => ⟨h3.more ζS (fun b hb _ => hb.sub (ζn _) h2),quad_slice (own_slice h4 h0) h5.len (fun b hb => hb.sub h1 (ζn _)) fun i z x hz hx => by
  obtain ⟨e1,e2,k⟩ := h5.each i z x hz hx
  obtain ⟨k1,k2⟩ := OwnP.kids k
  obtain ⟨i1,-,i3⟩ := h5.inside z (ζm hz)
  rw [e1,e2]
  exact ⟨z.av,z.kv,rfl,k1.more ζS (fun b hb _ => hb.sub (Nat.le_trans h1 i1) i3),k2.more (RProofN.steady n) (fun b hb _ => hb.sub (Nat.le_trans h1 i1) i3)⟩⟩
theorem KSide.nil {P : PrfR} {B hi : Nat} {v : Value} {w : World} : KSide P B hi v [] [] w := ⟨rfl,List.Pairwise.nil,by simp,by simp,by simp⟩
theorem KSide.snoc {P : PrfR} {B hi hi' : Nat} {v v' : Value} {zs : List Quad} {xs : List PProof} {w w' : World} {z : Quad} {x : PProof} (h : KSide P B hi v zs xs w) (hg : w.grownBy w' v.ownBlock) (hat : v'.ownBlock = v.ownBlock ∨ v'.ownBlock = some w.heap.size)
 (hv : ∀ q,v.ownBlock = some q → q < z.lo) (h1 : hi ≤ z.lo) (h2 : z.lo ≤ z.hi) (h3 : z.hi ≤ hi') (h4 : hi' ≤ w.heap.size) (hB : B ≤ z.lo) (hz : z.nm = x.fact.name ∧ z.rl = x.rule) (hx : P z.lo z.hi w z.av z.kv x)
 (hP : ∀ lo hi av kv x,P lo hi w av kv x → Agree (Span lo hi) w w' → P lo hi w' av kv x) : KSide P B hi' v' (zs ++ [z]) (xs ++ [x]) w' := by
 have hag : ∀ lo hi,(∀ q,v.ownBlock = some q → ¬ Span lo hi q) → Agree (Span lo hi) w w' := fun lo hi hq => ⟨hg.size,fun b hb hl => hg.block b hl (fun e => hq b e.symm hb)⟩
 have hzn : ∀ q,v.ownBlock = some q → ¬ Span z.lo z.hi q := fun q hq hs => by have := hv q hq;have := hs.1;omega
 refine ⟨by simp [h.len],?_,fun q hq y hy => ?_,fun y hy => ?_,fun i y u hy hu => ?_⟩
 ·rw [List.pairwise_append]
  refine ⟨h.apart,by simp,fun a ha b hb => ?_⟩
  obtain rfl := List.mem_singleton.1 hb
  exact Nat.le_trans (h.inside a ha).2.2 h1
 ·rcases List.mem_append.1 hy with hy | hy
  ·rcases hat with e | e
   ·exact h.row q (by rw [← e];exact hq) y hy
   ·rw [e] at hq
    obtain rfl := Option.some.inj hq
    intro hs
    have := (h.inside y hy).2.2
    have := hs.2
    omega
  ·obtain rfl := List.mem_singleton.1 hy
   rcases hat with e | e
   ·exact hzn q (by rw [← e];exact hq)
   ·rw [e] at hq
    obtain rfl := Option.some.inj hq
    intro hs
    have := hs.2
    omega
 ·rcases List.mem_append.1 hy with hy | hy
  ·obtain ⟨i1,i2,i3⟩ := h.inside y hy
   exact ⟨i1,i2,by omega⟩
  ·obtain rfl := List.mem_singleton.1 hy
   exact ⟨hB,h2,h3⟩
 ·by_cases hi0 : i < zs.length
  ·rw [List.getElem?_append_left hi0] at hy
   rw [List.getElem?_append_left (by rw [← h.len];exact hi0)] at hu
   obtain ⟨k1,k2,k3⟩ := h.each i y u hy hu
   exact ⟨k1,k2,hP _ _ _ _ _ k3 (hag _ _ fun q hq => h.row q hq y (ζm hy))⟩
  ·have hlt := (List.getElem?_eq_some_iff.1 hy).1
   simp at hlt
   have hi1 : i = zs.length := by omega
   subst hi1
   rw [List.getElem?_append_right (ζn _),Nat.sub_self] at hy
   rw [h.len,List.getElem?_append_right (ζn _),Nat.sub_self] at hu
   obtain rfl : z = y := by simpa using hy
   obtain rfl : x = u := by simpa using hu
   exact ⟨hz.1,hz.2,hP _ _ _ _ _ hx (hag _ _ hzn)⟩
theorem own_row {P : PrfR} {B hi : Nat} {v : Value} {zs : List Quad} {xs : List PProof} {w : World} (h : Owned 4 RQuad B 30 (fun _ => False) w v zs) (hk : KSide P B hi v zs xs w) (hh : hi ≤ w.heap.size) : OwnRow P B w.heap.size w v xs :=
 ⟨zs,h,fun _ hq => h.row_lt hq,hk.len,hk.apart,hk.row,fun z hz => ⟨(hk.inside z hz).1,(hk.inside z hz).2.1,Nat.le_trans (hk.inside z hz).2.2 hh⟩,hk.each⟩
def KRow (P : PrfR) (B : Nat) (e : TypeId) (w : World) (v : Value) (xs : List PProof) : Prop := ∃ zs hi,hi ≤ w.heap.size ∧ Owned 4 RQuad B e (fun _ => False) w v zs ∧ KSide P B hi v zs xs w
end
section
open Go.RowKit
theorem ruleG_good {age : Str → Option Int} {M : List PFact} {r : PRule} {f : PFact} {ks : List PFact} (hM : Good M) (hl : r.body.length ≤ 5) (h : ruleG age M r f = some ks) : ks.length ≤ 5 ∧ ∀ k ∈ ks,wrongF k = 0 := by
 unfold ruleG at h
 split at h
 ·cases h
 ·rename_i s hs
  split at h
  ·cases h
  ·rename_i h0
   obtain ⟨l,hf,rfl⟩ := Option.map_eq_some_iff.1 h
   have hm := List.mem_of_find?_eq_some hf
   refine ⟨Nat.le_trans (List.length_filterMap_le _ _) (by unfold subBody;rw [List.length_map];exact hl),fun k hk => ?_⟩
   obtain ⟨a,ha,hfa⟩ := List.mem_filterMap.1 hk
   by_cases hn : a.neg = true
   ·rw [if_pos hn] at hfa;cases hfa
   ·rw [if_neg hn] at hfa
    rcases allP_cases (subBody s r.body) M with ⟨h1,-⟩ | ⟨-,-,-,-,h5⟩
    ·exact absurd h1 h0
    ·obtain ⟨j,hj⟩ := List.mem_iff_getElem?.1 ha
     obtain ⟨x,hx,hxm⟩ := ((h5 l).1 hm).2.2.2 j a hj
     rw [hfa] at hx
     obtain rfl := Option.some.inj hx
     have hn' : a.neg = false := by simpa using hn
     rw [hn'] at hxm
     exact hM.fine k ((memF_iff k M).1 hxm)
def findStep (p : List PRule) (told M : List PFact) (age : Str → Option Int) (F : Nat → PFact → Option PProof × Nat) (s : Nat) (f : PFact) (d : Nat) : Option PProof × Nat :=
 if 400 < s + 1 ∨ 60 < d then (none,s + 1) else if memF f told then (some (.mk f (-1) []),s + 1) else match pickRule age M f 0 p with
  | none => (none,s + 1)
  | some (i,ks) => match kidsAcc F [] (s + 1) ks with
   | (none,s') => (none,s')
   | (some xs,s') => (some (.mk f i xs),s')
theorem findN_step (p : List PRule) (told M : List PFact) (age : Str → Option Int) (n s : Nat) (f : PFact) (d : Nat) : findN p told M age (n + 1) s f d = findStep p told M age (fun s k => findN p told M age n s k (d + 1)) s f d := rfl
structure FEnv (S : Nat → Prop) (age : Str → Option Int) (N : Nat) (p : List PRule) (told M : List PFact) (D C G : Nat) (pv tv mv : Value) (w : World) (sz : Nat) : Prop where
 hD : Blk w D 57 #[.pointer (some ⟨C,0,none⟩),.map (some G),.int .i64 (sz : Int)]
 hC : Blk w C 43 #[pv,tv,mv]
 hG : MapI w G N age
 hp : RdRules S w pv p
 ht : RdFacts S w tv told
 hm : RdFacts S w mv M
 nS : ¬ S D
 nC : C ≠ D
 nG : G ≠ D
section
variable {S : Nat → Prop} {age : Str → Option Int} {N : Nat} {p : List PRule} {told M : List PFact} {D C G : Nat} {pv tv mv : Value} {w w' : World} {sz sz' : Nat}
theorem FEnv.but (h : FEnv S age N p told M D C G pv tv mv w sz) (hb : But D w w') (hD : Blk w' D 57 #[.pointer (some ⟨C,0,none⟩),.map (some G),.int .i64 (sz' : Int)]) : FEnv S age N p told M D C G pv tv mv w' sz' :=
 ⟨hD,h.hC.but hb h.nC,h.hG.kept hb (fun e => h.nG (Option.some.inj e)),h.hp.agree RRule.steady (hb.agree h.nS),h.ht.agree ζF (hb.agree h.nS),h.hm.agree ζF (hb.agree h.nS),h.nS,h.nC,h.nG⟩
theorem FEnv.other {B : Nat} (h : FEnv S age N p told M D C G pv tv mv w sz) (hb : But B w w') (hS : ¬ S B) (h1 : D ≠ B) (h2 : C ≠ B) (h3 : G ≠ B) : FEnv S age N p told M D C G pv tv mv w' sz :=
 ⟨h.hD.but hb h1,h.hC.but hb h2,h.hG.kept hb (fun e => h3 (Option.some.inj e)),h.hp.agree RRule.steady (hb.agree hS),h.ht.agree ζF (hb.agree hS),h.hm.agree ζF (hb.agree hS),h.nS,h.nC,h.nG⟩
theorem grown_agree {row : Option Nat} (hg : w.grownBy w' row) (hr : ∀ q,row = some q → ¬ S q) : Agree S w w' := ⟨hg.size,fun b hb hl => hg.block b hl (fun e => hr b e.symm hb)⟩
theorem FEnv.grown {row : Option Nat} (h : FEnv S age N p told M D C G pv tv mv w sz) (hg : w.grownBy w' row) (hr : ∀ q,row = some q → ¬ S q) (h1 : some D ≠ row) (h2 : some C ≠ row) (h3 : some G ≠ row) : FEnv S age N p told M D C G pv tv mv w' sz :=
 ⟨h.hD.grown hg h1,h.hC.grown hg h2,h.hG.kept hg h3,h.hp.agree RRule.steady (grown_agree hg hr),h.ht.agree ζF (grown_agree hg hr),h.hm.agree ζF (grown_agree hg hr),h.nS,h.nC,h.nG⟩
theorem FEnv.shrink (h : FEnv S age N p told M D C G pv tv mv w sz) {S' : Nat → Prop} (hS : ∀ b,S b → b < w.heap.size → S' b) (hn : ¬ S' D) : FEnv S' age N p told M D C G pv tv mv w sz :=
 ⟨h.hD,h.hC,h.hG,h.hp.more RRule.steady hS,h.ht.more ζF hS,h.hm.more ζF hS,hn,h.nC,h.nG⟩
theorem FEnv.below (h : FEnv S age N p told M D C G pv tv mv w sz) (hb : Below w.heap.size w w') : FEnv S age N p told M D C G pv tv mv w' sz := h.but (But.of_below hb) (h.hD.below hb h.hD.lt)
end
theorem four_sets {α : Type} {k : Nat} {R : Reader α} (hR : Steady R) {S : Nat → Prop} {w : World} {v : Value} {l : List α} (h : RdSlice k R S w v l) {B : Nat} (hB : ¬ S B) (u0 u1 u2 u3 : Value) :
 RdSlice k R S ((((w.setCell ⟨B,0,none⟩ u0).setCell ⟨B,1,none⟩ u1).setCell ⟨B,2,none⟩ u2).setCell ⟨B,3,none⟩ u3) v l :=
 RdSlice.agree hR (((((But.refl B w).setCell (p := ⟨B,0,none⟩) (.inl rfl) u0).setCell (p := ⟨B,1,none⟩) (.inl rfl) u1).setCell (p := ⟨B,2,none⟩) (.inl rfl) u2).setCell (p := ⟨B,3,none⟩) (.inl rfl) u3 |>.agree hB) h
theorem pick_hit {age : Str → Option Int} {M : List PFact} {f : PFact} {p : List PRule} {n : Nat} {r : PRule} {ks : List PFact} (h : p[n]? = some r) (hr : ruleG age M r f = some ks) : pickRule age M f n (p.drop n) = some (n,ks) := by rw [drop_get h,pickRule,hr]
theorem pick_miss {age : Str → Option Int} {M : List PFact} {f : PFact} {p : List PRule} {n : Nat} {r : PRule} (h : p[n]? = some r) (hr : ruleG age M r f = none) : pickRule age M f n (p.drop n) = pickRule age M f (n + 1) (p.drop (n + 1)) := by rw [drop_get h,pickRule,hr]
theorem kids_none {F : Nat → PFact → Option PProof × Nat} {xs : List PProof} {s s' j : Nat} {ks : List PFact} {k : PFact} (h : ks[j]? = some k) (hF : F s k = (none,s')) : kidsAcc F xs s (ks.drop j) = (none,s') := by rw [drop_get h,kidsAcc,hF]
theorem kids_some {F : Nat → PFact → Option PProof × Nat} {xs : List PProof} {s s' j : Nat} {ks : List PFact} {k : PFact} {x : PProof} (h : ks[j]? = some k) (hF : F s k = (some x,s')) : kidsAcc F xs s (ks.drop j) = kidsAcc F (xs ++ [x]) s' (ks.drop (j + 1)) := by rw [drop_get h,kidsAcc,hF]
theorem rowProofs : RowT Tryz.prog 28 30 4 := RowT.mk' (b := 72) (z := .agg #[.string ⟨#[]⟩,.slice none 0 0,.int .i64 0,.slice none 0 0]) Tryz.underlying28 (by kernel_rfl) (by omega) rfl (by omega)
def FindPost (r : Option PProof × Nat) (n D C G : Nat) (w : World) (e : Ending) (w' : World) : Prop :=
 But D w w' ∧ Blk w' D 57 #[.pointer (some ⟨C,0,none⟩),.map (some G),.int .i64 (r.2 : Int)] ∧ match r.1 with
  | none => e = .returned (.tuple #[.agg #[.string ⟨#[]⟩,.slice none 0 0,.int .i64 0,.slice none 0 0],.bool false])
  | some x => ∃ aa ac ka kc,e = .returned (.tuple #[.agg #[.string x.fact.name,.slice aa x.fact.args.length ac,.int .i64 x.rule,.slice ka x.kids.length kc],.bool true]) ∧ OwnP (n + 1) w.heap.size w'.heap.size w' (.slice aa x.fact.args.length ac) (.slice ka x.kids.length kc) x
theorem find_none {r : Option PProof × Nat} {s n D C G : Nat} {w w' : World} (h : r = (none,s)) (hb : But D w w') (hD : Blk w' D 57 #[.pointer (some ⟨C,0,none⟩),.map (some G),.int .i64 (s : Int)]) :
 FindPost r n D C G w (.returned (.tuple #[.agg #[.string ⟨#[]⟩,.slice none 0 0,.int .i64 0,.slice none 0 0],.bool false])) w' := by subst h;exact ⟨hb,hD,rfl⟩
theorem find_some {r : Option PProof × Nat} {f : PFact} {rl : Int} {ks : List PProof} {s n D C G : Nat} {aa ka : Option Addr} {ac kc : Nat} {w w' : World} (h : r = (some (.mk f rl ks),s)) (hb : But D w w') (hD : Blk w' D 57 #[.pointer (some ⟨C,0,none⟩),.map (some G),.int .i64 (s : Int)])
 (ho : OwnP (n + 1) w.heap.size w'.heap.size w' (.slice aa f.args.length ac) (.slice ka ks.length kc) (.mk f rl ks)) :
 FindPost r n D C G w (.returned (.tuple #[.agg #[.string f.name,.slice aa f.args.length ac,.int .i64 rl,.slice ka ks.length kc],.bool true])) w' := by subst h;exact ⟨hb,hD,aa,ac,ka,kc,rfl,ho⟩
theorem OwnP.four {n lo hi : Nat} {w : World} {av kv : Value} {x : PProof} (h : OwnP n lo hi w av kv x) {B : Nat} (hB : ¬ Span lo hi B) (u0 u1 u2 u3 : Value) :
 OwnP n lo hi ((((w.setCell ⟨B,0,none⟩ u0).setCell ⟨B,1,none⟩ u1).setCell ⟨B,2,none⟩ u2).setCell ⟨B,3,none⟩ u3) av kv x :=
 h.agree ((((((But.refl B w).setCell (p := ⟨B,0,none⟩) (.inl rfl) u0).setCell (p := ⟨B,1,none⟩) (.inl rfl) u1).setCell (p := ⟨B,2,none⟩) (.inl rfl) u2).setCell (p := ⟨B,3,none⟩) (.inl rfl) u3).agree hB)
theorem own_leaf {n lo hi : Nat} {w : World} {av : Value} {f : PFact} {rl : Int} (h : lo ≤ hi) (ha : RdStrs (Span lo hi) w av f.args) : OwnP (n + 1) lo hi w av (.slice none 0 0) (.mk f rl []) :=
 ⟨hi,h,ζn _,ha,[],Owned.nil,(fun q hq => by cases hq),KSide.nil⟩
theorem own_node {n lo mid hi : Nat} {w : World} {av kv : Value} {f : PFact} {rl : Int} {ks : List PProof} (h1 : lo ≤ mid) (h2 : mid ≤ hi) (ha : RdStrs (Span lo mid) w av f.args) (hk : OwnRow (OwnP n) mid hi w kv ks) : OwnP (n + 1) lo hi w av kv (.mk f rl ks) := ⟨mid,h1,h2,ha,hk⟩
attribute [local go_sem ↓] Go.wp_at_zero Go.wp_at_succ
set_option maxRecDepth 100000 in
set_option maxHeartbeats 0 in
theorem findWalk {S S4 : Nat → Prop} (age : Str → Option Int) (N : Nat) (p : List PRule) (told M : List PFact) (D C G m : Nat) (pv tv mv : Value) (F : Nat → PFact → Option PProof × Nat) (f : PFact) (av : Value) (sz d : Nat) (w : World)
 (hE : FEnv S age N p told M D C G pv tv mv w sz) (ha : RdStrs S4 w av f.args) (hS4 : ¬ S4 D)
 (K : d ≤ 60 → ∀ (S' : Nat → Prop) (s : Nat) (k : PFact) (av : Value) (W : World),s ≤ 400 → wrongF k = 0 → FEnv S' age N p told M D C G pv tv mv W s → (∃ S',RdStrs S' W av k.args ∧ ¬ S' D) → (∀ x,(F s k).1 = some x → (F s k).2 ≤ 400) ∧
  Calls Tryz.prog 23 #[.pointer (some ⟨D,0,none⟩),.agg #[.string k.name,av],.int .i64 ((d + 1 : Nat) : Int)] W (FindPost (F s k) m D C G W))
 (hs : sz ≤ 400) (hd : d ≤ 61) (hf : wrongF f = 0) (hR : ∀ r ∈ p,ruleBad r = 0) (hRS : ∀ r ∈ p,RuleSmall r) (hpl : p.length ≤ 1048576) (hM : Good M) (hT : Good told) :
 Calls Tryz.prog 23 #[.pointer (some ⟨D,0,none⟩),.agg #[.string f.name,av],.int .i64 (d : Int)] w (FindPost (findStep p told M age F sz f d) (m + 1) D C G w) := by
 obtain ⟨pa,pc,rfl,-,-,-⟩ := id hE.hp.form
 obtain ⟨ta,tc,rfl,-,-,-⟩ := id hE.ht.form
 obtain ⟨ma,mc,rfl,-,-,-⟩ := id hE.hm.form
 obtain ⟨aa,ac,rfl,-,-,-⟩ := id ha.form
 have hDl := hE.hD.lt
 have hCl := hE.hC.lt
 have hGl := hE.hG.lt
 replace hE := hE.shrink (S' := fun b => S b ∧ b < w.heap.size) (fun b h1 h2 => ⟨h1,h2⟩) (fun h => hE.nS h.1)
 obtain ⟨W0,hW0⟩ : ∃ W0 : World,(w.alloc (.cells #[.string f.name,.slice aa f.args.length ac] 27)).alloc (.cells #[.string ⟨#[]⟩,.slice none 0 0,.int .i64 0,.slice none 0 0] 30) = W0 := ⟨_,rfl⟩
 have HB0 := ζ (show Below w.heap.size w W0 by subst hW0;exact ((ζb _ _).alloc (ζn _) _).alloc (by simp) _)
 have HF0 := ζ (show Blk W0 w.heap.size 27 #[.string f.name,.slice aa f.args.length ac] by subst hW0;exact (Blk.new w _ _).alloc _)
 have HZ0 := ζ (show Blk W0 (w.heap.size + 1) 30 #[.string ⟨#[]⟩,.slice none 0 0,.int .i64 0,.slice none 0 0] by subst hW0;exact heap_new_at (by simp))
 have HE0 := ζ (hE.below HB0.out)
 have HA0 := ζ (show RdStrs S4 W0 (.slice aa f.args.length ac) f.args from RdSlice.agree ζS (Below.agree HB0.out) ha)
 have HNS := ζ hS4
 have HK := ζ K
 have HR := ζ hR
 have HRS := ζ hRS
 have HFW := ζ hf
 have HM := ζ hM
 have HTG := ζ hT
 have d2 := HE0.out.hD.cell 2
 have z2 := HE0.out.hD.frozen 2
 simp only [ζc] at d2
 have hne1 : D ≠ w.heap.size := by omega
 have hne2 : D ≠ w.heap.size + 1 := by omega
 have hne3 : w.heap.size ≠ D := by omega
 have hne4 : w.heap.size + 1 ≠ D := by omega
 have hcast : ((sz + 1 : Nat) : Int) = (sz : Int) + 1 := by omega
 have HBD := ζ (show But D w (W0.setCell ⟨D,2,none⟩ (.int .i64 ((sz : Int) + 1))) from (But.of_below HB0.out).setCell (p := ⟨D,2,none⟩) (.inl rfl) _)
 have HE1 := ζ (show FEnv (fun b => S b ∧ b < w.heap.size) age N p told M D C G (.slice pa p.length pc) (.slice ta told.length tc) (.slice ma M.length mc) (W0.setCell ⟨D,2,none⟩ (.int .i64 ((sz : Int) + 1))) (sz + 1) from HE0.out.but ((But.refl D W0).setCell (p := ⟨D,2,none⟩) (.inl rfl) _) (by rw [hcast];exact HE0.out.hD.set_ 2 _))
 have HZ1 := ζ (HZ0.out.far (p := ⟨D,2,none⟩) hne4 (.int .i64 ((sz : Int) + 1)))
 have HF1 := ζ (HF0.out.far (p := ⟨D,2,none⟩) hne3 (.int .i64 ((sz : Int) + 1)))
 have HA1 := ζ (HA0.out.agree ζS (((But.refl D W0).setCell (p := ⟨D,2,none⟩) (.inl rfl) (.int .i64 ((sz : Int) + 1))).agree HNS.out))
 have c0 := HZ1.out.cell 0;have c1 := HZ1.out.cell 1;have c2 := HZ1.out.cell 2;have c3 := HZ1.out.cell 3
 have y0 := HZ1.out.frozen 0;have y1 := HZ1.out.frozen 1;have y2 := HZ1.out.frozen 2;have y3 := HZ1.out.frozen 3
 simp only [ζc] at c0 c1 c2 c3
 have hR1 : w.heap.size ≤ w.heap.size + 1 := Nat.le_succ _
 clear K hE ha hS4 hf hR hRS hM hT
 by_cases hbig : 400 < sz + 1 ∨ 60 < d
 ·have HE := ζ (show findStep p told M age F sz f d = (none,sz + 1) from if_pos hbig)
  have hcs : (400 : Int) < (sz : Int) + 1 ∨ ¬ (400 : Int) < (sz : Int) + 1 ∧ (60 : Int) < (d : Int) := by omega
  clear hbig
  rcases hcs with h1 | ⟨h1,h2⟩
  all_goals
   go_enter Tryz.func23,Tryz.ntmps23
   go_wp2
   refine bodyPost_ret (v := .tuple #[.agg #[.string ⟨#[]⟩,.slice none 0 0,.int .i64 0,.slice none 0 0],.bool false]) (by simp [results,Tryz.results23,go_sem,c0,c1,c2,c3]) rfl (find_none HE.out ?_ ?_)
   ·exact (((HBD.out.setCell (.inr hR1) _).setCell (.inr hR1) _).setCell (.inr hR1) _).setCell (.inr hR1) _
   ·exact (((HE1.out.hD.far (p := ⟨w.heap.size + 1,0,none⟩) hne2 _).far (p := ⟨w.heap.size + 1,1,none⟩) hne2 _).far (p := ⟨w.heap.size + 1,2,none⟩) hne2 _).far (p := ⟨w.heap.size + 1,3,none⟩) hne2 _
 have h1 : ¬ (400 : Int) < (sz : Int) + 1 := by omega
 have h2 : ¬ (60 : Int) < (d : Int) := by omega
 have hd60 : d ≤ 60 := by omega
 have hs1 : sz + 1 ≤ 400 := by omega
 have HFS := ζ (show findStep p told M age F sz f d = if memF f told then (some (.mk f (-1) []),sz + 1) else match pickRule age M f 0 p with
  | none => (none,sz + 1)
  | some (i,ks) => match kidsAcc F [] (sz + 1) ks with
   | (none,s') => (none,s')
   | (some xs,s') => (some (.mk f i xs),s') from if_neg hbig)
 have HK1 := ζ (HK.out hd60)
 clear hbig HK
 have f0 := HF1.out.cell 0;have f1 := HF1.out.cell 1;have x1 := HF1.out.frozen 1
 simp only [ζc] at f0 f1
 obtain ⟨hfn,hfa,hfs⟩ := wrongF_zero.1 HFW.out
 have hw1 : w.heap.size + 2 ≤ (W0.setCell ⟨D,2,none⟩ (.int .i64 ((sz : Int) + 1))).heap.size := by subst hW0;simp
 have KC := ζ (cloneStr (.slice aa f.args.length ac) f.args (W0.setCell ⟨D,2,none⟩ (.int .i64 ((sz : Int) + 1))) HA1.out (by omega))
 obtain ⟨W1,hW1⟩ : ∃ W1 : World,W0.setCell ⟨D,2,none⟩ (.int .i64 ((sz : Int) + 1)) = W1 := ⟨_,rfl⟩
 rw [hW1] at HBD HE1 HZ1 HF1 HA1 c0 c1 c2 c3 y0 y1 y2 y3 f0 f1 x1 hw1 KC
 have d3 := HE1.out.hD.cell 2
 simp only [ζc] at d3
 rw [hcast] at d3
 go_enter Tryz.func23,Tryz.ntmps23
 go_wp2_with (go_at_call 40;refine (KC.out).mono ?_;rintro e w2 ⟨⟨cv,rfl,hc2⟩,hb2⟩;obtain ⟨ca,cc,rfl,-,-,-⟩ := id hc2.form;have HB2 := ζ hb2;have HC2 := ζ hc2;have HF2 := ζ (HF1.out.below hb2 HF1.out.lt);have g1 := HF2.out.cell 1;have e1 := HF2.out.frozen 1;simp only [ζc] at g1;clear hb2 hc2)
 have hl2 := HB2.out.size
 have hnW : ¬ (fun b => S b ∧ b < w.heap.size) w.heap.size := fun h => by have := h.2;omega
 have HB3 := ζ (show But D w (w2.setCell ⟨w.heap.size,1,none⟩ (.slice ca f.args.length cc)) from (HBD.out.below HB2.out).setCell (p := ⟨w.heap.size,1,none⟩) (.inr (ζn _)) _)
 have hbt : But w.heap.size w2 (w2.setCell ⟨w.heap.size,1,none⟩ (.slice ca f.args.length cc)) := (But.refl _ w2).setCell (p := ⟨w.heap.size,1,none⟩) (.inl rfl) _
 have HE3 := ζ ((HE1.out.below HB2.out).other hbt hnW hne1 (by omega) (by omega))
 have HF3 := ζ (show Blk (w2.setCell ⟨w.heap.size,1,none⟩ (.slice ca f.args.length cc)) w.heap.size 27 #[.string f.name,.slice ca f.args.length cc] from HF2.out.set_ 1 _)
 have HZ3 := ζ ((HZ1.out.below HB2.out HZ1.out.lt).far (p := ⟨w.heap.size,1,none⟩) (by show w.heap.size + 1 ≠ w.heap.size;omega) (.slice ca f.args.length cc))
 have HA3 := ζ (show RdStrs (fun b => w.heap.size + 2 ≤ b) (w2.setCell ⟨w.heap.size,1,none⟩ (.slice ca f.args.length cc)) (.slice ca f.args.length cc) f.args from
  (HC2.out.more ζS (S' := fun b => w.heap.size + 2 ≤ b) (fun b hb _ => Nat.le_trans hw1 hb)).agree ζS (hbt.agree (fun h => by have h' : w.heap.size + 2 ≤ w.heap.size := h;omega)))
 have hl3 : w.heap.size + 2 ≤ (w2.setCell ⟨w.heap.size,1,none⟩ (.slice ca f.args.length cc)).heap.size := by simp;omega
 clear hbt d3 hW1 hW0 HB0 HF0 HZ0 HE0 HA0 HBD HE1 HZ1 HF1 HA1 c0 c1 c2 c3 y0 y1 y2 y3 f0 f1 x1 hw1 KC d2 z2 HF2 HC2 HB2 hl2 g1 e1
 generalize w2.setCell ⟨w.heap.size,1,none⟩ (.slice ca f.args.length cc) = W3 at *
 have d0 := HE3.out.hD.cell 0;have q1 := HE3.out.hC.cell 1;have f0 := HF3.out.cell 0;have f1 := HF3.out.cell 1
 have c0 := HZ3.out.cell 0;have c1 := HZ3.out.cell 1;have c2 := HZ3.out.cell 2;have c3 := HZ3.out.cell 3
 simp only [ζc] at d0 q1 f0 f1 c0 c1 c2 c3
 have KI := ζ (inFact (.slice ta told.length tc) told f (.slice ca f.args.length cc) W3.drew (HE3.out.ht.agree ζF (Below.agree (ζb _ _).drew)) (HA3.out.agree ζS (Below.agree (ζb _ _).drew)) HTG.out.rise (Nat.le_trans HTG.out.len (by decide)) (fun x hx => by have := (wrongF_zero.1 (HTG.out.fine x hx)).2.1;omega))
 go_region_held3 (fun w' => w'.cell? ⟨D,0,none⟩ = some (.pointer (some ⟨C,0,none⟩)) ∧ w'.cell? ⟨C,1,none⟩ = some (.slice ta told.length tc) ∧ w'.cell? ⟨w.heap.size,0,none⟩ = some (.string f.name) ∧ w'.cell? ⟨w.heap.size,1,none⟩ = some (.slice ca f.args.length cc))
  (first | (with_reducible exact ⟨k0,k1,k2,k3⟩) | (with_reducible exact ⟨d0,q1,f0,f1⟩) | go_keep)
  (first | (go_at_call 17;(with_reducible refine (KI.out).mono ?_);rintro e w4 ⟨rfl,hf4⟩;have hb4 := (ζb W3.heap.size W3).drew.trans hf4.below;have HB4 := ζ hb4;have HE4 := ζ (HE3.out.below hb4);have HF4 := ζ (HF3.out.below hb4 HF3.out.lt);have k0 := HE4.out.hD.cell 0;have k1 := HE4.out.hC.cell 1;have k2 := HF4.out.cell 0;have k3 := HF4.out.cell 1;simp only [ζc] at k0 k1 k2 k3;clear hf4 hb4))
 have HZ4 := ζ (HZ3.out.below HB4.out HZ3.out.lt)
 have HA4 := ζ (RdSlice.agree ζS (Below.agree HB4.out) HA3.out)
 have HB5 := ζ (HB3.out.below HB4.out)
 have hl4 : w.heap.size + 2 ≤ w4.heap.size := by have := HB4.out.size;omega
 clear HE3 HF3 HZ3 HA3 HB3 HB4 d0 q1 f0 f1 c0 c1 c2 c3 KI hl3
 have c0 := HZ4.out.cell 0;have c1 := HZ4.out.cell 1;have c2 := HZ4.out.cell 2;have c3 := HZ4.out.cell 3
 have y0 := HZ4.out.frozen 0;have y1 := HZ4.out.frozen 1;have y2 := HZ4.out.frozen 2;have y3 := HZ4.out.frozen 3
 simp only [ζc] at c0 c1 c2 c3
 have hnZ : ¬ (fun b => S b ∧ b < w.heap.size) (w.heap.size + 1) := fun h => by have := h.2;omega
 cases hmt : memF f told with
 | true =>
  have HE := ζ (show findStep p told M age F sz f d = (some (.mk f (-1) []),sz + 1) by rw [HFS.out,hmt];rfl)
  clear hmt
  go_wp2
  refine bodyPost_ret (v := .tuple #[.agg #[.string f.name,.slice ca f.args.length cc,.int .i64 (-1),.slice none 0 0],.bool true]) (by simp [results,Tryz.results23,go_sem,c0,c1,c2,c3]) rfl (find_some HE.out ?_ ?_ ?_)
  ·exact (((HB5.out.setCell (.inr hR1) _).setCell (.inr hR1) _).setCell (.inr hR1) _).setCell (.inr hR1) _
  ·exact (((HE4.out.hD.far (p := ⟨w.heap.size + 1,0,none⟩) hne2 _).far (p := ⟨w.heap.size + 1,1,none⟩) hne2 _).far (p := ⟨w.heap.size + 1,2,none⟩) hne2 _).far (p := ⟨w.heap.size + 1,3,none⟩) hne2 _
  ·exact (OwnP.four (own_leaf hl4 (HA4.out.more ζS (S' := Span (w.heap.size + 2) w4.heap.size) (fun b hb hl => ⟨hb,hl⟩))) (fun h => by have h' : w.heap.size + 2 ≤ w.heap.size + 1 := h.1;omega) _ _ _ _).wide (by omega) (by simp)
 | false =>
  have HFP := ζ (show findStep p told M age F sz f d = match pickRule age M f 0 p with
   | none => (none,sz + 1)
   | some (i,ks) => match kidsAcc F [] (sz + 1) ks with
    | (none,s') => (none,s')
    | (some xs,s') => (some (.mk f i xs),s') by rw [HFS.out,hmt];rfl)
  have dd0 := HE4.out.hD.cell 0;have cc0 := HE4.out.hC.cell 0
  simp only [List.getElem?_toArray,List.getElem?_cons_zero] at dd0 cc0
  have HI0 := ζ (ζb w4.heap.size w4)
  have HP0 := ζ (show pickRule age M f 0 (p.drop 0) = pickRule age M f 0 p from rfl)
  clear hmt HFS c0 c1 c2 c3 y0 y1 y2 y3
  generalize findStep p told M age F sz f d = RR at *
  go_wp2
  go_loopw [56] (fun i wr => ∃ n : Nat,n ≤ p.length ∧ i = .int .i64 n ∧ Hid (pickRule age M f n (p.drop n) = pickRule age M f 0 p) ∧ Hid (Below w4.heap.size w4 wr)) (fun i _ => p.length - (intOf i).toNat)
  case atStart => exact ⟨0,Nat.zero_le _,rfl,HP0,HI0⟩
  case round =>
   clear HI0 HP0 dd0 cc0
   obtain ⟨n,hn,rfl,HP,HI⟩ := hrel
   have HE5 := ζ (HE4.out.below HI.out)
   have HF5 := ζ (HF4.out.below HI.out HF4.out.lt)
   have HZ5 := ζ (HZ4.out.below HI.out HZ4.out.lt)
   have HA5 := ζ (RdSlice.agree ζS (Below.agree HI.out) HA4.out)
   have HB6 := ζ (HB5.out.below HI.out)
   have hl5 : w.heap.size + 2 ≤ wr.heap.size := by have := HI.out.size;omega
   have f0 := HF5.out.cell 0;have f1 := HF5.out.cell 1
   simp only [ζc] at f0 f1
   by_cases hlt : n < p.length
   ·obtain ⟨r,hr⟩ : ∃ r,p[n]? = some r := ⟨_,ζe hlt⟩
    have KR := ζ (ruleWalk age N p M D C G w.heap.size 0 _ _ _ _ _ f n r wr HE5.out.hD HE5.out.hC HE5.out.hG HE5.out.hp HE5.out.hm hr HF5.out.lt f0 f1 (HA5.out.more ζS (fun _ _ _ => trivial)) (HRS.out r (ζm hr)) (HR.out r (ζm hr)) HFW.out HM.out)
    cases hrg : ruleG age M r f with
    | none =>
     have HP1 := ζ ((pick_miss hr hrg).symm.trans HP.out)
     rw [hrg] at KR
     clear hr hrg
     go_wp2_with (go_at_call 44;refine (KR.out).mono ?_;rintro e w6 ⟨hb6,rfl⟩;have HI6 := ζ (HI.out.trans (hb6.mono HI.out.size));clear hb6)
     go_roundw
     case rel => exact ⟨n + 1,by omega,by go_num,HP1,HI6⟩
     case measure => simp [intOf];omega
    | some ks =>
     have HPK := ζ ((pick_hit hr hrg).symm.trans HP.out)
     have HKG := ζ (ruleG_good HM.out (body_atoms (ruleBad_zero (HR.out r (ζm hr))).2.2.1) hrg)
     have HFK := ζ (show RR = match kidsAcc F [] (sz + 1) ks with
      | (none,s') => (none,s')
      | (some xs,s') => (some (.mk f n xs),s') by rw [HFP.out,← HPK.out])
     rw [hrg] at KR
     clear hr hrg
     go_wp2_with (go_at_call 44;refine (KR.out).mono ?_;rintro e w6 ⟨hb6,ka,kc,rfl,hk6⟩;have HB6' := ζ hb6;have HK6 := ζ hk6;have hh6 := HF5.out.below hb6 HF5.out.lt;have k0 := hh6.cell 0;have k1 := hh6.cell 1;simp only [ζc] at k0 k1;clear hb6 hk6 hh6)
     have hs6 := HB6'.out.size
     have hDk : ¬ (fun b => wr.heap.size ≤ b ∧ b < w6.heap.size) D := fun h => by have := h.1;omega
     have HB7 := ζ (show But D w (w6.alloc (.cells #[.string f.name,.slice ca f.args.length cc,.int .i64 (n : Int),.slice none 0 0] 30)) from (HB6.out.below HB6'.out).alloc _)
     have HE7 := ζ ((HE5.out.below HB6'.out).below ((ζb w6.heap.size w6).alloc (ζn _) (.cells #[.string f.name,.slice ca f.args.length cc,.int .i64 (n : Int),.slice none 0 0] 30)))
     have HZ7 := ζ ((HZ5.out.below HB6'.out HZ5.out.lt).alloc (.cells #[.string f.name,.slice ca f.args.length cc,.int .i64 (n : Int),.slice none 0 0] 30))
     have HX7 := ζ (Blk.new w6 30 #[.string f.name,.slice ca f.args.length cc,.int .i64 (n : Int),.slice none 0 0])
     have HA7 := ζ (show RdStrs (fun b => w.heap.size + 2 ≤ b ∧ b < w6.heap.size) (w6.alloc (.cells #[.string f.name,.slice ca f.args.length cc,.int .i64 (n : Int),.slice none 0 0] 30)) (.slice ca f.args.length cc) f.args from RdSlice.agree ζS ((Agree.refl _ _).alloc _) ((RdSlice.agree ζS (Below.agree HB6'.out) HA5.out).more ζS (fun b hb hl => ⟨hb,hl⟩)))
     have HK7 := ζ (show RdFacts (fun b => wr.heap.size ≤ b ∧ b < w6.heap.size) (w6.alloc (.cells #[.string f.name,.slice ca f.args.length cc,.int .i64 (n : Int),.slice none 0 0] 30)) (.slice ka ks.length kc) ks from RdSlice.agree ζF ((Agree.refl _ _).alloc _) (HK6.out.more ζF (fun b hb hl => ⟨hb,hl⟩)))
     have HO7 := ζ (show KRow (OwnP (m + 1)) (w6.heap.size + 1) 30 (w6.alloc (.cells #[.string f.name,.slice ca f.args.length cc,.int .i64 (n : Int),.slice none 0 0] 30)) (.slice none 0 0) [] from ⟨[],0,Nat.zero_le _,Owned.nil,KSide.nil⟩)
     have hl7 : w6.heap.size < (w6.alloc (.cells #[.string f.name,.slice ca f.args.length cc,.int .i64 (n : Int),.slice none 0 0] 30)).heap.size := by simp
     obtain ⟨wq,hwq⟩ : ∃ wq : World,wq = wr := ⟨_,rfl⟩
     subst hwq
     clear KR HP HI HE5 HF5 HZ5 HA5 HB6 HB6' HK6 HFP HPK HE4 HF4 HZ4 HA4 HB5 k0 k1 f0 f1
     generalize w6.alloc (.cells #[.string f.name,.slice ca f.args.length cc,.int .i64 (n : Int),.slice none 0 0] 30) = w7 at *
     generalize w6.heap.size = X at *
     have hkl := HKG.out.1
     have HKZ := ζ (show kidsAcc F [] (sz + 1) (ks.drop 0) = kidsAcc F [] (sz + 1) ks from rfl)
     generalize kidsAcc F [] (sz + 1) ks = T at *
     have HXL := ζ (show ([] : List PProof).length ≤ 0 from ζn _)
     go_loopw [72] (fun i wr => ∃ (j : Nat) (xs : List PProof) (s : Nat) (kv : Value),j ≤ ks.length ∧ s ≤ 400 ∧ i = .int .i64 j ∧ Hid (kidsAcc F xs s (ks.drop j) = T) ∧ Hid (But D w wr) ∧ Hid (FEnv (fun b => S b ∧ b < w.heap.size) age N p told M D C G (.slice pa p.length pc) (.slice ta told.length tc) (.slice ma M.length mc) wr s) ∧ Hid (Blk wr (w.heap.size + 1) 30 #[.string ⟨#[]⟩,.slice none 0 0,.int .i64 0,.slice none 0 0]) ∧ Hid (Blk wr X 30 #[.string f.name,.slice ca f.args.length cc,.int .i64 (n : Int),kv]) ∧ Hid (RdStrs (fun b => w.heap.size + 2 ≤ b ∧ b < X) wr (.slice ca f.args.length cc) f.args) ∧ Hid (RdFacts (fun b => wq.heap.size ≤ b ∧ b < X) wr (.slice ka ks.length kc) ks) ∧ Hid (KRow (OwnP (m + 1)) (X + 1) 30 wr kv xs) ∧ Hid (xs.length ≤ j)) (fun i _ => ks.length - (intOf i).toNat)
     case atStart => exact ⟨0,[],sz + 1,_,Nat.zero_le _,hs1,rfl,HKZ,HB7,HE7,HZ7,HX7,HA7,HK7,HO7,HXL⟩
     case round =>
      clear HKZ HB7 HE7 HZ7 HX7 HA7 HK7 HO7 hl7 HXL
      obtain ⟨j,xs,s,kv,hj,hs4,rfl,HKA,HB,HE,HZ,HX,HA,HKS,HO,HXL⟩ := hrel
      obtain ⟨zs,hi,hhi,hoz,hks⟩ := HO.out
      obtain ⟨va,vc,hkv,-,-,-⟩ := id (hoz.read RQuad.steady).form
      have hzl : zs.length = xs.length := hks.len
      rw [hzl] at hkv
      subst hkv
      have HRO := ζ (own_row hoz hks hhi)
      have HO0 := ζ hoz
      have HS0 := ζ hks
      clear hoz hks HO
      have hlX := HX.out.lt
      by_cases hltj : j < ks.length
      ·obtain ⟨k,hk⟩ : ∃ k,ks[j]? = some k := ⟨_,ζe hltj⟩
       obtain ⟨b8,o8,av8,rfl,-,hb8l,e0,e1,hka⟩ := RdFacts.at HKS.out hk
       obtain ⟨a8,c8,rfl,-,-,-⟩ := id hka.form
       have hbw := (ζb wr.heap.size wr).alloc (ζn _) (.cells #[.string k.name,.slice a8 k.args.length c8] 27)
       obtain ⟨hle,kc0⟩ := HK1.out _ s k (.slice a8 k.args.length c8) (wr.alloc (.cells #[.string k.name,.slice a8 k.args.length c8] 27)) hs4 (HKG.out.2 k (ζm hk)) (HE.out.below hbw) ⟨_,RdSlice.agree ζS (Below.agree hbw) hka,hDk⟩
       rw [show ((d + 1 : Nat) : Int) = (d : Int) + 1 by omega] at kc0
       generalize hF : F s k = y at *
       obtain ⟨yo,ys⟩ := y
       dsimp only at hle
       cases yo with
       | none =>
        have HRN := ζ (show RR = (none,ys) by rw [HFK.out,← HKA.out,kids_none hk hF])
        have KC := ζ kc0
        have HB1 := ζ (HB.out.below hbw)
        have HZ1 := ζ (HZ.out.below hbw HZ.out.lt)
        clear hle kc0 hF hk hka hbw
        go_wp2_with (go_at_call 23;refine (KC.out).mono ?_;rintro e w8 ⟨hb8,hd8,rfl⟩;have HB8 := ζ ((HB1.out.trans hb8).alloc (.cells #[.string ⟨#[]⟩,.slice none 0 0,.int .i64 0,.slice none 0 0] 30));have HD8 := ζ (hd8.alloc (.cells #[.string ⟨#[]⟩,.slice none 0 0,.int .i64 0,.slice none 0 0] 30));have HZ8 := ζ ((HZ1.out.but hb8 hne4).alloc (.cells #[.string ⟨#[]⟩,.slice none 0 0,.int .i64 0,.slice none 0 0] 30));have c0 := HZ8.out.cell 0;have c1 := HZ8.out.cell 1;have c2 := HZ8.out.cell 2;have c3 := HZ8.out.cell 3;have y0 := HZ8.out.frozen 0;have y1 := HZ8.out.frozen 1;have y2 := HZ8.out.frozen 2;have y3 := HZ8.out.frozen 3;simp only [ζc] at c0 c1 c2 c3;clear hb8 hd8)
        refine bodyPost_ret (v := .tuple #[.agg #[.string ⟨#[]⟩,.slice none 0 0,.int .i64 0,.slice none 0 0],.bool false]) (by simp [results,Tryz.results23,go_sem,c0,c1,c2,c3]) rfl (find_none HRN.out ?_ ?_)
        ·exact (((HB8.out.setCell (.inr hR1) _).setCell (.inr hR1) _).setCell (.inr hR1) _).setCell (.inr hR1) _
        ·exact (((HD8.out.far (p := ⟨w.heap.size + 1,0,none⟩) hne2 _).far (p := ⟨w.heap.size + 1,1,none⟩) hne2 _).far (p := ⟨w.heap.size + 1,2,none⟩) hne2 _).far (p := ⟨w.heap.size + 1,3,none⟩) hne2 _
       | some x =>
        have hys := hle x rfl
        have HN := ζ ((kids_some hk hF).symm.trans HKA.out)
        have KC := ζ kc0
        have HB1 := ζ (HB.out.below hbw)
        have HZ1 := ζ (HZ.out.below hbw HZ.out.lt)
        have HX1 := ζ (HX.out.below hbw HX.out.lt)
        have HE1 := ζ (HE.out.below hbw)
        have HA1 := ζ (RdSlice.agree ζS (Below.agree hbw) HA.out)
        have HK1' := ζ (RdSlice.agree ζF (Below.agree hbw) HKS.out)
        have HO1 := ζ (HO0.out.below RQuad.steady hbw)
        have HS1 := ζ (HS0.out.agree (fun z _ => Below.agree hbw) (fun _ _ _ _ _ => OwnP.agree))
        have hxl : (xs ++ [x]).length ≤ j + 1 := by have := HXL.out;simp;omega
        have hxl0 : xs.length ≤ j := HXL.out
        have HXL1 := ζ hxl
        clear hle kc0 hF hk hka hbw hxl HXL
        go_wp2_with (first | (go_at_call 23;refine (KC.out).mono ?_;rintro e w8 ⟨hb8,hd8,a9,c9,k9,l9,rfl,hrw⟩;have hsz7 := hb8.size;have hsz8 := hb8.size;simp at hsz8;have HB8 := ζ ((HB1.out.trans hb8).alloc (.cells #[.string x.fact.name,.slice a9 x.fact.args.length c9,.int .i64 x.rule,.slice k9 x.kids.length l9] 30));have HE8 := ζ ((HE1.out.but hb8 hd8).below ((ζb w8.heap.size w8).alloc (ζn _) (.cells #[.string x.fact.name,.slice a9 x.fact.args.length c9,.int .i64 x.rule,.slice k9 x.kids.length l9] 30)));have HZ8 := ζ ((HZ1.out.but hb8 hne4).alloc (.cells #[.string x.fact.name,.slice a9 x.fact.args.length c9,.int .i64 x.rule,.slice k9 x.kids.length l9] 30));have HX8 := ζ ((HX1.out.but hb8 (by omega)).alloc (.cells #[.string x.fact.name,.slice a9 x.fact.args.length c9,.int .i64 x.rule,.slice k9 x.kids.length l9] 30));have HA8 := ζ (RdSlice.agree ζS ((hb8.agree (fun h => by have h' : w.heap.size + 2 ≤ D := h.1;omega)).alloc (.cells #[.string x.fact.name,.slice a9 x.fact.args.length c9,.int .i64 x.rule,.slice k9 x.kids.length l9] 30)) HA1.out);have HK8 := ζ (RdSlice.agree ζF ((hb8.agree hDk).alloc (.cells #[.string x.fact.name,.slice a9 x.fact.args.length c9,.int .i64 x.rule,.slice k9 x.kids.length l9] 30)) HK1'.out);have HO8 := ζ ((HO1.out.keep RQuad.steady (hb8.agree (fun h => h)) (fun g hg => hb8.block g (HO1.out.row_lt hg).2 (fun e => by have h1 := (HO1.out.row_lt hg).1;have h2 := Option.some.inj e;omega))).alloc RQuad.steady (.cells #[.string x.fact.name,.slice a9 x.fact.args.length c9,.int .i64 x.rule,.slice k9 x.kids.length l9] 30));have HS8 := ζ (HS1.out.agree (fun z hz => (hb8.agree (fun h => by have h1 := (HS1.out.inside z hz).1;have h2 := h.1;omega)).alloc (.cells #[.string x.fact.name,.slice a9 x.fact.args.length c9,.int .i64 x.rule,.slice k9 x.kids.length l9] 30)) (fun _ _ _ _ _ => OwnP.agree));have HN9 := ζ (hrw.agree ((Agree.refl _ _).alloc (.cells #[.string x.fact.name,.slice a9 x.fact.args.length c9,.int .i64 x.rule,.slice k9 x.kids.length l9] 30)));have x3 := HX8.out.cell 3;simp only [ζc] at x3;clear hb8 hd8 hrw) | (at_builtin;refine wpList_append_one (B := X + 1) (e := 30) (S := fun _ => False) (by rfl) _ _ 28 (by rfl) RQuad.steady rowProofs _ zs (by rfl) (HO8.out.alloc RQuad.steady _) (w8.heap.size + 1) 1 #[.string x.fact.name,.slice a9 x.fact.args.length c9,.int .i64 x.rule,.slice k9 x.kids.length l9] 30 (0,0) ⟨x.fact.name,.slice a9 x.fact.args.length c9,x.rule,.slice k9 x.kids.length l9,(wr.alloc (.cells #[.string k.name,.slice a8 k.args.length c8] 27)).heap.size,w8.heap.size⟩ (by rfl) (heap_new_at (by simp)) rfl (by simp [Value.oneCell']) rfl (by omega) (by simp;omega) ?_;intro v10 w10 hown10 hg10 hat10;obtain ⟨a10,c10,rfl,-,-,-⟩ := id (hown10.read RQuad.steady).form;rw [List.length_append,List.length_singleton,hzl] at hown10 hat10;have hrow : ∀ q,(Value.slice va xs.length vc).ownBlock = some q → X + 1 ≤ q := fun q hq => (HO0.out.row_lt hq).1;have HS10 := ζ ((HS8.out.agree (fun z _ => (Agree.refl _ _).alloc (.cells #[.string x.fact.name,.slice a9 x.fact.args.length c9,.int .i64 x.rule,.slice k9 x.kids.length l9] 30)) (fun _ _ _ _ _ => OwnP.agree)).snoc (z := ⟨x.fact.name,.slice a9 x.fact.args.length c9,x.rule,.slice k9 x.kids.length l9,(wr.alloc (.cells #[.string k.name,.slice a8 k.args.length c8] 27)).heap.size,w8.heap.size⟩) (x := x) (hi' := w8.heap.size) hg10 hat10 (fun q hq => by have := (HO0.out.row_lt hq).2;simp;omega) (by simp;omega) hsz7 (ζn _) (by simp;omega) (by simp;omega) ⟨rfl,rfl⟩ (HN9.out.agree ((Agree.refl _ _).alloc _)) (fun _ _ _ _ _ => OwnP.agree));have HH10 := ζ (show w8.heap.size ≤ w10.heap.size by have := hg10.size;simp at this;omega);have HO10 := ζ hown10;have HB10 := ζ ((HB8.out.alloc _).row hg10 (fun q hq => by have := hrow q hq;omega));have HE10 := ζ ((HE8.out.below ((ζb _ _).alloc (ζn _) _)).grown hg10 (fun q hq h => by have := hrow q hq;have := h.2;omega) (fun e => by have := hrow _ e.symm;omega) (fun e => by have := hrow _ e.symm;omega) (fun e => by have := hrow _ e.symm;omega));have HZ10 := ζ ((HZ8.out.alloc _).grown hg10 (fun e => by have := hrow _ e.symm;omega));have HX10 := ζ ((HX8.out.alloc _).grown hg10 (fun e => by have := hrow _ e.symm;omega));have HA10 := ζ (RdSlice.agree ζS (((Agree.refl _ _).alloc _).trans (grown_agree hg10 (fun q hq h => by have := hrow q hq;have := h.2;omega))) HA8.out);have HK10 := ζ (RdSlice.agree ζF (((Agree.refl _ _).alloc _).trans (grown_agree hg10 (fun q hq h => by have := hrow q hq;have := h.2;omega))) HK8.out);have z3 := HX10.out.cell 3;have t3 := HX10.out.frozen 3;simp only [ζc] at z3;clear hown10 hg10 hat10 hrow))
        go_roundw
        case rel => exact ⟨j + 1,xs ++ [x],ys,_,by omega,hys,by go_num,HN,ζ (HB10.out.setCell (p := ⟨X,3,none⟩) (.inr (by show w.heap.size ≤ X;omega)) _),ζ (HE10.out.other ((But.refl X w10).setCell (p := ⟨X,3,none⟩) (.inl rfl) _) (fun h => by have := h.2;omega) (by omega) (by omega) (by omega)),ζ (HZ10.out.far (p := ⟨X,3,none⟩) (by show w.heap.size + 1 ≠ X;omega) _),ζ (HX10.out.set_ 3 _),ζ (RdSlice.agree ζS (((But.refl X w10).setCell (p := ⟨X,3,none⟩) (.inl rfl) _).agree (fun h => by have := h.2;omega)) HA10.out),ζ (RdSlice.agree ζF (((But.refl X w10).setCell (p := ⟨X,3,none⟩) (.inl rfl) _).agree (fun h => by have := h.2;omega)) HK10.out),ζ ⟨_,_,by simpa using HH10.out,HO10.out.setCell RQuad.steady (p := ⟨X,3,none⟩) (fun h => h) (fun e => by have := (HO10.out.row_lt e).1;have h2 : X + 1 ≤ X := this;omega) _,HS10.out.agree (fun z hz => ((But.refl X w10).setCell (p := ⟨X,3,none⟩) (.inl rfl) _).agree (fun h => by have h1 := (HS10.out.inside z hz).1;have h2 := h.1;omega)) (fun _ _ _ _ _ => OwnP.agree)⟩,HXL1⟩
        case measure => simp [intOf];omega
      ·have HRN := ζ (show RR = (some (.mk f n xs),s) by rw [HFK.out,← HKA.out,List.drop_eq_nil_of_le (by omega)];rfl)
       have c0 := HZ.out.cell 0;have c1 := HZ.out.cell 1;have c2 := HZ.out.cell 2;have c3 := HZ.out.cell 3
       have y0 := HZ.out.frozen 0;have y1 := HZ.out.frozen 1;have y2 := HZ.out.frozen 2;have y3 := HZ.out.frozen 3
       have z0 := HX.out.cell 0;have z1 := HX.out.cell 1;have z2 := HX.out.cell 2;have z3 := HX.out.cell 3
       simp only [ζc] at c0 c1 c2 c3 z0 z1 z2 z3
       go_wp2
       refine bodyPost_ret (v := .tuple #[.agg #[.string f.name,.slice ca f.args.length cc,.int .i64 (n : Int),.slice va xs.length vc],.bool true]) (by simp [results,Tryz.results23,go_sem,c0,c1,c2,c3]) rfl (find_some HRN.out ?_ ?_ ?_)
       ·exact (((HB.out.setCell (.inr hR1) _).setCell (.inr hR1) _).setCell (.inr hR1) _).setCell (.inr hR1) _
       ·exact (((HE.out.hD.far (p := ⟨w.heap.size + 1,0,none⟩) hne2 _).far (p := ⟨w.heap.size + 1,1,none⟩) hne2 _).far (p := ⟨w.heap.size + 1,2,none⟩) hne2 _).far (p := ⟨w.heap.size + 1,3,none⟩) hne2 _
       ·exact (OwnP.four (own_node (lo := w.heap.size + 2) (mid := X) (by omega) (Nat.le_of_lt hlX) HA.out (HRO.out.wide (Nat.le_succ _) (ζn _))) (fun h => by have h' : w.heap.size + 2 ≤ w.heap.size + 1 := h.1;omega) _ _ _ _).wide (by omega) (by simp)
   ·have HE := ζ (show RR = (none,sz + 1) by rw [HFP.out,← HP.out,List.drop_eq_nil_of_le (by omega)];rfl)
    have c0 := HZ5.out.cell 0;have c1 := HZ5.out.cell 1;have c2 := HZ5.out.cell 2;have c3 := HZ5.out.cell 3
    have y0 := HZ5.out.frozen 0;have y1 := HZ5.out.frozen 1;have y2 := HZ5.out.frozen 2;have y3 := HZ5.out.frozen 3
    simp only [ζc] at c0 c1 c2 c3
    go_wp2
    refine bodyPost_ret (v := .tuple #[.agg #[.string ⟨#[]⟩,.slice none 0 0,.int .i64 0,.slice none 0 0],.bool false]) (by simp [results,Tryz.results23,go_sem,c0,c1,c2,c3]) rfl (find_none HE.out ?_ ?_)
    ·exact (((HB6.out.setCell (.inr hR1) _).setCell (.inr hR1) _).setCell (.inr hR1) _).setCell (.inr hR1) _
    ·exact (((HE5.out.hD.far (p := ⟨w.heap.size + 1,0,none⟩) hne2 _).far (p := ⟨w.heap.size + 1,1,none⟩) hne2 _).far (p := ⟨w.heap.size + 1,2,none⟩) hne2 _).far (p := ⟨w.heap.size + 1,3,none⟩) hne2 _
end
section
def Going (ps : List (PRule × Int)) (cnt i : Nat) (cur : List PFact) (T : List PFact × Int) : Prop :=
 if i < cnt then ∃ k,200 < k + cur.length ∧ T = (if (fixP ps (i : Int) k cur).2 ≠ 0 then ([],(fixP ps (i : Int) k cur).2) else runP ps (cnt - i - 1) ((i : Int) + 1) (fixP ps (i : Int) k cur).1) else T = (cur,0)
theorem going_run {ps : List (PRule × Int)} {cnt i : Nat} {cur : List PFact} : Going ps (cnt + i) i cur (runP ps cnt (i : Int) cur) := by
 unfold Going
 cases cnt with
 | zero => rw [if_neg (by omega)];rfl
 | succ n =>
  rw [if_pos (by omega)]
  refine ⟨201,by omega,?_⟩
  rw [runP,show n + 1 + i - i - 1 = n by omega]
theorem going_end {ps : List (PRule × Int)} {cnt i : Nat} {cur : List PFact} {T : List PFact × Int} (h : Going ps cnt i cur T) (hi : ¬ i < cnt) : T = (cur,0) := by unfold Going at h;rwa [if_neg hi] at h
theorem going_err {ps : List (PRule × Int)} {cnt i : Nat} {cur : List PFact} {T : List PFact × Int} (h : Going ps cnt i cur T) (hg : Good cur) (hi : i < cnt) (he : (onceP (i : Int) cur ps cur).2 ≠ 0) : T = ([],(onceP (i : Int) cur ps cur).2) := by
 unfold Going at h
 rw [if_pos hi] at h
 obtain ⟨k,hk,hT⟩ := h
 obtain ⟨k,rfl⟩ : ∃ j,k = j + 1 := ⟨k - 1,by have := hg.len;omega⟩
 rw [fixP,if_pos he,if_pos he] at hT
 exact hT
theorem going_same {ps : List (PRule × Int)} {cnt i : Nat} {cur : List PFact} {T : List PFact × Int} (h : Going ps cnt i cur T) (hg : Good cur) (hi : i < cnt) (he : (onceP (i : Int) cur ps cur).2 = 0) (hl : (onceP (i : Int) cur ps cur).1.length = cur.length) :
 (onceP (i : Int) cur ps cur).1 = cur ∧ Going ps cnt (i + 1) cur T := by
 unfold Going at h
 rw [if_pos hi] at h
 obtain ⟨k,hk,hT⟩ := h
 obtain ⟨k,rfl⟩ : ∃ j,k = j + 1 := ⟨k - 1,by have := hg.len;omega⟩
 have hF : fixP ps (i : Int) (k + 1) cur = (cur,0) := by rw [fixP,if_neg (by simpa using he),if_pos hl]
 rw [hF,if_neg (by simp)] at hT
 have hR := once_round he hg.rise hg.len
 refine ⟨(rising_sub_len hg.rise hR.rise (fun x hx => (hR.mem x).2 (.inl hx)) hl).symm,?_⟩
 rw [hT]
 have := going_run (ps := ps) (cnt := cnt - i - 1) (i := i + 1) (cur := cur)
 rw [show cnt - i - 1 + (i + 1) = cnt by omega] at this
 have e : ((i + 1 : Nat) : Int) = (i : Int) + 1 := by omega
 rw [e] at this
 exact this
theorem going_more {ps : List (PRule × Int)} {cnt i : Nat} {cur : List PFact} {T : List PFact × Int} (h : Going ps cnt i cur T) (hg : Good cur) (hi : i < cnt) (he : (onceP (i : Int) cur ps cur).2 = 0) (hl : (onceP (i : Int) cur ps cur).1.length ≠ cur.length) :
 cur.length + 1 ≤ (onceP (i : Int) cur ps cur).1.length ∧ Going ps cnt i (onceP (i : Int) cur ps cur).1 T := by
 unfold Going at h
 rw [if_pos hi] at h
 obtain ⟨k,hk,hT⟩ := h
 obtain ⟨k,rfl⟩ : ∃ j,k = j + 1 := ⟨k - 1,by have := hg.len;omega⟩
 have hF : fixP ps (i : Int) (k + 1) cur = fixP ps (i : Int) k (onceP (i : Int) cur ps cur).1 := by rw [fixP,if_neg (by simpa using he),if_neg hl]
 rw [hF] at hT
 have hR := once_round he hg.rise hg.len
 have hle : cur.length ≤ (onceP (i : Int) cur ps cur).1.length := rising_sub_le hg.rise fun x hx => (hR.mem x).2 (.inl hx)
 refine ⟨by omega,?_⟩
 unfold Going
 rw [if_pos hi]
 exact ⟨k,by omega,hT⟩
structure RInv (I : Nat → List (List PFact) → List PFact → Prop) (ps : List (PRule × Int)) (cn : Nat) (l : List PFact) : Prop where
 start : I 0 [l] l
 stop : ∀ (n : Nat) (zs : List (List PFact)) (cur : List PFact),I n zs cur → Good cur → n < cn → (onceP (n : Int) cur ps cur).2 = 0 → (onceP (n : Int) cur ps cur).1.length = cur.length → I (n + 1) (zs ++ [(onceP (n : Int) cur ps cur).1]) (onceP (n : Int) cur ps cur).1
 more : ∀ (n : Nat) (zs : List (List PFact)) (cur : List PFact),I n zs cur → Good cur → n < cn → (onceP (n : Int) cur ps cur).2 = 0 → (onceP (n : Int) cur ps cur).1.length ≠ cur.length → I n (zs ++ [(onceP (n : Int) cur ps cur).1]) (onceP (n : Int) cur ps cur).1
end
section
def putM (m : Str → Option Int) (s : Str) (a : Int) : Str → Option Int := fun t => if t = s then some a else m t
def ageMore (a : Int) (m : Str → Option Int) (l : List PFact) : Str → Option Int := l.foldl (fun m z => putM m (keyP z) a) m
def ageIn (ps : List (PRule × Int)) (i : Int) : Nat → List PFact → Int → (Str → Option Int) → List PFact × Int × (Str → Option Int)
 | 0,cur,a,m => (cur,a,m)
 | k + 1,cur,a,m => if lessF (onceP i cur ps cur).1 cur = [] then ((onceP i cur ps cur).1,a + 1,ageMore (a + 1) m (lessF (onceP i cur ps cur).1 cur))
  else ageIn ps i k (onceP i cur ps cur).1 (a + 1) (ageMore (a + 1) m (lessF (onceP i cur ps cur).1 cur))
def ageAll (ps : List (PRule × Int)) : Nat → Int → List PFact → Int → (Str → Option Int) → (Str → Option Int)
 | 0,_,_,_,m => m
 | k + 1,i,cur,a,m => ageAll ps k (i + 1) (ageIn ps i 201 cur a m).1 (ageIn ps i 201 cur a m).2.1 (ageIn ps i 201 cur a m).2.2
def Aging (ps : List (PRule × Int)) (cnt i : Nat) (cur : List PFact) (a : Int) (m T : Str → Option Int) : Prop :=
 if i < cnt then ∃ k,200 < k + cur.length ∧ T = ageAll ps (cnt - i - 1) ((i : Int) + 1) (ageIn ps i k cur a m).1 (ageIn ps i k cur a m).2.1 (ageIn ps i k cur a m).2.2 else T = m
theorem aging_run {ps : List (PRule × Int)} {cnt i : Nat} {cur : List PFact} {a : Int} {m : Str → Option Int} : Aging ps (cnt + i) i cur a m (ageAll ps cnt (i : Int) cur a m) := by
 unfold Aging
 cases cnt with
 | zero => rw [if_neg (by omega)];rfl
 | succ n =>
  rw [if_pos (by omega)]
  refine ⟨201,by omega,?_⟩
  rw [ageAll,show n + 1 + i - i - 1 = n by omega]
theorem aging_end {ps : List (PRule × Int)} {cnt i : Nat} {cur : List PFact} {a : Int} {m T : Str → Option Int} (h : Aging ps cnt i cur a m T) (hi : ¬ i < cnt) : T = m := by unfold Aging at h;rwa [if_neg hi] at h
theorem aging_stop {ps : List (PRule × Int)} {cnt i : Nat} {cur : List PFact} {a : Int} {m T : Str → Option Int} (h : Aging ps cnt i cur a m T) (hl : cur.length ≤ 200) (hi : i < cnt) (hm : lessF (onceP (i : Int) cur ps cur).1 cur = []) :
 Aging ps cnt (i + 1) (onceP (i : Int) cur ps cur).1 (a + 1) (ageMore (a + 1) m (lessF (onceP (i : Int) cur ps cur).1 cur)) T := by
 unfold Aging at h
 rw [if_pos hi] at h
 obtain ⟨k,hk,hT⟩ := h
 obtain ⟨k,rfl⟩ : ∃ j,k = j + 1 := ⟨k - 1,by omega⟩
 rw [ageIn,if_pos hm] at hT
 rw [hT]
 have := aging_run (ps := ps) (cnt := cnt - i - 1) (i := i + 1) (cur := (onceP (i : Int) cur ps cur).1) (a := a + 1) (m := ageMore (a + 1) m (lessF (onceP (i : Int) cur ps cur).1 cur))
 rw [show cnt - i - 1 + (i + 1) = cnt by omega] at this
 have e : ((i + 1 : Nat) : Int) = (i : Int) + 1 := by omega
 rw [e] at this
 exact this
theorem aging_more {ps : List (PRule × Int)} {cnt i : Nat} {cur : List PFact} {a : Int} {m T : Str → Option Int} (h : Aging ps cnt i cur a m T) (hl : cur.length ≤ 200) (hi : i < cnt) (hm : lessF (onceP (i : Int) cur ps cur).1 cur ≠ []) (hg : cur.length + 1 ≤ (onceP (i : Int) cur ps cur).1.length) :
 Aging ps cnt i (onceP (i : Int) cur ps cur).1 (a + 1) (ageMore (a + 1) m (lessF (onceP (i : Int) cur ps cur).1 cur)) T := by
 unfold Aging at h
 rw [if_pos hi] at h
 obtain ⟨k,hk,hT⟩ := h
 obtain ⟨k,rfl⟩ : ∃ j,k = j + 1 := ⟨k - 1,by omega⟩
 rw [ageIn,if_neg hm] at hT
 unfold Aging
 rw [if_pos hi]
 exact ⟨k,by omega,hT⟩
theorem less_iff {ps : List (PRule × Int)} {i : Int} {cur : List PFact} (hg : Good cur) (he : (onceP i cur ps cur).2 = 0) : lessF (onceP i cur ps cur).1 cur = [] ↔ (onceP i cur ps cur).1.length = cur.length := by
 have hR := once_round he hg.rise hg.len
 constructor
 ·intro h
  have hsub : ∀ x ∈ (onceP i cur ps cur).1,x ∈ cur := fun x hx => Classical.byContradiction fun hn => by
   have : x ∈ lessF (onceP i cur ps cur).1 cur := List.mem_filter.2 ⟨hx,by
    cases hm : memF x cur
    ·rfl
    ·exact absurd ((memF_iff x cur).1 hm) hn⟩
   rw [h] at this
   simp at this
  exact Nat.le_antisymm (rising_sub_le hR.rise hsub) (rising_sub_le hg.rise fun x hx => (hR.mem x).2 (.inl hx))
 ·intro h
  have he2 := rising_sub_len hg.rise hR.rise (fun x hx => (hR.mem x).2 (.inl hx)) h
  rw [← he2]
  exact List.filter_eq_nil_iff.2 fun x hx => by rw [(memF_iff x cur).2 hx];decide
def agesP (st : List Int) (p : List PRule) (l : List PFact) : Str → Option Int := ageAll (p.zip st) (countP st).toNat 0 l 0 (fun _ => none)
def proveP (st : List Int) (q : Int) (p : List PRule) (l : List PFact) (f : PFact) : Option PProof × Int :=
 if q ≠ 0 then (none,q) else if (naiveP st q p l).2 ≠ 0 then (none,(naiveP st q p l).2) else if wrongF f ≠ 0 then (none,wrongF f) else if memF f (naiveP st q p l).1 = false then (none,6)
 else match (findN p l (naiveP st q p l).1 (agesP st p l) 61 0 f 1).1 with
  | none => (none,4)
  | some x => (some x,0)
end
end Go.Proofs.YtdngkcieckejoaaGreat
