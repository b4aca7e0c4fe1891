/-
  THE TEXTS ProofR, DelW, CompactG, DelX, SortLay, one behind the other.
-/
import Derived.Test.YtdngkcieckejoaaGreatPk1
import Derived.Test.YtdngkcieckejoaaGreatPk2
import Derived.Test.YtdngkcieckejoaaGreatPk3
import Derived.Test.YtdngkcieckejoaaGreatPk4
import Derived.Test.YtdngkcieckejoaaGreatPk5
import Derived.Lib.MinMax
import Derived.Test.YtdngkcieckejoaaGreatProg
import Derived.Shelf.SlSortCmp.WholeK
import Derived.Shelf.SlSortCmp.Whole1
namespace Go.Proofs.YtdngkcieckejoaaGreat
section
open Go.RowKit
def RProofN : Nat → Reader PProof
 | 0 => fun _ _ _ _ => False
 | n + 1 => fun S w cs x => ∃ av kv,cs = [.string x.fact.name,av,.int .i64 x.rule,kv] ∧ RdStrs S w av x.fact.args ∧ RdSlice 4 (RProofN n) S w kv x.kids
theorem RProofN.steady : ∀ n,Steady (RProofN n)
 | 0 => ⟨fun _ h => h,fun _ h => h⟩
 | n + 1 => ⟨fun h ⟨av,kv,hc,r,q⟩ => ⟨av,kv,hc,r.agree ζS h,q.agree (RProofN.steady n) h⟩,fun h ⟨av,kv,hc,r,q⟩ => ⟨av,kv,hc,r.more ζS h,q.more (RProofN.steady n) h⟩⟩
theorem RProofN.mono : ∀ {n m : Nat} {S : Nat → Prop} {w : World} {cs : List Value} {x : PProof},n ≤ m → RProofN n S w cs x → RProofN m S w cs x
 | 0,_,_,_,_,_,_,h => h.elim
 | n + 1,0,_,_,_,_,h,_ => absurd h (by omega)
 | n + 1,m + 1,S,w,cs,x,h,⟨av,kv,hc,r,a,c,hv,h1,h2,h0,h3⟩ => ⟨av,kv,hc,r,a,c,hv,h1,h2,h0,fun i y hy =>
  let ⟨b,off,ks,ha,hS,hb,hk,hg,hr⟩ := h3 i y hy
  ⟨b,off,ks,ha,hS,hb,hk,hg,RProofN.mono (Nat.le_of_succ_le_succ h) hr⟩⟩
abbrev RdProofs (n : Nat) := RdSlice 4 (RProofN n)
theorem RdProofs.at {n : Nat} {S : Nat → Prop} {w : World} {a : Option Addr} {m cap : Nat} {l : List PProof} (h : RdProofs (n + 1) S w (.slice a m cap) l) {i : Nat} {x : PProof} (hx : l[i]? = some x) :
 ∃ b off av kv,a = some ⟨b,off,none⟩ ∧ S b ∧ b < w.heap.size ∧ w.cell? ⟨b,off + i * 4,none⟩ = some (.string x.fact.name) ∧ w.cell? ⟨b,off + i * 4 + 1,none⟩ = some av ∧ w.cell? ⟨b,off + i * 4 + 2,none⟩ = some (.int .i64 x.rule) ∧ w.cell? ⟨b,off + i * 4 + 3,none⟩ = some kv ∧ RdStrs S w av x.fact.args ∧ RdProofs n S w kv x.kids := by
 obtain ⟨a',cap',hv,_,_,_,h3⟩ := h
 obtain ⟨b,off,cs,ha,hS,hb,hk,hc,av,kv,rfl,hq,hp⟩ := h3 i x hx
 injection hv with e1 e2 e3
 subst e1
 exact ⟨b,off,av,kv,ha,hS,hb,by simpa using hc 0 _ rfl,by simpa using hc 1 _ rfl,by simpa using hc 2 _ rfl,by simpa using hc 3 _ rfl,hq,hp⟩
theorem RdProofs.zero {S : Nat → Prop} {w : World} {v : Value} {l : List PProof} (h : RdProofs 0 S w v l) : l = [] := by
 obtain ⟨a',cap',hv,_,_,_,h3⟩ := h
 cases l with
 | nil => rfl
 | cons x l => obtain ⟨b,off,cs,-,-,-,-,-,hr⟩ := h3 0 x rfl;exact hr.elim
def sumBy (c : PProof → Nat) (l : List PProof) : Nat := (l.map c).sum
def maxBy (d : PProof → Nat) (l : List PProof) : Nat := (l.map d).foldl max 0
theorem sumBy_snoc {c : PProof → Nat} {l : List PProof} {k : Nat} {x : PProof} (h : l[k]? = some x) : sumBy c (l.take (k + 1)) = sumBy c (l.take k) + c x := by
 unfold sumBy;rw [List.take_add_one,h,List.map_append,List.sum_append];simp
theorem maxBy_snoc {d : PProof → Nat} {l : List PProof} {k : Nat} {x : PProof} (h : l[k]? = some x) : maxBy d (l.take (k + 1)) = max (maxBy d (l.take k)) (d x) := by
 unfold maxBy;rw [List.take_add_one,h,List.map_append,List.foldl_append];rfl
theorem sumBy_le (c : PProof → Nat) : ∀ (l : List PProof) (k : Nat),sumBy c (l.take k) ≤ sumBy c l
 | [],k => by simp
 | x :: l,0 => by simp [sumBy]
 | x :: l,k + 1 => by have := sumBy_le c l k;unfold sumBy at *;rw [List.take_succ_cons,List.map_cons,List.map_cons,List.sum_cons,List.sum_cons];omega
theorem maxBy_lt (d : PProof → Nat) {B : Nat} : ∀ {l : List PProof},(∀ x ∈ l,d x ≤ B) → ∀ k,maxBy d (l.take k) ≤ B := by
 have main : ∀ (l : List PProof) (z : Nat),z ≤ B → (∀ x ∈ l,d x ≤ B) → (l.map d).foldl max z ≤ B := by
  intro l
  induction l with
  | nil => intro z hz _;exact hz
  | cons x l ih => intro z hz h;rw [List.map_cons,List.foldl_cons];exact ih _ (Nat.max_le.2 ⟨hz,h x (by simp)⟩) fun y hy => h y (by simp [hy])
 exact fun {l} h k => main (l.take k) 0 (Nat.zero_le _) fun x hx => h x (List.mem_of_mem_take hx)
attribute [local go_sem ↓] Go.wp_at_zero Go.wp_at_succ
set_option maxRecDepth 100000 in
set_option maxHeartbeats 0 in
theorem sizeWalk (c d : PProof → Nat) (nm av : Value) (rl : Int) (ka : Option Addr) (kc : Nat) (ks : List PProof) (w : World)
 (K : ∀ (i : Nat) (k : PProof),ks[i]? = some k → ∃ b off a1 n1 c1 a2 n2 c2,ka = some ⟨b,off,none⟩ ∧ b < w.heap.size ∧ w.cell? ⟨b,off + i * 4,none⟩ = some (.string k.fact.name) ∧ w.cell? ⟨b,off + i * 4 + 1,none⟩ = some (.slice a1 n1 c1) ∧ w.cell? ⟨b,off + i * 4 + 2,none⟩ = some (.int .i64 k.rule) ∧ w.cell? ⟨b,off + i * 4 + 3,none⟩ = some (.slice a2 n2 c2) ∧
  ∀ W,Below w.heap.size w W → Calls Tryz.prog 4 #[.agg #[.string k.fact.name,.slice a1 n1 c1,.int .i64 k.rule,.slice a2 n2 c2]] W fun e w' => e = .returned (.tuple #[.int .i64 (c k : Int),.int .i64 (d k : Int)]) ∧ Below W.heap.size W w')
 (hn : ks.length ≤ 1048576) (hc : sumBy c ks ≤ 1048576) (hd : ∀ k ∈ ks,d k ≤ 1048576) :
 Calls Tryz.prog 4 #[.agg #[nm,av,.int .i64 rl,.slice ka ks.length kc]] w fun e w' => e = .returned (.tuple #[.int .i64 ((1 + sumBy c ks : Nat) : Int),.int .i64 ((maxBy d ks + 1 : Nat) : Int)]) ∧ Below w.heap.size w w' := by
 have HK := ζ K
 have HD := ζ hd
 have HB0 := ζ ((ζb w.heap.size w).alloc (ζn _) (.cells #[nm,av,.int .i64 rl,.slice ka ks.length kc] 30))
 clear K hd
 go_enter Tryz.func4,Tryz.ntmps4
 go_wp2
 go_loopw [13,4,5] (fun i n m wr => ∃ k : Nat,k ≤ ks.length ∧ i = .int .i64 k ∧ n = .int .i64 ((1 + sumBy c (ks.take k) : Nat) : Int) ∧ m = .int .i64 ((maxBy d (ks.take k) : Nat) : Int) ∧ Hid (Below w.heap.size w wr)) (fun i _ _ _ => ks.length - (intOf i).toNat)
 case atStart => exact ⟨0,Nat.zero_le _,rfl,by simp [sumBy],by simp [maxBy],HB0⟩
 case round =>
  clear HB0
  obtain ⟨k,hk,rfl,rfl,rfl,HB⟩ := hrel
  by_cases hlt : k < ks.length
  ·obtain ⟨x,hx⟩ : ∃ x,ks[k]? = some x := ⟨_,ζe hlt⟩
   obtain ⟨b,off,a1,n1,c1,a2,n2,c2,rfl,hb,d0,d1,d2,d3,KC⟩ := HK.out k x hx
   have e0 := (ζl HB.out hb _).trans d0
   have e1 := (ζl HB.out hb _).trans d1
   have e2 := (ζl HB.out hb _).trans d2
   have e3 := (ζl HB.out hb _).trans d3
   have HS := ζ (sumBy_snoc (c := c) hx)
   have HM := ζ (maxBy_snoc (d := d) hx)
   have hs1 := sumBy_le c ks (k + 1)
   have hs0 := sumBy_le c ks k
   rw [HS.out] at hs1
   have hm0 := maxBy_lt d HD.out k
   have hdx := HD.out x (ζm hx)
   have HB2 := ζ (HB.out.alloc HB.out.size (.cells #[.string x.fact.name,.slice a1 n1 c1,.int .i64 x.rule,.slice a2 n2 c2] 30))
   have KX := ζ (KC _ HB2.out)
   have hmx : max ((maxBy d (ks.take k) : Nat) : Int) (d x : Int) = ((max (maxBy d (ks.take k)) (d x) : Nat) : Int) := by omega
   clear d0 d1 d2 d3 KC hx
   go_wp2_with (go_at_call 4;refine (KX.out).mono ?_;rintro e w3 ⟨rfl,hb3⟩;have HB3 := ζ (HB2.out.trans (hb3.mono HB2.out.size));clear hb3)
   go_roundw
   case rel => exact ⟨k + 1,by omega,by go_num,by rw [HS.out];exact congrArg _ (by omega),by rw [HM.out],HB3⟩
   case measure => simp [intOf];omega
  ·have htk : ks.take k = ks := List.take_of_length_le (by omega)
   have hmb : maxBy d ks ≤ 1048576 := by have := maxBy_lt d HD.out k;rwa [htk] at this
   rw [htk]
   go_wp2
   go_ret2
   exact ⟨rfl,HB.out⟩
theorem dep_cnt : ∀ (n : Nat) (x : PProof),depN n x ≤ cntN n x
 | 0,x => ζn _
 | n + 1,x => by
  have main : ∀ (l : List PProof),maxBy (depN n) l ≤ sumBy (cntN n) l := fun l => by
   have h1 : ∀ (l : List PProof) (z : Nat),(l.map (depN n)).foldl max z ≤ z + sumBy (cntN n) l := by
    intro l
    induction l with
    | nil => intro z;simp [sumBy]
    | cons y l ih =>
     intro z
     have h2 := ih (max z (depN n y))
     have h3 := dep_cnt n y
     unfold sumBy at *
     rw [List.map_cons,List.foldl_cons,List.map_cons,List.sum_cons]
     omega
   have := h1 l 0
   unfold maxBy
   omega
  have := main x.kids
  show maxBy (depN n) x.kids + 1 ≤ 1 + sumBy (cntN n) x.kids
  omega
theorem sumBy_mem {c : PProof → Nat} : ∀ {l : List PProof} {x : PProof},x ∈ l → c x ≤ sumBy c l
 | y :: l,x,h => by
  unfold sumBy
  rw [List.map_cons,List.sum_cons]
  rcases List.mem_cons.1 h with rfl | h
  ·omega
  ·have := sumBy_mem (c := c) h
   unfold sumBy at this
   omega
theorem sumBy_len (n : Nat) : ∀ (l : List PProof),l.length ≤ sumBy (cntN (n + 1)) l
 | [] => Nat.zero_le _
 | y :: l => by
  have := sumBy_len n l
  unfold sumBy at *
  rw [List.map_cons,List.sum_cons,List.length_cons]
  have h : 1 ≤ cntN (n + 1) y := Nat.le_add_right 1 _
  omega
theorem sizeCalls : ∀ (n : Nat) {S : Nat → Prop} (x : PProof) (nm av kv : Value) (rl : Int) (w : World),RdProofs n S w kv x.kids → cntN (n + 1) x ≤ 1048576 →
 Calls Tryz.prog 4 #[.agg #[nm,av,.int .i64 rl,kv]] w fun e w' => e = .returned (.tuple #[.int .i64 (cntN (n + 1) x : Int),.int .i64 (depN (n + 1) x : Int)]) ∧ Below w.heap.size w w'
 | 0,S,x,nm,av,kv,rl,w,h,hc => by
  obtain ⟨ka,kc,rfl,-,-,-⟩ := id h.form
  have h0 := h.zero
  exact sizeWalk (cntN 0) (depN 0) nm av rl ka kc x.kids w (fun i k hk => by rw [h0] at hk;simp at hk) (by rw [h0];simp) (by rw [h0];simp [sumBy]) (by rw [h0];simp)
 | n + 1,S,x,nm,av,kv,rl,w,h,hc => by
  obtain ⟨ka,kc,rfl,-,-,-⟩ := id h.form
  have hs : sumBy (cntN (n + 1)) x.kids ≤ 1048576 := by
   have h1 : cntN (n + 1 + 1) x = 1 + sumBy (cntN (n + 1)) x.kids := rfl
   omega
  refine sizeWalk (cntN (n + 1)) (depN (n + 1)) nm av rl ka kc x.kids w (fun i k hk => ?_) (Nat.le_trans (sumBy_len n _) hs) hs fun k hk => Nat.le_trans (dep_cnt _ _) (Nat.le_trans (sumBy_mem hk) hs)
  obtain ⟨b,off,av',kv',ha,-,hb,d0,d1,d2,d3,hra,hrk⟩ := h.at hk
  obtain ⟨a1,c1,rfl,-,-,-⟩ := id hra.form
  obtain ⟨a2,c2,rfl,-,-,-⟩ := id hrk.form
  exact ⟨b,off,a1,_,c1,a2,_,c2,ha,hb,d0,d1,d2,d3,fun W hW => sizeCalls n k _ _ _ _ W (RdSlice.agree (RProofN.steady n) (Below.agree hW) hrk) (Nat.le_trans (sumBy_mem (ζm hk)) hs)⟩
def keyP (f : PFact) : Str := f.args.foldl (fun s a => s ++ ((⟨#[44]⟩ : Str) ++ a)) f.name
theorem foldl_snoc {α β : Type} {g : β → α → β} {l : List α} {k : Nat} {x : α} {z : β} (h : l[k]? = some x) : (l.take (k + 1)).foldl g z = g ((l.take k).foldl g z) x := by rw [List.take_add_one,h,List.foldl_append];rfl
set_option maxRecDepth 100000 in
set_option maxHeartbeats 0 in
theorem keyCalls {S : Nat → Prop} (f : PFact) (b off : Nat) (av : Value) (w : World) (h0 : w.cell? ⟨b,off,none⟩ = some (.string f.name)) (h1 : w.cell? ⟨b,off + 1,none⟩ = some av) (ha : RdStrs S w av f.args)
 (n1 : f.name.size ≤ 1048576) (n2 : f.args.length ≤ 1048576) (n3 : ∀ a ∈ f.args,a.size ≤ 1048576) :
 Calls Tryz.prog 22 #[.pointer (some ⟨b,off,none⟩)] w fun e w' => e = .returned (.string (keyP f)) ∧ w' = w := by
 obtain ⟨fn,fa⟩ := f
 dsimp only at *
 obtain ⟨a,c,rfl,-,-,-⟩ := id ha.form
 have H := ζ ha
 have N3 := ζ n3
 have HZ0 := ζ (show fn = (fa.take 0).foldl (fun s a => s ++ ((⟨#[44]⟩ : Str) ++ a)) fn from rfl)
 have HE := ζ (show keyP ⟨fn,fa⟩ = fa.foldl (fun s a => s ++ ((⟨#[44]⟩ : Str) ++ a)) fn from rfl)
 clear ha n3
 go_enter Tryz.func22,Tryz.ntmps22
 go_wp2
 go_loop [15,3] (fun i s => ∃ (k : Nat) (z : Str),k ≤ fa.length ∧ i = .int .i64 k ∧ s = .string z ∧ Hid (z = (fa.take k).foldl (fun s a => s ++ ((⟨#[44]⟩ : Str) ++ a)) fn) ∧ Hid (z.size ≤ 1048576 + k * 1048577)) (fun i _ => fa.length - (intOf i).toNat)
 case atStart => exact ⟨0,fn,Nat.zero_le _,rfl,rfl,HZ0,ζ (by omega)⟩
 case round =>
  clear HZ0
  obtain ⟨k,z,hk,rfl,rfl,HZ,HS⟩ := hrel
  by_cases hlt : k < fa.length
  ·obtain ⟨x,hx⟩ : ∃ x,fa[k]? = some x := ⟨_,ζe hlt⟩
   obtain ⟨b1,o1,rfl,-,-,d1⟩ := RdStrs.at H.out hx
   have hxs := N3.out x (ζm hx)
   have HF := ζ (show z ++ ((⟨#[44]⟩ : Str) ++ x) = (fa.take (k + 1)).foldl (fun s a => s ++ ((⟨#[44]⟩ : Str) ++ a)) fn by rw [foldl_snoc hx,HZ.out])
   have hzs := HS.out
   clear hx HZ HS
   go_wp2
   go_round
   case rel => exact ⟨k + 1,_,by omega,by go_num,rfl,HF,ζ (by rw [ByteArray.size_append,ByteArray.size_append,show (⟨#[44]⟩ : ByteArray).size = 1 from rfl];omega)⟩
   case measure => simp [intOf];omega
  ·have htk : fa.take k = fa := List.take_of_length_le (by omega)
   rw [htk] at HZ
   go_wp2
   go_ret
   exact ⟨by rw [HE.out,← HZ.out];rfl,rfl⟩
theorem key_foldl : ∀ (l : List Str) (z : Str),(∀ a ∈ l,a.size ≤ 12) → (l.foldl (fun s a => s ++ ((⟨#[44]⟩ : Str) ++ a)) z).size ≤ z.size + 13 * l.length
 | [],z,_ => by simp
 | a :: l,z,h => by
  have h1 := key_foldl l (z ++ ((⟨#[44]⟩ : Str) ++ a)) fun y hy => h y (by simp [hy])
  rw [ByteArray.size_append,ByteArray.size_append,show (⟨#[44]⟩ : ByteArray).size = 1 from rfl] at h1
  have h2 := h a (by simp)
  rw [List.foldl_cons,List.length_cons]
  omega
theorem key_size {f : PFact} (h1 : f.name.size ≤ 12) (h2 : f.args.length ≤ 4) (h3 : ∀ a ∈ f.args,a.size ≤ 12) : (keyP f).size ≤ maxLen := by
 have hm : (64 : Nat) ≤ maxLen := by simp [maxLen]
 have h4 : f.name.size + 13 * f.args.length ≤ 64 := by omega
 exact Nat.le_trans (key_foldl f.args f.name h3) (Nat.le_trans h4 hm)
end
section
open Go.RowKit
set_option maxRecDepth 100000 in
set_option maxHeartbeats 0 in
theorem with1Calls {S S2 S3 : Nat → Prop} (a : PAtom) (tv : Value) (fs : List PFact) (fv : Value) (A L : Nat) (lv : Value) (l : Binds) (w : World)
 (a0 : Blk w A 78 #[.bool a.neg,.string a.name,tv]) (l0 : Blk w L 24 #[fv]) (ht : RdTerms S w tv a.terms) (hf : RdFacts S2 w fv fs) (hl : RdBinds S3 w lv l) (hr : Rising fs)
 (n1 : a.terms.length ≤ 1048576) (n2 : l.length ≤ 1073741824) (n3 : fs.length ≤ 1048576) (n4 : ∀ f ∈ fs,f.args.length ≤ 1048576) :
 Calls Tryz.prog 101 #[lv,.pointer (some ⟨A,0,none⟩),.pointer (some ⟨L,0,none⟩)] w fun e w' => e = .returned (.bool (hitP a fs l)) ∧ Below w.heap.size w w' := by
 obtain ⟨ta,tc,rfl,-,-,-⟩ := id ht.form
 obtain ⟨fa,fc,rfl,-,-,-⟩ := id hf.form
 obtain ⟨xa,xc,rfl,-,-,-⟩ := id hl.form
 have K := ζ (fillCalls a (.slice ta a.terms.length tc) (.slice xa l.length xc) l w ht hl n1 n2)
 have c0 : w.cell? ⟨A,0,none⟩ = some (.bool a.neg) := a0.cell 0
 have c1 : w.cell? ⟨A,1,none⟩ = some (.string a.name) := a0.cell 1
 have c2 : w.cell? ⟨A,2,none⟩ = some (.slice ta a.terms.length tc) := a0.cell 2
 have HL0 := ζ l0
 have HF := ζ hf
 have HR := ζ hr
 have N4 := ζ n4
 have HH := ζ (show hitP a fs l = match fillP a l with | none => false | some f => memF f fs from rfl)
 clear ht hf hl a0 l0 hr n4
 cases hm : fillP a l with
 | none =>
  rw [hm] at HH
  have KN := ζ ((K.out).mono (R' := fun e w' => e = .returned (.tuple #[.agg #[.string ⟨#[]⟩,.slice none 0 0],.bool false]) ∧ Below w.heap.size w w') fun e w' ⟨h1,h2⟩ => by rw [hm] at h2;exact ⟨h2,h1⟩)
  clear hm K
  go_enter Tryz.func101,Tryz.ntmps101
  go_wp2_with (go_at_call 31;refine (KN.out).mono ?_;rintro e w1 ⟨rfl,hb1⟩;have HB1 := ζ hb1;clear hb1)
  go_ret
  exact ⟨ret_bool HH.out.symm,HB1.out.alloc (Below.size HB1.out) _⟩
 | some f =>
  rw [hm] at HH
  have HAL := ζ (show f.args.length ≤ 1048576 by have := fillArgs_len (fillP_name hm).2;omega)
  have KN := ζ ((K.out).mono (R' := fun e w' => (∃ v,e = .returned (.tuple #[.agg #[.string f.name,v],.bool true]) ∧ RdStrs (New w) w' v f.args) ∧ Below w.heap.size w w') fun e w' ⟨h1,h2⟩ => by rw [hm] at h2;exact ⟨h2,h1⟩)
  clear hm K
  go_enter Tryz.func101,Tryz.ntmps101
  go_wp2_with (first
   | (go_at_call 31;refine (KN.out).mono ?_;rintro e w1 ⟨⟨v1,rfl,hr1⟩,hb1⟩;obtain ⟨ga,gc,rfl,-,-,-⟩ := id hr1.form;have HB1 := ζ hb1;have HR1 := ζ hr1;have l1 : w1.cell? ⟨L,0,none⟩ = some (.slice fa fs.length fc) := (HL0.out.below hb1 HL0.out.lt).cell 0;have hlt1 : L < w1.heap.size := Nat.lt_of_lt_of_le HL0.out.lt hb1.size;clear hb1 hr1)
   | (go_at_call 17;refine (inFact (.slice fa fs.length fc) fs f (.slice ga f.args.length gc) _ (HF.out.up (HB1.out.alloc (Below.size HB1.out) _)) (HR1.out.agree ζS ((Agree.refl _ _).alloc _)) HR.out (by omega) (fun x hx => by have := N4.out x hx;omega)).mono ?_;rintro e w2 ⟨rfl,hf2⟩;have HB2 := ζ ((HB1.out.alloc (Below.size HB1.out) (.cells #[.string f.name,.slice ga f.args.length gc] 27)).trans (hf2.below.mono (by have := Below.size HB1.out;simp;omega)));clear hf2))
  go_ret
  exact ⟨ret_bool HH.out.symm,HB2.out⟩
end
section
open Go.RowKit
section
variable {α : Type} [DecidableEq α]
def snocC (acc : List α) (x : α) : List α := if acc.getLast? = some x then acc else acc ++ [x]
def compactL (l : List α) : List α := l.foldl snocC []
theorem compactL_snoc (l : List α) (x : α) : compactL (l ++ [x]) = snocC (compactL l) x := by simp [compactL,List.foldl_append]
theorem compactL_take_succ {l : List α} {n : Nat} {x : α} (h : l[n]? = some x) : compactL (l.take (n + 1)) = snocC (compactL (l.take n)) x := by
 rw [List.take_add_one,h];exact compactL_snoc _ _
theorem snocC_last (acc : List α) (x : α) : (snocC acc x).getLast? = some x := by
 unfold snocC
 split
 ·assumption
 ·simp
theorem compactL_last {l : List α} {n : Nat} {x : α} (h : l[n]? = some x) : (compactL (l.take (n + 1))).getLast? = some x := by
 rw [compactL_take_succ h];exact snocC_last _ _
theorem compactL_same {l : List α} {n : Nat} {x : α} (h : l[n]? = some x) (k : l[n + 1]? = some x) : compactL (l.take (n + 2)) = compactL (l.take (n + 1)) := by
 rw [compactL_take_succ k,snocC,if_pos (compactL_last h)]
theorem compactL_other {l : List α} {n : Nat} {x y : α} (h : l[n]? = some x) (k : l[n + 1]? = some y) (hne : x ≠ y) : compactL (l.take (n + 2)) = compactL (l.take (n + 1)) ++ [y] := by
 rw [compactL_take_succ k,snocC,if_neg (by rw [compactL_last h];intro e;exact hne (Option.some.inj e))]
theorem compactL_apart {l : List α} : ∀ n,n ≤ l.length → (∀ p x y,p + 1 < n → l[p]? = some x → l[p + 1]? = some y → x ≠ y) → compactL (l.take n) = l.take n
 | 0,_,_ => by simp [compactL]
 | 1,hn,_ => by
  obtain ⟨x,hx⟩ : ∃ x,l[0]? = some x := ⟨_,ζe (by omega)⟩
  rw [compactL_take_succ hx,List.take_add_one,hx]
  simp [compactL,snocC]
 | n + 2,hn,h => by
  obtain ⟨x,hx⟩ : ∃ x,l[n]? = some x := ⟨_,ζe (by omega)⟩
  obtain ⟨y,hy⟩ : ∃ y,l[n + 1]? = some y := ⟨_,ζe (by omega)⟩
  rw [compactL_other hx hy (h n x y (by omega) hx hy),compactL_apart (n + 1) (by omega) (fun p a b hp => h p a b (by omega)),List.take_add_one (i := n + 1),hy]
  rfl
theorem mem_compactL (l : List α) (x : α) : ∀ n,x ∈ compactL (l.take n) ↔ x ∈ l.take n
 | 0 => by simp [compactL]
 | n + 1 => by
  cases h : l[n]? with
  | none => rw [List.take_add_one,h];simpa using mem_compactL l x n
  | some y =>
   rw [compactL_take_succ h,List.take_add_one,h,snocC]
   have ih := mem_compactL l x n
   split
   ·rename_i hl
    rw [ih]
    have : y ∈ l.take n := (mem_compactL l y n).1 (List.mem_of_getLast? hl)
    simp only [Option.toList_some,List.mem_append,List.mem_singleton]
    constructor
    ·exact .inl
    ·rintro (h | rfl)
     ·exact h
     ·exact this
   ·simp [ih]
end
theorem compact_rising {l : List PFact} (hs : l.Pairwise fun a b => ¬ cmpFact b a < 0) : ∀ n,Rising (compactL (l.take n))
 | 0 => by simp [compactL,Rising]
 | n + 1 => by
  cases h : l[n]? with
  | none => rw [List.take_add_one,h];simpa using compact_rising hs n
  | some y =>
   rw [compactL_take_succ h,snocC]
   have ih := compact_rising hs n
   split
   ·exact ih
   ·rename_i hl
    refine List.pairwise_append.2 ⟨ih,by simp,fun a ha b hb => ?_⟩
    obtain rfl := List.mem_singleton.1 hb
    have ha' := (mem_compactL l a n).1 ha
    obtain ⟨p,hp⟩ := List.mem_iff_getElem?.1 ha'
    have hpn : p < n := by
     have := (List.getElem?_eq_some_iff.1 hp).1
     rw [List.length_take] at this;omega
    rw [List.getElem?_take_of_lt hpn] at hp
    obtain ⟨h1,rfl⟩ := List.getElem?_eq_some_iff.1 hp
    obtain ⟨h2,rfl⟩ := List.getElem?_eq_some_iff.1 h
    have h3 := List.pairwise_iff_getElem.1 hs p n h1 h2 hpn
    have hne : l[p] ≠ l[n] := by
     intro e
     apply hl
     obtain ⟨m,rfl⟩ : ∃ m,n = m + 1 := ⟨n - 1,by omega⟩
     have hm : l[m]? = some l[m] := ζe (by omega)
     rw [compactL_last hm]
     congr 1
     by_cases hpm : p = m
     ·subst hpm;exact e
     ·have q1 := List.pairwise_iff_getElem.1 hs p m h1 (by omega) (by omega)
      have q2 := List.pairwise_iff_getElem.1 hs m (m + 1) (by omega) h2 (by omega)
      rw [e] at q1
      have := cmpFact3.anti l[m] l[m + 1]
      have := cmpFact3.anti l[m + 1] l[m]
      exact (cmpFact3.zero _ _).1 (by omega)
    simp only [ltF,decide_eq_true_eq]
    have := cmpFact3.ne_zero hne
    have := cmpFact3.anti l[n] l[p]
    omega
theorem compact_of {l l' : List PFact} (hp : l'.Perm l) (hs : l'.Pairwise fun a b => ¬ cmpFact b a < 0) : compactL l' = ofF l := by
 have h := compact_rising hs l'.length
 rw [List.take_length] at h
 refine rising_ext h (ofF_rising l) fun x => ?_
 have := mem_compactL l' x l'.length
 rw [List.take_length] at this
 rw [this,hp.mem_iff,mem_ofF]
theorem flatten_set2 : ∀ (css : List (List Value)),(∀ cs ∈ css,cs.length = 2) → ∀ i a b,i < css.length → (css.flatten.set (i * 2) a).set (i * 2 + 1) b = (css.set i [a,b]).flatten
 | [],_,i,_,_,h => by simp at h
 | c :: css,hk,0,a,b,_ => by
  have hc : c.length = 2 := hk c (by simp)
  match c,hc with
  | [x,y],_ => simp
 | c :: css,hk,i + 1,a,b,h => by
  have hc : c.length = 2 := hk c (by simp)
  match c,hc with
  | [x,y],_ =>
   have := flatten_set2 css (fun c hc => hk c (by simp [hc])) i a b (by simpa using h)
   simp only [List.flatten_cons,List.cons_append,List.nil_append,List.set_cons_succ]
   rw [show (i + 1) * 2 + 1 = (i * 2 + 1) + 1 + 1 by omega,show (i + 1) * 2 = i * 2 + 1 + 1 by omega]
   simp only [List.set_cons_succ]
   rw [this]
theorem run_clear_own {P : Program} {t ty e : TypeId} {k : Nat} {z : Value} (hk : 0 < k) (ht : P.underlying t = some (.slice e)) (hz : ∀ w,(zeroValue e).run P w = .ok z w) (hzs : z.cells.size = k) (hz1 : ∀ u ∈ z.cells,u.oneCell' = true)
 {w : World} {B g n cap : Nat} {xs : List Value} (hown : w.ownsRow B e k (.slice (some ⟨g,0,none⟩) n cap) n xs) (i c : Nat) (hi : i ≤ n) :
 ∃ w',(Builtin.clear_ #[t] ty #[.slice (some ⟨g,i * k,none⟩) (n - i) c]).run P w = .ok (.tuple #[]) w' ∧ w'.ownsRow B e k (.slice (some ⟨g,0,none⟩) i cap) i (xs.take (i * k)) ∧ w.grownBy w' (some g) := by
 obtain ⟨hlen,hrow⟩ := hown
 rcases hrow with ⟨hv,_⟩ | ⟨g',cap',cur,hv,hb,hg,hn,hcm,hcs,htake⟩
 ·cases hv
 ·injection hv with h1 h2 h3
  injection h1 with h1
  injection h1 with h1 _ _
  subst h1;subst h3
  have hik : i * k ≤ n * k := Nat.mul_le_mul_right _ hi
  have hnk : n * k ≤ cap * k := Nat.mul_le_mul_right _ hn
  by_cases h0 : n - i = 0
  ·obtain rfl : i = n := by omega
   refine ⟨w,?_,?_,⟨rfl,rfl,rfl,ζn _,fun _ _ _ => rfl⟩⟩
   ·rw [h0]
    simp [Builtin.clear_,run_underlying ht]
   ·exact ⟨by rw [List.length_take,hlen];omega,.inr ⟨g,cap,cur,rfl,hb,hg,hn,hcm,hcs,by rw [htake,List.take_of_length_le (by omega)]⟩⟩
  ·have hzl : (Builtin.zeroCells z.cells (n - i)).toList.length = (n - i) * k := by rw [Array.length_toList,size_zeroCells,hzs]
   have hsub : (n - i) * k = n * k - i * k := Nat.sub_mul _ _ _
   have hst := run_storeCells_at P g (i * k) e (Builtin.zeroCells z.cells (n - i)).toList 0 cur w hg (by rw [hzl,hsub,hcs];omega)
    (by
     intro u hu
     simp only [Builtin.zeroCells,Array.toList_map,List.mem_map] at hu
     obtain ⟨q,_,rfl⟩ := hu
     have hq : q % z.cells.size < z.cells.size := Nat.mod_lt _ (by omega)
     rw [getElem!_pos z.cells _ hq]
     exact hz1 _ (Array.getElem_mem _))
   simp only [Nat.add_zero] at hst
   obtain ⟨nw,hnw⟩ : ∃ nw,(cur.toList.take (i * k) ++ (Builtin.zeroCells z.cells (n - i)).toList ++ cur.toList.drop (i * k + (Builtin.zeroCells z.cells (n - i)).toList.length)).toArray = nw := ⟨_,rfl⟩
   rw [hnw] at hst
   refine ⟨w.setRow g nw,?_,⟨by rw [List.length_take,hlen];omega,.inr ⟨g,cap,nw,rfl,hb,setRow_heap w g cur nw e _ hg,by omega,hcm,?_,?_⟩⟩,⟨rfl,rfl,rfl,by simp,fun q _ hq => setRow_other w g q _ (fun e => hq (by rw [e]))⟩⟩
   ·obtain ⟨m,hm⟩ : ∃ m,n - i = m + 1 := ⟨n - i - 1,by omega⟩
    rw [hm] at hst ⊢
    simp [Builtin.clear_,run_underlying ht,hz,hst]
   ·rw [← hnw]
    simp only [List.size_toArray,List.length_append,List.length_take,List.length_drop,Array.length_toList,hzl,hsub,hcs]
    omega
   ·rw [← htake,← hnw]
    simp only [List.append_assoc,List.take_append,List.length_take,Array.length_toList,List.take_take]
    rw [hcs,Nat.min_eq_left (by omega : i * k ≤ cap * k),Nat.sub_self,List.take_zero,Nat.zero_sub,List.take_zero,List.append_nil,List.append_nil,Nat.min_self,Nat.min_eq_left hik]
end
section
open Go.RowKit
theorem singles (zs : List VB) : (zs.map fun z => [z.1]).flatten = zs.map (·.1) := by
 induction zs with
 | nil => rfl
 | cons z zs ih => simp only [List.map_cons,List.flatten_cons,ih];rfl
theorem OV.row {B : Nat} {w : World} {v : Value} {zs : List VB} (h : OV B w v zs) : w.ownsRow B 82 1 v zs.length (zs.map (·.1)) ∧ ∀ z ∈ zs,z.1.oneCell' = true := by
 obtain ⟨css,h1,h2,h3,h4⟩ := h
 have hcss : css = zs.map fun z => [z.1] := by
  refine List.ext_getElem? fun i => ?_
  rw [List.getElem?_map]
  cases hz : zs[i]? with
  | none => exact List.getElem?_eq_none (by rw [h1];exact List.getElem?_eq_none_iff.1 hz)
  | some z =>
   have hi := (List.getElem?_eq_some_iff.1 hz).1
   have hc : css[i]? = some css[i] := ζe (by omega)
   obtain ⟨he,-⟩ := h4 i _ z hc hz
   rw [hc,he];rfl
 refine ⟨by rw [hcss,singles] at h3;exact h3,fun z hz => ?_⟩
 obtain ⟨i,hi⟩ := List.mem_iff_getElem?.1 hz
 have hlt := (List.getElem?_eq_some_iff.1 hi).1
 exact (h4 i _ z (ζe (by omega)) hi).2
theorem OV.of_row {B : Nat} {w : World} {v : Value} {zs : List VB} (h : w.ownsRow B 82 1 v zs.length (zs.map (·.1))) (h1 : ∀ z ∈ zs,z.1.oneCell' = true) : OV B w v zs := by
 refine ⟨zs.map fun z => [z.1],by simp,?_,by rw [singles];exact h,?_⟩
 ·intro cs hcs
  obtain ⟨z,-,rfl⟩ := List.mem_map.1 hcs
  rfl
 ·intro i cs x hc hx
  rw [List.getElem?_map,hx] at hc
  obtain rfl := Option.some.inj hc
  exact ⟨rfl,h1 x (ζm hx)⟩
def hitFrom {α : Type} (q : α → Bool) : Nat → List α → Int
 | _,[] => -1
 | k,y :: l => if q y then k else hitFrom q (k + 1) l
theorem hitFrom_cases {α : Type} (q : α → Bool) : ∀ (l : List α) (k : Nat),(hitFrom q k l = -1 ∧ ∀ z ∈ l,q z = false) ∨ ∃ (i : Nat) (x : α),l[i]? = some x ∧ hitFrom q k l = (k : Int) + i ∧ q x = true ∧ ∀ z ∈ l.take i,q z = false
 | [],k => .inl ⟨rfl,by simp⟩
 | y :: l,k => by
  unfold hitFrom
  by_cases h : q y = true
  ·rw [if_pos h];exact .inr ⟨0,y,rfl,by simp,h,by simp⟩
  ·rw [if_neg h]
   rcases hitFrom_cases q l (k + 1) with ⟨h1,h2⟩ | ⟨i,x,h1,h2,h3,h4⟩
   ·refine .inl ⟨h1,fun z hz => ?_⟩
    rcases List.mem_cons.1 hz with rfl | hz
    ·simpa using h
    ·exact h2 z hz
   ·refine .inr ⟨i + 1,x,by simpa using h1,by rw [h2];omega,h3,fun z hz => ?_⟩
    rw [List.take_succ_cons] at hz
    rcases List.mem_cons.1 hz with rfl | hz
    ·simpa using h
    ·exact h4 z hz
def Asks (G : World → Prop) (A L : Nat) (q : VB → Bool) (zs : List VB) : Prop :=
 ∀ W,G W → ∀ z ∈ zs,Calls Tryz.prog 101 #[z.1,.pointer (some ⟨A,0,none⟩),.pointer (some ⟨L,0,none⟩)] W fun e w' => e = .returned (.bool (q z)) ∧ Below W.heap.size W w'
theorem OV.cellAt {B : Nat} {w : World} {a : Option Addr} {n c : Nat} {zs : List VB} (h : OV B w (.slice a n c) zs) {i : Nat} {z : VB} (hz : zs[i]? = some z) : ∃ g,a = some ⟨g,0,none⟩ ∧ g < w.heap.size ∧ w.cell? ⟨g,i,none⟩ = some z.1 := by
 have hi := (List.getElem?_eq_some_iff.1 hz).1
 obtain ⟨h1,-⟩ := h.row
 have h2 := h1
 rcases h2.2 with ⟨-,h0⟩ | ⟨g,cap,cur,hv,-,hg,-⟩
 ·omega
 ·injection hv with e1 e2 e3
  subst e1
  refine ⟨g,rfl,(Array.getElem?_eq_some_iff.1 hg).1,?_⟩
  rw [e2] at h1
  rw [h1.cellAt i (by omega),List.getElem?_map,hz]
  rfl
set_option maxRecDepth 100000 in
set_option maxHeartbeats 0 in
theorem indexFuncBinds {G : World → Prop} {B A L : Nat} {q : VB → Bool} (v : Value) (zs : List VB) (w : World) (h : OV B w v zs) (hG : G w) (hB : ∀ W W',G W → Below W.heap.size W W' → G W') (K : Asks G A L q zs) (n1 : zs.length ≤ 1099511627776) :
 Calls Tryz.prog 107 #[v,.func (.func 101) #[] #[.pointer (some ⟨A,0,none⟩),.pointer (some ⟨L,0,none⟩)]] w fun e w' => e = .returned (.int .i64 (hitFrom q 0 zs)) ∧ Below w.heap.size w w' := by
 obtain ⟨a,c,rfl,-,-,-⟩ := id (h.read RPair.steady).form
 have H := ζ h
 have HK := ζ K
 have HGB := ζ hB
 have HG := ζ hG
 clear h K hB hG
 go_enter Tryz.func107,Tryz.ntmps107
 go_wp2
 go_loopw [8,5] (fun i _ wr => ∃ k : Nat,k ≤ zs.length ∧ i = .int .i64 k ∧ Hid (hitFrom q 0 zs = hitFrom q k (zs.drop k)) ∧ Hid (Below w.heap.size w wr) ∧ Hid (G wr)) (fun i _ _ => zs.length - (intOf i).toNat)
 case atStart => exact ⟨0,Nat.zero_le _,rfl,ζ rfl,ζ (ζb _ _),HG⟩
 case round =>
  obtain ⟨k,hk,rfl,HR,HB,HGW⟩ := hrel
  by_cases hlt : k < zs.length
  ·obtain ⟨z,hx⟩ : ∃ z,zs[k]? = some z := ⟨_,ζe hlt⟩
   obtain ⟨g,rfl,hgl,hc⟩ := OV.cellAt (H.out.below RPair.steady HB.out) hx
   have HD := ζ (show hitFrom q 0 zs = if q z then (k : Int) else hitFrom q (k + 1) (zs.drop (k + 1)) by rw [HR.out,drop_cons hx];rfl)
   have KZ := ζ (HK.out wr HGW.out z (ζm hx))
   clear hx HR
   cases hq : q z
   ·rw [hq,if_neg (by simp)] at HD
    rw [hq] at KZ
    clear hq
    go_wp2_with (go_at_call 101;refine (KZ.out).mono ?_;rintro e w1 ⟨rfl,hb1⟩;have HB1 := ζ (HB.out.trans (hb1.mono (Below.size HB.out)));have HG1 := ζ (HGB.out _ _ HGW.out hb1);clear hb1)
    go_roundw
    case rel => exact ⟨k + 1,by omega,by go_num,HD,HB1,HG1⟩
    case measure => simp [intOf];omega
   ·rw [hq,if_pos rfl] at HD
    rw [hq] at KZ
    clear hq
    go_wp2_with (go_at_call 101;refine (KZ.out).mono ?_;rintro e w1 ⟨rfl,hb1⟩;have HB1 := ζ (HB.out.trans (hb1.mono (Below.size HB.out)));clear hb1)
    go_ret
    exact ⟨ret_int HD.out.symm,HB1.out⟩
  ·have HE := ζ (show hitFrom q 0 zs = -1 by rw [HR.out,drop_end (by omega)];rfl)
   go_wp2
   go_ret
   exact ⟨ret_int HE.out.symm,HB.out⟩
structure Half (w : World) (B g n cap : Nat) (q : VB → Bool) (zs : List VB) (i j : Nat) (xs : List Value) : Prop where
 own : w.ownsRow B 82 1 (.slice (some ⟨g,0,none⟩) n cap) n xs
 hd : xs.take i = ((zs.take j).filter fun z => !q z).map (·.1)
 tl : xs.drop j = (zs.drop j).map (·.1)
 lt : i < j
 le : j ≤ n
section
variable {w w' : World} {B g n cap : Nat} {q : VB → Bool} {zs : List VB} {i j : Nat} {xs : List Value}
theorem Half.glt (h : Half w B g n cap q zs i j xs) : B ≤ g ∧ g < w.heap.size := h.own.lt g rfl
theorem Half.len (h : Half w B g n cap q zs i j xs) : xs.length = n := by have := h.own.1;omega
theorem Half.kept (h : Half w B g n cap q zs i j xs) (hb : Below w.heap.size w w') : Half w' B g n cap q zs i j xs :=
 ⟨h.own.kept (row := none) ⟨hb.os,hb.tape,hb.output,hb.size,fun k hk _ => hb.block k hk⟩ (.inr (by simp [Value.ownBlock])),h.hd,h.tl,h.lt,h.le⟩
theorem Half.cell (h : Half w B g n cap q zs i j xs) {z : VB} (hz : zs[j]? = some z) (hj : j < n) : w.cell? ⟨g,j,none⟩ = some z.1 := by
 rw [h.own.cellAt j (by omega)]
 have h1 : (xs.drop j)[0]? = ((zs.drop j).map (·.1))[0]? := by rw [h.tl]
 rw [List.getElem?_drop,List.getElem?_map,List.getElem?_drop,Nat.add_zero,hz] at h1
 exact h1
theorem Half.skip (h : Half w B g n cap q zs i j xs) {z : VB} (hz : zs[j]? = some z) (hj : j < n) (hq : q z = true) : Half w B g n cap q zs i (j + 1) xs :=
 ⟨h.own,by rw [h.hd,List.take_add_one,hz];simp [hq],by have := congrArg (List.drop 1) h.tl;rwa [List.drop_drop,← List.map_drop,List.drop_drop] at this,by have := h.lt;omega,hj⟩
theorem Half.put (h : Half w B g n cap q zs i j xs) {z : VB} (hz : zs[j]? = some z) (hj : j < n) (hq : q z = false) : Half (w.setCell ⟨g,i,none⟩ z.1) B g n cap q zs (i + 1) (j + 1) (xs.set i z.1) :=
 ⟨(h.own.stored i z.1).1,by
   have hi : i < xs.length := by have := h.lt;have := h.len;omega
   rw [List.take_add_one,List.take_set_of_le (ζn _),h.hd,List.getElem?_set_self hi,List.take_add_one,hz]
   simp [hq],by
   have h1 := congrArg (List.drop 1) h.tl
   rw [List.drop_drop,← List.map_drop,List.drop_drop] at h1
   rw [List.drop_set_of_lt (by have := h.lt;omega)]
   exact h1,by have := h.lt;omega,hj⟩
theorem Half.spot (h : Half w B g n cap q zs i j xs) : ∃ d,w.cell? ⟨g,i,none⟩ = some d ∧ w.frozen? ⟨g,i,none⟩ = false := by
 have hi : i < xs.length := by have := h.lt;have := h.len;have := h.le;omega
 refine ⟨_,by rw [h.own.cellAt i (by have := h.len;omega)];exact ζe hi,h.own.frozenAt _⟩
end
theorem filter_none {α : Type} {q : α → Bool} {zs : List α} (h : ∀ z ∈ zs,q z = false) : zs.filter (fun z => !q z) = zs := List.filter_eq_self.2 fun z hz => by rw [h z hz];rfl
set_option maxRecDepth 100000 in
set_option maxHeartbeats 0 in
theorem deleteBinds {B A L : Nat} {q : VB → Bool} (v : Value) (zs : List VB) (w : World) (h : OV B w v zs) (K : Asks (fun W => w.grownBy W v.ownBlock) A L q zs) (hs : ∀ z ∈ zs,∃ a n c,z.1 = .slice a n c) (n1 : zs.length ≤ 1073741824) :
 Calls Tryz.prog 100 #[v,.func (.func 101) #[] #[.pointer (some ⟨A,0,none⟩),.pointer (some ⟨L,0,none⟩)]] w fun e w' =>
  (∃ v',e = .returned v' ∧ OV B w' v' (zs.filter fun z => !q z) ∧ v'.ownBlock = v.ownBlock) ∧ w.grownBy w' v.ownBlock := by
 have KI := ζ (indexFuncBinds v zs w h (World.grownBy.refl w _) (fun W W' hW hb => hW.trans ⟨hb.os,hb.tape,hb.output,hb.size,fun k hk _ => hb.block k hk⟩) K (by omega))
 rcases hitFrom_cases q zs 0 with ⟨e1,e2⟩ | ⟨i0,x,hx,e1,e2,e3⟩
 ·rw [e1] at KI
  obtain ⟨a,c,rfl,-,-,-⟩ := id (h.read RPair.steady).form
  have H := ζ h
  have HFE := ζ (filter_none e2)
  clear h K e1 e2 hs
  go_enter Tryz.func100,Tryz.ntmps100
  go_wp2_with (go_at_call 107;refine (KI.out).mono ?_;rintro e w1 ⟨rfl,hb1⟩;have HB1 := ζ hb1;clear hb1)
  go_ret
  exact ⟨⟨_,rfl,by rw [HFE.out];exact H.out.below RPair.steady HB1.out,rfl⟩,HB1.out.os,HB1.out.tape,HB1.out.output,HB1.out.size,fun k hk _ => HB1.out.block k hk⟩
 ·rw [e1,Int.natCast_zero,Int.zero_add] at KI
  have hin := (List.getElem?_eq_some_iff.1 hx).1
  obtain ⟨ho,h1⟩ := h.row
  rcases id ho.2 with ⟨-,h0⟩ | ⟨g,cap,cur,rfl,hBg,hg,hnc,hcm,-⟩
  ·omega
  obtain ⟨n,hn⟩ : ∃ n,zs.length = n := ⟨_,rfl⟩
  rw [hn] at ho hin n1 hnc KI K ⊢
  have HH := ζ (show Half w B g n cap q zs i0 (i0 + 1) (zs.map (·.1)) from ⟨ho,by
   rw [List.take_add_one,hx,← List.map_take,List.filter_append,filter_none e3];simp [e2],by rw [← List.map_drop],by omega,by omega⟩)
  have HK := ζ K
  have HS := ζ hs
  have H1 := ζ h1
  have HN := ζ hn
  clear ho h1 K e1 e2 e3 hs h hn hx hg
  have g12 : ((i0 : Int) == -1) = false := beq_eq_false_iff_ne.2 (by omega)
  go_enter Tryz.func100,Tryz.ntmps100
  go_wp2_with (go_at_call 107;refine (KI.out).mono ?_;rintro e w1 ⟨rfl,hb1⟩;have HB1 := ζ hb1;have HH1 := ζ (HH.out.kept hb1);clear hb1)
  clear HH KI
  have HG1 := ζ (show w.grownBy w1 (some g) from ⟨HB1.out.os,HB1.out.tape,HB1.out.output,HB1.out.size,fun k hk _ => HB1.out.block k hk⟩)
  clear HB1
  go_loopw [6,5,7] (fun jv iv _ wr => ∃ (i j : Nat) (xs : List Value),jv = .int .i64 j ∧ iv = .int .i64 i ∧ j ≤ n ∧ i < j ∧ Hid (Half wr B g n cap q zs i j xs) ∧ Hid (w.grownBy wr (some g))) (fun jv _ _ _ => n - (intOf jv).toNat)
  case atStart => exact ⟨i0,i0 + 1,_,by simp,rfl,by omega,by omega,HH1,HG1⟩
  case round =>
   clear HH1 HG1
   obtain ⟨i,j,xs,rfl,rfl,hjn,hij,HH,HG⟩ := hrel
   by_cases hlt : j < n
   ·obtain ⟨z,hx⟩ : ∃ z,zs[j]? = some z := ⟨_,ζe (by rw [HN.out];exact hlt)⟩
    have hm := ζm hx
    have hc := HH.out.cell hx hlt
    obtain ⟨za,zn,zc,hz1⟩ := HS.out z hm
    have KZ := ζ (HK.out wr HG.out z hm)
    have hgl := HH.out.glt.2
    have i1 : (0 : Int) ≤ (j : Int) := by omega
    have i2 : (j : Int) < (n : Int) := by omega
    have i3 : (0 : Int) ≤ (i : Int) := by omega
    have i4 : (i : Int) < (n : Int) := by omega
    have i5 : IntKind.i64.wrap (j : Int) = j := by rw [IntKind.wrap_i64];omega
    rw [hz1] at hc KZ
    cases hq : q z
    ·rw [hq] at KZ
     have HP := ζ (fun W (hb : Below wr.heap.size wr W) => (show (∃ d,W.cell? ⟨g,i,none⟩ = some d ∧ W.frozen? ⟨g,i,none⟩ = false) ∧ W.grownBy (W.setCell ⟨g,i,none⟩ (.slice za zn zc)) (some g) ∧ Half (W.setCell ⟨g,i,none⟩ (.slice za zn zc)) B g n cap q zs (i + 1) (j + 1) (xs.set i (.slice za zn zc)) from
      ⟨(HH.out.kept hb).spot,((HH.out.kept hb).own.stored i _).2,by rw [← hz1];exact (HH.out.kept hb).put hx hlt hq⟩))
     clear hq hz1 hx hm
     go_wp2_with (go_at_call 101;refine (KZ.out).mono ?_;rintro e w2 ⟨rfl,hb2⟩;obtain ⟨⟨d,hd1,hd2⟩,hg2,hh2⟩ := HP.out _ hb2;have HH2 := ζ hh2;have HG2 := ζ (show w.grownBy _ (some g) from (HG.out.trans ⟨hb2.os,hb2.tape,hb2.output,hb2.size,fun k hk _ => hb2.block k hk⟩).trans hg2);clear hb2 hg2 hh2)
     go_roundw
     case rel => exact ⟨i + 1,j + 1,_,by go_num,by go_num,by omega,by omega,HH2,HG2⟩
     case measure => simp [intOf];omega
    ·rw [hq] at KZ
     have HP := ζ (fun W (hb : Below wr.heap.size wr W) => (HH.out.kept hb).skip hx hlt hq)
     clear hq hz1 hx hm
     go_wp2_with (go_at_call 101;refine (KZ.out).mono ?_;rintro e w2 ⟨rfl,hb2⟩;have HH2 := ζ (HP.out _ hb2);have HG2 := ζ (show w.grownBy w2 (some g) from HG.out.trans ⟨hb2.os,hb2.tape,hb2.output,hb2.size,fun k hk _ => hb2.block k hk⟩);clear hb2)
     go_roundw
     case rel => exact ⟨i,j + 1,xs,by go_num,rfl,by omega,by omega,HH2,HG2⟩
     case measure => simp [intOf];omega
   ·have hjn' : j = n := by omega
    have hncap : n ≤ cap := hnc
    have hin : i ≤ n := by omega
    have hin' : (i : Int) ≤ n := by omega
    have hic : i ≠ cap := by omega
    have hic' : cap ≠ i := fun e => hic e.symm
    have hic2 : i < cap := by omega
    have hic3 : (i : Int) < cap := by omega
    have i6 : (0 : Int) ≤ (i : Int) := by omega
    have hcm' : cap ≤ 9223372036854775807 := by unfold maxLen at hcm;omega
    have HE := ζ (show xs.take i = (zs.filter fun z => !q z).map (·.1) by rw [HH.out.hd,List.take_of_length_le (by rw [HN.out];omega)])
    go_wp2
    obtain ⟨w5,hrun5,hown5,hg5⟩ := run_clear_own (P := Tryz.prog) (t := 106) (ty := 0) (k := 1) (by omega) Tryz.underlying106 Tryz.zeroValue82 rfl (by simp [Value.cells,Value.oneCell']) HH.out.own i (cap - i) hin
    rw [Nat.mul_one] at hrun5 hown5
    have HO5 := ζ hown5
    have HG5 := ζ (HG.out.trans hg5)
    clear hown5 hg5
    rw [hrun5]
    go_wp2
    go_ret
    have hlen : i = (zs.filter fun z => !q z).length := by
     have h2 := congrArg List.length HE.out
     rw [List.length_take,List.length_map,HH.out.len] at h2
     omega
    refine ⟨⟨_,rfl,OV.of_row ?_ (fun z hz => H1.out z (List.mem_filter.1 hz).1),rfl⟩,HG5.out⟩
    rw [← HE.out,← hlen]
    exact HO5.out
end
section
open Go.Shelf Go.Proofs
def Tryz.sortFact_ren : Go.Shelf.Ren := ⟨fun | 6 => 84 | 15 => 104 | 14 => 103 | 28 => 124 | 29 => 125 | 20 => 116 | 21 => 117 | 22 => 118 | 23 => 119 | 24 => 120 | 25 => 121 | 26 => 122 | 27 => 123 | 46 => 128 | 47 => 129 | 48 => 130 | 49 => 131 | 50 => 132 | 57 => 149 | n => n,fun | 22 => 24 | 24 => 27 | 25 => 97 | 3 => 3 | 39 => 118 | 0 => 0 | 53 => 170 | 55 => 172 | 4 => 4 | 46 => 164 | 45 => 163 | 50 => 95 | 5 => 5 | 9 => 9 | 66 => 175 | 70 => 179 | 76 => 191 | 77 => 31 | n => n,fun | n => n⟩
theorem Tryz.sortFact : Go.Proofs.SlLaysF0.n6 Tryz.prog Tryz.sortFact_ren := {
 mixed := by kernel_rfl
 f6 := ⟨Tryz.f84.name,by decide,Tryz.func84.trans (congrArg some (by kernel_rfl))⟩
 f14 := ⟨Tryz.f103.name,by decide,Tryz.func103.trans (congrArg some (by kernel_rfl))⟩
 f15 := Tryz.func104.trans (congrArg some (by kernel_rfl))
 f20 := ⟨Tryz.f116.name,by decide,Tryz.func116.trans (congrArg some (by kernel_rfl))⟩
 f21 := ⟨Tryz.f117.name,by decide,Tryz.func117.trans (congrArg some (by kernel_rfl))⟩
 f22 := ⟨Tryz.f118.name,by decide,Tryz.func118.trans (congrArg some (by kernel_rfl))⟩
 f23 := ⟨Tryz.f119.name,by decide,Tryz.func119.trans (congrArg some (by kernel_rfl))⟩
 f24 := ⟨Tryz.f120.name,by decide,Tryz.func120.trans (congrArg some (by kernel_rfl))⟩
 f25 := ⟨Tryz.f121.name,by decide,Tryz.func121.trans (congrArg some (by kernel_rfl))⟩
 f26 := ⟨Tryz.f122.name,by decide,Tryz.func122.trans (congrArg some (by kernel_rfl))⟩
 f27 := ⟨Tryz.f123.name,by decide,Tryz.func123.trans (congrArg some (by kernel_rfl))⟩
 f28 := Tryz.func124.trans (congrArg some (by kernel_rfl))
 f29 := Tryz.func125.trans (congrArg some (by kernel_rfl))
 f46 := ⟨Tryz.f128.name,by decide,Tryz.func128.trans (congrArg some (by kernel_rfl))⟩
 f47 := Tryz.func129.trans (congrArg some (by kernel_rfl))
 f48 := Tryz.func130.trans (congrArg some (by kernel_rfl))
 f49 := ⟨Tryz.f131.name,by decide,Tryz.func131.trans (congrArg some (by kernel_rfl))⟩
 f50 := ⟨Tryz.f132.name,by decide,Tryz.func132.trans (congrArg some (by kernel_rfl))⟩
 f57 := ⟨Tryz.f149.name,by decide,Tryz.func149.trans (congrArg some (by kernel_rfl))⟩
 t0 := Tryz.underlying0
 a0 := Tryz.isAgg0
 z0 := Tryz.sizeOf0
 v0 := Tryz.zeroValue0
 t3 := Tryz.underlying3
 a3 := Tryz.isAgg3
 z3 := Tryz.sizeOf3
 v3 := Tryz.zeroValue3
 t4 := Tryz.underlying4
 a4 := Tryz.isAgg4
 z4 := Tryz.sizeOf4
 v4 := Tryz.zeroValue4
 t5 := Tryz.underlying5
 a5 := Tryz.isAgg5
 z5 := Tryz.sizeOf5
 v5 := Tryz.zeroValue5
 t9 := Tryz.underlying9
 a9 := Tryz.isAgg9
 z9 := Tryz.sizeOf9
 v9 := Tryz.zeroValue9
 t22 := Tryz.underlying24
 a22 := Tryz.isAgg24
 z22 := Tryz.sizeOf24
 v22 := Tryz.zeroValue24
 t25 := Tryz.underlying97
 a25 := Tryz.isAgg97
 z25 := Tryz.sizeOf97
 v25 := Tryz.zeroValue97
 t39 := Tryz.underlying118
 a39 := Tryz.isAgg118
 z39 := Tryz.sizeOf118
 v39 := Tryz.zeroValue118
 t45 := Tryz.underlying163
 a45 := Tryz.isAgg163
 z45 := Tryz.sizeOf163
 v45 := Tryz.zeroValue163
 t46 := Tryz.underlying164
 a46 := Tryz.isAgg164
 z46 := Tryz.sizeOf164
 v46 := Tryz.zeroValue164
 t50 := Tryz.underlying95
 a50 := Tryz.isAgg95
 z50 := Tryz.sizeOf95
 v50 := Tryz.zeroValue95
 t53 := Tryz.underlying170
 a53 := Tryz.isAgg170
 z53 := Tryz.sizeOf170
 v53 := Tryz.zeroValue170
 t55 := Tryz.underlying172
 a55 := Tryz.isAgg172
 z55 := Tryz.sizeOf172
 v55 := Tryz.zeroValue172
 t66 := Tryz.underlying175
 a66 := Tryz.isAgg175
 z66 := Tryz.sizeOf175
 v66 := Tryz.zeroValue175
 t70 := Tryz.underlying179
 a70 := Tryz.isAgg179
 z70 := Tryz.sizeOf179
 v70 := Tryz.zeroValue179
 t76 := Tryz.underlying191
 a76 := Tryz.isAgg191
 z76 := Tryz.sizeOf191
 v76 := Tryz.zeroValue191
 t77 := Tryz.underlying31
 a77 := Tryz.isAgg31
 z77 := Tryz.sizeOf31
 v77 := Tryz.zeroValue31 }
def Tryz.sortBind_ren : Go.Shelf.Ren := ⟨fun | 6 => 109 | 15 => 104 | 14 => 126 | 28 => 124 | 29 => 125 | 20 => 133 | 21 => 134 | 22 => 135 | 23 => 136 | 24 => 137 | 25 => 138 | 26 => 139 | 27 => 140 | 46 => 150 | 47 => 129 | 48 => 130 | 49 => 151 | 50 => 152 | 57 => 156 | n => n,fun | 22 => 82 | 24 => 110 | 25 => 156 | 3 => 3 | 39 => 118 | 0 => 0 | 53 => 170 | 55 => 172 | 4 => 4 | 46 => 164 | 45 => 163 | 50 => 95 | 5 => 5 | 9 => 9 | 66 => 175 | 70 => 179 | 76 => 191 | 77 => 31 | n => n,fun | n => n⟩
theorem Tryz.sortBind : Go.Proofs.SlLaysF0.n6 Tryz.prog Tryz.sortBind_ren := {
 mixed := by kernel_rfl
 f6 := ⟨Tryz.f109.name,by decide,Tryz.func109.trans (congrArg some (by kernel_rfl))⟩
 f14 := ⟨Tryz.f126.name,by decide,Tryz.func126.trans (congrArg some (by kernel_rfl))⟩
 f15 := Tryz.func104.trans (congrArg some (by kernel_rfl))
 f20 := ⟨Tryz.f133.name,by decide,Tryz.func133.trans (congrArg some (by kernel_rfl))⟩
 f21 := ⟨Tryz.f134.name,by decide,Tryz.func134.trans (congrArg some (by kernel_rfl))⟩
 f22 := ⟨Tryz.f135.name,by decide,Tryz.func135.trans (congrArg some (by kernel_rfl))⟩
 f23 := ⟨Tryz.f136.name,by decide,Tryz.func136.trans (congrArg some (by kernel_rfl))⟩
 f24 := ⟨Tryz.f137.name,by decide,Tryz.func137.trans (congrArg some (by kernel_rfl))⟩
 f25 := ⟨Tryz.f138.name,by decide,Tryz.func138.trans (congrArg some (by kernel_rfl))⟩
 f26 := ⟨Tryz.f139.name,by decide,Tryz.func139.trans (congrArg some (by kernel_rfl))⟩
 f27 := ⟨Tryz.f140.name,by decide,Tryz.func140.trans (congrArg some (by kernel_rfl))⟩
 f28 := Tryz.func124.trans (congrArg some (by kernel_rfl))
 f29 := Tryz.func125.trans (congrArg some (by kernel_rfl))
 f46 := ⟨Tryz.f150.name,by decide,Tryz.func150.trans (congrArg some (by kernel_rfl))⟩
 f47 := Tryz.func129.trans (congrArg some (by kernel_rfl))
 f48 := Tryz.func130.trans (congrArg some (by kernel_rfl))
 f49 := ⟨Tryz.f151.name,by decide,Tryz.func151.trans (congrArg some (by kernel_rfl))⟩
 f50 := ⟨Tryz.f152.name,by decide,Tryz.func152.trans (congrArg some (by kernel_rfl))⟩
 f57 := ⟨Tryz.f156.name,by decide,Tryz.func156.trans (congrArg some (by kernel_rfl))⟩
 t0 := Tryz.underlying0
 a0 := Tryz.isAgg0
 z0 := Tryz.sizeOf0
 v0 := Tryz.zeroValue0
 t3 := Tryz.underlying3
 a3 := Tryz.isAgg3
 z3 := Tryz.sizeOf3
 v3 := Tryz.zeroValue3
 t4 := Tryz.underlying4
 a4 := Tryz.isAgg4
 z4 := Tryz.sizeOf4
 v4 := Tryz.zeroValue4
 t5 := Tryz.underlying5
 a5 := Tryz.isAgg5
 z5 := Tryz.sizeOf5
 v5 := Tryz.zeroValue5
 t9 := Tryz.underlying9
 a9 := Tryz.isAgg9
 z9 := Tryz.sizeOf9
 v9 := Tryz.zeroValue9
 t22 := Tryz.underlying82
 a22 := Tryz.isAgg82
 z22 := Tryz.sizeOf82
 v22 := Tryz.zeroValue82
 t25 := Tryz.underlying156
 a25 := Tryz.isAgg156
 z25 := Tryz.sizeOf156
 v25 := Tryz.zeroValue156
 t39 := Tryz.underlying118
 a39 := Tryz.isAgg118
 z39 := Tryz.sizeOf118
 v39 := Tryz.zeroValue118
 t45 := Tryz.underlying163
 a45 := Tryz.isAgg163
 z45 := Tryz.sizeOf163
 v45 := Tryz.zeroValue163
 t46 := Tryz.underlying164
 a46 := Tryz.isAgg164
 z46 := Tryz.sizeOf164
 v46 := Tryz.zeroValue164
 t50 := Tryz.underlying95
 a50 := Tryz.isAgg95
 z50 := Tryz.sizeOf95
 v50 := Tryz.zeroValue95
 t53 := Tryz.underlying170
 a53 := Tryz.isAgg170
 z53 := Tryz.sizeOf170
 v53 := Tryz.zeroValue170
 t55 := Tryz.underlying172
 a55 := Tryz.isAgg172
 z55 := Tryz.sizeOf172
 v55 := Tryz.zeroValue172
 t66 := Tryz.underlying175
 a66 := Tryz.isAgg175
 z66 := Tryz.sizeOf175
 v66 := Tryz.zeroValue175
 t70 := Tryz.underlying179
 a70 := Tryz.isAgg179
 z70 := Tryz.sizeOf179
 v70 := Tryz.zeroValue179
 t76 := Tryz.underlying191
 a76 := Tryz.isAgg191
 z76 := Tryz.sizeOf191
 v76 := Tryz.zeroValue191
 t77 := Tryz.underlying31
 a77 := Tryz.isAgg31
 z77 := Tryz.sizeOf31
 v77 := Tryz.zeroValue31 }
def Tryz.sortBinds_ren : Go.Shelf.Ren := ⟨fun | 6 => 110 | 15 => 104 | 14 => 127 | 28 => 124 | 29 => 125 | 20 => 141 | 21 => 142 | 22 => 143 | 23 => 144 | 24 => 145 | 25 => 146 | 26 => 147 | 27 => 148 | 46 => 153 | 47 => 129 | 48 => 130 | 49 => 154 | 50 => 155 | 57 => 157 | n => n,fun | 22 => 106 | 24 => 82 | 25 => 160 | 3 => 3 | 39 => 118 | 0 => 0 | 53 => 170 | 55 => 172 | 4 => 4 | 46 => 164 | 45 => 163 | 50 => 95 | 5 => 5 | 9 => 9 | 66 => 175 | 70 => 179 | 76 => 191 | 77 => 31 | n => n,fun | n => n⟩
theorem Tryz.sortBinds : Go.Proofs.SlLaysF.n6 Tryz.prog Tryz.sortBinds_ren := {
 mixed := by kernel_rfl
 f6 := ⟨Tryz.f110.name,by decide,Tryz.func110.trans (congrArg some (by kernel_rfl))⟩
 f14 := ⟨Tryz.f127.name,by decide,Tryz.func127.trans (congrArg some (by kernel_rfl))⟩
 f15 := Tryz.func104.trans (congrArg some (by kernel_rfl))
 f20 := ⟨Tryz.f141.name,by decide,Tryz.func141.trans (congrArg some (by kernel_rfl))⟩
 f21 := ⟨Tryz.f142.name,by decide,Tryz.func142.trans (congrArg some (by kernel_rfl))⟩
 f22 := ⟨Tryz.f143.name,by decide,Tryz.func143.trans (congrArg some (by kernel_rfl))⟩
 f23 := ⟨Tryz.f144.name,by decide,Tryz.func144.trans (congrArg some (by kernel_rfl))⟩
 f24 := ⟨Tryz.f145.name,by decide,Tryz.func145.trans (congrArg some (by kernel_rfl))⟩
 f25 := ⟨Tryz.f146.name,by decide,Tryz.func146.trans (congrArg some (by kernel_rfl))⟩
 f26 := ⟨Tryz.f147.name,by decide,Tryz.func147.trans (congrArg some (by kernel_rfl))⟩
 f27 := ⟨Tryz.f148.name,by decide,Tryz.func148.trans (congrArg some (by kernel_rfl))⟩
 f28 := Tryz.func124.trans (congrArg some (by kernel_rfl))
 f29 := Tryz.func125.trans (congrArg some (by kernel_rfl))
 f46 := ⟨Tryz.f153.name,by decide,Tryz.func153.trans (congrArg some (by kernel_rfl))⟩
 f47 := Tryz.func129.trans (congrArg some (by kernel_rfl))
 f48 := Tryz.func130.trans (congrArg some (by kernel_rfl))
 f49 := ⟨Tryz.f154.name,by decide,Tryz.func154.trans (congrArg some (by kernel_rfl))⟩
 f50 := ⟨Tryz.f155.name,by decide,Tryz.func155.trans (congrArg some (by kernel_rfl))⟩
 f57 := ⟨Tryz.f157.name,by decide,Tryz.func157.trans (congrArg some (by kernel_rfl))⟩
 t0 := Tryz.underlying0
 a0 := Tryz.isAgg0
 z0 := Tryz.sizeOf0
 v0 := Tryz.zeroValue0
 t3 := Tryz.underlying3
 a3 := Tryz.isAgg3
 z3 := Tryz.sizeOf3
 v3 := Tryz.zeroValue3
 t4 := Tryz.underlying4
 a4 := Tryz.isAgg4
 z4 := Tryz.sizeOf4
 v4 := Tryz.zeroValue4
 t5 := Tryz.underlying5
 a5 := Tryz.isAgg5
 z5 := Tryz.sizeOf5
 v5 := Tryz.zeroValue5
 t9 := Tryz.underlying9
 a9 := Tryz.isAgg9
 z9 := Tryz.sizeOf9
 v9 := Tryz.zeroValue9
 t22 := Tryz.underlying106
 a22 := Tryz.isAgg106
 z22 := Tryz.sizeOf106
 v22 := Tryz.zeroValue106
 a24 := Tryz.isAgg82
 z24 := Tryz.sizeOf82
 t25 := Tryz.underlying160
 a25 := Tryz.isAgg160
 z25 := Tryz.sizeOf160
 v25 := Tryz.zeroValue160
 t39 := Tryz.underlying118
 a39 := Tryz.isAgg118
 z39 := Tryz.sizeOf118
 v39 := Tryz.zeroValue118
 t45 := Tryz.underlying163
 a45 := Tryz.isAgg163
 z45 := Tryz.sizeOf163
 v45 := Tryz.zeroValue163
 t46 := Tryz.underlying164
 a46 := Tryz.isAgg164
 z46 := Tryz.sizeOf164
 v46 := Tryz.zeroValue164
 t50 := Tryz.underlying95
 a50 := Tryz.isAgg95
 z50 := Tryz.sizeOf95
 v50 := Tryz.zeroValue95
 t53 := Tryz.underlying170
 a53 := Tryz.isAgg170
 z53 := Tryz.sizeOf170
 v53 := Tryz.zeroValue170
 t55 := Tryz.underlying172
 a55 := Tryz.isAgg172
 z55 := Tryz.sizeOf172
 v55 := Tryz.zeroValue172
 t66 := Tryz.underlying175
 a66 := Tryz.isAgg175
 z66 := Tryz.sizeOf175
 v66 := Tryz.zeroValue175
 t70 := Tryz.underlying179
 a70 := Tryz.isAgg179
 z70 := Tryz.sizeOf179
 v70 := Tryz.zeroValue179
 t76 := Tryz.underlying191
 a76 := Tryz.isAgg191
 z76 := Tryz.sizeOf191
 v76 := Tryz.zeroValue191
 t77 := Tryz.underlying31
 a77 := Tryz.isAgg31
 z77 := Tryz.sizeOf31
 v77 := Tryz.zeroValue31 }
end
end Go.Proofs.YtdngkcieckejoaaGreat
