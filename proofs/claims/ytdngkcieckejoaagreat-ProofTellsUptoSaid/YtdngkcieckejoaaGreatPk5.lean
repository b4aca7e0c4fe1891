/-
  THE TEXTS MatchN, BindW, FillW, StepW, LitF, one behind the other.
-/
import Derived.Test.YtdngkcieckejoaaGreatPk2
import Derived.Test.YtdngkcieckejoaaGreatPk3
import Derived.Test.YtdngkcieckejoaaGreatPk4
namespace Go.Proofs.YtdngkcieckejoaaGreat
section
open Go.RowKit
theorem RBind.one {S : Nat → Prop} {w : World} {cs : List Value} {x : PBind} (h : RBind S w cs x) : ∀ u ∈ cs,u.oneCell' = true := by
 have h' : cs = [.string x.var,.string x.name] := h
 subst h';simp [Value.oneCell']
theorem rowBinds : RowT Tryz.prog 82 110 2 := RowT.mk' (b := 32) (z := .agg #[.string ⟨#[]⟩,.string ⟨#[]⟩]) Tryz.underlying82 (by kernel_rfl) (by omega) rfl (by omega)
theorem rowBindss : RowT Tryz.prog 106 82 1 := RowT.mk' (b := 24) (z := .slice none 0 0) Tryz.underlying106 (by kernel_rfl) (by omega) rfl (by omega)
abbrev VB := Value × Binds
def RPair : Reader VB := fun _ _ cs z => cs = [z.1] ∧ z.1.oneCell' = true
theorem RPair.steady : Steady RPair := ⟨fun _ h => h,fun _ h => h⟩
abbrev OB (B : Nat) (w : World) (v : Value) (l : Binds) : Prop := Owned 2 RBind B 110 (fun _ => False) w v l
abbrev OV (B : Nat) (w : World) (v : Value) (zs : List VB) : Prop := Owned 1 RPair B 82 (fun _ => False) w v zs
structure Nest (B : Nat) (w : World) (v : Value) (zs : List VB) : Prop where
 outer : OV B w v zs
 inner : ∀ z ∈ zs,OB B w z.1 z.2
 apart : zs.Pairwise fun y z => ∀ b,y.1.ownBlock = some b → z.1.ownBlock ≠ some b
 off : ∀ z ∈ zs,∀ b,z.1.ownBlock = some b → v.ownBlock ≠ some b
theorem Owned.kept {α : Type} {k : Nat} {R : Reader α} (hR : Steady R) {B : Nat} {e : TypeId} {w w' : World} {v : Value} {l : List α} (h : Owned k R B e (fun _ => False) w v l) {row : Option Nat} (hg : w.grownBy w' row) (hne : ∀ q,v.ownBlock = some q → row ≠ some q) : Owned k R B e (fun _ => False) w' v l :=
 h.keep hR ⟨hg.size,fun _ hb _ => hb.elim⟩ fun g hg' => hg.block g (h.row_lt hg').2 (fun e => hne g hg' e.symm)
section
variable {B : Nat} {w w' : World} {v v' : Value} {zs : List VB}
theorem Nest.nil : Nest B w (.slice none 0 0) [] := ⟨Owned.nil,by simp,List.Pairwise.nil,by simp⟩
theorem Nest.below (h : Nest B w v zs) (hb : Below w.heap.size w w') : Nest B w' v zs :=
 ⟨h.outer.below RPair.steady hb,fun z hz => (h.inner z hz).below RBind.steady hb,h.apart,h.off⟩
theorem Nest.alloc (h : Nest B w v zs) (o : Obj) : Nest B (w.alloc o) v zs := h.below ((ζb _ _).alloc (ζn _) o)
theorem Nest.row_lt (h : Nest B w v zs) {g : Nat} (hg : v.ownBlock = some g) : B ≤ g ∧ g < w.heap.size := h.outer.row_lt hg
theorem Nest.inner_lt (h : Nest B w v zs) {z : VB} (hz : z ∈ zs) {g : Nat} (hg : z.1.ownBlock = some g) : B ≤ g ∧ g < w.heap.size := (h.inner z hz).row_lt hg
theorem Nest.snoc (h : Nest B w v zs) {z : VB} (hz : OB B w z.1 z.2) (ha : ∀ y ∈ zs,∀ b,y.1.ownBlock = some b → z.1.ownBlock ≠ some b) (hv : ∀ b,z.1.ownBlock = some b → v.ownBlock ≠ some b)
 (ho : OV B w' v' (zs ++ [z])) (hg : w.grownBy w' v.ownBlock) (hat : v'.ownBlock = v.ownBlock ∨ v'.ownBlock = some w.heap.size) : Nest B w' v' (zs ++ [z]) := by
 refine ⟨ho,fun y hy => ?_,?_,fun y hy b hb => ?_⟩
 ·rcases List.mem_append.1 hy with hy | hy
  ·exact (h.inner y hy).kept RBind.steady hg (fun q hq e => h.off y hy q hq e)
  ·obtain rfl := List.mem_singleton.1 hy
   exact hz.kept RBind.steady hg (fun q hq e => hv q hq e)
 ·refine List.pairwise_append.2 ⟨h.apart,List.pairwise_singleton _ _,fun y hy y' hy' => ?_⟩
  obtain rfl := List.mem_singleton.1 hy'
  exact ha y hy
 ·have hlt : b < w.heap.size := by
   rcases List.mem_append.1 hy with hy | hy
   ·exact (h.inner_lt hy hb).2
   ·obtain rfl := List.mem_singleton.1 hy
    exact (hz.row_lt hb).2
  have hvb : v.ownBlock ≠ some b := by
   rcases List.mem_append.1 hy with hy | hy
   ·exact h.off y hy b hb
   ·obtain rfl := List.mem_singleton.1 hy
    exact hv b hb
  rcases hat with hat | hat
  ·rw [hat];exact hvb
  ·rw [hat];intro e;injection e with e;omega
theorem Nest.filter (h : Nest B w v zs) (p : VB → Bool) (ho : OV B w' v' (zs.filter p)) (hg : w.grownBy w' v.ownBlock) (hv : v'.ownBlock = v.ownBlock) : Nest B w' v' (zs.filter p) :=
 ⟨ho,fun z hz => (h.inner z (List.mem_filter.1 hz).1).kept RBind.steady hg (fun q hq e => h.off z (List.mem_filter.1 hz).1 q hq e),h.apart.filter _,fun z hz b hb => by rw [hv];exact h.off z (List.mem_filter.1 hz).1 b hb⟩
theorem Nest.turn {us bs : List VB} {z : VB} {l : Binds} (h : Nest B w v (us ++ z :: bs)) (hz : OB B w' z.1 l) (ho : OV B w v (us ++ (z.1,l) :: bs)) (hg : w.grownBy w' z.1.ownBlock) : Nest B w' v (us ++ (z.1,l) :: bs) := by
 have hmem : z ∈ us ++ z :: bs := by simp
 obtain ⟨p1,p2,p3⟩ := List.pairwise_append.1 h.apart
 obtain ⟨p4,p5⟩ := List.pairwise_cons.1 p2
 refine ⟨ho.kept RPair.steady hg (fun q hq e => h.off z hmem q e hq),fun y hy => ?_,?_,fun y hy b hb => ?_⟩
 ·rcases List.mem_append.1 hy with hy | hy
  ·exact (h.inner y (by simp [hy])).kept RBind.steady hg (fun q hq e => p3 y hy z (by simp) q hq e)
  ·rcases List.mem_cons.1 hy with rfl | hy
   ·exact hz
   ·exact (h.inner y (by simp [hy])).kept RBind.steady hg (fun q hq e => p4 y hy q e hq)
 ·refine List.pairwise_append.2 ⟨p1,List.pairwise_cons.2 ⟨p4,p5⟩,fun y hy y' hy' => ?_⟩
  rcases List.mem_cons.1 hy' with rfl | hy'
  ·exact p3 y hy z (by simp)
  ·exact p3 y hy y' (by simp [hy'])
 ·rcases List.mem_append.1 hy with hy | hy
  ·exact h.off y (by simp [hy]) b hb
  ·rcases List.mem_cons.1 hy with rfl | hy
   ·exact h.off z hmem b hb
   ·exact h.off y (by simp [hy]) b hb
theorem OV.tell {ys : List VB} (h : OV B w v zs) (hl : ys.map (·.1) = zs.map (·.1)) : OV B w v ys := by
 obtain ⟨css,h1,h2,h3,h4⟩ := h
 have hlen : ys.length = zs.length := by have := congrArg List.length hl;simpa using this
 refine ⟨css,by omega,h2,by rw [hlen];exact h3,fun i cs x hc hx => ?_⟩
 have hi := (List.getElem?_eq_some_iff.1 hx).1
 obtain ⟨y,hy⟩ : ∃ y,zs[i]? = some y := ⟨_,ζe (by omega)⟩
 have he : x.1 = y.1 := by
  have h5 : (ys.map (·.1))[i]? = some x.1 := by rw [List.getElem?_map,hx];rfl
  have h6 : (zs.map (·.1))[i]? = some y.1 := by rw [List.getElem?_map,hy];rfl
  rw [hl,h6] at h5
  exact (Option.some.inj h5).symm
 have := h4 i cs y hc hy
 unfold RPair at *
 rw [he];exact this
theorem OB.read {x : Value} {l : Binds} (h : OB B w x l) : RdBinds (fun b => x.ownBlock = some b) w x l := by
 have h' := h
 obtain ⟨css,h1,h2,ho,h3⟩ := h
 rcases ho.2 with ⟨rfl,h0⟩ | ⟨g,cap,cur,rfl,hb,hgg,hnc,hcm,hcs,htake⟩
 ·refine ⟨none,0,by rw [h0],by omega,Nat.zero_le _,fun _ => rfl,fun i x hx => ?_⟩
  have := (List.getElem?_eq_some_iff.1 hx).1
  omega
 ·refine ⟨some ⟨g,0,none⟩,cap,rfl,hnc,hcm,(fun h => by cases h),fun i x hx => ?_⟩
  have hi := (List.getElem?_eq_some_iff.1 hx).1
  obtain ⟨cs,hcss⟩ : ∃ cs,css[i]? = some cs := ⟨_,ζe (by omega)⟩
  refine ⟨g,0,cs,rfl,rfl,(Array.getElem?_eq_some_iff.1 hgg).1,h2 cs (ζm hcss),fun j u hu => ?_,h3 i cs x hcss hx⟩
  have := ho.cells (g := g) rfl (i * 2 + j) u (flatten_get css h2 i cs j u hcss hu)
  have hadd : (⟨g,0,none⟩ : Addr).add (i * 2 + j) = ⟨g,0 + i * 2 + j,none⟩ := by unfold Addr.add;split <;> simp_all
  rwa [hadd] at this
theorem Nest.reads (h : Nest B w v zs) : Owned 1 RBinds B 82 (fun b => B ≤ b) w v (zs.map (·.2)) := by
 obtain ⟨css,h1,h2,h3,h4⟩ := h.outer
 refine ⟨css,by simpa using h1,h2,by rw [List.length_map];exact h3,fun i cs x hc hx => ?_⟩
 rw [List.getElem?_map] at hx
 cases hz : zs[i]? with
 | none => rw [hz] at hx;cases hx
 | some z =>
  rw [hz] at hx
  obtain rfl : z.2 = x := by simpa using hx
  have hm := ζm hz
  obtain ⟨rfl,-⟩ := h4 i cs z hc hz
  exact ⟨z.1,rfl,(OB.read (h.inner z hm)).more RBind.steady (fun b hb _ => ⟨(h.inner_lt hm hb).1,fun e => h.off z hm b hb e.symm⟩)⟩
end
end
section
open Go.RowKit
theorem RdBinds.at {S : Nat → Prop} {w : World} {a : Option Addr} {n cap : Nat} {l : Binds} (h : RdBinds S w (.slice a n cap) l) {i : Nat} {x : PBind} (hx : l[i]? = some x) :
 ∃ b off,a = some ⟨b,off,none⟩ ∧ S b ∧ b < w.heap.size ∧ w.cell? ⟨b,off + i * 2,none⟩ = some (.string x.var) ∧ w.cell? ⟨b,off + i * 2 + 1,none⟩ = some (.string x.name) := by
 obtain ⟨a',cap',hv,_,_,_,h3⟩ := h
 obtain ⟨b,off,cs,ha,hS,hb,hk,hc,hr⟩ := h3 i x hx
 injection hv with e1 e2 e3
 subst e1
 have hr' : cs = [.string x.var,.string x.name] := hr
 subst hr'
 exact ⟨b,off,ha,hS,hb,by simpa using hc 0 _ rfl,by simpa using hc 1 _ rfl⟩
theorem RdBinds.up {S : Nat → Prop} {w w' : World} {v : Value} {l : Binds} (h : RdBinds S w v l) (hb : Below w.heap.size w w') : RdBinds (fun _ => True) w' v l := (h.more RBind.steady (fun _ _ _ => trivial)).agree RBind.steady (Below.agree hb)
def getV : Option Str → Value
 | none => .tuple #[.string ⟨#[]⟩,.bool false]
 | some x => .tuple #[.string x,.bool true]
theorem getB_none_of {v : Str} {l : Binds} (h : ∀ b ∈ l,b.var ≠ v) : getB v l = none := getB_none.2 fun hm => by
 obtain ⟨b,hb,e⟩ := List.mem_map.1 hm
 exact h b hb e
theorem getB_hit {v : Str} {l : Binds} {k : Nat} {x : PBind} (h : ∀ b ∈ l.take k,b.var ≠ v) (hx : l[k]? = some x) (hv : x.var = v) : getB v l = some x.name := by
 have e : l = l.take k ++ x :: l.drop (k + 1) := by rw [← drop_cons hx,List.take_append_drop]
 rw [e,getB_append,getB_none_of h]
 simp [getB,hv]
set_option maxRecDepth 100000 in
set_option maxHeartbeats 0 in
theorem getCalls {S : Nat → Prop} (v : Value) (l : Binds) (s : Str) (w : World) (h : RdBinds S w v l) (n1 : l.length ≤ 1099511627776) :
 Calls Tryz.prog 55 #[v,.string s] w fun e w' => e = .returned (getV (getB s l)) ∧ Below w.heap.size w w' := by
 obtain ⟨a,c,rfl,-,-,-⟩ := id h.form
 have H := ζ h
 clear h
 go_enter Tryz.func55,Tryz.ntmps55
 go_wp2
 go_loopw [10] (fun i wr => ∃ k : Nat,k ≤ l.length ∧ i = .int .i64 k ∧ Hid (∀ b ∈ l.take k,b.var ≠ s) ∧ Hid (Below w.heap.size w wr)) (fun i _ => l.length - (intOf i).toNat)
 case atStart => exact ⟨0,Nat.zero_le _,rfl,ζ (by simp),ζ (ζb _ _)⟩
 case round =>
  obtain ⟨k,hk,rfl,HO,HB⟩ := hrel
  by_cases hlt : k < l.length
  ·obtain ⟨x,hx⟩ : ∃ x,l[k]? = some x := ⟨_,ζe hlt⟩
   obtain ⟨b1,o1,rfl,-,-,d0,d1⟩ := RdBinds.at (H.out.up HB.out) hx
   have hsz := HB.out.size
   have HB1 := ζ (HB.out.alloc hsz (.cells #[.string x.var,.string x.name] 110))
   have HX := ζ hx
   clear hx
   by_cases hv : x.var = s
   ·have HE := ζ (getB_hit HO.out HX.out hv)
    have gz : (x.var.toList == s.toList) = true := by rw [hv];simp
    clear hv
    go_wp2
    refine bodyPost_ret (v := .tuple #[.string x.name,.bool true]) (by simp [results,Tryz.results55,go_sem]) rfl ?_
    exact ⟨by rw [HE.out];rfl,HB1.out⟩
   ·have gz : (x.var.toList == s.toList) = false := by rw [beq_toList];exact decide_eq_false hv
    have HO1 := ζ (show ∀ b ∈ l.take (k + 1),b.var ≠ s from fun b hb => by
     rw [List.take_add_one,HX.out] at hb
     rcases List.mem_append.1 hb with hb | hb
     ·exact HO.out b hb
     ·obtain rfl : b = x := by simpa using hb
      exact hv)
    clear hv
    go_wp2
    go_roundw
    case rel => exact ⟨k + 1,by omega,by go_num,HO1,HB1⟩
    case measure => simp [intOf];omega
  ·have HE := ζ (getB_none_of (v := s) (l := l) (by have := HO.out;rwa [List.take_of_length_le (by omega)] at this))
   go_wp2
   refine bodyPost_ret (v := .tuple #[.string ⟨#[]⟩,.bool false]) (by simp [results,Tryz.results55,go_sem]) rfl ?_
   exact ⟨by rw [HE.out];rfl,HB.out⟩
set_option maxHeartbeats 0 in
theorem cloneBind {S : Nat → Prop} (v : Value) (l : Binds) (w : World) (h : RdBinds S w v l) (n1 : l.length ≤ 1073741824) :
 Calls Tryz.prog 54 #[v] w fun e w' => (∃ v',e = .returned v' ∧ OB w.heap.size w' v' l) ∧ Below w.heap.size w w' := by
 obtain ⟨a,c,rfl,-,-,hnil⟩ := id h.form
 have heq := fun (w : World) (n c n' c' : Nat) => Lib.run_eql_slice_nil (P := Tryz.prog) w 82 110 a n c n' c' Tryz.underlying82
 cases a with
 | none =>
  have hl : l = [] := by
   cases l with
   | nil => rfl
   | cons x r =>
    obtain ⟨b,o,ha,_⟩ := h.at (i := 0) (x := x) rfl
    cases ha
  subst hl
  obtain rfl := hnil rfl
  clear h hnil
  go_enter Tryz.func54,Tryz.ntmps54
  go_wp2
  go_ret
  exact ⟨⟨_,rfl,Owned.nil⟩,ζb _ _⟩
 | some ad =>
  clear hnil
  have H := ζ h
  clear h
  go_enter Tryz.func54,Tryz.ntmps54
  go_wp2_with (at_builtin;refine wpList_append_many (B := w.heap.size) (e := 110) (S := fun _ => False) (by rfl) _ _ 82 (by rfl) RBind.steady RBind.one rowBinds _ [] (by rfl) (Owned.made (w := w) (cur := #[]) (cap := 0) (ζn _) (Nat.zero_le _) rfl) _ l (by rfl) (H.out.agree RBind.steady (Agree.alloc (Agree.refl _ _) _)) (fun _ _ h => h) ?hl ?hb ?_)
  case hl => simp;omega
  case hb => simp
  ·intro v' w' hown hg hat
   try rw [List.nil_append] at hown
   have hown' := ζ hown
   have hg' := ζ hg
   clear hown hg hat
   go_wp2
   go_ret
   exact ⟨⟨_,rfl,hown'.out⟩,(((ζb _ _).alloc (ζn _) _).grown hg'.out (by simp) (fun k hk => by cases hk;exact ζn _))⟩
theorem Owned.lower {α : Type} {k : Nat} {R : Reader α} {B B' : Nat} {e : TypeId} {S : Nat → Prop} {w : World} {v : Value} {l : List α} (h : Owned k R B e S w v l) (hB : B' ≤ B) : Owned k R B' e S w v l := by
 obtain ⟨css,h1,h2,ho,h3⟩ := h
 refine ⟨css,h1,h2,⟨ho.1,?_⟩,h3⟩
 rcases ho.2 with h | ⟨g,cap,cur,e1,hb,r⟩
 ·exact .inl h
 ·exact .inr ⟨g,cap,cur,e1,Nat.le_trans hB hb,r⟩
theorem kept_grown {W1 w2 : World} {o : Obj} {r : Option Nat} {c : Nat} (hg2 : (W1.alloc o).grownBy w2 r) (hc : c < W1.heap.size) (hr : r ≠ some c) (off : Nat) : w2.cell? ⟨c,off,none⟩ = W1.cell? ⟨c,off,none⟩ :=
 kept_cell (ζb _ _) hg2 hc hr off
theorem meetP_name {a : PAtom} {f : PFact} {l : Binds} (h : a.name ≠ f.name) : meetP a f l = none := if_neg fun e => h e.1
theorem meetP_len {a : PAtom} {f : PFact} {l : Binds} (h : a.terms.length ≠ f.args.length) : meetP a f l = none := if_neg fun e => h e.2
theorem meetL_yes {m : Binds} {t : PTerm} {ts : List PTerm} {n x : Str} {ns : List Str} (h : valT m t = some x) (he : x = n) : meetL m (t :: ts) (n :: ns) = meetL m ts ns := by rw [meetL,h];simp [he]
theorem meetL_no {m : Binds} {t : PTerm} {ts : List PTerm} {n x : Str} {ns : List Str} (h : valT m t = some x) (he : x ≠ n) : meetL m (t :: ts) (n :: ns) = none := by rw [meetL,h];simp [he]
theorem meetL_new {m : Binds} {t : PTerm} {ts : List PTerm} {n : Str} {ns : List Str} (h : valT m t = none) : meetL m (t :: ts) (n :: ns) = meetL (m ++ [⟨t.name,n⟩]) ts ns := by rw [meetL,h]
def MeetPost (a : PAtom) (f : PFact) (l : Binds) (w : World) (e : Ending) (w' : World) : Prop :=
 Below w.heap.size w w' ∧ match meetP a f l with
  | none => e = .returned (.tuple #[.slice none 0 0,.bool false])
  | some m => ∃ v,e = .returned (.tuple #[v,.bool true]) ∧ OB w.heap.size w' v m
theorem meet_none {a : PAtom} {f : PFact} {l : Binds} {w w' : World} (h : meetP a f l = none) (hb : Below w.heap.size w w') : MeetPost a f l w (.returned (.tuple #[.slice none 0 0,.bool false])) w' := ⟨hb,by rw [h]⟩
theorem meet_some {a : PAtom} {f : PFact} {l m : Binds} {w w' : World} {v : Value} (h : meetP a f l = some m) (hb : Below w.heap.size w w') (ho : OB w.heap.size w' v m) : MeetPost a f l w (.returned (.tuple #[v,.bool true])) w' := ⟨hb,by rw [h];exact ⟨v,rfl,ho⟩⟩
set_option maxRecDepth 100000 in
set_option maxHeartbeats 0 in
theorem meetCalls {S S2 S3 : Nat → Prop} (a : PAtom) (tv : Value) (f : PFact) (fv : Value) (lv : Value) (l : Binds) (w : World) (ht : RdTerms S w tv a.terms) (hf : RdStrs S2 w fv f.args) (hl : RdBinds S3 w lv l)
 (n1 : a.terms.length ≤ 1048576) (_ : f.args.length ≤ 1048576) (n3 : l.length ≤ 536870912) :
 Calls Tryz.prog 30 #[.agg #[.bool a.neg,.string a.name,tv],.agg #[.string f.name,fv],lv] w (MeetPost a f l w) := by
 obtain ⟨ta,tc,rfl,-,-,-⟩ := id ht.form
 obtain ⟨fa,fc,rfl,-,-,-⟩ := id hf.form
 obtain ⟨la,lc,rfl,-,-,-⟩ := id hl.form
 have HT := ζ ht
 have HF := ζ hf
 have HL := ζ hl
 clear ht hf hl
 have hB0 : Below w.heap.size w ((w.alloc (.cells #[.bool a.neg,.string a.name,.slice ta a.terms.length tc] 78)).alloc (.cells #[.string f.name,.slice fa f.args.length fc] 27)) := ((ζb _ _).alloc (ζn _) _).alloc (by simp) _
 have HB0 := ζ hB0
 clear hB0
 by_cases hn : a.name = f.name
 case neg =>
  have gz : (a.name.toList == f.name.toList) = false := by rw [beq_toList];exact decide_eq_false hn
  have HE := ζ (meetP_name (l := l) hn)
  clear hn
  go_enter Tryz.func30,Tryz.ntmps30
  go_wp2
  refine bodyPost_ret (v := .tuple #[.slice none 0 0,.bool false]) (by simp [results,Tryz.results30,go_sem]) rfl ?_
  exact meet_none HE.out HB0.out
 have gz : (a.name.toList == f.name.toList) = true := by rw [hn];simp
 have HN := ζ hn
 clear hn
 by_cases hq : a.terms.length = f.args.length
 case neg =>
  have i1 : ¬ (a.terms.length : Int) = (f.args.length : Int) := by omega
  have HE := ζ (meetP_len (l := l) hq)
  clear hq
  go_enter Tryz.func30,Tryz.ntmps30
  go_wp2
  refine bodyPost_ret (v := .tuple #[.slice none 0 0,.bool false]) (by simp [results,Tryz.results30,go_sem]) rfl ?_
  exact meet_none HE.out HB0.out
 have HE := ζ (show meetP a f l = meetL l a.terms f.args from if_pos ⟨HN.out,hq⟩)
 have HQ := ζ hq
 have i1 : (a.terms.length : Int) = (f.args.length : Int) := by omega
 clear hq
 have KC := ζ (fun W (hW : Below w.heap.size w W) => cloneBind (.slice la l.length lc) l W (HL.out.up hW) (by omega))
 go_enter Tryz.func30,Tryz.ntmps30
 obtain ⟨W0,hW0⟩ : ∃ W0 : World,(w.alloc (.cells #[.bool a.neg,.string a.name,.slice ta a.terms.length tc] 78)).alloc (.cells #[.string f.name,.slice fa f.args.length fc] 27) = W0 := ⟨_,rfl⟩
 have hs0 : W0.heap.size = w.heap.size + 2 := by subst hW0;simp
 have t0 : W0.cell? ⟨w.heap.size,2,none⟩ = some (.slice ta a.terms.length tc) := by subst hW0;simp
 have t1 : W0.cell? ⟨w.heap.size + 1,1,none⟩ = some (.slice fa f.args.length fc) := by subst hW0;simp
 have t2 : W0.cell? ⟨w.heap.size,1,none⟩ = some (.string a.name) := by subst hW0;simp
 have t3 : W0.cell? ⟨w.heap.size + 1,0,none⟩ = some (.string f.name) := by subst hW0;simp
 rw [hW0] at HB0
 go_wp2_with (go_at_call 54;refine (KC.out _ HB0.out).mono ?_;rintro e w1 ⟨⟨v1,rfl,ho1⟩,hb1⟩;have HO1 := ζ ho1;have HB1 := ζ hb1;have a2 := (ζl hb1 (show w.heap.size < W0.heap.size by omega) 2).trans t0;clear ho1 hb1)
 clear a2 t2 t3
 have T0 := ζ t0
 have T1 := ζ t1
 clear t0 t1 hW0 KC
 go_loopw [33,8] (fun i v wr => ∃ k : Nat,k ≤ f.args.length ∧ i = .int .i64 k ∧ ∃ m : Binds,Hid (OB W0.heap.size wr v m) ∧ Hid (Below W0.heap.size W0 wr) ∧ Hid (meetP a f l = meetL m (a.terms.drop k) (f.args.drop k)) ∧ Hid (m.length ≤ l.length + k)) (fun i _ _ => f.args.length - (intOf i).toNat)
 case atStart => exact ⟨0,Nat.zero_le _,rfl,l,HO1,HB1,ζ (by rw [HE.out];rfl),ζ (by omega)⟩
 case round =>
  clear HO1 HB1
  obtain ⟨k,hk,rfl,m,HO,HB,HM,HL1⟩ := hrel
  obtain ⟨va,vc,efm,-,-,-⟩ := (OB.read HO.out).form
  subst efm
  have hBw := HB0.out.trans (HB.out.mono HB0.out.size)
  have HBw := ζ hBw
  clear hBw
  by_cases hlt : k < f.args.length
  ·obtain ⟨t,hx⟩ : ∃ t,a.terms[k]? = some t := ⟨_,ζe (by have := HQ.out;omega)⟩
   obtain ⟨n,hy⟩ : ∃ n,f.args[k]? = some n := ⟨_,ζe hlt⟩
   obtain ⟨b1,o1,rfl,-,-,d0,d1⟩ := RdTerms.at (HT.out.up HBw.out) hx
   obtain ⟨b2,o2,rfl,-,hb2,-⟩ := RdStrs.at HF.out hy
   have c2 : wr.cell? ⟨b2,o2 + k,none⟩ = some (.string n) := by
    obtain ⟨b3,o3,e3,-,-,h3⟩ := RdStrs.at (HF.out.up HBw.out) hy
    injection e3 with e3
    injection e3 with e3 e4 _
    rw [e3,e4];exact h3
   have hsz := HB.out.size
   have c1 := (ζl HB.out (show w.heap.size + 1 < W0.heap.size by omega) 1).trans T1.out
   have i2 : (0 : Int) ≤ (k : Int) := by omega
   have i3 : (k : Int) < (f.args.length : Int) := by omega
   have i4 : (k : Int) < (a.terms.length : Int) := by omega
   have HM0 := ζ (show meetP a f l = meetL m (t :: a.terms.drop (k + 1)) (n :: f.args.drop (k + 1)) by rw [HM.out,drop_cons hx,drop_cons hy])
   obtain ⟨W1,hW1⟩ : ∃ W1 : World,wr.alloc (.cells #[.bool t.var,.string t.name] 104) = W1 := ⟨_,rfl⟩
   have hs1 : W1.heap.size = wr.heap.size + 1 := by subst hW1;simp
   have hbx : Below wr.heap.size wr W1 := by subst hW1;exact (ζb _ _).alloc (ζn _) _
   have HBX := ζ (HB.out.trans (hbx.mono hsz))
   have HBY := ζ hbx
   have HOX := ζ (HO.out.below RBind.steady hbx)
   have HWX := ζ hW1
   have j1 : w.heap.size + 1 < wr.heap.size := by omega
   have j2 : b2 < wr.heap.size := by have := HBw.out.size;omega
   clear hx hy hbx hW1 HM
   cases htv : t.var
   ·have hv : valT m t = some t.name := by unfold valT;rw [htv];rfl
    rw [htv] at d0 HWX
    by_cases hz : t.name = n
    ·have gz2 : (t.name.toList == n.toList) = true := by rw [hz];simp
     have HM1 := ζ (HM0.out.trans (meetL_yes hv hz))
     have HL2 := ζ (show m.length ≤ l.length + (k + 1) by have := HL1.out;omega)
     rw [← HWX.out] at HBX HOX
     clear hz hv htv hs1 HBY
     go_wp2
     go_roundw
     case rel => exact ⟨k + 1,by omega,by go_num,m,HOX,HBX,HM1,HL2⟩
     case measure => simp [intOf];omega
    ·have gz2 : (t.name.toList == n.toList) = false := by rw [beq_toList];exact decide_eq_false hz
     have HR := ζ (HM0.out.trans (meetL_no hv hz))
     rw [← HWX.out] at HBX
     clear hz hv htv hs1 HBY
     go_wp2
     refine bodyPost_ret (v := .tuple #[.slice none 0 0,.bool false]) (by simp [results,Tryz.results30,go_sem]) rfl ?_
     exact meet_none HR.out (HB0.out.trans (HBX.out.mono HB0.out.size))
   ·have hv : valT m t = getB t.name m := by unfold valT;rw [htv];rfl
    rw [htv] at d0 HWX
    have e0 : W1.cell? ⟨wr.heap.size,0,none⟩ = some (.bool true) := by rw [← HWX.out];simp
    have e1 : W1.cell? ⟨wr.heap.size,1,none⟩ = some (.string t.name) := by rw [← HWX.out];simp
    have KG := ζ (getCalls (.slice va m.length vc) m t.name W1 (OB.read HOX.out) (by have := HL1.out;omega))
    have hW1 := HWX.out
    clear HWX
    have f1 := (ζl HBY.out (show w.heap.size + 1 < wr.heap.size by omega) 1).trans c1
    have f2 := (ζl HBY.out (show b2 < wr.heap.size by have := HBw.out.size;omega) (o2 + k)).trans c2
    have E1 := ζ e1
    have F1 := ζ f1
    have F2 := ζ f2
    clear f1 f2
    have hb2' : b2 < W1.heap.size := by have := HBw.out.size;omega
    have HB2 := ζ hb2
    clear hb2
    cases hg : getB t.name m with
    | none =>
     rw [hg] at KG hv
     have HM1 := ζ (HM0.out.trans (meetL_new hv))
     have hls : ([(⟨t.name,n⟩ : PBind)] : Binds).length = 1 := rfl
     have HL2 := ζ (show (m ++ [(⟨t.name,n⟩ : PBind)]).length ≤ l.length + (k + 1) by have := HL1.out;rw [List.length_append,hls];omega)
     have HLM := ζ (show m.length < 1099511627776 by have := HL1.out;omega)
     clear hls hg hv htv
     go_wp2_with (go_at_call 55;refine (KG.out).mono ?_;rintro e w1 ⟨rfl,hb1⟩;dsimp only [getV];have HBG := ζ hb1;have e1 := (ζl hb1 (show wr.heap.size < W1.heap.size by omega) 1).trans E1.out;have f1 := (ζl hb1 (show w.heap.size + 1 < W1.heap.size by omega) 1).trans F1.out;have f2 := (ζl hb1 hb2' (o2 + k)).trans F2.out;clear hb1)
     have HB3 := ζ (HBX.out.trans (HBG.out.mono (by omega)))
     have HO3 := ζ (HOX.out.below RBind.steady HBG.out)
     have hq1 : ∀ c,c < W1.heap.size → (c < W0.heap.size ∨ c = wr.heap.size) → (Value.slice va m.length vc).ownBlock ≠ some c := fun c hc ho e => by
      obtain ⟨g1,g2⟩ := HO.out.row_lt e
      omega
     have hq2 : ∀ c,c < W1.heap.size → c < w1.heap.size := fun c hc => by have := HBG.out.size;omega
     have HQ1 := ζ hq1
     have HQ2 := ζ hq2
     clear hq1 hq2
     go_region_held3 (fun w' => w'.cell? ⟨wr.heap.size,1,none⟩ = some (.string t.name) ∧ w'.cell? ⟨w.heap.size + 1,1,none⟩ = some (.slice (some ⟨b2,o2,none⟩) f.args.length fc) ∧ w'.cell? ⟨b2,o2 + k,none⟩ = some (.string n))
      (first
       | (refine ⟨?_,?_,?_⟩ <;> (first | (rw [hk1];assumption) | (rw [hk2];assumption) | (rw [hk3];assumption)))
       | go_keep)
      (first
       | (refine step_append_one (by rfl) _ _ 82 (by rfl) RBind.steady rowBinds _ m (by rfl) ((HO3.out.drew RBind.steady).alloc RBind.steady _) _ 1 #[.string t.name,.string n] 110 (0,0) ⟨t.name,n⟩ (by rfl) (heap_alloc_new _ _) rfl (by simp [Value.oneCell']) rfl HLM.out (by have := HB3.out.size;simp;omega) ?_;intro v2 w2 hown2 hg2 hat2;have hk1 := fun off => kept_grown (W1 := w1.drew) hg2 (show wr.heap.size < w1.heap.size from HQ2.out _ (by omega)) (HQ1.out _ (by omega) (by omega)) off;have hk2 := fun off => kept_grown (W1 := w1.drew) hg2 (show w.heap.size + 1 < w1.heap.size from HQ2.out _ (by omega)) (HQ1.out _ (by omega) (by omega)) off;have hk3 := fun off => kept_grown (W1 := w1.drew) hg2 (show b2 < w1.heap.size from HQ2.out _ (by omega)) (HQ1.out _ (by omega) (by have := HB2.out;omega)) off))
     have HO4 := ζ hown2
     have HB4 := ζ ((HB3.out.drew.alloc (by have := HB3.out.size;simp;omega) _).grown hg2 (by have := HB3.out.size;simp;omega) (fun q hq => (HO3.out.row_lt hq).1))
     clear hown2 hg2 hat2 hk1 hk2 hk3
     go_wp2
     go_roundw
     case rel => exact ⟨k + 1,by omega,by go_num,_,HO4,HB4,HM1,HL2⟩
     case measure => simp [intOf];omega
    | some x =>
     rw [hg] at KG hv
     by_cases hz : x = n
     ·have gz2 : (x.toList == n.toList) = true := by rw [hz];simp
      have HM1 := ζ (HM0.out.trans (meetL_yes hv hz))
      have HL2 := ζ (show m.length ≤ l.length + (k + 1) by have := HL1.out;omega)
      clear hz hg hv htv
      go_wp2_with (go_at_call 55;refine (KG.out).mono ?_;rintro e w1 ⟨rfl,hb1⟩;dsimp only [getV];have HBG := ζ hb1;have e1 := (ζl hb1 (show wr.heap.size < W1.heap.size by omega) 1).trans E1.out;have f1 := (ζl hb1 (show w.heap.size + 1 < W1.heap.size by omega) 1).trans F1.out;have f2 := (ζl hb1 hb2' (o2 + k)).trans F2.out;clear hb1)
      have HB3 := ζ (HBX.out.trans (HBG.out.mono (by omega)))
      have HO3 := ζ (HOX.out.below RBind.steady HBG.out)
      go_roundw
      case rel => exact ⟨k + 1,by omega,by go_num,m,HO3,HB3,HM1,HL2⟩
      case measure => simp [intOf];omega
     ·have gz2 : (x.toList == n.toList) = false := by rw [beq_toList];exact decide_eq_false hz
      have HR := ζ (HM0.out.trans (meetL_no hv hz))
      clear hz hg hv htv
      go_wp2_with (go_at_call 55;refine (KG.out).mono ?_;rintro e w1 ⟨rfl,hb1⟩;dsimp only [getV];have HBG := ζ hb1;have e1 := (ζl hb1 (show wr.heap.size < W1.heap.size by omega) 1).trans E1.out;have f1 := (ζl hb1 (show w.heap.size + 1 < W1.heap.size by omega) 1).trans F1.out;have f2 := (ζl hb1 hb2' (o2 + k)).trans F2.out;clear hb1)
      have HB3 := ζ (HBX.out.trans (HBG.out.mono (by omega)))
      refine bodyPost_ret (v := .tuple #[.slice none 0 0,.bool false]) (by simp [results,Tryz.results30,go_sem]) rfl ?_
      exact meet_none HR.out (HB0.out.trans (HB3.out.mono HB0.out.size))
  ·have HR := ζ (show meetP a f l = some m by rw [HM.out,drop_end (by have := HQ.out;omega),drop_end (by omega)];rfl)
   go_wp2
   refine bodyPost_ret (v := .tuple #[.slice va m.length vc,.bool true]) (by simp [results,Tryz.results30,go_sem]) rfl ?_
   exact meet_some HR.out HBw.out (HO.out.lower (by omega))
end
section
open Go.RowKit
theorem fillArgs_snoc {l : Binds} {t : PTerm} {n : Str} (hv : valT l t = some n) : ∀ {ts : List PTerm} {ns : List Str},fillArgs l ts = some ns → fillArgs l (ts ++ [t]) = some (ns ++ [n])
 | [],ns,h => by obtain rfl := Option.some.inj h;simp [fillArgs,hv]
 | u :: ts,ns,h => by
  rw [List.cons_append]
  unfold fillArgs at h ⊢
  cases hu : valT l u with
  | none => rw [hu] at h;cases h
  | some m =>
   rw [hu] at h
   dsimp only at h ⊢
   cases hr : fillArgs l ts with
   | none => rw [hr] at h;cases h
   | some r => rw [hr] at h;obtain rfl := Option.some.inj h;rw [fillArgs_snoc hv hr];rfl
theorem fillArgs_none {l : Binds} {t : PTerm} (hv : valT l t = none) : ∀ {ts : List PTerm},t ∈ ts → fillArgs l ts = none
 | u :: ts,h => by
  unfold fillArgs
  rcases List.mem_cons.1 h with rfl | h
  ·rw [hv]
  ·cases hu : valT l u with
   | none => rfl
   | some m => dsimp only;rw [fillArgs_none hv h];rfl
def FillPost (a : PAtom) (l : Binds) (w : World) (e : Ending) (w' : World) : Prop :=
 Below w.heap.size w w' ∧ match fillP a l with
  | none => e = .returned (.tuple #[.agg #[.string ⟨#[]⟩,.slice none 0 0],.bool false])
  | some f => ∃ v,e = .returned (.tuple #[.agg #[.string f.name,v],.bool true]) ∧ RdStrs (New w) w' v f.args
theorem fill_no {a : PAtom} {l : Binds} {w w' : World} (h : fillP a l = none) (hb : Below w.heap.size w w') : FillPost a l w (.returned (.tuple #[.agg #[.string ⟨#[]⟩,.slice none 0 0],.bool false])) w' := ⟨hb,by rw [h]⟩
theorem fill_yes {a : PAtom} {l : Binds} {w w' : World} {v : Value} {ns : List Str} (h : fillArgs l a.terms = some ns) (hb : Below w.heap.size w w') (hv : RdStrs (New w) w' v ns) : FillPost a l w (.returned (.tuple #[.agg #[.string a.name,v],.bool true])) w' :=
 ⟨hb,by unfold fillP;rw [h];exact ⟨v,rfl,hv⟩⟩
attribute [local go_sem ↓] Go.wp_at_zero Go.wp_at_succ
set_option maxRecDepth 100000 in
set_option maxHeartbeats 0 in
theorem fillCalls {S S2 : Nat → Prop} (a : PAtom) (tv : Value) (lv : Value) (l : Binds) (w : World) (ht : RdTerms S w tv a.terms) (hl : RdBinds S2 w lv l) (n1 : a.terms.length ≤ 1048576) (n2 : l.length ≤ 1073741824) :
 Calls Tryz.prog 31 #[.agg #[.bool a.neg,.string a.name,tv],lv] w (FillPost a l w) := by
 obtain ⟨ta,tc,rfl,-,-,-⟩ := id ht.form
 obtain ⟨la,lc,rfl,-,-,-⟩ := id hl.form
 have HT := ζ ht
 have HL := ζ hl
 clear ht hl
 go_enter Tryz.func31,Tryz.ntmps31
 go_wp2
 have HB0 := ζ ((((ζb w.heap.size w).alloc (ζn _) (.cells #[.bool a.neg,.string a.name,.slice ta a.terms.length tc] 78)).alloc (by simp) (.cells #[.string ⟨#[]⟩,.slice none 0 0] 27)).alloc (by simp;omega) (.cells #[.string a.name,.slice none 0 0] 27))
 have HK1 := ζ (((show Blk ((w.alloc (.cells #[.bool a.neg,.string a.name,.slice ta a.terms.length tc] 78)).alloc (.cells #[.string ⟨#[]⟩,.slice none 0 0] 27)) (w.heap.size + 1) 27 #[.string ⟨#[]⟩,.slice none 0 0] from heap_new_at (by simp)).alloc (.cells #[.string a.name,.slice none 0 0] 27)))
 have HK2 := ζ (show Blk (((w.alloc (.cells #[.bool a.neg,.string a.name,.slice ta a.terms.length tc] 78)).alloc (.cells #[.string ⟨#[]⟩,.slice none 0 0] 27)).alloc (.cells #[.string a.name,.slice none 0 0] 27)) (w.heap.size + 1 + 1) 27 #[.string a.name,.slice none 0 0] from heap_new_at (by simp))
 go_loopw [18] (fun i wr => ∃ (k : Nat) (ns : List Str) (av : Value),k ≤ a.terms.length ∧ i = .int .i64 k ∧ Hid (Below w.heap.size w wr) ∧ Hid (fillArgs l (a.terms.take k) = some ns) ∧ Hid (Blk wr (w.heap.size + 1) 27 #[.string ⟨#[]⟩,.slice none 0 0]) ∧ Hid (Blk wr (w.heap.size + 1 + 1) 27 #[.string a.name,av]) ∧ Hid (Owned 1 RStr (w.heap.size + 3) 9 (fun _ => False) wr av ns)) (fun i _ => a.terms.length - (intOf i).toNat)
 case atStart => exact ⟨0,[],_,Nat.zero_le _,rfl,HB0,ζ (by rw [List.take_zero];rfl),HK1,HK2,ζ Owned.nil⟩
 case round =>
  clear HB0 HK1 HK2
  obtain ⟨k,ns,av,hk,rfl,HB,HF,HK1,HK2,HO⟩ := hrel
  obtain ⟨aa,ac,efm,-,-,-⟩ := (HO.out.read ζS).form
  subst efm
  have HNL := ζ (show ns.length < 1099511627776 by have := fillArgs_len HF.out;rw [List.length_take] at this;omega)
  have hsz : w.heap.size + 3 ≤ wr.heap.size := by have := HK2.out.lt;omega
  by_cases hlt : k < a.terms.length
  ·obtain ⟨t,hx⟩ : ∃ t,a.terms[k]? = some t := ⟨_,ζe hlt⟩
   obtain ⟨b1,o1,rfl,-,-,d0,d1⟩ := RdTerms.at (HT.out.up HB.out) hx
   have HS := ζ (fun n (hv : valT l t = some n) => (show fillArgs l (a.terms.take (k + 1)) = some (ns ++ [n]) by rw [List.take_add_one,hx];exact fillArgs_snoc hv HF.out))
   have HNO := ζ (fun (hv : valT l t = none) => (show fillP a l = none by unfold fillP;rw [fillArgs_none hv (ζm hx)];rfl))
   obtain ⟨W1,hW1⟩ : ∃ W1 : World,wr.alloc (.cells #[.bool t.var,.string t.name] 104) = W1 := ⟨_,rfl⟩
   have hs1 : W1.heap.size = wr.heap.size + 1 := by subst hW1;simp
   have hbx : Below wr.heap.size wr W1 := by subst hW1;exact (ζb _ _).alloc (ζn _) _
   have HB1 := ζ (HB.out.trans (hbx.mono HB.out.size))
   have HO1 := ζ (HO.out.below ζS hbx)
   have HK11 := ζ (HK1.out.below hbx (by omega))
   have HK21 := ζ (HK2.out.below hbx (by omega))
   have KG := ζ (getCalls (.slice la l.length lc) l t.name W1 (HL.out.up HB1.out) (by omega))
   have e1 : W1.cell? ⟨wr.heap.size,1,none⟩ = some (.string t.name) := by subst hW1;simp
   have e0 : W1.cell? ⟨wr.heap.size,0,none⟩ = some (.bool t.var) := by subst hW1;simp
   have hne : wr.heap.size ≠ w.heap.size + 1 + 1 := by omega
   clear hx hbx HB HO HK1 HK2
   cases htv : t.var
   ·have hv : valT l t = some t.name := by unfold valT;rw [htv];rfl
    have HF1 := ζ (HS.out _ hv)
    rw [htv] at d0 hW1 e0
    clear hv htv HNO KG
    have g1 : W1.cell? ⟨w.heap.size + 1 + 1,1,none⟩ = some (.slice aa ns.length ac) := HK21.out.cell 1
    go_wp2_with (at_builtin;refine wpList_append_one (B := w.heap.size + 3) (e := 9) (S := fun _ => False) (by rfl) _ _ 25 (by rfl) ζS rowStrs _ ns (by rfl) (HO1.out.alloc ζS _) (wr.heap.size + 1) 1 #[.string t.name] 9 (0,0) t.name (by rfl) (heap_new_at hs1) rfl (by simp [Value.oneCell']) rfl HNL.out (by simp;omega) ?_;intro v2 w2 hown2 hg2 hat2;obtain ⟨a2,c2,rfl,-,-,-⟩ := id (hown2.read ζS).form;rw [show (ns ++ [t.name]).length = ns.length + 1 by simp] at hown2;have HO2 := ζ hown2;have HB2 := ζ ((HB1.out.alloc (by have := HB1.out.size;omega) _).grown hg2 (by have := HB1.out.size;simp;omega) (fun q hq => by have := (HO1.out.row_lt hq).1;omega));have HK12 := ζ ((HK11.out.alloc _).grown hg2 (fun e => by have := (HO1.out.row_lt e.symm).1;omega));have HK22 := ζ ((HK21.out.alloc _).grown hg2 (fun e => by have := (HO1.out.row_lt e.symm).1;omega));have g2 : w2.cell? ⟨w.heap.size + 1 + 1,1,none⟩ = some (.slice aa ns.length ac) := HK22.out.cell 1;have x2 := HK22.out.frozen 1;clear hown2 hg2 hat2)
    have hcs : (2 : Nat) ≠ 1 := by omega
    go_roundw
    case rel => exact ⟨k + 1,_,_,by omega,by go_num,ζ (HB2.out.setCell (by show w.heap.size ≤ w.heap.size + 1 + 1;omega) _),HF1,ζ (HK12.out.far (p := ⟨w.heap.size + 1 + 1,1,none⟩) (by show w.heap.size + 1 ≠ w.heap.size + 1 + 1;omega) _),ζ (HK22.out.set_ 1 _),ζ (HO2.out.setCell ζS (p := ⟨w.heap.size + 1 + 1,1,none⟩) (fun h => h) (fun e => by have := (HO2.out.row_lt e).1;have h2 : w.heap.size + 3 ≤ w.heap.size + 1 + 1 := this;omega) _)⟩
    case measure => simp [intOf];omega
   ·have hv : valT l t = getB t.name l := by unfold valT;rw [htv];rfl
    rw [htv] at d0 hW1 e0
    clear htv
    cases hg : getB t.name l with
    | none =>
     rw [hg] at KG hv
     have HE := ζ (HNO.out hv)
     clear hg hv HS HNO
     go_wp2_with (go_at_call 55;refine (KG.out).mono ?_;rintro e w1 ⟨rfl,hb1⟩;dsimp only [getV];have HB2 := ζ (HB1.out.trans (hb1.mono (Below.size HB1.out)));have HO2 := ζ (HO1.out.below ζS hb1);have HK12 := ζ (HK11.out.below hb1 (by omega));have HK22 := ζ (HK21.out.below hb1 (by omega));have hs2 : wr.heap.size + 1 ≤ w1.heap.size := (by have := hb1.size;omega);have z0 : w1.cell? ⟨w.heap.size + 1,0,none⟩ = some (.string ⟨#[]⟩) := HK12.out.cell 0;have z1 : w1.cell? ⟨w.heap.size + 1,1,none⟩ = some (.slice none 0 0) := HK12.out.cell 1;have x0 := HK12.out.frozen 0;have x1 := HK12.out.frozen 1;have g1 : w1.cell? ⟨w.heap.size + 1 + 1,1,none⟩ = some (.slice aa ns.length ac) := HK22.out.cell 1;clear hb1)
     refine bodyPost_ret (v := .tuple #[.agg #[.string ⟨#[]⟩,.slice none 0 0],.bool false]) (by simp [results,Tryz.results31,go_sem,z0,z1]) rfl ?_
     exact fill_no HE.out ((HB2.out.setCell (by show w.heap.size ≤ w.heap.size + 1;omega) _).setCell (by show w.heap.size ≤ w.heap.size + 1;omega) _)
    | some x =>
     rw [hg] at KG hv
     have HF1 := ζ (HS.out _ hv)
     clear hg hv HS HNO
     go_wp2_with (first
      | (go_at_call 55;refine (KG.out).mono ?_;rintro e w1 ⟨rfl,hb1⟩;dsimp only [getV];have HB2 := ζ (HB1.out.trans (hb1.mono (Below.size HB1.out)));have HO2 := ζ (HO1.out.below ζS hb1);have HK12 := ζ (HK11.out.below hb1 (by omega));have HK22 := ζ (HK21.out.below hb1 (by omega));have hs2 : wr.heap.size + 1 ≤ w1.heap.size := (by have := hb1.size;omega);have z0 : w1.cell? ⟨w.heap.size + 1,0,none⟩ = some (.string ⟨#[]⟩) := HK12.out.cell 0;have z1 : w1.cell? ⟨w.heap.size + 1,1,none⟩ = some (.slice none 0 0) := HK12.out.cell 1;have x0 := HK12.out.frozen 0;have x1 := HK12.out.frozen 1;have g1 : w1.cell? ⟨w.heap.size + 1 + 1,1,none⟩ = some (.slice aa ns.length ac) := HK22.out.cell 1;clear hb1)
      | (at_builtin;refine wpList_append_one (B := w.heap.size + 3) (e := 9) (S := fun _ => False) (by rfl) _ _ 25 (by rfl) ζS rowStrs _ ns (by rfl) (HO2.out.alloc ζS _) w1.heap.size 1 #[.string x] 9 (0,0) x (by rfl) (heap_new_at rfl) rfl (by simp [Value.oneCell']) rfl HNL.out (by simp;omega) ?_;intro v3 w3 hown2 hg2 hat2;obtain ⟨a2,c2,rfl,-,-,-⟩ := id (hown2.read ζS).form;rw [show (ns ++ [x]).length = ns.length + 1 by simp] at hown2;have HO3 := ζ hown2;have HB3 := ζ ((HB2.out.alloc (by have := HB2.out.size;omega) _).grown hg2 (by have := HB2.out.size;simp;omega) (fun q hq => by have := (HO2.out.row_lt hq).1;omega));have HK13 := ζ ((HK12.out.alloc _).grown hg2 (fun e => by have := (HO2.out.row_lt e.symm).1;omega));have HK23 := ζ ((HK22.out.alloc _).grown hg2 (fun e => by have := (HO2.out.row_lt e.symm).1;omega));have g2 : w3.cell? ⟨w.heap.size + 1 + 1,1,none⟩ = some (.slice aa ns.length ac) := HK23.out.cell 1;have y2 := HK23.out.frozen 1;clear hown2 hg2 hat2))
     go_roundw
     case rel => exact ⟨k + 1,_,_,by omega,by go_num,ζ (HB3.out.setCell (by show w.heap.size ≤ w.heap.size + 1 + 1;omega) _),HF1,ζ (HK13.out.far (p := ⟨w.heap.size + 1 + 1,1,none⟩) (by show w.heap.size + 1 ≠ w.heap.size + 1 + 1;omega) _),ζ (HK23.out.set_ 1 _),ζ (HO3.out.setCell ζS (p := ⟨w.heap.size + 1 + 1,1,none⟩) (fun h => h) (fun e => by have := (HO3.out.row_lt e).1;have h2 : w.heap.size + 3 ≤ w.heap.size + 1 + 1 := this;omega) _)⟩
     case measure => simp [intOf];omega
  ·have HA := ζ (show fillArgs l a.terms = some ns by have := HF.out;rwa [List.take_of_length_le (by omega)] at this)
   have z0 : wr.cell? ⟨w.heap.size + 1,0,none⟩ = some (.string ⟨#[]⟩) := HK1.out.cell 0
   have z1 : wr.cell? ⟨w.heap.size + 1,1,none⟩ = some (.slice none 0 0) := HK1.out.cell 1
   have x0 := HK1.out.frozen 0
   have x1 := HK1.out.frozen 1
   have y0 : wr.cell? ⟨w.heap.size + 1 + 1,0,none⟩ = some (.string a.name) := HK2.out.cell 0
   have y1 : wr.cell? ⟨w.heap.size + 1 + 1,1,none⟩ = some (.slice aa ns.length ac) := HK2.out.cell 1
   go_wp2
   refine bodyPost_ret (v := .tuple #[.agg #[.string a.name,.slice aa ns.length ac],.bool true]) (by simp [results,Tryz.results31,go_sem,z0,z1]) rfl ?_
   refine fill_yes HA.out ((HB.out.setCell (by show w.heap.size ≤ w.heap.size + 1;omega) _).setCell (by show w.heap.size ≤ w.heap.size + 1;omega) _) ?_
   have hno : ∀ i : Nat,(Value.slice aa ns.length ac).ownBlock ≠ some (⟨w.heap.size + 1,i,none⟩ : Addr).block := fun i e => by have := (HO.out.row_lt e).1;have h2 : w.heap.size + 3 ≤ w.heap.size + 1 := this;omega
   exact (((HO.out.setCell ζS (fun h => h) (hno 0) _).setCell ζS (fun h => h) (hno 1) _).read ζS).more ζS (fun b hb _ => hb.elim False.elim (fun h => by show w.heap.size ≤ b;omega))
end
section
open Go.RowKit
theorem RdBindss.at {S : Nat → Prop} {w : World} {a : Option Addr} {n cap : Nat} {l : List Binds} (h : RdBindss S w (.slice a n cap) l) {i : Nat} {x : Binds} (hx : l[i]? = some x) :
 ∃ b off v,a = some ⟨b,off,none⟩ ∧ S b ∧ b < w.heap.size ∧ w.cell? ⟨b,off + i,none⟩ = some v ∧ RdBinds S w v x := by
 obtain ⟨a',cap',hv,_,_,_,h3⟩ := h
 obtain ⟨b,off,cs,ha,hS,hb,hk,hc,v,hr,hq⟩ := h3 i x hx
 injection hv with e1 e2 e3
 subst e1
 subst hr
 exact ⟨b,off,v,ha,hS,hb,by simpa using hc 0 _ rfl,hq⟩
theorem RdFacts.up {S : Nat → Prop} {w w' : World} {v : Value} {l : List PFact} (h : RdFacts S w v l) (hb : Below w.heap.size w w') : RdFacts (fun _ => True) w' v l := (h.more ζF (fun _ _ _ => trivial)).agree ζF (Below.agree hb)
def meets (a : PAtom) (l : Binds) (fs : List PFact) : List Binds := fs.filterMap fun f => meetP a f l
theorem stepP_eq (ls : List Binds) (a : PAtom) (fs : List PFact) : stepP ls a fs = ls.flatMap fun l => meets a l fs := rfl
theorem meets_snoc {a : PAtom} {l : Binds} {fs : List PFact} {j : Nat} {f : PFact} (hf : fs[j]? = some f) : meets a l (fs.take (j + 1)) = meets a l (fs.take j) ++ (meetP a f l).toList := by
 unfold meets
 rw [List.take_add_one,hf,List.filterMap_append]
 cases h : meetP a f l <;> simp [h]
theorem stepP_snoc {ls : List Binds} {a : PAtom} {fs : List PFact} {i : Nat} {l : Binds} (hl : ls[i]? = some l) : stepP (ls.take (i + 1)) a fs = stepP (ls.take i) a fs ++ meets a l fs := by
 rw [stepP_eq,stepP_eq,List.take_add_one,hl,List.flatMap_append]
 simp
theorem stepP_length (ls : List Binds) (a : PAtom) (fs : List PFact) : (stepP ls a fs).length ≤ ls.length * fs.length := by
 induction ls with
 | nil => simp [stepP]
 | cons l ls ih =>
  have h1 : stepP (l :: ls) a fs = meets a l fs ++ stepP ls a fs := by simp [stepP_eq]
  have h2 : (meets a l fs).length ≤ fs.length := List.length_filterMap_le _ _
  rw [h1,List.length_append,List.length_cons,Nat.add_mul]
  omega
theorem meets_length (a : PAtom) (l : Binds) (fs : List PFact) : (meets a l fs).length ≤ fs.length := List.length_filterMap_le _ _
def StepPost (ls : List Binds) (a : PAtom) (fs : List PFact) (w : World) (e : Ending) (w' : World) : Prop :=
 Below w.heap.size w w' ∧ ∃ v zs,e = .returned v ∧ Nest w.heap.size w' v zs ∧ zs.map (·.2) = stepP ls a fs
theorem Nest.lower {B B' : Nat} {w : World} {v : Value} {zs : List VB} (h : Nest B w v zs) (hB : B' ≤ B) : Nest B' w v zs :=
 ⟨h.outer.lower hB,fun z hz => (h.inner z hz).lower hB,h.apart,h.off⟩
set_option maxRecDepth 100000 in
set_option maxHeartbeats 0 in
theorem stepCalls {S S2 S3 : Nat → Prop} (lv : Value) (ls : List Binds) (a : PAtom) (tv : Value) (fv : Value) (fs : List PFact) (w : World) (hl : RdBindss S w lv ls) (ht : RdTerms S2 w tv a.terms) (hf : RdFacts S3 w fv fs)
 (n1 : ls.length ≤ 20000) (n2 : ∀ l ∈ ls,l.length ≤ 1048576) (n3 : a.terms.length ≤ 1048576) (n4 : fs.length ≤ 200) (n5 : ∀ f ∈ fs,f.args.length ≤ 1048576) :
 Calls Tryz.prog 99 #[lv,.agg #[.bool a.neg,.string a.name,tv],fv] w (StepPost ls a fs w) := by
 obtain ⟨la,lc,rfl,-,-,-⟩ := id hl.form
 obtain ⟨ta,tc,rfl,-,-,-⟩ := id ht.form
 obtain ⟨fa,fc,rfl,-,-,-⟩ := id hf.form
 have HT := ζ ht
 have HF := ζ hf
 have HL := ζ hl
 have N2 := ζ n2
 have N5 := ζ n5
 have HLS := ζ (show ∀ i,i ≤ ls.length → (stepP (ls.take i) a fs).length ≤ 4000000 from fun i hi => by
  have h1 := stepP_length (ls.take i) a fs
  have h2 : (ls.take i).length * fs.length ≤ 20000 * 200 := Nat.mul_le_mul (by rw [List.length_take];omega) n4
  omega)
 clear ht hf hl n2 n5
 go_enter Tryz.func99,Tryz.ntmps99
 go_wp2
 have HB0 := ζ ((ζb w.heap.size w).alloc (ζn _) (.cells #[.bool a.neg,.string a.name,.slice ta a.terms.length tc] 78))
 have HK0 := ζ (Blk.new w 78 #[.bool a.neg,.string a.name,.slice ta a.terms.length tc])
 have HN0 : Hid (Nest (w.heap.size + 1) (w.alloc (.cells #[.bool a.neg,.string a.name,.slice ta a.terms.length tc] 78)) (.slice none 0 0) []) := Nest.nil
 go_loopw [16,7] (fun i v wr => ∃ (k : Nat) (zs : List VB),k ≤ ls.length ∧ i = .int .i64 k ∧ Hid (Below w.heap.size w wr) ∧ Hid (Blk wr w.heap.size 78 #[.bool a.neg,.string a.name,.slice ta a.terms.length tc]) ∧ Hid (Nest (w.heap.size + 1) wr v zs) ∧ Hid (zs.map (·.2) = stepP (ls.take k) a fs)) (fun i _ _ => ls.length - (intOf i).toNat)
 case atStart => exact ⟨0,[],Nat.zero_le _,rfl,HB0,HK0,HN0,ζ (by rw [List.take_zero];rfl)⟩
 case round =>
  clear HB0 HK0 HN0
  obtain ⟨k,zs,hk,rfl,HB,HK,HN,HZ⟩ := hrel
  obtain ⟨va,vc,efm,-,-,-⟩ := (HN.out.outer.read RPair.steady).form
  subst efm
  by_cases hlt : k < ls.length
  ·obtain ⟨l,hx⟩ : ∃ l,ls[k]? = some l := ⟨_,ζe hlt⟩
   obtain ⟨b1,o1,lv,rfl,-,hb1,d00,hlv⟩ := RdBindss.at HL.out hx
   have d0 := (ζl HB.out hb1 (o1 + k)).trans d00
   clear d00
   obtain ⟨xa,xc,rfl,-,-,-⟩ := id hlv.form
   have HLV := ζ hlv
   have HX := ζ hx
   have nl := N2.out l (ζm hx)
   clear hlv hx
   go_wp2
   obtain ⟨wo,hwo⟩ : ∃ wo : World,wo = wr := ⟨_,rfl⟩
   subst hwo
   have HN0 : Hid (Nest (w.heap.size + 1) wo (.slice va zs.length vc) zs) := HN
   go_loopw [22,7] (fun i v wr => ∃ (j : Nat) (ys : List VB),j ≤ fs.length ∧ i = .int .i64 j ∧ Hid (Below w.heap.size w wr) ∧ Hid (Blk wr w.heap.size 78 #[.bool a.neg,.string a.name,.slice ta a.terms.length tc]) ∧ Hid (Nest (w.heap.size + 1) wr v ys) ∧ Hid (ys.map (·.2) = stepP (ls.take k) a fs ++ meets a l (fs.take j))) (fun i _ _ => fs.length - (intOf i).toNat)
   case atStart => exact ⟨0,zs,Nat.zero_le _,rfl,HB,HK,HN0,ζ (by rw [HZ.out,List.take_zero];simp [meets])⟩
   case round =>
    clear HB HK HN HN0 HZ
    obtain ⟨j,ys,hj,rfl,HB,HK,HN,HZ⟩ := hrel
    obtain ⟨ya,yc,efm,-,-,-⟩ := (HN.out.outer.read RPair.steady).form
    subst efm
    by_cases hlt2 : j < fs.length
    ·obtain ⟨f,hy⟩ : ∃ f,fs[j]? = some f := ⟨_,ζe hlt2⟩
     obtain ⟨b2,o2,fav,rfl,-,-,e0,e1,hfav⟩ := RdFacts.at (HF.out.up HB.out) hy
     obtain ⟨ua,uc,rfl,-,-,-⟩ := id hfav.form
     have nf := N5.out f (ζm hy)
     have HS := ζ (meets_snoc (a := a) (l := l) hy)
     obtain ⟨W2,hW2⟩ : ∃ W2 : World,wr.alloc (.cells #[.string f.name,.slice ua f.args.length uc] 27) = W2 := ⟨_,rfl⟩
     have hs2 : W2.heap.size = wr.heap.size + 1 := by subst hW2;simp
     have hbx : Below wr.heap.size wr W2 := by subst hW2;exact (ζb _ _).alloc (ζn _) _
     have HB2 := ζ (HB.out.trans (hbx.mono HB.out.size))
     have HN2 := ζ (HN.out.below hbx)
     have HK2 := ζ (HK.out.below hbx HK.out.lt)
     have KM := ζ (meetCalls a (.slice ta a.terms.length tc) f (.slice ua f.args.length uc) (.slice xa l.length xc) l W2 (HT.out.up HB2.out) (hfav.up hbx) (HLV.out.up HB2.out) (by omega) (by omega) (by omega))
     have k0 : W2.cell? ⟨w.heap.size,0,none⟩ = some (.bool a.neg) := HK2.out.cell 0
     have k1 : W2.cell? ⟨w.heap.size,1,none⟩ = some (.string a.name) := HK2.out.cell 1
     have k2 : W2.cell? ⟨w.heap.size,2,none⟩ = some (.slice ta a.terms.length tc) := HK2.out.cell 2
     have f0 : W2.cell? ⟨wr.heap.size,0,none⟩ = some (.string f.name) := by subst hW2;simp
     have f1 : W2.cell? ⟨wr.heap.size,1,none⟩ = some (.slice ua f.args.length uc) := by subst hW2;simp
     have HYL := ζ (show ys.length < 1099511627776 by
      have h1 : (ys.map (·.2)).length = (stepP (ls.take k) a fs).length + (meets a l (fs.take j)).length := by rw [HZ.out,List.length_append]
      have h2 := HLS.out k (by omega)
      have h3 := meets_length a l (fs.take j)
      rw [List.length_take] at h3
      rw [List.length_map] at h1
      omega)
     have hlw : w.heap.size < W2.heap.size := HK2.out.lt
     clear hy hbx hfav HN HK
     cases hm : meetP a f l with
     | none =>
      rw [hm] at HS
      have KN := ζ ((KM.out).mono (R' := fun e w' => e = .returned (.tuple #[.slice none 0 0,.bool false]) ∧ Below W2.heap.size W2 w') fun e w' ⟨h1,h2⟩ => by rw [hm] at h2;exact ⟨h2,h1⟩)
      clear hm KM
      have HZ1 := ζ (show ys.map (·.2) = stepP (ls.take k) a fs ++ meets a l (fs.take (j + 1)) by rw [HS.out,HZ.out];simp)
      go_wp2_with (go_at_call 30;refine (KN.out).mono ?_;rintro e w3 ⟨rfl,hb3⟩;have HB3 := ζ (HB2.out.trans (hb3.mono HB2.out.size));have HN3 := ζ (HN2.out.below hb3);have HK3 := ζ (HK2.out.below hb3 hlw);clear hb3)
      go_roundw
      case rel => exact ⟨j + 1,ys,by omega,by go_num,HB3,HK3,HN3,HZ1⟩
      case measure => simp [intOf];omega
     | some m =>
      rw [hm] at HS
      have KN := ζ ((KM.out).mono (R' := fun e w' => (∃ v,e = .returned (.tuple #[v,.bool true]) ∧ OB W2.heap.size w' v m) ∧ Below W2.heap.size W2 w') fun e w' ⟨h1,h2⟩ => by rw [hm] at h2;exact ⟨h2,h1⟩)
      clear hm KM
      go_wp2_with (first
       | (go_at_call 30;refine (KN.out).mono ?_;rintro e w3 ⟨⟨v3,rfl,ho3⟩,hb3⟩;have HB3 := ζ (HB2.out.trans (hb3.mono HB2.out.size));have HN3 := ζ (HN2.out.below hb3);have HK3 := ζ (HK2.out.below hb3 hlw);obtain ⟨ma,mc,rfl,-,-,-⟩ := id (OB.read ho3).form;have HO3 := ζ ho3;have hs3 := hb3.size;clear hb3 ho3)
       | (at_builtin;refine wpList_append_one (B := w.heap.size + 1) (e := 82) (S := fun _ => False) (by rfl) _ _ 106 (by rfl) RPair.steady rowBindss _ ys (by rfl) ((HN3.out.alloc (.cells #[.slice ma m.length mc] 82)).outer) w3.heap.size 1 #[.slice ma m.length mc] 82 (0,0) (.slice ma m.length mc,m) (by rfl) (heap_new_at rfl) rfl (by simp [Value.oneCell']) ⟨rfl,rfl⟩ HYL.out (by simp;omega) ?_;intro v4 w4 hown4 hg4 hat4;have HN4 := ζ ((HN3.out.alloc (.cells #[.slice ma m.length mc] 82)).snoc (z := (.slice ma m.length mc,m)) ((HO3.out.alloc RBind.steady _).lower (by omega)) (fun y hy b hb e => by have h1 := (HN2.out.inner_lt hy hb).2;have h2 := (HO3.out.row_lt e).1;omega) (fun b hb e => by have h1 := (HN2.out.row_lt e).2;have h2 := (HO3.out.row_lt hb).1;omega) hown4 hg4 hat4);have HB4 := ζ ((HB3.out.alloc (Below.size HB3.out) _).grown hg4 (by have := Below.size HB3.out;simp;omega) (fun q hq => by have := (HN3.out.row_lt hq).1;omega));have HK4 := ζ ((HK3.out.alloc _).grown hg4 (fun e => by have := (HN3.out.row_lt e.symm).1;omega));clear hown4 hg4 hat4))
      have HZ1 := ζ (show (ys ++ [((.slice ma m.length mc,m) : VB)]).map (·.2) = stepP (ls.take k) a fs ++ meets a l (fs.take (j + 1)) by rw [HS.out,List.map_append,HZ.out];simp)
      go_roundw
      case rel => exact ⟨j + 1,_,by omega,by go_num,HB4,HK4,HN4,HZ1⟩
      case measure => simp [intOf];omega
    ·have HZ1 := ζ (show ys.map (·.2) = stepP (ls.take (k + 1)) a fs by
      have := HZ.out
      rw [List.take_of_length_le (l := fs) (by omega)] at this
      rw [this,stepP_snoc HX.out])
     go_wp2
     go_roundw
     case rel => exact ⟨k + 1,ys,by omega,by go_num,HB,HK,HN,HZ1⟩
     case measure => simp [intOf];omega
  ·have HE := ζ (show zs.map (·.2) = stepP ls a fs by have := HZ.out;rwa [List.take_of_length_le (by omega)] at this)
   go_wp2
   go_ret
   exact ⟨HB.out,_,zs,rfl,HN.out.lower (by omega),HE.out⟩
end
section
open Go.RowKit
theorem Blk.at_ {w : World} {t : TypeId} {cs : Array Value} {n : Nat} (h : w.heap.size = n) : Blk (w.alloc (.cells cs t)) n t cs := heap_new_at h
end
end Go.Proofs.YtdngkcieckejoaaGreat
