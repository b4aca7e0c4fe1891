/-
  THE TEXTS CheckR3, StrataR, MapP, StrataS1, one behind the other.
-/
import Derived.Test.YtdngkcieckejoaaGreatPk3
import Derived.Test.YtdngkcieckejoaaGreatPk4
import Derived.Test.YtdngkcieckejoaaGreatPk11
import Derived.Test.YtdngkcieckejoaaGreatPk12
import Derived.Test.YtdngkcieckejoaaGreatPk20
import Derived.DeepKeys4
namespace Go.Proofs.YtdngkcieckejoaaGreat
section
open Go.RowKit Go.Maps
def up1 (m : Known) : Known := fun s => (m s).map (· + 1)
theorem up1_learn {m : Known} {y : PAtom} (h : fits m y = true) : (fun t => if t = y.name then some ((y.terms.length : Int) + 1) else up1 m t) = up1 (learn m y) := by
 funext t
 unfold fits at h
 unfold up1 learn
 cases hm : m y.name with
 | none =>
  simp only [Option.isSome,Bool.false_eq_true,if_false]
  by_cases e : t = y.name
  ·rw [if_pos e,if_pos e];rfl
  ·rw [if_neg e,if_neg e]
 | some n =>
  rw [hm] at h
  simp only [Option.isSome,if_true]
  by_cases e : t = y.name
  ·rw [if_pos e,e,hm]
   have : n = (y.terms.length : Int) := by simpa using h
   rw [this];rfl
  ·rw [if_neg e]
theorem mem_allVars {v : Str} {l : List PAtom} : v ∈ allVars l ↔ ∃ a ∈ l,v ∈ varsOf a := by unfold allVars;rw [List.mem_flatMap]
theorem mem_heldR {v : Str} {l : List PAtom} : v ∈ heldOf l ↔ ∃ a ∈ l,a.neg = false ∧ v ∈ varsOf a := by
 unfold heldOf
 rw [List.mem_flatMap]
 constructor
 ·rintro ⟨a,ha,hv⟩
  cases hn : a.neg <;> rw [hn] at hv
  ·exact ⟨a,ha,hn,by simpa using hv⟩
  ·simp at hv
 ·rintro ⟨a,ha,hn,hv⟩
  exact ⟨a,ha,by rw [hn];simpa using hv⟩
theorem bound_all {l : List PAtom} (h : bodyBad l = 0) (vs : List Str) : boundIn (heldOf l) vs = vs.all fun v => memS v (allVars l) := by
 have hf : freeIn (heldOf l) l = true := by
  unfold bodyBad at h
  split at h
  ·cases h
  ·split at h
   ·rename_i h1;exact absurd h h1
   ·split at h
    ·assumption
    ·cases h
 have e : ∀ v,memS v (heldOf l) = memS v (allVars l) := fun v => by
  rw [Bool.eq_iff_iff,memS_iff,memS_iff]
  constructor
  ·intro hv
   obtain ⟨a,ha,-,hv⟩ := mem_heldR.1 hv
   exact mem_allVars.2 ⟨a,ha,hv⟩
  ·intro hv
   obtain ⟨a,ha,hv⟩ := mem_allVars.1 hv
   exact (memS_iff _ _).1 (List.all_eq_true.1 (List.all_eq_true.1 hf a ha) v hv)
 unfold boundIn
 congr 1
 funext v
 exact e v
theorem ruleBad_head {r : PRule} (h : atomBad r.head ≠ 0) : ruleBad r = atomBad r.head := by unfold ruleBad;rw [if_pos h]
theorem ruleBad_neg {r : PRule} (h : atomBad r.head = 0) (hn : r.head.neg = true) : ruleBad r = 2 := by unfold ruleBad;rw [if_neg (by simpa using h),if_pos hn]
theorem ruleBad_bad {r : PRule} (h : atomBad r.head = 0) (hn : r.head.neg = false) (hb : bodyBad r.body ≠ 0) : ruleBad r = bodyBad r.body := by unfold ruleBad;rw [if_neg (by simpa using h),if_neg (by simp [hn]),if_pos hb]
theorem ruleBad_last {r : PRule} (h : atomBad r.head = 0) (hn : r.head.neg = false) (hb : bodyBad r.body = 0) : ruleBad r = if boundIn (heldOf r.body) (varsOf r.head) then 0 else 9 := by
 unfold ruleBad;rw [if_neg (by simpa using h),if_neg (by simp [hn]),if_neg (by simpa using hb),bound_all hb]
set_option maxRecDepth 100000 in
set_option maxHeartbeats 0 in
theorem badRef (e k : Int) (C : Nat) (w : World) (h : Blk w C 3 #[.int .i64 k]) :
 Calls Tryz.prog 88 #[.int .i64 e,.pointer (some ⟨C,0,none⟩)] w fun en w' => en = .returned (.agg #[.int .i64 e,.int .i64 k]) ∧ Below w.heap.size w w' := by
 have HC := ζ (h.alloc (.cells #[.int .i64 0,.int .i64 0] 49))
 have c0 := HC.out.cell 0
 simp only [List.getElem?_toArray,List.getElem?_cons_zero] at c0
 clear h
 go_enter Tryz.func88,Tryz.ntmps88
 go_wp2
 refine bodyPost_ret (v := .agg #[.int .i64 e,.int .i64 k]) (by simp [results,Tryz.results88,go_sem]) rfl ⟨rfl,?_⟩
 exact (ζb _ _).alloc (ζn _) _
structure PgW (w W : World) (n : Nat) (m : Known) : Prop where
 below : Below w.heap.size w W
 out : Blk W w.heap.size 49 #[.int .i64 0,.int .i64 0]
 map : MapI W (w.heap.size + 1) n (up1 m)
section
variable {w W W' : World} {n : Nat} {m : Known}
theorem PgW.next (h : PgW w W n m) (hb : Below W.heap.size W W') : PgW w W' n m := ⟨h.below.trans (hb.mono h.below.size),h.out.below hb h.out.lt,h.map.below hb h.map.lt⟩
theorem PgW.alloc (h : PgW w W n m) (o : Obj) : PgW w (W.alloc o) n m := h.next ((ζb _ _).alloc (ζn _) o)
theorem PgW.lt (h : PgW w W n m) : w.heap.size + 1 < W.heap.size := h.map.lt
end
theorem PgW.grow {w W W' : World} {n : Nat} {m : Known} {row : Option Nat} (h : PgW w W n m) (hg : W.grownBy W' row) (hr : ∀ q,row = some q → w.heap.size + 1 < q) : PgW w W' n m :=
 ⟨h.below.grown hg h.below.size (fun q hq => by have := hr q hq;omega),h.out.grown hg (fun e => by have := hr _ e.symm;omega),h.map.kept hg (fun e => by have := hr _ e.symm;omega)⟩
theorem PgW.put {w W W' : World} {n n' : Nat} {m m' : Known} (h : PgW w W n m) (hg : W.grownBy W' (some (w.heap.size + 1))) (hm : MapI W' (w.heap.size + 1) n' (up1 m')) : PgW w W' n' m' :=
 ⟨h.below.grown hg h.below.size (fun q hq => by injection hq with e;omega),h.out.grown hg (fun e => by injection e with e;omega),hm⟩
structure PgR (W : World) (C R k : Nat) (x : PRule) (tv bv : Value) : Prop where
 ic : Blk W C 3 #[.int .i64 k]
 rc : Blk W R 81 #[.bool x.head.neg,.string x.head.name,tv,bv]
theorem PgR.next {W W' : World} {C R k : Nat} {x : PRule} {tv bv : Value} (h : PgR W C R k x tv bv) (hb : Below W.heap.size W W') : PgR W' C R k x tv bv := ⟨h.ic.below hb h.ic.lt,h.rc.below hb h.rc.lt⟩
theorem PgR.grow {W W' : World} {C R k : Nat} {x : PRule} {tv bv : Value} {row : Option Nat} (h : PgR W C R k x tv bv) (hg : W.grownBy W' row) (hr : ∀ q,row = some q → C ≠ q ∧ R ≠ q) : PgR W' C R k x tv bv :=
 ⟨h.ic.grown hg (fun e => (hr _ e.symm).1 rfl),h.rc.grown hg (fun e => (hr _ e.symm).2 rfl)⟩
set_option maxRecDepth 100000 in
set_option maxHeartbeats 0 in
theorem wrongRefP {S : Nat → Prop} (p : List PRule) (v : Value) (w : World) (h : RdRules S w v p) (n1 : p.length ≤ 1048576) (n2 : ∀ r ∈ p,RuleSmall r) (n3 : ∀ r ∈ p,NameSmall r) :
 Calls Tryz.prog 66 #[v] w fun e w' => e = .returned (.agg #[.int .i64 (wrongP p).1,.int .i64 (wrongP p).2]) ∧ Below w.heap.size w w' := by
 obtain ⟨a,c,rfl,-,-,-⟩ := id h.form
 have H := ζ h
 have N2 := ζ n2
 have N3 := ζ n3
 clear h n2 n3
 by_cases hmany : 16 < p.length
 ·have hs : wrongP p = (5,0) := by unfold wrongP;rw [if_pos hmany]
  have HS := ζ hs
  have i1 : (16 : Int) < (p.length : Int) := by omega
  clear hs
  go_enter Tryz.func66,Tryz.ntmps66
  go_wp2
  refine bodyPost_ret (v := .agg #[.int .i64 5,.int .i64 0]) (by simp [results,Tryz.results66,go_sem]) rfl ⟨by rw [HS.out],?_⟩
  exact (ζb _ _).alloc (ζn _) _
 have hP0 : wrongP p = wrongFrom (fun _ => none) ((0 : Nat) : Int) (p.drop 0) := by unfold wrongP;rw [if_neg hmany];rfl
 have HP0 := ζ hP0
 clear hP0
 have i0 : ¬ ((16 : Int) < (p.length : Int)) := by omega
 have hmm := @run_makeMap Tryz.prog
 have hmf : ∀ (fn : Fn) (first cap : Array Value) (w : World),(Instr.makeFunc fn first cap).run Tryz.prog w = .ok (.func fn first cap) w := fun _ _ _ _ => rfl
 have HW0 := ζ (show PgW w ((w.alloc (.cells #[.int .i64 0,.int .i64 0] 49)).alloc (.map #[] 0)) 0 (fun _ => none) from
  ⟨((ζb w.heap.size w).alloc (ζn _) (.cells #[.int .i64 0,.int .i64 0] 49)).alloc (by simp) (.map #[] 0),(Blk.new w 49 #[.int .i64 0,.int .i64 0]).alloc (.map #[] 0),by
    have hms : (w.alloc (.cells #[.int .i64 0,.int .i64 0] 49)).heap.size = w.heap.size + 1 := by simp
    have HM := MapI.made (w.alloc (.cells #[.int .i64 0,.int .i64 0] 49))
    rw [hms] at HM
    exact HM⟩)
 go_enter Tryz.func66,Tryz.ntmps66
 go_wp2
 go_loopw [20] (fun i wr => ∃ (k : Nat) (n : Nat) (m : Known),k ≤ p.length ∧ i = .int .i64 k ∧ n ≤ k * 6 ∧ Hid (PgW w wr n m) ∧ Hid (wrongP p = wrongFrom m (k : Int) (p.drop k))) (fun i _ => p.length - (intOf i).toNat)
 case atStart => exact ⟨0,0,_,Nat.zero_le _,rfl,Nat.zero_le _,HW0,HP0⟩
 case round =>
  clear HW0 HP0
  obtain ⟨k,n,m,hk,rfl,hn,HW,HP⟩ := hrel
  by_cases hlt : k < p.length
  ·obtain ⟨x,hx⟩ : ∃ x,p[k]? = some x := ⟨_,ζe hlt⟩
   have hmem := ζm hx
   obtain ⟨b1,o1,tv,bv,rfl,-,hb1,d0,d1,d2,d3,htv,hbv⟩ := RdRules.at H.out hx
   obtain ⟨ta,tc,rfl,-,-,-⟩ := id htv.form
   obtain ⟨ba,bc,rfl,-,-,-⟩ := id hbv.form
   have HRA := ζ (show RuleAt S w b1 (o1 + k * 4) x (.slice ta x.head.terms.length tc) (.slice ba x.body.length bc) from ⟨hb1,d0,d1,d2,d3,htv,hbv⟩)
   have HS := ζ (N2.out x hmem)
   have HN := ζ (N3.out x hmem)
   clear d0 d1 d2 d3
   obtain ⟨-,d0,d1,d2,d3,-,-⟩ := HRA.out.up HW.out.below
   rw [at_drop hx] at HP
   have HW1 := ζ (HW.out.alloc (.cells #[.int .i64 k] 3))
   have HW2 := ζ (HW1.out.alloc (.cells #[.bool x.head.neg,.string x.head.name,.slice ta x.head.terms.length tc,.slice ba x.body.length bc] 81))
   have HR2 := ζ (show PgR ((wr.alloc (.cells #[.int .i64 k] 3)).alloc (.cells #[.bool x.head.neg,.string x.head.name,.slice ta x.head.terms.length tc,.slice ba x.body.length bc] 81)) wr.heap.size (wr.heap.size + 1) k x (.slice ta x.head.terms.length tc) (.slice ba x.body.length bc) from
    ⟨(Blk.new wr _ _).alloc _,by have := Blk.new (wr.alloc (.cells #[.int .i64 k] 3)) 81 #[.bool x.head.neg,.string x.head.name,.slice ta x.head.terms.length tc,.slice ba x.body.length bc];simpa using this⟩)
   have KA : Hid (∀ W,Below w.heap.size w W → Calls Tryz.prog 89 #[.agg #[.bool x.head.neg,.string x.head.name,.slice ta x.head.terms.length tc]] W fun e w' => e = .returned (.int .i64 (atomBad x.head)) ∧ Below W.heap.size W w') :=
    ζ fun W hW => wrongAtomRef x.head _ W (HRA.out.up hW).t (by have := HN.out.h;omega) (by have := HS.out.h1;omega) (fun t ht => by have := HS.out.h2 t ht;omega)
   have KB : Hid (∀ W,Below w.heap.size w W → Calls Tryz.prog 73 #[.slice ba x.body.length bc] W fun e w' => e = .returned (.int .i64 (bodyBad x.body)) ∧ Below W.heap.size W w') :=
    ζ fun W hW => wrongBodyRef x.body _ W (HRA.out.up hW).b HS.out.b0 HS.out.b1 HS.out.b2 HN.out.b
   have KC : Hid (∀ W,Below w.heap.size w W → Calls Tryz.prog 90 #[.agg #[.bool x.head.neg,.string x.head.name,.slice ta x.head.terms.length tc],.slice ba x.body.length bc] W fun e w' => e = .returned (.bool (boundIn (heldOf x.body) (varsOf x.head))) ∧ Below W.heap.size W w') :=
    ζ fun W hW => boundRef x.head _ x.body _ W (HRA.out.up hW).t (HRA.out.up hW).b HS.out.h1 HS.out.h2 HS.out.b0 HS.out.b1 HS.out.b2
   have HX := ζ hx
   clear hx hmem htv hbv
   by_cases hz : atomBad x.head = 0
   rotate_left
   ·have HE := ζ (HP.out.trans (wrongFrom_bad (by rw [ruleBad_head hz];exact hz)))
    rw [ruleBad_head hz] at HE
    have hne : (atomBad x.head != 0) = true := by simpa using hz
    clear hz
    generalize atomBad x.head = q at *
    go_wp2_with (first
     | (go_at_call 88;have hh := HW3.out;clear hh;refine (badRef q k _ _ HR3.out.ic).mono ?_;rintro e w9 ⟨rfl,hb9⟩;have HW9 := ζ (HW3.out.next hb9);clear hb9;have c0 := HW9.out.out.cell 0;have c1 := HW9.out.out.cell 1;have f0 := HW9.out.out.frozen 0;have f1 := HW9.out.out.frozen 1;simp at c0 c1)
     | (go_at_call 89;refine (KA.out _ HW2.out.below).mono ?_;rintro e w3 ⟨rfl,hb3⟩;have HW3 := ζ (HW2.out.next hb3);have HR3 := ζ (HR2.out.next hb3);clear hb3;have r0 := HR3.out.rc.cell 0;have r1 := HR3.out.rc.cell 1;have r2 := HR3.out.rc.cell 2;have r3 := HR3.out.rc.cell 3;simp only [ζc] at r0 r1 r2 r3))
    go_wp2
    refine bodyPost_ret (v := .agg #[.int .i64 q,.int .i64 k]) (by simp [results,Tryz.results66,go_sem,c0,c1]) rfl ⟨by rw [HE.out],?_⟩
    exact (HW9.out.below.setCell (ζn _) _).setCell (ζn _) _
   rw [hz] at KA
   cases hn2 : x.head.neg
   rotate_left
   ·have HE := ζ (HP.out.trans (wrongFrom_bad (by rw [ruleBad_neg hz hn2];decide)))
    rw [ruleBad_neg hz hn2] at HE
    rw [hn2] at KA HW2 HR2 d0
    clear hz KB KC
    go_wp2_with (first
     | (go_at_call 88;have hh := HW3.out;clear hh;refine (badRef 2 k _ _ HR3.out.ic).mono ?_;rintro e w9 ⟨rfl,hb9⟩;have HW9 := ζ (HW3.out.next hb9);clear hb9;have c0 := HW9.out.out.cell 0;have c1 := HW9.out.out.cell 1;have f0 := HW9.out.out.frozen 0;have f1 := HW9.out.out.frozen 1;simp at c0 c1)
     | (go_at_call 89;refine (KA.out _ HW2.out.below).mono ?_;rintro e w3 ⟨rfl,hb3⟩;have HW3 := ζ (HW2.out.next hb3);have HR3 := ζ (HR2.out.next hb3);clear hb3;have r0 := HR3.out.rc.cell 0;have r1 := HR3.out.rc.cell 1;have r2 := HR3.out.rc.cell 2;have r3 := HR3.out.rc.cell 3;simp only [ζc] at r0 r1 r2 r3))
    go_wp2
    refine bodyPost_ret (v := .agg #[.int .i64 2,.int .i64 k]) (by simp [results,Tryz.results66,go_sem,c0,c1]) rfl ⟨by rw [HE.out],?_⟩
    exact (HW9.out.below.setCell (ζn _) _).setCell (ζn _) _
   by_cases hbz : bodyBad x.body = 0
   rotate_left
   ·have HE := ζ (HP.out.trans (wrongFrom_bad (by rw [ruleBad_bad hz hn2 hbz];exact hbz)))
    rw [ruleBad_bad hz hn2 hbz] at HE
    rw [hn2] at KA HW2 HR2 d0
    have hne : (bodyBad x.body != 0) = true := by simpa using hbz
    clear hz hbz KC
    generalize bodyBad x.body = q at *
    go_wp2_with (first
     | (go_at_call 88;have hh := HW4.out;clear hh;refine (badRef q k _ _ HR4.out.ic).mono ?_;rintro e w9 ⟨rfl,hb9⟩;have HW9 := ζ (HW4.out.next hb9);clear hb9;have c0 := HW9.out.out.cell 0;have c1 := HW9.out.out.cell 1;have f0 := HW9.out.out.frozen 0;have f1 := HW9.out.out.frozen 1;simp at c0 c1)
     | (go_at_call 73;refine (KB.out _ HW3.out.below).mono ?_;rintro e w4 ⟨rfl,hb4⟩;have HW4 := ζ (HW3.out.next hb4);have HR4 := ζ (HR3.out.next hb4);clear hb4 r0 r1 r2 r3;have r0 := HR4.out.rc.cell 0;have r1 := HR4.out.rc.cell 1;have r2 := HR4.out.rc.cell 2;have r3 := HR4.out.rc.cell 3;simp only [ζc] at r0 r1 r2 r3)
     | (go_at_call 89;refine (KA.out _ HW2.out.below).mono ?_;rintro e w3 ⟨rfl,hb3⟩;have HW3 := ζ (HW2.out.next hb3);have HR3 := ζ (HR2.out.next hb3);clear hb3;have r0 := HR3.out.rc.cell 0;have r1 := HR3.out.rc.cell 1;have r2 := HR3.out.rc.cell 2;have r3 := HR3.out.rc.cell 3;simp only [ζc] at r0 r1 r2 r3))
    go_wp2
    refine bodyPost_ret (v := .agg #[.int .i64 q,.int .i64 k]) (by simp [results,Tryz.results66,go_sem,c0,c1]) rfl ⟨by rw [HE.out],?_⟩
    exact (HW9.out.below.setCell (ζn _) _).setCell (ζn _) _
   rw [hbz] at KB
   have hb5 : x.body.length ≤ 5 := by
    unfold bodyBad at hbz
    split at hbz
    ·cases hbz
    ·omega
   cases hbd : boundIn (heldOf x.body) (varsOf x.head)
   ·have hrb : ruleBad x = 9 := by rw [ruleBad_last hz hn2 hbz,hbd];rfl
    have HE := ζ (HP.out.trans (wrongFrom_bad (by rw [hrb];decide)))
    rw [hrb] at HE
    rw [hbd] at KC
    rw [hn2] at KA HW2 HR2 d0 KC
    clear hz hbz hbd hrb
    go_wp2_with (first
     | (go_at_call 88;have hh := HW5.out;clear hh;refine (badRef 9 k _ _ HR5.out.ic).mono ?_;rintro e w9 ⟨rfl,hb9⟩;have HW9 := ζ (HW5.out.next hb9);clear hb9;have c0 := HW9.out.out.cell 0;have c1 := HW9.out.out.cell 1;have f0 := HW9.out.out.frozen 0;have f1 := HW9.out.out.frozen 1;simp at c0 c1)
     | (go_at_call 90;refine (KC.out _ HW4.out.below).mono ?_;rintro e w5 ⟨rfl,hb5⟩;have HW5 := ζ (HW4.out.next hb5);have HR5 := ζ (HR4.out.next hb5);clear hb5 r0 r1 r2 r3;have r0 := HR5.out.rc.cell 0;have r1 := HR5.out.rc.cell 1;have r2 := HR5.out.rc.cell 2;have r3 := HR5.out.rc.cell 3;simp only [ζc] at r0 r1 r2 r3)
     | (go_at_call 73;refine (KB.out _ HW3.out.below).mono ?_;rintro e w4 ⟨rfl,hb4⟩;have HW4 := ζ (HW3.out.next hb4);have HR4 := ζ (HR3.out.next hb4);clear hb4 r0 r1 r2 r3;have r0 := HR4.out.rc.cell 0;have r1 := HR4.out.rc.cell 1;have r2 := HR4.out.rc.cell 2;have r3 := HR4.out.rc.cell 3;simp only [ζc] at r0 r1 r2 r3)
     | (go_at_call 89;refine (KA.out _ HW2.out.below).mono ?_;rintro e w3 ⟨rfl,hb3⟩;have HW3 := ζ (HW2.out.next hb3);have HR3 := ζ (HR2.out.next hb3);clear hb3;have r0 := HR3.out.rc.cell 0;have r1 := HR3.out.rc.cell 1;have r2 := HR3.out.rc.cell 2;have r3 := HR3.out.rc.cell 3;simp only [ζc] at r0 r1 r2 r3))
    go_wp2
    refine bodyPost_ret (v := .agg #[.int .i64 9,.int .i64 k]) (by simp [results,Tryz.results66,go_sem,c0,c1]) rfl ⟨by rw [HE.out],?_⟩
    exact (HW9.out.below.setCell (ζn _) _).setCell (ζn _) _
   have HZ := ζ (show ruleBad x = 0 by rw [ruleBad_last hz hn2 hbz,hbd];rfl)
   rw [hbd] at KC
   have HN2 := ζ hn2
   rw [hn2] at KA HW2 HR2 d0 KC
   clear hz hbz hbd
   have hwr := HW.out.lt
   go_wp2_with (first
    | (at_builtin;have hbig := HW5.out.lt;have HO6 := ζ (Owned.lit (k := 3) (R := RAtom) (B := w5.heap.size) (e := 78) (S := fun q => q < w.heap.size) (w := w5) (l := [x.head]) [[.bool false,.string x.head.name,.slice ta x.head.terms.length tc]] #[.bool false,.string x.head.name,.slice ta x.head.terms.length tc] rfl (by simp) (by simp) rfl (ζn _) (by simp [maxLen]) (fun i c z hc hz => by
     rcases i with _ | i
     ·simp at hc hz
      subst hc hz
      exact ⟨_,by rw [HN2.out],((HRA.out.t.more (S' := fun q => q < w.heap.size ∧ some q ≠ some w5.heap.size) RTerm.steady (fun q _ hq => ⟨hq,fun e => by injection e with e;omega⟩)).agree RTerm.steady ⟨(HW5.out.alloc _).below.size,fun q hq _ => (HW5.out.alloc _).below.block q hq.1⟩)⟩
     ·simp at hc));refine wpList_append_many (B := w5.heap.size) (e := 78) (S := fun q => q < w.heap.size) (by rfl) _ _ 79 (by rfl) RAtom.steady RAtom.one rowAtoms _ [x.head] (by rfl) HO6.out (.slice ba x.body.length bc) x.body (by rfl) ((HRA.out.b.more (S' := fun q => q < w.heap.size) RAtom.steady (fun q _ hq => hq)).agree RAtom.steady ⟨(HW5.out.alloc _).below.size,fun q hq _ => (HW5.out.alloc _).below.block q hq⟩) (fun cs x' hr => RAtom.steady.more (fun q hq _ => ⟨hq,fun e => by have := (HO6.out.row_lt e.symm).1;omega⟩) hr) (by simp;omega) (by simp) ?_;intro v7 w7 hown7 hg7 hat7;have HO7 := ζ (show Owned 3 RAtom w5.heap.size 78 (fun q => q < w.heap.size) w7 v7 (x.head :: x.body) from hown7);have HW7 := ζ ((HW5.out.alloc _).grow hg7 (fun q hq => by have := (HO6.out.row_lt hq).1;omega));have HR7 := ζ ((HR5.out.next ((ζb _ _).alloc (ζn _) _)).grow hg7 (fun q hq => by have h1 := (HO6.out.row_lt hq).1;have h2 := HR5.out.ic.lt;have h3 := HR5.out.rc.lt;constructor <;> omega));obtain ⟨a7,c7,rfl,-,-,-⟩ := id (HO7.out.read RAtom.steady).form;clear hown7 hg7 hat7)
    | (go_at_call 90;refine (KC.out _ HW4.out.below).mono ?_;rintro e w5 ⟨rfl,hb5⟩;have HW5 := ζ (HW4.out.next hb5);have HR5 := ζ (HR4.out.next hb5);clear hb5 r0 r1 r2 r3;have r0 := HR5.out.rc.cell 0;have r1 := HR5.out.rc.cell 1;have r2 := HR5.out.rc.cell 2;have r3 := HR5.out.rc.cell 3;simp only [ζc] at r0 r1 r2 r3;have q3 := (HR5.out.next ((ζb _ _).alloc (ζn _) (.cells #[.bool false,.string x.head.name,.slice ta x.head.terms.length tc] 78))).rc.cell 3;simp only [ζc] at q3)
    | (go_at_call 73;refine (KB.out _ HW3.out.below).mono ?_;rintro e w4 ⟨rfl,hb4⟩;have HW4 := ζ (HW3.out.next hb4);have HR4 := ζ (HR3.out.next hb4);clear hb4 r0 r1 r2 r3;have r0 := HR4.out.rc.cell 0;have r1 := HR4.out.rc.cell 1;have r2 := HR4.out.rc.cell 2;have r3 := HR4.out.rc.cell 3;simp only [ζc] at r0 r1 r2 r3)
    | (go_at_call 89;refine (KA.out _ HW2.out.below).mono ?_;rintro e w3 ⟨rfl,hb3⟩;have HW3 := ζ (HW2.out.next hb3);have HR3 := ζ (HR2.out.next hb3);clear hb3;have r0 := HR3.out.rc.cell 0;have r1 := HR3.out.rc.cell 1;have r2 := HR3.out.rc.cell 2;have r3 := HR3.out.rc.cell 3;simp only [ζc] at r0 r1 r2 r3))
   have HRL := ζ (show RdAtoms (fun b => b < w.heap.size ∨ w5.heap.size ≤ b) w7 (.slice a7 (x.head :: x.body).length c7) (x.head :: x.body) from HO7.out.read RAtom.steady)
   have hbig := HW5.out.lt
   have hcr := HR7.out.ic.lt
   have HSM := ζ (show ∀ y ∈ x.head :: x.body,y.terms.length ≤ 1048576 ∧ y.name.size ≤ 1048576 from fun y hy => by
    rcases List.mem_cons.1 hy with rfl | hy
    ·exact ⟨HS.out.h1,HN.out.h⟩
    ·exact ⟨HS.out.b1 y hy,HN.out.b y hy⟩)
   obtain ⟨l2,hl2⟩ : ∃ l2,x.head :: x.body = l2 := ⟨_,rfl⟩
   have hl6 : l2.length ≤ 6 := by rw [← hl2];simp only [List.length_cons];omega
   have hlen2 : (x.head :: x.body).length = l2.length := by rw [hl2]
   rw [hl2] at HRL HSM
   have HFF := ζ (show wrongP p = if fitAll m l2 then wrongFrom (learnAll m l2) (k + 1) (p.drop (k + 1)) else (8,(k : Int)) from by
    rw [HP.out,← hl2]
    cases hf : fitAll m (x.head :: x.body)
    ·rw [wrongFrom_unfit HZ.out hf];rfl
    ·rw [wrongFrom_fit HZ.out hf];rfl)
   have hlc : x.body.length + 1 = l2.length := by rw [← hl2];rfl
   clear r0 r1 r2 r3 q3 HW2 HW3 HW4 HW5 HW1 HW HR2 HR3 HR4 HO6 HO7 d0 d1 d2 d3 KA KB KC hl2 HX HP HZ
   have hn0 : n ≤ k * 6 + 0 := hn
   have HF0 := ζ (show fitAll m l2 = fitAll m (l2.drop 0) ∧ learnAll m l2 = learnAll m (l2.drop 0) from ⟨rfl,rfl⟩)
   try simp only [List.length_cons] at *
   have hlcI : (x.body.length : Int) + 1 = (l2.length : Int) := by omega
   try rw [hlcI]
   try rw [hlc] at *
   clear hlcI
   generalize HCB : wr.heap.size = cb at *
   clear HCB
   go_loopw [62] (fun i wx => ∃ (j n' : Nat) (m' : Known),j ≤ l2.length ∧ i = .int .i64 j ∧ n' ≤ k * 6 + j ∧ Hid (PgW w wx n' m') ∧ Hid (PgR wx cb (cb + 1) k x (.slice ta x.head.terms.length tc) (.slice ba x.body.length bc)) ∧ Hid (RdAtoms (fun b => b < w.heap.size ∨ w5.heap.size ≤ b) wx (.slice a7 l2.length c7) l2) ∧ Hid (fitAll m l2 = fitAll m' (l2.drop j) ∧ learnAll m l2 = learnAll m' (l2.drop j))) (fun i _ => l2.length - (intOf i).toNat)
   case atStart => exact ⟨0,n,m,Nat.zero_le _,rfl,hn0,HW7,HR7,HRL,HF0⟩
   case round =>
    clear HW7 HR7 HRL HF0 hcr hn0 hlc hlen2 hn hk
    obtain ⟨j,n',m',hj,rfl,hn',HW,HR,HRL,HF⟩ := hrel
    by_cases hlj : j < l2.length
    ·obtain ⟨y,hy⟩ : ∃ y,l2[j]? = some y := ⟨_,ζe hlj⟩
     obtain ⟨b4,o4,yv,rfl,hS4,hb4,e0,e1,e2,hyv⟩ := RdAtoms.at HRL.out hy
     obtain ⟨ya,yc,rfl,-,-,-⟩ := id hyv.form
     obtain ⟨ny1,ny2⟩ := HSM.out y (ζm hy)
     have HW6 := ζ (HW.out.alloc (.cells #[.bool y.neg,.string y.name,.slice ya y.terms.length yc] 78))
     have HR6 := ζ (HR.out.next ((ζb _ _).alloc (ζn _) (.cells #[.bool y.neg,.string y.name,.slice ya y.terms.length yc] 78)))
     have HRL6 := ζ (HRL.out.agree RAtom.steady ((Agree.refl _ _).alloc (.cells #[.bool y.neg,.string y.name,.slice ya y.terms.length yc] 78)))
     have hys : y.name.size ≤ maxLen := by unfold maxLen;omega
     have hget := HW6.out.map.getOk hys
     obtain ⟨z',hz'⟩ : ∃ z' : Int,(y.terms.length : Int) + 1 = z' := ⟨_,rfl⟩
     have hw1 : IntKind.i64.wrap ((y.terms.length : Int) + 1) = z' := by rw [IntKind.wrap_i64];omega
     obtain ⟨w8,hput,hm8,hg8⟩ := HW6.out.map.put (by unfold maxLen;omega) (s := y.name) hys (x := z') (WalkArith.wf_i64 (by omega))
     rw [at_drop hy] at HF
     have KG := ζ (show fits m' y = true → PgW w w8 (n' + 1) (learn m' y) ∧ PgR w8 cb (cb + 1) k x (.slice ta x.head.terms.length tc) (.slice ba x.body.length bc) ∧ RdAtoms (fun b => b < w.heap.size ∨ w5.heap.size ≤ b) w8 (.slice (some ⟨b4,o4,none⟩) l2.length c7) l2 from fun hf =>
      ⟨HW6.out.put hg8 (by rw [← up1_learn hf,hz'];exact hm8),HR6.out.grow hg8 (fun q hq => by injection hq with e;constructor <;> omega),HRL6.out.agree RAtom.steady ⟨hg8.size,fun b hb hlt => hg8.block b hlt (fun e => by injection e with e;omega)⟩⟩)
     clear hy hyv hm8 hg8 HRL HR HW
     cases hv : m' y.name with
     | none =>
      have hu : up1 m' y.name = none := by unfold up1;rw [hv];rfl
      rw [hu] at hget
      simp only [Option.isSome,Option.getD] at hget
      have hf : fits m' y = true := by unfold fits;rw [hv]
      obtain ⟨hW8,hR8,hRL8⟩ := KG.out hf
      have HW8 := ζ hW8
      have HR8 := ζ hR8
      have HRL8 := ζ hRL8
      have HF2 := ζ (show fitAll m l2 = fitAll (learn m' y) (l2.drop (j + 1)) ∧ learnAll m l2 = learnAll (learn m' y) (l2.drop (j + 1)) from ⟨HF.out.1.trans (by show (fits m' y && _) = _;rw [hf];rfl),HF.out.2⟩)
      clear hv hu hf KG HF hW8 hR8 hRL8 hz'
      go_wp2
      go_roundw
      case rel => exact ⟨j + 1,n' + 1,_,by omega,by go_num,by omega,HW8,HR8,HRL8,HF2⟩
      case measure => simp [intOf];omega
     | some q =>
      obtain ⟨z,hz⟩ : ∃ z : Int,q + 1 = z := ⟨_,rfl⟩
      have hu : up1 m' y.name = some z := by unfold up1;rw [hv,← hz];rfl
      rw [hu] at hget
      simp only [Option.isSome,Option.getD] at hget
      have hff : fits m' y = decide (z = z') := by
       unfold fits
       rw [hv]
       show (q == (y.terms.length : Int)) = _
       rw [Bool.eq_iff_iff,beq_iff_eq,decide_eq_true_iff]
       omega
      by_cases hzz : z = z'
      ·rw [decide_eq_true hzz] at hff
       obtain ⟨hW8,hR8,hRL8⟩ := KG.out hff
       have HW8 := ζ hW8
       have HR8 := ζ hR8
       have HRL8 := ζ hRL8
       have HF2 := ζ (show fitAll m l2 = fitAll (learn m' y) (l2.drop (j + 1)) ∧ learnAll m l2 = learnAll (learn m' y) (l2.drop (j + 1)) from ⟨HF.out.1.trans (by show (fits m' y && _) = _;rw [hff];rfl),HF.out.2⟩)
       have hne : (z != z') = false := by rw [hzz];simp
       clear hv hu hff KG HF hW8 hR8 hRL8 hz' hz hzz
       go_wp2
       go_roundw
       case rel => exact ⟨j + 1,n' + 1,_,by omega,by go_num,by omega,HW8,HR8,HRL8,HF2⟩
       case measure => simp [intOf];omega
      ·rw [decide_eq_false hzz] at hff
       have HE := ζ (show wrongP p = (8,(k : Int)) from by
        rw [HFF.out,HF.out.1,if_neg]
        show ¬ (fits m' y && _) = true
        rw [hff];simp)
       have hne : (z != z') = true := by simpa using hzz
       clear hv hu hff KG HF hz' hz hzz hput
       go_wp2_with (go_at_call 88;refine (badRef 8 k _ _ HR6.out.ic).mono ?_;rintro e w9 ⟨rfl,hb9⟩;have HW9 := ζ (HW6.out.next hb9);clear hb9;have c0 := HW9.out.out.cell 0;have c1 := HW9.out.out.cell 1;have f0 := HW9.out.out.frozen 0;have f1 := HW9.out.out.frozen 1;simp at c0 c1)
       go_wp2
       refine bodyPost_ret (v := .agg #[.int .i64 8,.int .i64 k]) (by simp [results,Tryz.results66,go_sem,c0,c1]) rfl ⟨by rw [HE.out],?_⟩
       exact (HW9.out.below.setCell (ζn _) _).setCell (ζn _) _
    ·have HF2 := ζ (show wrongP p = wrongFrom m' ((k + 1 : Nat) : Int) (p.drop (k + 1)) by
      have h1 := HF.out
      rw [List.drop_eq_nil_of_le (show l2.length ≤ j by omega)] at h1
      rw [HFF.out,h1.1,h1.2]
      show wrongFrom m' _ _ = _
      congr 1)
     have hk2 : k + 1 ≤ p.length := by omega
     go_wp2
     go_roundw
     case rel => exact ⟨k + 1,n',m',by omega,by go_num,by omega,HW,HF2⟩
     case measure => simp [intOf];omega
  ·have HE := ζ (show wrongP p = (0,0) by rw [HP.out,List.drop_eq_nil_of_le (by omega)];rfl)
   have c0 := HW.out.out.cell 0;have c1 := HW.out.out.cell 1;have f0 := HW.out.out.frozen 0;have f1 := HW.out.out.frozen 1
   simp at c0 c1
   go_wp2
   refine bodyPost_ret (v := .agg #[.int .i64 0,.int .i64 0]) (by simp [results,Tryz.results66,go_sem,c0,c1]) rfl ⟨by rw [HE.out],?_⟩
   exact (HW.out.below.setCell (ζn _) _).setCell (ζn _) _
end
section
abbrev Rel := Str × Str → Bool
def Rel.set (R : Rel) (a b : Str) : Rel := fun t => if t = (a,b) then true else R t
theorem Rel.set_same (R : Rel) (a b : Str) : R.set a b (a,b) = true := by simp [Rel.set]
theorem Rel.set_le (R : Rel) (a b : Str) {t : Str × Str} (h : R t = true) : R.set a b t = true := by unfold Rel.set;split <;> first | rfl | exact h
theorem Rel.set_or {R : Rel} {a b x y : Str} (h : R.set a b (x,y) = true) : (x = a ∧ y = b) ∨ R (x,y) = true := by
 unfold Rel.set at h
 split at h
 ·rename_i e;injection e with e1 e2;exact .inl ⟨e1,e2⟩
 ·exact .inr h
structure Snd (p : List PRule) (R O : Rel) : Prop where
 reach : ∀ N,Sol p N → ∀ a b,R (a,b) = true → N b ≤ N a
 over : ∀ N,Sol p N → ∀ a b,O (a,b) = true → N b + 1 ≤ N a
theorem Snd.empty (p : List PRule) : Snd p (fun _ => false) (fun _ => false) := ⟨fun _ _ _ _ h => (by cases h),fun _ _ _ _ h => (by cases h)⟩
theorem Snd.edge {p : List PRule} {R O : Rel} (h : Snd p R O) {r : PRule} (hr : r ∈ p) {x : PAtom} (hx : x ∈ r.body) : Snd p (R.set r.head.name x.name) O :=
 ⟨fun N hN a b hab => (Rel.set_or hab).elim (fun e => by obtain ⟨rfl,rfl⟩ := e;have := hN.up r hr x hx;omega) (h.reach N hN a b),h.over⟩
theorem Snd.nedge {p : List PRule} {R O : Rel} (h : Snd p R O) {r : PRule} (hr : r ∈ p) {x : PAtom} (hx : x ∈ r.body) (hn : x.neg = true) (hh : x.name ∈ headsOf p) : Snd p R (O.set r.head.name x.name) :=
 ⟨h.reach,fun N hN a b hab => (Rel.set_or hab).elim (fun e => by obtain ⟨rfl,rfl⟩ := e;have := hN.up r hr x hx;unfold dl at this;rw [if_pos ⟨hn,hh⟩] at this;exact this) (h.over N hN a b)⟩
theorem Snd.join {p : List PRule} {R O : Rel} (h : Snd p R O) {a k b : Str} (h1 : R (a,k) = true) (h2 : R (k,b) = true) : Snd p (R.set a b) O :=
 ⟨fun N hN x y hxy => (Rel.set_or hxy).elim (fun e => by obtain ⟨rfl,rfl⟩ := e;have := h.reach N hN _ _ h1;have := h.reach N hN _ _ h2;omega) (h.reach N hN x y),h.over⟩
theorem Snd.joinO {p : List PRule} {R O : Rel} (h : Snd p R O) {a k b : Str} (h1 : R (a,k) = true) (h2 : R (k,b) = true) (h3 : O (a,k) = true ∨ O (k,b) = true) : Snd p R (O.set a b) :=
 ⟨h.reach,fun N hN x y hxy => (Rel.set_or hxy).elim (fun e => by
  obtain ⟨rfl,rfl⟩ := e
  have := h.reach N hN _ _ h1;have := h.reach N hN _ _ h2
  rcases h3 with h3 | h3 <;> have := h.over N hN _ _ h3 <;> omega) (h.over N hN x y)⟩
theorem Snd.loop {p : List PRule} {R O : Rel} (h : Snd p R O) {a : Str} (ha : O (a,a) = true) : ∀ N,¬ Sol p N := fun N hN => by have := h.over N hN a a ha;omega
def EdgeP (p : List PRule) (a b : Str) : Prop := ∃ r ∈ p,r.head.name = a ∧ ∃ x ∈ r.body,x.name = b ∧ b ∈ headsOf p
def NEdgeP (p : List PRule) (a b : Str) : Prop := ∃ r ∈ p,r.head.name = a ∧ ∃ x ∈ r.body,x.name = b ∧ b ∈ headsOf p ∧ x.neg = true
theorem NEdgeP.edge {p : List PRule} {a b : Str} (h : NEdgeP p a b) : EdgeP p a b := let ⟨r,hr,e,x,hx,e2,hh,_⟩ := h;⟨r,hr,e,x,hx,e2,hh⟩
inductive Way (E : Str → Str → Prop) (K : Str → Prop) : Str → Str → Prop
 | edge {a b : Str} : E a b → Way E K a b
 | step {a c b : Str} : E a c → K c → Way E K c b → Way E K a b
inductive NWay (E N : Str → Str → Prop) (K : Str → Prop) : Str → Str → Prop
 | edge {a b : Str} : N a b → NWay E N K a b
 | here {a c b : Str} : N a c → K c → Way E K c b → NWay E N K a b
 | later {a c b : Str} : E a c → K c → NWay E N K c b → NWay E N K a b
section
variable {E N : Str → Str → Prop} {K : Str → Prop} {k : Str}
theorem Way.split {a b : Str} (h : Way E (fun c => K c ∨ c = k) a b) : Way E K a b ∨ (Way E K a k ∧ Way E K k b) := by
 induction h with
 | edge h => exact .inl (.edge h)
 | step h hc _ ih =>
  rcases hc with hc | rfl
  ·rcases ih with ih | ⟨i1,i2⟩
   ·exact .inl (.step h hc ih)
   ·exact .inr ⟨.step h hc i1,i2⟩
  ·rcases ih with ih | ⟨_,i2⟩
   ·exact .inr ⟨.edge h,ih⟩
   ·exact .inr ⟨.edge h,i2⟩
theorem NWay.split (_hEN : ∀ a b,N a b → E a b) {a b : Str} (h : NWay E N (fun c => K c ∨ c = k) a b) : NWay E N K k k ∨ NWay E N K a b ∨ (NWay E N K a k ∧ Way E K k b) ∨ (Way E K a k ∧ NWay E N K k b) := by
 induction h with
 | edge h => exact .inr (.inl (.edge h))
 | here h hc hw =>
  rcases hc with hc | rfl
  ·rcases hw.split with ih | ⟨i1,i2⟩
   ·exact .inr (.inl (.here h hc ih))
   ·exact .inr (.inr (.inl ⟨.here h hc i1,i2⟩))
  ·rcases hw.split with ih | ⟨_,i2⟩
   ·exact .inr (.inr (.inl ⟨.edge h,ih⟩))
   ·exact .inr (.inr (.inl ⟨.edge h,i2⟩))
 | later h hc _ ih =>
  rcases ih with ih | ih | ⟨i1,i2⟩ | ⟨i1,i2⟩
  ·exact .inl ih
  ·rcases hc with hc | rfl
   ·exact .inr (.inl (.later h hc ih))
   ·exact .inr (.inr (.inr ⟨.edge h,ih⟩))
  ·rcases hc with hc | rfl
   ·exact .inr (.inr (.inl ⟨.later h hc i1,i2⟩))
   ·exact .inl i1
  ·rcases hc with hc | rfl
   ·exact .inr (.inr (.inr ⟨.step h hc i1,i2⟩))
   ·exact .inr (.inr (.inr ⟨.edge h,i2⟩))
theorem Way.more {L : Str → Prop} (hKL : ∀ c,K c → L c) {a b : Str} (h : Way E K a b) : Way E L a b := by
 induction h with
 | edge h => exact .edge h
 | step h hc _ ih => exact .step h (hKL _ hc) ih
theorem NWay.more {L : Str → Prop} (hKL : ∀ c,K c → L c) {a b : Str} (h : NWay E N K a b) : NWay E N L a b := by
 induction h with
 | edge h => exact .edge h
 | here h hc hw => exact .here h (hKL _ hc) (hw.more hKL)
 | later h hc _ ih => exact .later h (hKL _ hc) ih
end
structure Wsh (p : List PRule) (m : Nat) (R O : Rel) : Prop where
 way : ∀ a b,a ∈ headsOf p → b ∈ headsOf p → Way (EdgeP p) (fun c => c ∈ (headsOf p).take m) a b → R (a,b) = true
 nway : ∀ a b,a ∈ headsOf p → b ∈ headsOf p → NWay (EdgeP p) (NEdgeP p) (fun c => c ∈ (headsOf p).take m) a b → O (a,b) = true ∨ ∃ x ∈ headsOf p,O (x,x) = true
structure Mid (R0 O0 R O : Rel) (k : Str) (P : Str → Str → Prop) : Prop where
 le : ∀ t,R0 t = true → R t = true
 leO : ∀ t,O0 t = true → O t = true
 done : ∀ a b,P a b → R0 (a,k) = true → R0 (k,b) = true → R (a,b) = true ∧ (O0 (a,k) = true ∨ O0 (k,b) = true → O (a,b) = true)
theorem Mid.start (R O : Rel) (k : Str) : Mid R O R O k (fun _ _ => False) := ⟨fun _ h => h,fun _ h => h,fun _ _ h => h.elim⟩
theorem Mid.weak {R0 O0 R O : Rel} {k : Str} {P Q : Str → Str → Prop} (h : Mid R0 O0 R O k P) (hq : ∀ a b,Q a b → P a b) : Mid R0 O0 R O k Q := ⟨h.le,h.leO,fun a b hab => h.done a b (hq a b hab)⟩
theorem Mid.skip {R0 O0 R O : Rel} {k a b : Str} {P : Str → Str → Prop} (h : Mid R0 O0 R O k P) (hno : (R (a,k) && R (k,b)) = false) : Mid R0 O0 R O k (fun x y => P x y ∨ (x = a ∧ y = b)) :=
 ⟨h.le,h.leO,fun x y hxy h1 h2 => hxy.elim (fun hp => h.done x y hp h1 h2) (fun e => by
  obtain ⟨rfl,rfl⟩ := e
  rw [h.le _ h1,h.le _ h2] at hno
  cases hno)⟩
theorem Mid.reach {R0 O0 R O : Rel} {k a b : Str} {P : Str → Str → Prop} (h : Mid R0 O0 R O k P) (hO : (O (a,k) || O (k,b)) = false) : Mid R0 O0 (R.set a b) O k (fun x y => P x y ∨ (x = a ∧ y = b)) :=
 ⟨fun t ht => R.set_le a b (h.le t ht),h.leO,fun x y hxy h1 h2 => hxy.elim (fun hp => ⟨R.set_le a b (h.done x y hp h1 h2).1,(h.done x y hp h1 h2).2⟩) (fun e => by
  obtain ⟨rfl,rfl⟩ := e
  refine ⟨R.set_same _ _,fun h3 => ?_⟩
  rcases h3 with h3 | h3 <;> rw [h.leO _ h3] at hO <;> simp at hO)⟩
theorem Mid.over {R0 O0 R O : Rel} {k a b : Str} {P : Str → Str → Prop} (h : Mid R0 O0 R O k P) : Mid R0 O0 (R.set a b) (O.set a b) k (fun x y => P x y ∨ (x = a ∧ y = b)) :=
 ⟨fun t ht => R.set_le a b (h.le t ht),fun t ht => O.set_le a b (h.leO t ht),fun x y hxy h1 h2 => hxy.elim (fun hp => ⟨R.set_le a b (h.done x y hp h1 h2).1,fun h3 => O.set_le a b ((h.done x y hp h1 h2).2 h3)⟩) (fun e => by
  obtain ⟨rfl,rfl⟩ := e
  exact ⟨R.set_same _ _,fun _ => O.set_same _ _⟩)⟩
theorem Wsh.next {p : List PRule} {m : Nat} {k : Str} {R0 O0 R O : Rel} (h : Wsh p m R0 O0) (hk : (headsOf p)[m]? = some k) (hm : Mid R0 O0 R O k (fun a b => a ∈ headsOf p ∧ b ∈ headsOf p)) : Wsh p (m + 1) R O := by
 have hkh : k ∈ headsOf p := ζm hk
 have ht : ∀ c,c ∈ (headsOf p).take (m + 1) → c ∈ (headsOf p).take m ∨ c = k := fun c hc => by
  rw [List.take_add_one,hk] at hc
  rcases List.mem_append.1 hc with hc | hc
  ·exact .inl hc
  ·exact .inr (by simpa using hc)
 refine ⟨fun a b ha hb hw => ?_,fun a b ha hb hw => ?_⟩
 ·rcases (hw.more ht).split with h1 | ⟨h1,h2⟩
  ·exact hm.le _ (h.way a b ha hb h1)
  ·exact (hm.done a b ⟨ha,hb⟩ (h.way a k ha hkh h1) (h.way k b hkh hb h2)).1
 ·have up : (∃ x ∈ headsOf p,O0 (x,x) = true) → ∃ x ∈ headsOf p,O (x,x) = true := fun ⟨x,hx,hh⟩ => ⟨x,hx,hm.leO _ hh⟩
  have wayOf : ∀ {a b : Str},NWay (EdgeP p) (NEdgeP p) (fun c => c ∈ (headsOf p).take m) a b → Way (EdgeP p) (fun c => c ∈ (headsOf p).take m) a b := fun hn => by
   induction hn with
   | edge h => exact .edge h.edge
   | here h hc hw => exact .step h.edge hc hw
   | later h hc _ ih => exact .step h hc ih
  rcases (hw.more ht).split (fun _ _ h => h.edge) with h1 | h1 | ⟨h1,h2⟩ | ⟨h1,h2⟩
  ·rcases h.nway k k hkh hkh h1 with h1 | h1
   ·exact .inr ⟨k,hkh,hm.leO _ h1⟩
   ·exact .inr (up h1)
  ·rcases h.nway a b ha hb h1 with h1 | h1
   ·exact .inl (hm.leO _ h1)
   ·exact .inr (up h1)
  ·rcases h.nway a k ha hkh h1 with h3 | h3
   ·exact .inl ((hm.done a b ⟨ha,hb⟩ (h.way a k ha hkh (wayOf h1)) (h.way k b hkh hb h2)).2 (.inl h3))
   ·exact .inr (up h3)
  ·rcases h.nway k b hkh hb h2 with h3 | h3
   ·exact .inl ((hm.done a b ⟨ha,hb⟩ (h.way a k ha hkh h1) (h.way k b hkh hb (wayOf h2))).2 (.inr h3))
   ·exact .inr (up h3)
def Cov (p : List PRule) (l : List PRule) (R O : Rel) : Prop := ∀ r ∈ l,∀ x ∈ r.body,x.name ∈ headsOf p → R (r.head.name,x.name) = true ∧ (x.neg = true → O (r.head.name,x.name) = true)
def CovA (p : List PRule) (r : PRule) (l : List PAtom) (R O : Rel) : Prop := ∀ x ∈ l,x.name ∈ headsOf p → R (r.head.name,x.name) = true ∧ (x.neg = true → O (r.head.name,x.name) = true)
theorem CovA.more {p : List PRule} {r : PRule} {l : List PAtom} {R O R' O' : Rel} (h : CovA p r l R O) (h1 : ∀ t,R t = true → R' t = true) (h2 : ∀ t,O t = true → O' t = true) : CovA p r l R' O' :=
 fun x hx hh => ⟨h1 _ (h x hx hh).1,fun hn => h2 _ ((h x hx hh).2 hn)⟩
theorem CovA.snoc {p : List PRule} {r : PRule} {l : List PAtom} {R O : Rel} (h : CovA p r l R O) {y : PAtom} (hy : y.name ∈ headsOf p → R (r.head.name,y.name) = true ∧ (y.neg = true → O (r.head.name,y.name) = true)) : CovA p r (l ++ [y]) R O :=
 fun x hx hh => (List.mem_append.1 hx).elim (fun hx => h x hx hh) (fun hx => by obtain rfl := List.mem_singleton.1 hx;exact hy hh)
theorem Cov.snoc {p l : List PRule} {R O : Rel} (h : Cov p l R O) {r : PRule} (hr : CovA p r r.body R O) : Cov p (l ++ [r]) R O :=
 fun q hq => (List.mem_append.1 hq).elim (fun hq => h q hq) (fun hq => by obtain rfl := List.mem_singleton.1 hq;exact hr)
theorem Cov.more {p l : List PRule} {R O R' O' : Rel} (h : Cov p l R O) (h1 : ∀ t,R t = true → R' t = true) (h2 : ∀ t,O t = true → O' t = true) : Cov p l R' O' :=
 fun r hr x hx hh => ⟨h1 _ (h r hr x hx hh).1,fun hn => h2 _ ((h r hr x hx hh).2 hn)⟩
theorem Wsh.start {p : List PRule} {R O : Rel} (h : Cov p p R O) : Wsh p 0 R O := by
 refine ⟨fun a b ha hb hw => ?_,fun a b ha hb hw => ?_⟩
 ·cases hw with
  | edge h1 => obtain ⟨r,hr,rfl,x,hx,rfl,hh⟩ := h1;exact (h r hr x hx hh).1
  | step _ hc _ => simp at hc
 ·cases hw with
  | edge h1 => obtain ⟨r,hr,rfl,x,hx,rfl,hh,hn⟩ := h1;exact .inl ((h r hr x hx hh).2 hn)
  | here _ hc _ => simp at hc
  | later _ hc _ => simp at hc
theorem filter_le {α : Type} (P Q : α → Bool) (h : ∀ x,P x = true → Q x = true) : ∀ l : List α,(l.filter P).length ≤ (l.filter Q).length
 | [] => ζn _
 | x :: l => by
  have ih := filter_le P Q h l
  rw [List.filter_cons,List.filter_cons]
  cases hp : P x
  ·split
   ·rename_i e;cases e
   ·split
    ·simp only [List.length_cons];omega
    ·exact ih
  ·rw [h x hp];simpa using ih
theorem filter_lt {α : Type} (P Q : α → Bool) (h : ∀ x,P x = true → Q x = true) {y : α} (hQ : Q y = true) (hP : P y = false) : ∀ l : List α,y ∈ l → (l.filter P).length + 1 ≤ (l.filter Q).length
 | [],hy => by simp at hy
 | x :: l,hy => by
  rw [List.filter_cons,List.filter_cons]
  rcases List.mem_cons.1 hy with rfl | hy
  ·rw [hP,hQ]
   have := filter_le P Q h l
   simpa using this
  ·have ih := filter_lt P Q h hQ hP l hy
   cases hp : P x
   ·split
    ·rename_i e;cases e
    ·split
     ·simp only [List.length_cons];omega
     ·exact ih
   ·rw [h x hp];simpa using ih
open Classical in
theorem Wsh.sol {p : List PRule} {R O : Rel} (h : Wsh p (headsOf p).length R O) (hno : ∀ x ∈ headsOf p,O (x,x) = false) : ∃ N,Sol p N := by
 let Ov : Str → Str → Prop := NWay (EdgeP p) (NEdgeP p) (fun c => c ∈ headsOf p)
 have hirr : ∀ a ∈ headsOf p,¬ Ov a a := fun a ha hw => by
  rcases h.nway a a ha ha (hw.more (fun c hc => by rwa [List.take_length])) with h1 | ⟨x,hx,h1⟩
  ·rw [hno a ha] at h1;cases h1
  ·rw [hno x hx] at h1;cases h1
 refine ⟨fun a => ((headsOf p).filter (fun c => decide (Ov a c))).length,fun s hs => ?_,fun r hr x hx => ?_⟩
 ·rw [List.filter_eq_nil_iff.2]
  ·rfl
  ·intro c _ hc
   have hc := of_decide_eq_true hc
   have : s ∈ headsOf p := by
    cases hc with
    | edge h1 => obtain ⟨r,hr,e,_⟩ := h1;exact List.mem_map.2 ⟨r,hr,e⟩
    | here h1 => obtain ⟨r,hr,e,_⟩ := h1;exact List.mem_map.2 ⟨r,hr,e⟩
    | later h1 => obtain ⟨r,hr,e,_⟩ := h1;exact List.mem_map.2 ⟨r,hr,e⟩
   exact hs this
 ·have hrh : r.head.name ∈ headsOf p := List.mem_map.2 ⟨r,hr,rfl⟩
  show ((headsOf p).filter (fun c => decide (Ov x.name c))).length + dl p x ≤ ((headsOf p).filter (fun c => decide (Ov r.head.name c))).length
  by_cases hh : x.name ∈ headsOf p
  ·have hle : ∀ c,decide (Ov x.name c) = true → decide (Ov r.head.name c) = true := fun c hc => decide_eq_true (NWay.later ⟨r,hr,rfl,x,hx,rfl,hh⟩ hh (of_decide_eq_true hc))
   cases hn : x.neg
   ·have : dl p x = 0 := by unfold dl;rw [if_neg (by rw [hn];simp)]
    rw [this]
    exact filter_le _ _ hle _
   ·have hd : dl p x = 1 := by unfold dl;rw [if_pos ⟨hn,hh⟩]
    rw [hd]
    exact filter_lt _ _ hle (y := x.name) (decide_eq_true (NWay.edge ⟨r,hr,rfl,x,hx,rfl,hh,hn⟩)) (decide_eq_false (hirr _ hh)) _ hh
  ·have hd : dl p x = 0 := by unfold dl;rw [if_neg (fun e => hh e.2)]
   rw [hd]
   rw [List.filter_eq_nil_iff.2]
   ·exact Nat.zero_le _
   ·intro c _ hc
    have hc := of_decide_eq_true hc
    have : x.name ∈ headsOf p := by
     cases hc with
     | edge h1 => obtain ⟨r,hr,e,_⟩ := h1;exact List.mem_map.2 ⟨r,hr,e⟩
     | here h1 => obtain ⟨r,hr,e,_⟩ := h1;exact List.mem_map.2 ⟨r,hr,e⟩
     | later h1 => obtain ⟨r,hr,e,_⟩ := h1;exact List.mem_map.2 ⟨r,hr,e⟩
    exact hh this
def unset (p : List PRule) (L M : Str → Nat) : Nat := ((onceS (headsOf p)).filter (fun h => decide (M h < L h))).length
def lift (M : Str → Nat) (s : Str) (n : Nat) : Str → Nat := fun t => if t = s then max (M s) n else M t
structure Rnd (p : List PRule) (L M0 M : Str → Nat) (l : List (PRule × PAtom)) : Prop where
 ge : ∀ s,M0 s ≤ M s
 le : ∀ s,M s ≤ L s
 done : ∀ q ∈ l,M0 q.2.name + dl p q.2 ≤ M q.1.head.name
theorem Rnd.start {p : List PRule} {L M : Str → Nat} (h : ∀ s,M s ≤ L s) : Rnd p L M M [] := ⟨fun _ => ζn _,h,by simp⟩
theorem Rnd.step {p : List PRule} {L M0 M : Str → Nat} {l : List (PRule × PAtom)} (hL : Sol p L) (h : Rnd p L M0 M l) {r : PRule} (hr : r ∈ p) {x : PAtom} (hx : x ∈ r.body) : Rnd p L M0 (lift M r.head.name (M x.name + dl p x)) (l ++ [(r,x)]) := by
 have hm : ∀ s,M s ≤ lift M r.head.name (M x.name + dl p x) s := fun s => by
  unfold lift
  split
  ·rename_i e;rw [e];exact Nat.le_max_left _ _
  ·exact ζn _
 refine ⟨fun s => Nat.le_trans (h.ge s) (hm s),fun s => ?_,fun q hq => ?_⟩
 ·unfold lift
  split
  ·rename_i e
   have h1 := hL.up r hr x hx
   have h2 := h.le x.name
   have h3 := h.le r.head.name
   rw [e]
   exact Nat.max_le.2 ⟨h3,by omega⟩
  ·exact h.le s
 ·rcases List.mem_append.1 hq with hq | hq
  ·exact Nat.le_trans (h.done q hq) (hm _)
  ·obtain rfl := List.mem_singleton.1 hq
   have : lift M r.head.name (M x.name + dl p x) r.head.name = max (M r.head.name) (M x.name + dl p x) := by unfold lift;rw [if_pos rfl]
   show M0 x.name + dl p x ≤ lift M r.head.name _ r.head.name
   rw [this]
   have := h.ge x.name
   exact Nat.le_trans (by omega) (Nat.le_max_right _ _)
theorem unset_le {p : List PRule} {L M0 M : Str → Nat} (h : ∀ s,M0 s ≤ M s) : unset p L M ≤ unset p L M0 :=
 filter_le _ _ (fun x hx => decide_eq_true (by have := of_decide_eq_true hx;have := h x;omega)) _
theorem Least.tight {p : List PRule} {L M : Str → Nat} (h : Least p L) (hle : ∀ s,M s ≤ L s) {s : Str} (hs : M s < L s) :
 ∃ r ∈ p,∃ x ∈ r.body,M r.head.name < L r.head.name ∧ M x.name = L x.name ∧ L x.name + dl p x = L r.head.name := by
 apply Classical.byContradiction
 intro hno
 have hsol : Sol p (fun t => if M t < L t then L t - 1 else L t) := by
  refine ⟨fun t ht => ?_,fun r hr x hx => ?_⟩
  ·have := h.sol.out t ht
   simp [this]
  ·have h1 := h.sol.up r hr x hx
   have h2 := hle x.name
   have h3 := hle r.head.name
   show (if M x.name < L x.name then L x.name - 1 else L x.name) + dl p x ≤ (if M r.head.name < L r.head.name then L r.head.name - 1 else L r.head.name)
   by_cases e1 : M r.head.name < L r.head.name
   ·rw [if_pos e1]
    by_cases e2 : M x.name < L x.name
    ·rw [if_pos e2];omega
    ·rw [if_neg e2]
     have : L x.name + dl p x ≠ L r.head.name := fun e => hno ⟨r,hr,x,hx,e1,by omega,e⟩
     omega
   ·rw [if_neg e1]
    split <;> omega
 have := h.least _ hsol s
 simp only [hs,if_true] at this
 omega
theorem Rnd.finish {p : List PRule} {L M0 M : Str → Nat} {l : List (PRule × PAtom)} (hL : Least p L) (h : Rnd p L M0 M l) (hl : ∀ r ∈ p,∀ x ∈ r.body,(r,x) ∈ l) {n : Nat} (hn : unset p L M0 ≤ n) : unset p L M ≤ n - 1 := by
 by_cases hz : unset p L M0 = 0
 ·have := unset_le (p := p) (L := L) h.ge
  omega
 ·have : ∃ s ∈ onceS (headsOf p),M0 s < L s := by
   apply Classical.byContradiction
   intro hno
   apply hz
   unfold unset
   rw [List.filter_eq_nil_iff.2]
   ·rfl
   ·intro s hs hc
    exact hno ⟨s,hs,of_decide_eq_true hc⟩
  obtain ⟨s,_,hs⟩ := this
  obtain ⟨r,hr,x,hx,h1,h2,h3⟩ := hL.tight (fun t => Nat.le_trans (h.ge t) (h.le t)) hs
  have h4 := h.done (r,x) (hl r hr x hx)
  have h5 : unset p L M + 1 ≤ unset p L M0 := filter_lt (fun t => decide (M t < L t)) (fun t => decide (M0 t < L t)) (fun t ht => decide_eq_true (by have := of_decide_eq_true ht;have := h.ge t;omega)) (y := r.head.name) (decide_eq_true h1) (decide_eq_false (by have h4 : M0 x.name + dl p x ≤ M r.head.name := h4;omega)) _ ((mem_onceS _ _).2 (List.mem_map.2 ⟨r,hr,rfl⟩))
  omega
theorem unset_start {p : List PRule} {L M : Str → Nat} : unset p L M ≤ p.length := Nat.le_trans (List.length_filter_le _ _) (Dh_le p)
theorem unset_none {p : List PRule} {L M : Str → Nat} (hL : Least p L) (hle : ∀ s,M s ≤ L s) (h : unset p L M = 0) : M = L := by
 funext s
 by_cases hs : s ∈ headsOf p
 ·apply Nat.le_antisymm (hle s)
  apply Nat.le_of_not_lt
  intro hlt
  have := List.length_eq_zero_iff.1 h
  rw [List.filter_eq_nil_iff] at this
  exact this s ((mem_onceS _ _).2 hs) (decide_eq_true hlt)
 ·have := hle s
  rw [hL.sol.out s hs] at this ⊢
  omega
end
section
open Go.RowKit Go.Maps
set_option maxRecDepth 100000 in
theorem laidOk : laidOutB Tryz.prog = true := by kernel_rfl
set_option maxRecDepth 100000 in
theorem lawPair : Keyed Tryz.prog 126 := Keyed.of_law (deep_law_laid laidOk (m := 3) (by decide) (of_decide_eq_true (by kernel_rfl)) (by kernel_rfl) (by kernel_rfl))
def pairV (t : Str × Str) : Value := .agg #[.string t.1,.string t.2]
def keyQ (t : Str × Str) : Lit := .string (keyBytes [.string t.1.data.toList,.string t.2.data.toList])
structure PairOk (t : Str × Str) : Prop where
 a : t.1.size ≤ maxLen
 b : t.2.size ≤ maxLen
set_option maxRecDepth 100000 in
theorem keyPair {t : Str × Str} (h : PairOk t) : keyOf Tryz.prog 126 (pairV t) = some (keyQ t) := by
 have hu := Tryz.underlying126
 have he := Tryz.underlying9
 have hk : Tryz.prog.keyType 126 = true := by kernel_rfl
 have hc : Tryz.prog.cellsOf 126 = 2 := by kernel_rfl
 have hc1 : Tryz.prog.cellsOf 9 = 1 := by kernel_rfl
 have hn : 0 < Tryz.prog.types.size := of_decide_eq_true (by kernel_rfl)
 obtain ⟨m,hm⟩ : ∃ m,Tryz.prog.types.size = m + 1 := ⟨Tryz.prog.types.size - 1,by omega⟩
 unfold keyOf
 simp only [hu]
 rw [if_pos (by simp [hk,Value.formed,hu,hc,pairV]),hm]
 unfold Program.keyLits
 simp only [hu,Value.cells,pairV]
 rw [if_pos (by rw [hc];rfl),show List.range 2 = [0,1] from rfl,List.mapM_cons,List.mapM_cons,List.mapM_nil]
 simp [hc1,Program.keyLits,he,h.a,h.b,keyQ]
set_option maxRecDepth 100000 in
theorem keyQ_inj {s t : Str × Str} (hs : PairOk s) (ht : PairOk t) (h : keyQ s = keyQ t) : s = t := by
 have h1 := keyPair hs
 rw [h] at h1
 have := lawPair.inj h1 (keyPair ht)
 unfold pairV at this
 injection this with this
 simp only [Array.mk.injEq,List.cons.injEq,Value.string.injEq,and_true] at this
 exact Prod.ext this.1 this.2
def MapP (w : World) (b n : Nat) (R : Rel) : Prop :=
 ∃ D : DataW Unit,w.ownsMap Tryz.prog 126 (plainElem Tryz.prog 4) b n D ∧ ∀ s,PairOk s → D.atKey (keyQ s) (.lit (.bool false)) = .lit (.bool (R s))
section
variable {w w' : World} {b n : Nat} {R : Rel}
theorem MapP.lt (h : MapP w b n R) : b < w.heap.size := let ⟨_,h1,_⟩ := h;h1.lt
theorem MapP.kept {row : Option Nat} (h : MapP w b n R) (hg : w.grownBy w' row) (hne : some b ≠ row) : MapP w' b n R := let ⟨D,h1,h2⟩ := h;⟨D,h1.kept hg hne,h2⟩
theorem MapP.below {B : Nat} (h : MapP w b n R) (hb : Below B w w') (hB : b < B) : MapP w' b n R := by
 obtain ⟨D,⟨es,clock,h1,h2⟩,h3⟩ := h
 exact ⟨D,⟨es,clock,(hb.block b hB).trans h1,h2⟩,h3⟩
theorem MapP.made (w : World) : MapP (w.alloc (.map #[] 0)) w.heap.size 0 (fun _ => false) := ⟨.map [],World.ownsMap_made _ _ _ _,fun _ _ => rfl⟩
theorem MapP.wider (h : MapP w b n R) {m : Nat} (hm : n ≤ m) : MapP w b m R := let ⟨D,⟨es,clock,h1,h2,h3,h4⟩,h5⟩ := h;⟨D,⟨es,clock,h1,h2,Nat.le_trans h3 hm,h4⟩,h5⟩
set_option maxRecDepth 100000 in
theorem MapP.get (h : MapP w b n R) {s : Str × Str} (hs : PairOk s) : (Instr.lookup 125 (.map (some b)) (.agg #[.string s.1,.string s.2]) false).run Tryz.prog w = .ok (.bool (R s)) w := by
 obtain ⟨D,h1,h2⟩ := h
 obtain ⟨v,ps,hrun,hv⟩ := World.ownsMap.lookup h1 lawPair Tryz.underlying125 (zeroBool w) (zd := .lit (.bool false)) (zp := []) (plainElem_bool Tryz.underlying4 false) (keyPair hs)
 rw [h2 s hs] at hv
 have hrun' : (Instr.lookup 125 (.map (some b)) (.agg #[.string s.1,.string s.2]) false).run Tryz.prog w = .ok v w := hrun
 rw [hrun']
 have hu : Tryz.prog.underlying 4 = some .bool := Tryz.underlying4
 unfold plainElem at hv
 rw [hu] at hv
 cases v <;> simp at hv
 rename_i x
 rw [hv.1]
set_option maxRecDepth 100000 in
theorem MapP.put (h : MapP w b n R) (hn : n < maxLen) {x y : Str} (hs : PairOk (x,y)) :
 ∃ w',(Instr.mapUpdate 125 (.map (some b)) (.agg #[.string x,.string y]) (.bool true)).run Tryz.prog w = .ok () w' ∧ MapP w' b (n + 1) (R.set x y) ∧ w.grownBy w' (some b) := by
 obtain ⟨D,h1,h2⟩ := h
 have hM := h1.isMap
 obtain ⟨w',hrun,h3,h4⟩ := h1.update lawPair Tryz.underlying125 hn (keyPair hs) (plainElem_bool Tryz.underlying4 true)
 refine ⟨w',hrun,⟨_,h3,fun t ht => ?_⟩,h4⟩
 unfold Rel.set
 by_cases e : t = (x,y)
 ·subst e
  rw [if_pos rfl]
  exact Maps.atKey_put_same hM (by trivial) _ _
 ·rw [if_neg e]
  have hne : keyQ t ≠ keyQ (x,y) := fun h => e (keyQ_inj ht hs h)
  rw [Maps.atKey_put_other hne]
  exact h2 t ht
end
end
section
open Go.RowKit Go.Maps
set_option maxRecDepth 100000 in
set_option maxHeartbeats 0 in
theorem headRef {S : Nat → Prop} (s : Str) (C n : Nat) (ha : Option Addr) (hc : Nat) (H : List Str) (w : World) (hn : H.length = n) (h : Blk w C 25 #[.slice ha n hc]) (hr : RdStrs S w (.slice ha n hc) H) (h1 : n ≤ 1048576) :
 Calls Tryz.prog 67 #[.string s,.pointer (some ⟨C,0,none⟩)] w fun e w' => e = .returned (.bool (memS s H)) ∧ w = w' := by
 subst hn
 have HR := ζ hr
 have c0 := h.cell 0
 simp only [List.getElem?_toArray,List.getElem?_cons_zero] at c0
 clear h hr
 go_enter Tryz.func67,Tryz.ntmps67
 go_wp2
 go_loopw [8] (fun i wr => ∃ k : Nat,k ≤ H.length ∧ i = .int .i64 k ∧ wr = w ∧ Hid (memS s (H.take k) = false)) (fun i _ => H.length - (intOf i).toNat)
 case atStart => exact ⟨0,Nat.zero_le _,rfl,rfl,ζ rfl⟩
 case round =>
  obtain ⟨k,hk,rfl,rfl,HM⟩ := hrel
  by_cases hlt : k < H.length
  ·obtain ⟨x,hx⟩ : ∃ x,H[k]? = some x := ⟨_,ζe hlt⟩
   obtain ⟨b1,o1,rfl,-,-,d0⟩ := RdStrs.at HR.out hx
   have hmm : x ∈ H := ζm hx
   have HM2 := ζ (show decide (s = x) = false → memS s (H.take (k + 1)) = false from fun h => by
    rw [List.take_add_one,hx]
    show memS s (H.take k ++ [x]) = false
    rw [memS_snoc,HM.out,h];rfl)
   by_cases e : s = x
   ·have g1 : (x.toList == s.toList) = true := by rw [beq_toList];exact decide_eq_true e.symm
    have HF := ζ (show memS s H = true from (memS_iff _ _).2 (by rw [e];exact hmm))
    clear hx e hmm HM2
    go_wp2
    go_ret
    exact ⟨ret_bool HF.out.symm,by trivial⟩
   ·have g1 : (x.toList == s.toList) = false := by rw [beq_toList];exact decide_eq_false (fun h => e h.symm)
    have HM3 := ζ (HM2.out (decide_eq_false e))
    clear hx e hmm HM2
    go_wp2
    go_roundw
    case rel => exact ⟨k + 1,by omega,by go_num,by first | rfl | trivial,HM3⟩
    case measure => simp [intOf];omega
  ·have HF := ζ (show memS s H = false from by have := HM.out;rwa [List.take_of_length_le (by omega)] at this)
   go_wp2
   go_ret
   exact ⟨ret_bool HF.out.symm,by trivial⟩
end
end Go.Proofs.YtdngkcieckejoaaGreat
