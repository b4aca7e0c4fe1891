/-
  THE TEXTS ProofA, ProofPrv, ProofQ, DeskP, one behind the other.
-/
import Derived.Test.YtiiicochdidolaaGreatTk16
import Derived.Test.YtiiicochdidolaaGreatTk18
import Derived.Test.YtiiicochdidolaaGreatTk19
import Derived.Test.YtiiicochdidolaaGreatTk21
namespace Go.Proofs.YtiiicochdidolaaGreat
def putM (m : Str → Option Int) (s : Str) (a : Int) : Str → Option Int := fun t => if t = s then some a else m t
def ageMore (a : Int) (m : Str → Option Int) (l : List PFact) : Str → Option Int := l.foldl (fun m z => putM m (keyP z) a) m
def ageIn (ps : List (PRule × Int)) (i : Int) : Nat → List PFact → Int → (Str → Option Int) → List PFact × Int × (Str → Option Int)
  | 0,cur,a,m => (cur,a,m)
  | k + 1,cur,a,m => if lessF (onceP i cur ps cur).1 cur = [] then ((onceP i cur ps cur).1,a + 1,ageMore (a + 1) m (lessF (onceP i cur ps cur).1 cur))
    else ageIn ps i k (onceP i cur ps cur).1 (a + 1) (ageMore (a + 1) m (lessF (onceP i cur ps cur).1 cur))
def ageAll (ps : List (PRule × Int)) : Nat → Int → List PFact → Int → (Str → Option Int) → (Str → Option Int)
  | 0,_,_,_,m => m
  | k + 1,i,cur,a,m => ageAll ps k (i + 1) (ageIn ps i 201 cur a m).1 (ageIn ps i 201 cur a m).2.1 (ageIn ps i 201 cur a m).2.2
def Aging (ps : List (PRule × Int)) (cnt i : Nat) (cur : List PFact) (a : Int) (m T : Str → Option Int) : Prop :=
  if i < cnt then ∃ k,200 < k + cur.length ∧ T = ageAll ps (cnt - i - 1) ((i : Int) + 1) (ageIn ps i k cur a m).1 (ageIn ps i k cur a m).2.1 (ageIn ps i k cur a m).2.2 else T = m
theorem aging_run {ps : List (PRule × Int)} {cnt i : Nat} {cur : List PFact} {a : Int} {m : Str → Option Int} : Aging ps (cnt + i) i cur a m (ageAll ps cnt (i : Int) cur a m) := by
  unfold Aging
  cases cnt with
  | zero => rw [if_neg (by omega)];rfl
  | succ n =>
    rw [if_pos (by omega)]
    refine ⟨201,by omega,?_⟩
    rw [ageAll,show n + 1 + i - i - 1 = n by omega]
theorem aging_end {ps : List (PRule × Int)} {cnt i : Nat} {cur : List PFact} {a : Int} {m T : Str → Option Int} (h : Aging ps cnt i cur a m T) (hi : ¬ i < cnt) : T = m := by unfold Aging at h;rwa [if_neg hi] at h
theorem aging_stop {ps : List (PRule × Int)} {cnt i : Nat} {cur : List PFact} {a : Int} {m T : Str → Option Int} (h : Aging ps cnt i cur a m T) (hl : cur.length ≤ 200) (hi : i < cnt) (hm : lessF (onceP (i : Int) cur ps cur).1 cur = []) :
    Aging ps cnt (i + 1) (onceP (i : Int) cur ps cur).1 (a + 1) (ageMore (a + 1) m (lessF (onceP (i : Int) cur ps cur).1 cur)) T := by
  unfold Aging at h
  rw [if_pos hi] at h
  obtain ⟨k,hk,hT⟩ := h
  obtain ⟨k,rfl⟩ : ∃ j,k = j + 1 := ⟨k - 1,by omega⟩
  rw [ageIn,if_pos hm] at hT
  rw [hT]
  have := aging_run (ps := ps) (cnt := cnt - i - 1) (i := i + 1) (cur := (onceP (i : Int) cur ps cur).1) (a := a + 1) (m := ageMore (a + 1) m (lessF (onceP (i : Int) cur ps cur).1 cur))
  rw [show cnt - i - 1 + (i + 1) = cnt by omega] at this
  have e : ((i + 1 : Nat) : Int) = (i : Int) + 1 := by omega
  rw [e] at this
  exact this
theorem aging_more {ps : List (PRule × Int)} {cnt i : Nat} {cur : List PFact} {a : Int} {m T : Str → Option Int} (h : Aging ps cnt i cur a m T) (hl : cur.length ≤ 200) (hi : i < cnt) (hm : lessF (onceP (i : Int) cur ps cur).1 cur ≠ []) (hg : cur.length + 1 ≤ (onceP (i : Int) cur ps cur).1.length) :
    Aging ps cnt i (onceP (i : Int) cur ps cur).1 (a + 1) (ageMore (a + 1) m (lessF (onceP (i : Int) cur ps cur).1 cur)) T := by
  unfold Aging at h
  rw [if_pos hi] at h
  obtain ⟨k,hk,hT⟩ := h
  obtain ⟨k,rfl⟩ : ∃ j,k = j + 1 := ⟨k - 1,by omega⟩
  rw [ageIn,if_neg hm] at hT
  unfold Aging
  rw [if_pos hi]
  exact ⟨k,by omega,hT⟩
theorem less_iff {ps : List (PRule × Int)} {i : Int} {cur : List PFact} (hg : Good cur) (he : (onceP i cur ps cur).2 = 0) : lessF (onceP i cur ps cur).1 cur = [] ↔ (onceP i cur ps cur).1.length = cur.length := by
  have hR := once_round he hg.rise hg.len
  constructor
  · intro h
    have hsub : ∀ x ∈ (onceP i cur ps cur).1,x ∈ cur := fun x hx => Classical.byContradiction fun hn => by
      have : x ∈ lessF (onceP i cur ps cur).1 cur := List.mem_filter.2 ⟨hx,by
        cases hm : memF x cur
        · rfl
        · exact absurd ((memF_iff x cur).1 hm) hn⟩
      rw [h] at this
      simp at this
    exact Nat.le_antisymm (rising_sub_le hR.rise hsub) (rising_sub_le hg.rise fun x hx => (hR.mem x).2 (.inl hx))
  · intro h
    have he2 := rising_sub_len hg.rise hR.rise (fun x hx => (hR.mem x).2 (.inl hx)) h
    rw [← he2]
    exact List.filter_eq_nil_iff.2 fun x hx => by rw [(memF_iff x cur).2 hx];decide
def agesP (st : List Int) (p : List PRule) (l : List PFact) : Str → Option Int := ageAll (p.zip st) (countP st).toNat 0 l 0 (fun _ => none)
def proveP (st : List Int) (q : Int) (p : List PRule) (l : List PFact) (f : PFact) : Option PProof × Int :=
  if q ≠ 0 then (none,q) else if (naiveP st q p l).2 ≠ 0 then (none,(naiveP st q p l).2) else if wrongF f ≠ 0 then (none,wrongF f) else if memF f (naiveP st q p l).1 = false then (none,6)
  else match (findN p l (naiveP st q p l).1 (agesP st p l) 61 0 f 1).1 with
    | none => (none,4)
    | some x => (some x,0)
end Go.Proofs.YtiiicochdidolaaGreat
namespace Go.Proofs.YtiiicochdidolaaGreat
open Go.RowKit
theorem below_but {D : Nat} {w wa w' : World} (h : Below w.heap.size w wa) (hb : But D wa w') (hD : w.heap.size ≤ D) : Below w.heap.size w w' :=
  ⟨hb.os.trans h.1,hb.tape.trans h.2,hb.output.trans h.3,Nat.le_trans h.size hb.size,fun k hk => (hb.block k (Nat.lt_of_lt_of_le hk h.size) (fun e => by have := Option.some.inj e;omega)).trans (h.block k hk)⟩
def ProvePost (r : Option PProof × Int) (w : World) (e : Ending) (w' : World) : Prop :=
  Below w.heap.size w w' ∧ match r.1 with
    | none => e = .returned (.tuple #[.agg #[.string ⟨#[]⟩,.slice none 0 0,.int .i64 0,.slice none 0 0],.int .i64 r.2])
    | some x => ∃ aa ac ka kc,e = .returned (.tuple #[.agg #[.string x.fact.name,.slice aa x.fact.args.length ac,.int .i64 x.rule,.slice ka x.kids.length kc],.int .i64 r.2]) ∧ RdStrs (New w) w' (.slice aa x.fact.args.length ac) x.fact.args ∧ RdProofs 61 (New w) w' (.slice ka x.kids.length kc) x.kids
def ProveOwn (r : Option PProof × Int) (w : World) (e : Ending) (w' : World) : Prop :=
  Below w.heap.size w w' ∧ match r.1 with
    | none => e = .returned (.tuple #[.agg #[.string ⟨#[]⟩,.slice none 0 0,.int .i64 0,.slice none 0 0],.int .i64 r.2])
    | some x => ∃ aa ac ka kc,e = .returned (.tuple #[.agg #[.string x.fact.name,.slice aa x.fact.args.length ac,.int .i64 x.rule,.slice ka x.kids.length kc],.int .i64 r.2]) ∧ OwnP 62 w.heap.size w'.heap.size w' (.slice aa x.fact.args.length ac) (.slice ka x.kids.length kc) x
theorem ProveOwn.post {r : Option PProof × Int} {w w' : World} {e : Ending} (h : ProveOwn r w e w') : ProvePost r w e w' := by
  obtain ⟨hb,h⟩ := h
  refine ⟨hb,?_⟩
  obtain ⟨ro,rn⟩ := r
  cases ro with
  | none => exact h
  | some x =>
    obtain ⟨aa,ac,ka,kc,he,ho⟩ := h
    obtain ⟨h1,h2⟩ := ho.kids
    exact ⟨aa,ac,ka,kc,he,h1.more RStr.steady (fun b hb _ => hb.1),h2.more (RProofN.steady 61) (fun b hb _ => hb.1)⟩
theorem prove_none {r : Option PProof × Int} {n : Int} {w w' : World} (h : r = (none,n)) (hb : Below w.heap.size w w') : ProveOwn r w (.returned (.tuple #[.agg #[.string ⟨#[]⟩,.slice none 0 0,.int .i64 0,.slice none 0 0],.int .i64 n])) w' := by subst h;exact ⟨hb,rfl⟩
theorem prove_some {r : Option PProof × Int} {x : PProof} {n : Int} {aa ka : Option Addr} {ac kc : Nat} {w w' : World} (h : r = (some x,n)) (hb : Below w.heap.size w w') (ho : OwnP 62 w.heap.size w'.heap.size w' (.slice aa x.fact.args.length ac) (.slice ka x.kids.length kc) x) :
    ProveOwn r w (.returned (.tuple #[.agg #[.string x.fact.name,.slice aa x.fact.args.length ac,.int .i64 x.rule,.slice ka x.kids.length kc],.int .i64 n])) w' := by subst h;exact ⟨hb,aa,ac,ka,kc,rfl,ho⟩
theorem prove_q {st : List Int} {q : Int} {p : List PRule} {l : List PFact} {f : PFact} (h : q ≠ 0) : proveP st q p l f = (none,q) := by unfold proveP;rw [if_pos h]
theorem prove_all {st : List Int} {p : List PRule} {l : List PFact} {f : PFact} (h : (naiveP st 0 p l).2 ≠ 0) : proveP st 0 p l f = (none,(naiveP st 0 p l).2) := by unfold proveP;rw [if_neg (by simp),if_pos h]
theorem prove_wrong {st : List Int} {p : List PRule} {l : List PFact} {f : PFact} (h : (naiveP st 0 p l).2 = 0) (h2 : wrongF f ≠ 0) : proveP st 0 p l f = (none,wrongF f) := by unfold proveP;rw [if_neg (by simp),if_neg (by simpa using h),if_pos h2]
theorem prove_out {st : List Int} {p : List PRule} {l : List PFact} {f : PFact} (h : (naiveP st 0 p l).2 = 0) (h2 : wrongF f = 0) (h3 : memF f (naiveP st 0 p l).1 = false) : proveP st 0 p l f = (none,6) := by unfold proveP;rw [if_neg (by simp),if_neg (by simpa using h),if_neg (by simpa using h2),if_pos h3]
theorem prove_find {st : List Int} {p : List PRule} {l : List PFact} {f : PFact} (h : (naiveP st 0 p l).2 = 0) (h2 : wrongF f = 0) (h3 : memF f (naiveP st 0 p l).1 = true) : proveP st 0 p l f = match (findN p l (naiveP st 0 p l).1 (agesP st p l) 61 0 f 1).1 with
    | none => (none,4)
    | some x => (some x,0) := by unfold proveP;rw [if_neg (by simp),if_neg (by simpa using h),if_neg (by simpa using h2),if_neg (by rw [h3];simp)] <;> rfl
theorem hb6w (w5 : World) (o1 o2 o3 : Obj) : Below w5.heap.size w5 (((w5.alloc o1).alloc o2).alloc o3) := (((Below.refl _ _).alloc (Nat.le_refl _) _).alloc (by simp) _).alloc (by simp;omega) _
theorem hr_i {S : Nat → Prop} {w w' : World} {v : Value} {l : List Int} (h : RdInts S w v l) (hb : Below w.heap.size w w') : RdInts (fun _ => True) w' v l := (h.more RInt.steady (fun _ _ _ => trivial)).agree RInt.steady (Below.agree hb)
structure PvW (w W : World) (nm av : Value) : Prop where
  below : Below w.heap.size w W
  f : Blk W w.heap.size 38 #[nm,av]
  z : Blk W (w.heap.size + 1) 44 #[.string ⟨#[]⟩,.slice none 0 0,.int .i64 0,.slice none 0 0]
theorem PvW.next {w W W' : World} {nm av : Value} (h : PvW w W nm av) (hb : Below W.heap.size W W') : PvW w W' nm av := ⟨h.below.trans (hb.mono h.below.size),h.f.below hb h.f.lt,h.z.below hb h.z.lt⟩
theorem FEnv.map {S : Nat → Prop} {age age' : Str → Option Int} {N N' : Nat} {p : List PRule} {told M : List PFact} {D C G : Nat} {pv tv mv : Value} {w w' : World} {sz : Nat} (h : FEnv S age N p told M D C G pv tv mv w sz) (hb : But G w w') (hm : MapI w' G N' age') (h1 : D ≠ G) (h2 : C ≠ G) (hS : ¬ S G) : FEnv S age' N' p told M D C G pv tv mv w' sz :=
  ⟨h.hD.but hb h1,h.hC.but hb h2,hm,h.hp.agree RRule.steady (hb.agree hS),h.ht.agree RFact.steady (hb.agree hS),h.hm.agree RFact.steady (hb.agree hS),h.nS,h.nC,h.nG⟩
theorem ageMore_snoc {a : Int} {m : Str → Option Int} {l : List PFact} {k : Nat} {x : PFact} (h : l[k]? = some x) : ageMore a m (l.take (k + 1)) = putM (ageMore a m (l.take k)) (keyP x) a := by unfold ageMore;exact foldl_snoc h
theorem strata_fine {p : List PRule} {st : List Int} {q : Int × Int} (hs : StrataIs p st q) (hq : q.1 = 0) : ∀ z ∈ st,0 ≤ z ∧ z ≤ 1048576 := fun z hz => by
  obtain ⟨-,h1,h2,L,-,rfl⟩ := strata_count hs hq
  have h3 := count_gt hz
  obtain ⟨r,-,rfl⟩ := List.mem_map.1 hz
  omega
structure RdW (w wb wr : World) (nm av : Value) (p : List PRule) (l m : List PFact) (st : List Int) (pv tv mv sv : Value) (mp : Str → Option Int) (N : Nat) : Prop where
  pw : PvW w wr nm av
  env : FEnv (fun b => b < wb.heap.size) mp N p l m (wb.heap.size + 2) wb.heap.size (wb.heap.size + 1) pv tv mv wr 0
  st : RdInts (fun b => b < wb.heap.size) wr sv st
section
variable {w wb wr w' : World} {nm av : Value} {p : List PRule} {l m : List PFact} {st : List Int} {pv tv mv sv : Value} {mp mp' : Str → Option Int} {N N' : Nat}
theorem RdW.next (h : RdW w wb wr nm av p l m st pv tv mv sv mp N) (hb : Below wr.heap.size wr w') : RdW w wb w' nm av p l m st pv tv mv sv mp N := ⟨h.pw.next hb,h.env.below hb,h.st.agree RInt.steady (Below.agree hb)⟩
theorem RdW.map (h : RdW w wb wr nm av p l m st pv tv mv sv mp N) (hw : w.heap.size + 1 < wb.heap.size) (hb : But (wb.heap.size + 1) wr w') (hm : MapI w' (wb.heap.size + 1) N' mp') : RdW w wb w' nm av p l m st pv tv mv sv mp' N' :=
  ⟨⟨below_but h.pw.below hb (by omega),h.pw.f.but hb (by omega),h.pw.z.but hb (by omega)⟩,h.env.map hb hm (by omega) (by omega) (by omega),h.st.agree RInt.steady (hb.agree (by omega))⟩
end
attribute [local go_sem ↓] Go.wp_at_zero Go.wp_at_succ
set_option maxRecDepth 100000 in
set_option maxHeartbeats 16000000 in
theorem proveOwn {S S3 S4 : Nat → Prop} (p : List PRule) (v fv : Value) (st : List Int) (q : Int × Int) (l : List PFact) (f : PFact) (av : Value) (w : World) (hS : StrataIs p st q) (h : RdRules S w v p) (hf : RdFacts S3 w fv l) (ha : RdStrs S4 w av f.args)
    (n1 : p.length ≤ 1048576) (n2 : ∀ r ∈ p,RuleSmall r) (n3 : ∀ r ∈ p,NameSmall r) (n4 : l.length ≤ 1048576) (n5 : ∀ x ∈ l,x.args.length ≤ 1048576) (n6 : f.args.length ≤ 1048576) :
    Calls Tryz.prog 49 #[v,fv,.agg #[.string f.name,av]] w (ProveOwn (proveP st q.1 p l f) w) := by
  obtain ⟨a,c,rfl,-,-,-⟩ := id h.form
  obtain ⟨fa,fc,rfl,-,-,-⟩ := id hf.form
  obtain ⟨aa,ac,rfl,-,-,-⟩ := id ha.form
  obtain ⟨W0,hW0⟩ : ∃ W0 : World,(w.alloc (.cells #[.string f.name,.slice aa f.args.length ac] 38)).alloc (.cells #[.string ⟨#[]⟩,.slice none 0 0,.int .i64 0,.slice none 0 0] 44) = W0 := ⟨_,rfl⟩
  have HW0 := Lib.hid (show PvW w W0 (.string f.name) (.slice aa f.args.length ac) by
    subst hW0
    exact ⟨((Below.refl _ _).alloc (Nat.le_refl _) _).alloc (by simp) _,(Blk.new w _ _).alloc _,heap_new_at (by simp)⟩)
  obtain ⟨q0,q1⟩ := q
  have KS := Lib.hid (strataKnown (n := st.length) rfl hS (h.up HW0.out.below) n1 n2 n3)
  have KN := Lib.hid (fun W (hW : Below w.heap.size w W) => naiveReads p (.slice a p.length c) (.slice fa l.length fc) st (q0,q1) l W hS (h.up hW) (RdFacts.up hf hW) n1 n2 n3 n4 n5)
  have H := Lib.hid h
  have HF := Lib.hid hf
  have HA := Lib.hid ha
  have N2 := Lib.hid n2
  have N5 := Lib.hid n5
  have HS := Lib.hid hS
  have hR1 : w.heap.size ≤ w.heap.size + 1 := Nat.le_succ _
  clear h hf ha n2 n3 n5 hS
  dsimp only at *
  by_cases hq : q0 = 0
  case neg =>
    have g1 : (q0 != 0) = true := by simpa using hq
    have HE := Lib.hid (prove_q (st := st) (p := p) (l := l) (f := f) hq)
    clear hq
    go_enter Tryz.func49,Tryz.ntmps49
    go_wp2_with (go_at_call 74;refine (KS.out).mono ?_;rintro e w2 ⟨⟨a2,c2,rfl,hr2⟩,hb2⟩;have HW2 := Lib.hid ((HW0.out.next hb2).next ((Below.refl w2.heap.size w2).alloc (Nat.le_refl _) (.cells #[.int .i64 q0,.int .i64 q1] 49)));have HQ2 := Lib.hid (Blk.new w2 49 #[.int .i64 q0,.int .i64 q1]);have HQ3 := Lib.hid (HW0.out.next hb2).z.lt;have k0 := HQ2.out.cell 0;have c0 := HW2.out.z.cell 0;have c1 := HW2.out.z.cell 1;have c2' := HW2.out.z.cell 2;have c3 := HW2.out.z.cell 3;have y0 := HW2.out.z.frozen 0;have y1 := HW2.out.z.frozen 1;have y2 := HW2.out.z.frozen 2;have y3 := HW2.out.z.frozen 3;simp only [List.getElem?_toArray,List.getElem?_cons_zero,List.getElem?_cons_succ] at k0 c0 c1 c2' c3;clear hr2 hb2)
    have hne1 : w2.heap.size ≠ w.heap.size + 1 := fun e => by have h1 := HQ3.out;omega
    have hne2 : w.heap.size + 1 ≠ w2.heap.size := fun e => hne1 e.symm
    go_region
    go_wp2
    refine bodyPost_ret (v := .tuple #[.agg #[.string ⟨#[]⟩,.slice none 0 0,.int .i64 0,.slice none 0 0],.int .i64 q0]) (by simp [results,Tryz.results49,go_sem,c0,c1,c2',c3]) rfl (prove_none HE.out ?_)
    exact ((((HW2.out.below.setCell hR1 _).setCell hR1 _).setCell hR1 _).setCell hR1 _).drew
  subst hq
  have KW := Lib.hid (fun W (hW : Below w.heap.size w W) => wrongFact f (.slice aa f.args.length ac) W (HA.out.up hW) (by omega))
  have HFO := Lib.hid (naive_follows HS.out (l := l))
  have E1 := Lib.hid (prove_all (st := st) (p := p) (l := l) (f := f))
  have E2 := Lib.hid (prove_wrong (st := st) (p := p) (l := l) (f := f))
  have E3 := Lib.hid (prove_out (st := st) (p := p) (l := l) (f := f))
  have E4 := Lib.hid (prove_find (st := st) (p := p) (l := l) (f := f))
  have E5 := Lib.hid (fun (h : (naiveP st 0 p l).2 = 0) => (naive_zero h).2.2)
  generalize proveP st 0 p l f = RR at *
  dsimp only at HFO
  generalize naiveP st 0 p l = z at *
  obtain ⟨m,e0⟩ := z
  dsimp only at *
  by_cases he : e0 = 0
  case neg =>
    have g1 : (e0 != 0) = true := by simpa using he
    have HE := Lib.hid (E1.out he)
    clear he E1 E2 E3 E4 E5 HFO KW
    go_enter Tryz.func49,Tryz.ntmps49
    go_wp2_with (first
      | (go_at_call 38;have hh := HW2.out;clear hh;refine (KN.out _ HW2.out.below).mono ?_;rintro e w3 ⟨⟨a3,c3',rfl,hr3⟩,hb3⟩;have HW3 := Lib.hid (HW2.out.next hb3);have c0 := HW3.out.z.cell 0;have c1 := HW3.out.z.cell 1;have c2' := HW3.out.z.cell 2;have c3 := HW3.out.z.cell 3;have y0 := HW3.out.z.frozen 0;have y1 := HW3.out.z.frozen 1;have y2 := HW3.out.z.frozen 2;have y3 := HW3.out.z.frozen 3;simp only [List.getElem?_toArray,List.getElem?_cons_zero,List.getElem?_cons_succ] at c0 c1 c2' c3;clear hr3 hb3)
      | (go_at_call 74;refine (KS.out).mono ?_;rintro e w2 ⟨⟨a2,c2,rfl,hr2⟩,hb2⟩;have HW2 := Lib.hid ((HW0.out.next hb2).next ((Below.refl w2.heap.size w2).alloc (Nat.le_refl _) (.cells #[.int .i64 0,.int .i64 q1] 49)));clear hr2 hb2))
    refine bodyPost_ret (v := .tuple #[.agg #[.string ⟨#[]⟩,.slice none 0 0,.int .i64 0,.slice none 0 0],.int .i64 e0]) (by simp [results,Tryz.results49,go_sem,c0,c1,c2',c3]) rfl (prove_none HE.out ?_)
    exact (((HW3.out.below.setCell hR1 _).setCell hR1 _).setCell hR1 _).setCell hR1 _
  subst he
  obtain ⟨hF,hset,hR⟩ := HFO.out rfl
  have HG := Lib.hid (good_of hset)
  have HFL := Lib.hid hF
  have HR := Lib.hid hR
  clear hF hset hR HFO E1
  by_cases hwf : wrongF f = 0
  case neg =>
    have HE := Lib.hid (E2.out rfl hwf)
    have g1 : (wrongF f != 0) = true := by simpa using hwf
    clear hwf E2 E3 E4 E5
    generalize wrongF f = wf at *
    go_enter Tryz.func49,Tryz.ntmps49
    go_wp2_with (first
      | (go_at_call 79;have hh := HW3.out;clear hh;refine (KW.out _ HW3.out.below).mono ?_;rintro e w4 ⟨rfl,hf4⟩;have HW4 := Lib.hid (HW3.out.next hf4.below);have c0 := HW4.out.z.cell 0;have c1 := HW4.out.z.cell 1;have c2' := HW4.out.z.cell 2;have c3 := HW4.out.z.cell 3;have y0 := HW4.out.z.frozen 0;have y1 := HW4.out.z.frozen 1;have y2 := HW4.out.z.frozen 2;have y3 := HW4.out.z.frozen 3;simp only [List.getElem?_toArray,List.getElem?_cons_zero,List.getElem?_cons_succ] at c0 c1 c2' c3;have HI4 := Lib.hid (hr_i HI3.out hf4.below);have HM4 := Lib.hid (RdFacts.up HM3.out hf4.below);clear hf4)
      | (go_at_call 38;have hh := HW2.out;clear hh;refine (KN.out _ HW2.out.below).mono ?_;rintro e w3 ⟨⟨a3,c3',rfl,hr3⟩,hb3⟩;have HW3 := Lib.hid (HW2.out.next hb3);have f30 := HW3.out.f.cell 0;have f31 := HW3.out.f.cell 1;simp only [List.getElem?_toArray,List.getElem?_cons_zero,List.getElem?_cons_succ] at f30 f31;have HI3 := Lib.hid (hr_i HI2.out hb3);have HM3 := Lib.hid hr3;clear hr3 hb3)
      | (go_at_call 74;refine (KS.out).mono ?_;rintro e w2 ⟨⟨a2,c2,rfl,hr2⟩,hb2⟩;have HW2 := Lib.hid ((HW0.out.next hb2).next ((Below.refl w2.heap.size w2).alloc (Nat.le_refl _) (.cells #[.int .i64 0,.int .i64 q1] 49)));have HI2 := Lib.hid (hr2.agree RInt.steady ((Agree.refl _ _).alloc (.cells #[.int .i64 0,.int .i64 q1] 49)));have hz2 := (HW0.out.next hb2).below.size;clear hr2 hb2))
    refine bodyPost_ret (v := .tuple #[.agg #[.string ⟨#[]⟩,.slice none 0 0,.int .i64 0,.slice none 0 0],.int .i64 wf]) (by simp [results,Tryz.results49,go_sem,c0,c1,c2',c3]) rfl (prove_none HE.out ?_)
    exact (((HW4.out.below.setCell hR1 _).setCell hR1 _).setCell hR1 _).setCell hR1 _
  have HFW := Lib.hid hwf
  rw [hwf] at KW
  clear hwf E2
  cases hmf : memF f m with
  | false =>
    have HE := Lib.hid (E3.out rfl HFW.out hmf)
    have KI := Lib.hid hmf
    go_enter Tryz.func49,Tryz.ntmps49
    go_wp2_with (first
      | (go_at_call 12;have hh := HW4.out;clear hh;refine (inFact _ m f _ _ HM4.out (HA.out.up HW4.out.below) HFL.out.rise (Nat.le_trans HFL.out.len (by decide)) (fun z hz => by have := (wrongF_zero.1 (HFL.out.good z hz)).2.1;omega)).mono ?_;rw [KI.out];rintro e w5 ⟨rfl,hf5⟩;have HW5 := Lib.hid (HW4.out.next hf5.below);have c0 := HW5.out.z.cell 0;have c1 := HW5.out.z.cell 1;have c2' := HW5.out.z.cell 2;have c3 := HW5.out.z.cell 3;have y0 := HW5.out.z.frozen 0;have y1 := HW5.out.z.frozen 1;have y2 := HW5.out.z.frozen 2;have y3 := HW5.out.z.frozen 3;simp only [List.getElem?_toArray,List.getElem?_cons_zero,List.getElem?_cons_succ] at c0 c1 c2' c3;have HI5 := Lib.hid (hr_i HI4.out hf5.below);have HM5 := Lib.hid (RdFacts.up HM4.out hf5.below);clear hf5)
      | (go_at_call 79;have hh := HW3.out;clear hh;refine (KW.out _ HW3.out.below).mono ?_;rintro e w4 ⟨rfl,hf4⟩;have HW4 := Lib.hid (HW3.out.next hf4.below);have f40 := HW4.out.f.cell 0;have f41 := HW4.out.f.cell 1;simp only [List.getElem?_toArray,List.getElem?_cons_zero,List.getElem?_cons_succ] at f40 f41;have HI4 := Lib.hid (hr_i HI3.out hf4.below);have HM4 := Lib.hid (RdFacts.up HM3.out hf4.below);clear hf4)
      | (go_at_call 38;have hh := HW2.out;clear hh;refine (KN.out _ HW2.out.below).mono ?_;rintro e w3 ⟨⟨a3,c3',rfl,hr3⟩,hb3⟩;have HW3 := Lib.hid (HW2.out.next hb3);have f30 := HW3.out.f.cell 0;have f31 := HW3.out.f.cell 1;simp only [List.getElem?_toArray,List.getElem?_cons_zero,List.getElem?_cons_succ] at f30 f31;have HI3 := Lib.hid (hr_i HI2.out hb3);have HM3 := Lib.hid hr3;clear hr3 hb3)
      | (go_at_call 74;refine (KS.out).mono ?_;rintro e w2 ⟨⟨a2,c2,rfl,hr2⟩,hb2⟩;have HW2 := Lib.hid ((HW0.out.next hb2).next ((Below.refl w2.heap.size w2).alloc (Nat.le_refl _) (.cells #[.int .i64 0,.int .i64 q1] 49)));have HI2 := Lib.hid (hr2.agree RInt.steady ((Agree.refl _ _).alloc (.cells #[.int .i64 0,.int .i64 q1] 49)));have hz2 := (HW0.out.next hb2).below.size;clear hr2 hb2))
    refine bodyPost_ret (v := .tuple #[.agg #[.string ⟨#[]⟩,.slice none 0 0,.int .i64 0,.slice none 0 0],.int .i64 6]) (by simp [results,Tryz.results49,go_sem,c0,c1,c2',c3]) rfl (prove_none HE.out ?_)
    exact (((HW5.out.below.setCell hR1 _).setCell hR1 _).setCell hR1 _).setCell hR1 _
  | true =>
    have HE := Lib.hid (E4.out rfl HFW.out hmf)
    have HRUN := Lib.hid (E5.out rfl)
    have KI := Lib.hid hmf
    clear E3 E4 E5 hmf
    have hmm := @run_makeMap Tryz.prog
    go_enter Tryz.func49,Tryz.ntmps49
    go_wp2_with (first
      | (go_at_call 65;have hh := HW5.out;clear hh;refine (ownCalls _ l _ (RdFacts.up HF.out (HW5.out.below.trans ((hb6w _ _ _ _).mono HW5.out.below.size))) (by omega) (fun z hz => by have := N5.out z hz;omega)).mono ?_;rintro e w6 ⟨⟨v6,rfl,ho6⟩,hb6⟩;obtain ⟨a6,c6,rfl,-,-,-⟩ := id (ho6.read RFact.steady).form;have HO6 := Lib.hid (ho6.read RFact.steady);have HB6 := Lib.hid hb6;clear ho6 hb6)
      | (go_at_call 12;have hh := HW4.out;clear hh;refine (inFact _ m f _ _ HM4.out (HA.out.up HW4.out.below) HFL.out.rise (Nat.le_trans HFL.out.len (by decide)) (fun z hz => by have := (wrongF_zero.1 (HFL.out.good z hz)).2.1;omega)).mono ?_;rw [KI.out];rintro e w5 ⟨rfl,hf5⟩;have HW5 := Lib.hid (HW4.out.next hf5.below);have f50 := HW5.out.f.cell 0;have f51 := HW5.out.f.cell 1;simp only [List.getElem?_toArray,List.getElem?_cons_zero,List.getElem?_cons_succ] at f50 f51;have HI5 := Lib.hid (hr_i HI4.out hf5.below);have HM5 := Lib.hid (RdFacts.up HM4.out hf5.below);clear hf5)
      | (go_at_call 79;have hh := HW3.out;clear hh;refine (KW.out _ HW3.out.below).mono ?_;rintro e w4 ⟨rfl,hf4⟩;have HW4 := Lib.hid (HW3.out.next hf4.below);have f40 := HW4.out.f.cell 0;have f41 := HW4.out.f.cell 1;simp only [List.getElem?_toArray,List.getElem?_cons_zero,List.getElem?_cons_succ] at f40 f41;have HI4 := Lib.hid (hr_i HI3.out hf4.below);have HM4 := Lib.hid (RdFacts.up HM3.out hf4.below);clear hf4)
      | (go_at_call 38;have hh := HW2.out;clear hh;refine (KN.out _ HW2.out.below).mono ?_;rintro e w3 ⟨⟨a3,c3',rfl,hr3⟩,hb3⟩;have HW3 := Lib.hid (HW2.out.next hb3);have f30 := HW3.out.f.cell 0;have f31 := HW3.out.f.cell 1;simp only [List.getElem?_toArray,List.getElem?_cons_zero,List.getElem?_cons_succ] at f30 f31;have HI3 := Lib.hid (hr_i HI2.out hb3);have HM3 := Lib.hid hr3;clear hr3 hb3)
      | (go_at_call 74;refine (KS.out).mono ?_;rintro e w2 ⟨⟨a2,c2,rfl,hr2⟩,hb2⟩;have HW2 := Lib.hid ((HW0.out.next hb2).next ((Below.refl w2.heap.size w2).alloc (Nat.le_refl _) (.cells #[.int .i64 0,.int .i64 q1] 49)));have HI2 := Lib.hid (hr2.agree RInt.steady ((Agree.refl _ _).alloc (.cells #[.int .i64 0,.int .i64 q1] 49)));have hz2 := (HW0.out.next hb2).below.size;clear hr2 hb2))
    obtain ⟨-,hc0,hc16,L0,-,hst0⟩ := strata_count HS.out rfl
    have HZP := Lib.hid (fun (r : PRule) (s : Int) (h : (r,s) ∈ p.zip st) => HR.out r (List.of_mem_zip h).1)
    have HLEN := Lib.hid (show st.length = p.length by rw [hst0,List.length_map])
    obtain ⟨cnt,hcnt⟩ : ∃ cnt : Nat,countP st = (cnt : Int) := ⟨(countP st).toNat,by omega⟩
    have hcn : (countP st).toNat = cnt := by omega
    have KC := Lib.hid (countCalls (.slice a2 st.length c2) st w6 (hr_i HI5.out ((hb6w _ _ _ _).trans (HB6.out.mono (hb6w _ _ _ _).size))) (by rw [HLEN.out];exact n1) (strata_fine HS.out rfl))
    rw [hcnt] at KC
    have hw5 := HW5.out.z.lt
    have HRW := Lib.hid (show RdW w w5 w6 (.string f.name) (.slice aa f.args.length ac) p l m st (.slice a p.length c) (.slice fa l.length fc) (.slice a3 m.length c3') (.slice a2 st.length c2) (fun _ => none) 0 from by
      have hbw := (hb6w w5 (.cells #[.slice a p.length c,.slice fa l.length fc,.slice a3 m.length c3'] 160) (.map #[] 0) (.cells #[.pointer (some ⟨w5.heap.size,0,none⟩),.map (some (w5.heap.size + 1)),.int .i64 0] 163)).trans (HB6.out.mono (hb6w _ _ _ _).size)
      refine ⟨HW5.out.next hbw,⟨?_,?_,?_,?_,?_,?_,?_,?_,?_⟩,?_⟩
      · exact (show Blk (((w5.alloc (.cells #[.slice a p.length c,.slice fa l.length fc,.slice a3 m.length c3'] 160)).alloc (.map #[] 0)).alloc (.cells #[.pointer (some ⟨w5.heap.size,0,none⟩),.map (some (w5.heap.size + 1)),.int .i64 0] 163)) (w5.heap.size + 2) _ _ from heap_new_at (by simp)).below HB6.out (by simp)
      · exact (((Blk.new w5 _ _).alloc _).alloc _).below HB6.out (by simp;omega)
      · exact MapI.below (((show MapI ((w5.alloc (.cells #[.slice a p.length c,.slice fa l.length fc,.slice a3 m.length c3'] 160)).alloc (.map #[] 0)) (w5.heap.size + 1) 0 (fun _ => none) by have h := MapI.made (w5.alloc (.cells #[.slice a p.length c,.slice fa l.length fc,.slice a3 m.length c3'] 160));simpa using h)).alloc _) HB6.out (by simp)
      · exact (H.out.more RRule.steady (S' := fun b => b < w5.heap.size) (fun b _ hb => by have := HW5.out.below.size;omega)).agree RRule.steady (Below.agree (HW5.out.next hbw).below)
      · exact (HF.out.more RFact.steady (S' := fun b => b < w5.heap.size) (fun b _ hb => by have := HW5.out.below.size;omega)).agree RFact.steady (Below.agree (HW5.out.next hbw).below)
      · exact (HM5.out.more RFact.steady (S' := fun b => b < w5.heap.size) (fun b _ hb => hb)).agree RFact.steady (Below.agree hbw)
      · omega
      · omega
      · omega
      · exact (HI5.out.more RInt.steady (S' := fun b => b < w5.heap.size) (fun b _ hb => hb)).agree RInt.steady (Below.agree hbw))
    have HCU := Lib.hid (HO6.out.more RFact.steady (S' := fun b => w5.heap.size + 3 ≤ b) (fun b hb _ => by have h1 := hb.elim id id;have h2 : (((w5.alloc (.cells #[.slice a p.length c,.slice fa l.length fc,.slice a3 m.length c3'] 160)).alloc (.map #[] 0)).alloc (.cells #[.pointer (some ⟨w5.heap.size,0,none⟩),.map (some (w5.heap.size + 1)),.int .i64 0] 163)).heap.size ≤ b := h1;simp at h2;omega))
    have HGO := Lib.hid (show Going (p.zip st) cnt 0 l (m,0) by
      have h1 := going_run (ps := p.zip st) (cnt := cnt) (i := 0) (cur := l)
      rw [Nat.add_zero] at h1
      have h2 := HRUN.out
      rw [hcn] at h2
      rw [h2]
      exact h1)
    have HAG := Lib.hid (show Aging (p.zip st) cnt 0 l ((0 : Nat) : Int) (fun _ => none) (agesP st p l) by
      have h1 := aging_run (ps := p.zip st) (cnt := cnt) (i := 0) (cur := l) (a := 0) (m := fun _ => none)
      rw [Nat.add_zero] at h1
      unfold agesP
      rw [hcn]
      exact h1)
    have HA0 := Lib.hid (show (0 : Nat) ≤ l.length + 0 from Nat.zero_le _)
    have HN0 := Lib.hid (show (0 : Nat) ≤ 200 * 0 from Nat.zero_le _)
    clear HRUN hcn HW5 HM5 HI5 HO6 HB6 f50 f51 KW KI hst0
    go_wp2_with (go_at_call 76;refine (KC.out).mono ?_;rintro e w7 ⟨rfl,rfl⟩)
    go_loopw [67,14,15] (fun i nv av wr => ∃ (n : Nat) (cur : List PFact) (ag N : Nat) (mp : Str → Option Int) (ca : Option Addr) (cc : Nat),n ≤ cnt ∧ i = .int .i64 n ∧ nv = .slice ca cur.length cc ∧ av = .int .i64 ag ∧ Hid (Going (p.zip st) cnt n cur (m,0)) ∧ Hid (Aging (p.zip st) cnt n cur (ag : Int) mp (agesP st p l)) ∧ Hid (Good cur) ∧ Hid (ag ≤ cur.length + n) ∧ Hid (N ≤ 200 * ag) ∧ Hid (RdFacts (fun b => w5.heap.size + 3 ≤ b) wr (.slice ca cur.length cc) cur) ∧ Hid (RdW w w5 wr (.string f.name) (.slice aa f.args.length ac) p l m st (.slice a p.length c) (.slice fa l.length fc) (.slice a3 m.length c3') (.slice a2 st.length c2) mp N)) (fun i _ _ _ => cnt - (intOf i).toNat)
    case atStart => exact ⟨0,l,0,0,_,a6,c6,Nat.zero_le _,rfl,rfl,rfl,HGO,HAG,HG,HA0,HN0,HCU,HRW⟩
    case round =>
      clear HGO HAG HA0 HN0 HCU HRW KC
      obtain ⟨n,cur,ag,N,mp,ca,cc,hn,rfl,rfl,rfl,HGO,HAG,HGC,HAL,HNL,HCU,HRW⟩ := hrel
      by_cases hlt : n < cnt
      · go_wp2
        go_loopw [14,15] (fun nv av wr => ∃ (cur : List PFact) (ag N : Nat) (mp : Str → Option Int) (ca : Option Addr) (cc : Nat),nv = .slice ca cur.length cc ∧ av = .int .i64 ag ∧ Hid (Going (p.zip st) cnt n cur (m,0)) ∧ Hid (Aging (p.zip st) cnt n cur (ag : Int) mp (agesP st p l)) ∧ Hid (Good cur) ∧ Hid (ag ≤ cur.length + n) ∧ Hid (N ≤ 200 * ag) ∧ Hid (RdFacts (fun b => w5.heap.size + 3 ≤ b) wr (.slice ca cur.length cc) cur) ∧ Hid (RdW w w5 wr (.string f.name) (.slice aa f.args.length ac) p l m st (.slice a p.length c) (.slice fa l.length fc) (.slice a3 m.length c3') (.slice a2 st.length c2) mp N)) (fun nv _ _ => 201 - lenV nv)
        case atStart => exact ⟨cur,ag,N,mp,ca,cc,rfl,rfl,HGO,HAG,HGC,HAL,HNL,HCU,HRW⟩
        case round =>
          clear HGO HAG HGC HAL HNL HCU HRW
          obtain ⟨cur,ag,N,mp,ca,cc,rfl,rfl,HGO,HAG,HGC,HAL,HNL,HCU,HRW⟩ := hrel
          have he : (onceP (n : Int) cur (p.zip st) cur).2 = 0 := Classical.byContradiction fun h => h (congrArg (fun z : List PFact × Int => z.2) (going_err HGO.out HGC.out hlt h)).symm
          have HGX := Lib.hid (once_good HGC.out (fun r s h => HZP.out r s h) HGC.out he)
          have HLI := Lib.hid (less_iff HGC.out he)
          have HSAM := Lib.hid (going_same HGO.out HGC.out hlt he)
          have HMOR := Lib.hid (going_more HGO.out HGC.out hlt he)
          have HAST := Lib.hid (aging_stop HAG.out HGC.out.len hlt)
          have HAMO := Lib.hid (aging_more HAG.out HGC.out.len hlt)
          have KO := Lib.hid (onceCalls p (.slice a p.length c) (.slice a2 st.length c2) (.slice ca cur.length cc) st (n : Int) cur wr HRW.out.env.hp HRW.out.st HCU.out HLEN.out n1 N2.out (Nat.le_trans HGC.out.len (by decide)) (fun z hz => by have := (wrongF_zero.1 (HGC.out.fine z hz)).2.1;omega))
          have hcl := HGC.out.len
          have hal := HAL.out
          have hnl := HNL.out
          have HWS := Lib.hid (show w5.heap.size + 3 ≤ wr.heap.size from HRW.out.env.hD.lt)
          clear HGO HAG
          generalize (onceP (n : Int) cur (p.zip st) cur) = z at *
          obtain ⟨x,xe⟩ := z
          dsimp only at *
          subst he
          have KL := Lib.hid (fun W vx (hx : RdFacts (New wr) W vx x) (hb : Below wr.heap.size wr W) => lessCalls vx (.slice ca cur.length cc) x cur W hx (RdSlice.agree RFact.steady (Below.agree hb) HCU.out) HGC.out.rise (Nat.le_trans HGX.out.len (by decide)) (fun z hz => by have := (wrongF_zero.1 (HGX.out.fine z hz)).2.1;omega) (Nat.le_trans HGC.out.len (by decide)) (fun z hz => by have := (wrongF_zero.1 (HGC.out.fine z hz)).2.1;omega))
          have HMG := Lib.hid (show ∀ z ∈ lessF x cur,wrongF z = 0 from fun z hz => HGX.out.fine z (List.mem_filter.1 hz).1)
          have hml : (lessF x cur).length ≤ 200 := Nat.le_trans (List.length_filter_le _ _) HGX.out.len
          go_wp2_with (first
            | (go_at_call 14;have hh := HX8.out;clear hh;refine (KL.out _ _ HX8.out HB8.out).mono ?_;rintro e w9 ⟨⟨v9,rfl,ho9⟩,hb9⟩;obtain ⟨a9,c9,rfl,-,-,-⟩ := id (ho9.read RFact.steady).form;have HM9 := Lib.hid (ho9.read RFact.steady);have HB9 := Lib.hid (HB8.out.trans (hb9.mono HB8.out.size));have HX9 := Lib.hid (RdSlice.agree RFact.steady (Below.agree hb9) HX8.out);have hs9 := HB8.out.size;clear ho9 hb9)
            | (go_at_call 77;refine (KO.out).mono ?_;rintro e w8 ⟨hb8,v8,rfl,ho8⟩;obtain ⟨a8,c8,rfl,-,-,-⟩ := id (ho8.read RFact.steady).form;have HX8 := Lib.hid ((ho8.read RFact.steady).more RFact.steady (S' := New wr) (fun b hb _ => hb.elim id id));have HB8 := Lib.hid hb8;clear hb8 ho8))
          have HRW9 := Lib.hid (HRW.out.next HB9.out)
          have HX9' := Lib.hid (HX9.out.more RFact.steady (S' := fun b => w5.heap.size + 3 ≤ b) (fun b hb _ => Nat.le_trans HWS.out hb))
          have HM9' := Lib.hid (HM9.out.more RFact.steady (S' := fun b => w5.heap.size + 3 ≤ b) (fun b hb _ => by have h1 := hb.elim id id;have h2 : w8.heap.size ≤ b := h1;have h3 := HWS.out;omega))
          have hag : ag ≤ 216 := by omega
          have HMP0 := Lib.hid (show ageMore ((ag : Int) + 1) mp ((lessF x cur).take 0) = ageMore ((ag : Int) + 1) mp ((lessF x cur).take 0) from rfl)
          have HNJ0 := Lib.hid (show N ≤ N + 0 from Nat.le_refl _)
          clear HX8 HB8 HX9 HM9 HB9 HRW KL KO HCU hs9
          obtain ⟨wl,hwl⟩ : ∃ wl : World,wl = w9 := ⟨_,rfl⟩
          subst hwl
          go_loopw [89] (fun i wr => ∃ (j N2 : Nat) (mp2 : Str → Option Int),j ≤ (lessF x cur).length ∧ i = .int .i64 j ∧ Hid (mp2 = ageMore ((ag : Int) + 1) mp ((lessF x cur).take j)) ∧ Hid (N2 ≤ N + j) ∧ Hid (RdFacts (fun b => w5.heap.size + 3 ≤ b) wr (.slice a9 (lessF x cur).length c9) (lessF x cur)) ∧ Hid (RdFacts (fun b => w5.heap.size + 3 ≤ b) wr (.slice a8 x.length c8) x) ∧ Hid (RdW w w5 wr (.string f.name) (.slice aa f.args.length ac) p l m st (.slice a p.length c) (.slice fa l.length fc) (.slice a3 m.length c3') (.slice a2 st.length c2) mp2 N2)) (fun i _ => (lessF x cur).length - (intOf i).toNat)
          case atStart => exact ⟨0,N,_,Nat.zero_le _,rfl,HMP0,HNJ0,HM9',HX9',HRW9⟩
          case round =>
            clear HMP0 HNJ0 HM9' HX9' HRW9
            obtain ⟨j,N2,mp2,hj,rfl,HMP,HNJ,HM9,HX9,HRW9⟩ := hrel
            have hnj := HNJ.out
            by_cases hltj : j < (lessF x cur).length
            · obtain ⟨z,hz⟩ : ∃ z,(lessF x cur)[j]? = some z := ⟨_,List.getElem?_eq_getElem hltj⟩
              obtain ⟨b8,o8,av8,rfl,-,hb8,e0,e1,hza⟩ := RdFacts.at HM9.out hz
              obtain ⟨hz1,hz2,hz3⟩ := wrongF_zero.1 (HMG.out z (List.mem_of_getElem? hz))
              have KK := Lib.hid (keyCalls z b8 (o8 + j * 2) av8 wr.drew e0 e1 (hza.agree RStr.steady (Below.agree (Below.refl _ _).drew)) (Nat.le_trans (named_size hz1) (by decide)) (Nat.le_trans hz2 (by decide)) (fun y hy => Nat.le_trans (named_size (hz3 y hy)) (by decide)))
              obtain ⟨wm,hput,hmm',hgm⟩ := (HRW9.out.env.hG.drew).put (n := N2) (Nat.lt_of_lt_of_le (show N2 < 100000 by omega) (by simp [maxLen])) (key_size (named_size hz1) hz2 (fun y hy => named_size (hz3 y hy))) (x := (ag : Int) + 1) (WalkArith.wf_i64 (by omega))
              have HRD := Lib.hid (HRW9.out.next (Below.refl _ _).drew)
              have HRM := Lib.hid (HRD.out.map (by omega) hgm hmm')
              have HMN := Lib.hid (show (fun t => if t = keyP z then some ((ag : Int) + 1) else mp2 t) = ageMore ((ag : Int) + 1) mp ((lessF x cur).take (j + 1)) by rw [ageMore_snoc hz,← HMP.out];rfl)
              have HM1 := Lib.hid ((HM9.out.agree RFact.steady (Below.agree (Below.refl _ _).drew)).agree RFact.steady (But.agree hgm (fun h => by have h' : w5.heap.size + 3 ≤ w5.heap.size + 1 := h;omega)))
              have HX1 := Lib.hid ((HX9.out.agree RFact.steady (Below.agree (Below.refl _ _).drew)).agree RFact.steady (But.agree hgm (fun h => by have h' : w5.heap.size + 3 ≤ w5.heap.size + 1 := h;omega)))
              have HNJ1 := Lib.hid (show N2 + 1 ≤ N + (j + 1) by omega)
              have d1 := HRW9.out.env.hD.cell 1
              have d1' := HRD.out.env.hD.cell 1
              have d2' := HRM.out.env.hD.cell 1
              simp only [List.getElem?_toArray,List.getElem?_cons_zero,List.getElem?_cons_succ] at d1 d1' d2'
              have j0 : (0 : Int) ≤ (j : Int) := by omega
              have j1 : (j : Int) < ((lessF x cur).length : Int) := by omega
              clear hz hza hz1 hz2 hz3 HM9 HX9 hgm hmm' e0 e1
              go_wp2
              go_region_held3 (fun w' => w'.cell? ⟨w5.heap.size + 2,1,none⟩ = some (.map (some (w5.heap.size + 1))))
                (first | (with_reducible exact d2') | (with_reducible exact d1') | (with_reducible exact d1) | go_keep)
                (first | (go_at_call 81;(with_reducible refine (KK.out).mono ?_);rintro e w10 ⟨rfl,rfl⟩))
              go_wp2
              go_roundw
              case rel => exact ⟨j + 1,N2 + 1,_,by omega,by go_num,HMN,HNJ1,HM1,HX1,HRM⟩
              case measure => simp [intOf];omega
            · obtain rfl : j = (lessF x cur).length := by omega
              have HMF := Lib.hid (show mp2 = ageMore ((ag : Int) + 1) mp (lessF x cur) by rw [HMP.out,List.take_length])
              have hgl := HGX.out.len
              by_cases hem : lessF x cur = []
              · obtain ⟨hxc,hgo⟩ := HSAM.out (HLI.out.1 hem)
                have HGO1 := Lib.hid hgo
                have HAG1 := Lib.hid (show Aging (p.zip st) cnt (n + 1) x (((ag + 1 : Nat)) : Int) mp2 (agesP st p l) by rw [HMF.out,show ((ag + 1 : Nat) : Int) = (ag : Int) + 1 by omega];exact HAST.out hem)
                have HGO2 := Lib.hid (show Going (p.zip st) cnt (n + 1) x (m,0) by rw [hxc];exact HGO1.out)
                have HAL1 := Lib.hid (show ag + 1 ≤ x.length + (n + 1) by rw [hxc];omega)
                have HNL1 := Lib.hid (show N2 ≤ 200 * (ag + 1) by omega)
                have hz0 : (lessF x cur).length = 0 := by rw [hem];rfl
                have hz1 : ((lessF x cur).length : Int) = 0 := by omega
                clear hem hxc hgo hz0
                go_wp2
                go_roundw
                case rel => exact ⟨n + 1,x,ag + 1,N2,mp2,a8,c8,by omega,by go_num,rfl,by go_num,HGO2,HAG1,HGX,HAL1,HNL1,HX9,HRW9⟩
                case measure => simp [intOf];omega
              · have hne : ¬ x.length = cur.length := fun h => hem (HLI.out.2 h)
                obtain ⟨hgr,hgo⟩ := HMOR.out hne
                have HGO2 := Lib.hid hgo
                have HAG1 := Lib.hid (show Aging (p.zip st) cnt n x (((ag + 1 : Nat)) : Int) mp2 (agesP st p l) by rw [HMF.out,show ((ag + 1 : Nat) : Int) = (ag : Int) + 1 by omega];exact HAMO.out hem hgr)
                have HAL1 := Lib.hid (show ag + 1 ≤ x.length + n by omega)
                have HNL1 := Lib.hid (show N2 ≤ 200 * (ag + 1) by omega)
                have hpos := List.length_pos_iff.2 hem
                have hz1 : ¬ ((lessF x cur).length : Int) = 0 := by omega
                clear hem hgo hne
                go_wp2
                go_roundw
                case rel => exact ⟨x,ag + 1,N2,mp2,a8,c8,rfl,by go_num,HGO2,HAG1,HGX,HAL1,HNL1,HX9,HRW9⟩
                case measure => simp [lenV];omega
      · obtain rfl : n = cnt := by omega
        have hmp := aging_end HAG.out (by omega)
        rw [hmp] at HE
        have hsz := HRW.out.pw.below.size
        have kf := findCalls (N := N) (D := w5.heap.size + 2) (C := w5.heap.size) (G := w5.heap.size + 1) (age := mp) HR.out N2.out n1 (good_of (by rw [HFL.out.set])) HG.out 60 f (.slice aa f.args.length ac) 0 1 wr rfl HRW.out.env (RdSlice.agree RStr.steady (Below.agree HRW.out.pw.below) (HA.out.more RStr.steady (S' := fun b => b < w.heap.size) (fun b _ hb => hb))) (fun h => by have h' : w5.heap.size + 2 < w.heap.size := h;omega) (Nat.zero_le _) HFW.out
        rw [show ((1 : Nat) : Int) = 1 from rfl] at kf
        have f0 := HRW.out.pw.f.cell 0;have f1 := HRW.out.pw.f.cell 1
        simp only [List.getElem?_toArray,List.getElem?_cons_zero,List.getElem?_cons_succ] at f0 f1
        have HPW := Lib.hid HRW.out.pw
        generalize findN p l m mp (60 + 1) 0 f 1 = y at *
        obtain ⟨yo,ys⟩ := y
        have KF := Lib.hid kf
        have hDz : w.heap.size + 1 ≠ w5.heap.size + 2 := by omega
        have hDw : w.heap.size ≤ w5.heap.size + 2 := by omega
        clear kf hmp HAG HGO HRW HCU HGC HAL HNL
        cases yo with
        | none =>
          have HEE := Lib.hid (show RR = (none,4) from HE.out)
          go_wp2_with (go_at_call 82;refine (KF.out).mono ?_;rintro e w8 ⟨hb8,-,rfl⟩;have HB8 := Lib.hid ((below_but HPW.out.below hb8 hDw).alloc (below_but HPW.out.below hb8 hDw).size (.cells #[.string ⟨#[]⟩,.slice none 0 0,.int .i64 0,.slice none 0 0] 44));have HZ8 := Lib.hid ((HPW.out.z.but hb8 hDz).alloc (.cells #[.string ⟨#[]⟩,.slice none 0 0,.int .i64 0,.slice none 0 0] 44));have c0 := HZ8.out.cell 0;have c1 := HZ8.out.cell 1;have c2' := HZ8.out.cell 2;have c3 := HZ8.out.cell 3;have y0 := HZ8.out.frozen 0;have y1 := HZ8.out.frozen 1;have y2 := HZ8.out.frozen 2;have y3 := HZ8.out.frozen 3;simp only [List.getElem?_toArray,List.getElem?_cons_zero,List.getElem?_cons_succ] at c0 c1 c2' c3;clear hb8)
          refine bodyPost_ret (v := .tuple #[.agg #[.string ⟨#[]⟩,.slice none 0 0,.int .i64 0,.slice none 0 0],.int .i64 4]) (by simp [results,Tryz.results49,go_sem,c0,c1,c2',c3]) rfl (prove_none HEE.out ?_)
          exact (((HB8.out.setCell hR1 _).setCell hR1 _).setCell hR1 _).setCell hR1 _
        | some x =>
          have HEE := Lib.hid (show RR = (some x,0) from HE.out)
          have hnz : ∀ hi,¬ Span wr.heap.size hi (w.heap.size + 1) := fun hi h => by have h' : wr.heap.size ≤ w.heap.size + 1 := h.1;have := HPW.out.z.lt;omega
          go_wp2_with (go_at_call 82;refine (KF.out).mono ?_;rintro e w8 ⟨hb8,-,xa,xc,ka,kc,rfl,hxo⟩;have HB8 := Lib.hid ((below_but HPW.out.below hb8 hDw).alloc (below_but HPW.out.below hb8 hDw).size (.cells #[.string x.fact.name,.slice xa x.fact.args.length xc,.int .i64 x.rule,.slice ka x.kids.length kc] 44));have HZ8 := Lib.hid ((HPW.out.z.but hb8 hDz).alloc (.cells #[.string x.fact.name,.slice xa x.fact.args.length xc,.int .i64 x.rule,.slice ka x.kids.length kc] 44));have HXO := Lib.hid (hxo.agree ((Agree.refl _ _).alloc (.cells #[.string x.fact.name,.slice xa x.fact.args.length xc,.int .i64 x.rule,.slice ka x.kids.length kc] 44)));have c0 := HZ8.out.cell 0;have c1 := HZ8.out.cell 1;have c2' := HZ8.out.cell 2;have c3 := HZ8.out.cell 3;have y0 := HZ8.out.frozen 0;have y1 := HZ8.out.frozen 1;have y2 := HZ8.out.frozen 2;have y3 := HZ8.out.frozen 3;simp only [List.getElem?_toArray,List.getElem?_cons_zero,List.getElem?_cons_succ] at c0 c1 c2' c3;clear hb8 hxo)
          refine bodyPost_ret (v := .tuple #[.agg #[.string x.fact.name,.slice xa x.fact.args.length xc,.int .i64 x.rule,.slice ka x.kids.length kc],.int .i64 0]) (by simp [results,Tryz.results49,go_sem,c0,c1,c2',c3]) rfl (prove_some HEE.out ?_ ?_)
          · exact (((HB8.out.setCell hR1 _).setCell hR1 _).setCell hR1 _).setCell hR1 _
          · exact (OwnP.four HXO.out (hnz _) _ _ _ _).wide hsz (by simp)
theorem proveCalls {S S3 S4 : Nat → Prop} (p : List PRule) (v fv : Value) (st : List Int) (q : Int × Int) (l : List PFact) (f : PFact) (av : Value) (w : World) (hS : StrataIs p st q) (h : RdRules S w v p) (hf : RdFacts S3 w fv l) (ha : RdStrs S4 w av f.args)
    (n1 : p.length ≤ 1048576) (n2 : ∀ r ∈ p,RuleSmall r) (n3 : ∀ r ∈ p,NameSmall r) (n4 : l.length ≤ 1048576) (n5 : ∀ x ∈ l,x.args.length ≤ 1048576) (n6 : f.args.length ≤ 1048576) :
    Calls Tryz.prog 49 #[v,fv,.agg #[.string f.name,av]] w (ProvePost (proveP st q.1 p l f) w) := (proveOwn p v fv st q l f av w hS h hf ha n1 n2 n3 n4 n5 n6).mono fun _ _ h => h.post
end Go.Proofs.YtiiicochdidolaaGreat
namespace Go.Proofs.YtiiicochdidolaaGreat
end Go.Proofs.YtiiicochdidolaaGreat
namespace Go.Proofs.YtiiicochdidolaaGreat
structure PDo where
  kind : Int
  n : Int
  fact : PFact
  text : Str
structure PAns where
  err : Int
  at' : Int
  n : Int
  binds : List Binds
  proof : PProof
structure PDesk where
  told : List PFact
  rules : List PRule
  running : Bool
  run : PRun
  saved : Option Bytes
def zeroDesk : PDesk := ⟨[],[],false,zeroRun,none⟩
def zeroPf : PProof := .mk ⟨⟨#[]⟩,[]⟩ 0 []
def ansE (e at' : Int) : PAns := ⟨e,at',0,[],zeroPf⟩
def ansN (n : Nat) : PAns := ⟨0,0,n,[],zeroPf⟩
abbrev StrataFn := List PRule → List Int × (Int × Int)
section
variable (sp : StrataFn)
def tellP (d : PDesk) (f : PFact) : PDesk × PAns := if wrongF f ≠ 0 then (d,ansE (wrongF f) 0) else if 200 < (joinF d.told [f]).length then (d,ansE 5 0) else ({ d with told := joinF d.told [f] },ansN (joinF d.told [f]).length)
def rulesP (d : PDesk) (s : Str) : PDesk × PAns := if (parseF s).2.1 ≠ 0 then (d,ansE (parseF s).2.1 (parseF s).2.2) else if (sp (parseF s).1).2.1 ≠ 0 then (d,ansE (sp (parseF s).1).2.1 (sp (parseF s).1).2.2)
  else (⟨d.told,(parseF s).1,false,zeroRun,none⟩,ansN (parseF s).1.length)
def askP (d : PDesk) (s : Str) : PAns := if (parseBodyF s).2.1 ≠ 0 then ansE (parseBodyF s).2.1 (parseBodyF s).2.2 else if (d.running && d.run.done) = false then ansE 11 0
  else if (allP (parseBodyF s).1 d.run.known).2 ≠ 0 then ansE (allP (parseBodyF s).1 d.run.known).2 0 else ⟨0,0,(allP (parseBodyF s).1 d.run.known).1.length,(allP (parseBodyF s).1 d.run.known).1,zeroPf⟩
def setD (d : PDesk) (x : PRun × Int) : PDesk × PAns := if x.2 ≠ 0 then (d,ansE x.2 0) else ({ d with running := true,run := x.1 },ansN x.1.known.length)
def proveD (d : PDesk) (f : PFact) : PAns := ⟨(proveP (sp d.rules).1 (sp d.rules).2.1 d.rules d.told f).2,0,0,[],(proveP (sp d.rules).1 (sp d.rules).2.1 d.rules d.told f).1.getD zeroPf⟩
def saveD (d : PDesk) : PDesk × PAns := if (saveP (sp d.rules).1 (sp d.rules).2.1 d.rules d.run).2 ≠ 0 then (d,ansE (saveP (sp d.rules).1 (sp d.rules).2.1 d.rules d.run).2 0)
  else ({ d with saved := some (saveP (sp d.rules).1 (sp d.rules).2.1 d.rules d.run).1 },ansN (saveP (sp d.rules).1 (sp d.rules).2.1 d.rules d.run).1.length)
def backD (d : PDesk) : PDesk × PAns := match d.saved with
  | none => (d,ansE 6 0)
  | some b => setD d (loadP (sp d.rules).1 (sp d.rules).2.1 d.rules b)
def doP (d : PDesk) (x : PDo) : PDesk × PAns :=
  if x.kind = 1 then tellP d x.fact else if x.kind = 2 then rulesP sp d x.text else if x.kind = 3 then setD d (beginP (sp d.rules).1 (sp d.rules).2.1 d.rules d.told)
  else if x.kind = 5 then (d,askP d x.text) else if x.kind = 6 then (d,proveD sp d x.fact) else if x.kind = 8 then backD sp d
  else if x.kind = 4 then (if d.running then setD d (stepsRun (sp d.rules).1 (sp d.rules).2.1 d.rules d.run x.n) else (d,ansE 11 0))
  else if x.kind = 7 then (if d.running then saveD sp d else (d,ansE 11 0)) else (d,ansE 1 0)
def playL : PDesk → List PDo → PDesk × List PAns
  | d,[] => (d,[])
  | d,x :: l => ((playL (doP sp d x).1 l).1,(doP sp d x).2 :: (playL (doP sp d x).1 l).2)
def playP (l : List PDo) : PDesk × List PAns × Int := if 60 < l.length then (zeroDesk,[],5) else ((playL sp zeroDesk l).1,(playL sp zeroDesk l).2,0)
end
variable {sp : StrataFn}
theorem playL_len : ∀ (l : List PDo) (d : PDesk),(playL sp d l).2.length = l.length
  | [],_ => rfl
  | x :: l,d => by rw [playL,List.length_cons,List.length_cons,playL_len l]
theorem playL_append : ∀ (l m : List PDo) (d : PDesk),playL sp d (l ++ m) = ((playL sp (playL sp d l).1 m).1,(playL sp d l).2 ++ (playL sp (playL sp d l).1 m).2)
  | [],m,d => rfl
  | x :: l,m,d => by rw [List.cons_append,playL,playL_append l m];rfl
theorem playL_take (l : List PDo) (d : PDesk) {i : Nat} {x : PDo} (h : l[i]? = some x) : (playL sp d (l.take (i + 1))).1 = (doP sp (playL sp d (l.take i)).1 x).1 := by
  rw [List.take_add_one,h,playL_append]
  rfl
structure Upon (st : List Int) (p : List PRule) (l : List PFact) (r : PRun) : Prop where
  ok : RunOk st p r
  low : ∀ x0 t,(x0,t) ∈ p.zip st → t < r.stratum → ∀ x,Derives x0 r.known x → x ∈ r.known
  on : r.done = false → Sync (p.zip st) r.stratum r.known r.new
  told : ∀ x ∈ r.known,x ∈ l ∨ x.name ∈ headsOf p
theorem Upon.step {st : List Int} {p : List PRule} {l : List PFact} {L : Str → Nat} (hS : Sol p L) (hst : p.zip st = withL L p) (hR : Ruled st p) {r : PRun} (h : Upon st p l r) (hd : r.done = false) (h2 : r.rounds ≠ 1000) {r' : PRun} (hs : Stepped (p.zip st) (countP st) r r') : Upon st p l r' := by
  have hy := h.on hd
  have hstl : Still (p.zip st) r.stratum r.known r'.known := by rw [hst] at hs ⊢;exact still_of hS h.ok.sub hs
  refine ⟨hs.ok hR h.ok hd h2,fun x0 t hm ht x hx => ?_,fun _ => hs.sync hy hstl,fun x hx => ?_⟩
  · rcases hs.how with ⟨a1,a2,a3,a4⟩ | ⟨a1,a2,a3,a4⟩
    · rw [a1] at hx
      rw [a3] at ht
      by_cases e : t = r.stratum
      · exact hs.all hy hm e hx
      · rw [a1]
        exact h.low x0 t hm (by omega) x hx
    · rw [a1] at ht
      refine hs.sub x (h.low x0 t hm ht x (hx.agree fun a ha f hf => ⟨fun h1 => ?_,hs.sub f⟩))
      rcases (hs.mem f).1 h1 with h2 | h2
      · exact h2
      · obtain ⟨r1,t1,hm1,e1,hd1⟩ := h2.derives h.ok.sub
        rw [hst] at hm hm1
        obtain ⟨k1,k2⟩ := mem_withL.1 hm1
        obtain ⟨g1,g2⟩ := mem_withL.1 hm
        have hnm := hd1.name
        have hup := hS.up x0 g1 a ha
        rw [← hf,hnm] at hup
        omega
  · rcases (hs.mem x).1 hx with h1 | h1
    · exact h.told x h1
    · obtain ⟨r1,t1,hm1,-,hd1⟩ := h1.derives h.ok.sub
      exact .inr (by rw [hd1.name];exact List.mem_map.2 ⟨r1,(List.of_mem_zip hm1).1,rfl⟩)
theorem Upon.iter {st : List Int} {p : List PRule} {l : List PFact} {L : Str → Nat} (hS : Sol p L) (hst : p.zip st = withL L p) (hR : Ruled st p) : ∀ {n : Nat} {r : PRun},Upon st p l r → (iterP st 0 p n r).2 = 0 → Upon st p l (iterP st 0 p n r).1
  | 0,r,h,_ => h
  | n + 1,r,h,hz => by
    cases hd : r.done
    case true => rw [iter_still hd];exact h
    rw [iterP,if_neg (by rw [hd];simp),step_good_eq h.ok] at hz ⊢
    rcases step_cases hR h.ok hd with h1 | ⟨h1,-⟩ | ⟨h1,h2,h3⟩
    · rw [h1] at hz;exact absurd hz (by simp)
    · rw [h1] at hz;exact absurd hz (by simp)
    rw [if_neg (by simpa using h1)] at hz ⊢
    exact Upon.iter hS hst hR (h.step hS hst hR hd h2 h3) hz
theorem Upon.more {st : List Int} {p : List PRule} {l m : List PFact} {r : PRun} (h : Upon st p l r) (hl : ∀ x ∈ l,x ∈ m) : Upon st p m r := ⟨h.ok,h.low,h.on,fun x hx => (h.told x hx).imp (hl x) id⟩
theorem zip_of {p : List PRule} {st : List Int} {L : Str → Nat} (e : st = p.map (fun r => (L r.head.name : Int))) : p.zip st = withL L p := by rw [e];exact zip_withL L p
theorem upon_begin {p : List PRule} {st : List Int} {q : Int × Int} (hs : StrataIs p st q) {l : List PFact} (h : (beginP st q.1 p l).2 = 0) : Upon st p l (beginP st q.1 p l).1 := by
  obtain ⟨h1,h2,e,hok⟩ := begin_ok hs h
  obtain ⟨-,-,-,L,-,hst⟩ := strata_count hs h1
  refine ⟨hok,fun x0 t hm ht => ?_,fun _ => ?_,fun x hx => ?_⟩
  · rw [e] at ht
    rw [zip_of hst] at hm
    obtain ⟨-,k2⟩ := mem_withL.1 hm
    have ht' : t < 0 := ht
    omega
  · rw [e];exact sync_all _ _ _
  · rw [e] at hx;exact .inl hx
theorem upon_steps {p : List PRule} {st : List Int} {q : Int × Int} (hs : StrataIs p st q) (hq : q.1 = 0) {l : List PFact} {r : PRun} (h : Upon st p l r) {n : Int} (hn : (stepsRun st q.1 p r n).2 = 0) : Upon st p l (stepsRun st q.1 p r n).1 := by
  obtain ⟨hR,-,-,L,hL,hst⟩ := strata_count hs hq
  rw [hq] at hn ⊢
  by_cases hr : n < 0 ∨ 1000 < n
  · unfold stepsRun at hn;rw [if_neg (by rw [runBad_zero.2 ⟨rfl,h.ok⟩];simp),if_pos hr] at hn;exact absurd hn (show (3 : Int) ≠ 0 by decide)
  · rw [steps_good h.ok (by omega) (by omega)] at hn ⊢
    exact h.iter hL.sol (zip_of hst) hR hn
structure DeskOk (sp : StrataFn) (d : PDesk) : Prop where
  told : Good d.told
  rules : (sp d.rules).2.1 = 0
  few : d.rules.length ≤ 16
  run : d.running = true → Upon (sp d.rules).1 d.rules d.told d.run
  none_ : d.running = false → d.run = zeroRun
  saved : ∀ b,d.saved = some b → ∃ r,b = runB8 r ∧ Upon (sp d.rules).1 d.rules d.told r
theorem join_good {l : List PFact} {f : PFact} (h : Good l) (hf : wrongF f = 0) (hn : ¬ 200 < (joinF l [f]).length) : Good (joinF l [f]) :=
  ⟨ofF_rising _,by omega,fun x hx => by
    rcases (mem_joinF l [f] x).1 hx with hx | hx
    · exact h.fine x hx
    · obtain rfl := List.mem_singleton.1 hx;exact hf⟩
theorem setD_ok {d : PDesk} (h : DeskOk sp d) {x : PRun × Int} (hx : x.2 = 0 → Upon (sp d.rules).1 d.rules d.told x.1) : DeskOk sp (setD d x).1 := by
  unfold setD
  split
  · exact h
  · rename_i hc
    exact ⟨h.told,h.rules,h.few,fun _ => hx (Classical.not_not.1 hc),fun hf => (by cases hf),h.saved⟩
theorem parse_few {s : Str} (_h : (parseF s).2.1 = 0) (hq : (wrongP (parseF s).1).1 = 0) : (parseF s).1.length ≤ 16 := (wrongP_iff.1 hq).1
theorem do_ok (hsp : ∀ p,StrataIs p (sp p).1 (sp p).2) {d : PDesk} (h : DeskOk sp d) (x : PDo) : DeskOk sp (doP sp d x).1 := by
  unfold doP
  by_cases h1 : x.kind = 1
  · rw [if_pos h1]
    unfold tellP
    split
    · exact h
    · rename_i a
      split
      · exact h
      · rename_i b
        have hm : ∀ y ∈ d.told,y ∈ joinF d.told [x.fact] := fun y hy => (mem_joinF _ _ y).2 (.inl hy)
        exact ⟨join_good h.told (Classical.not_not.1 a) b,h.rules,h.few,fun hr => (h.run hr).more hm,h.none_,fun b hb => by
          obtain ⟨r,e,hu⟩ := h.saved b hb
          exact ⟨r,e,hu.more hm⟩⟩
  rw [if_neg h1]
  by_cases h2 : x.kind = 2
  · rw [if_pos h2]
    unfold rulesP
    split
    · exact h
    · rename_i a
      split
      · exact h
      · rename_i b
        have hq := Classical.not_not.1 b
        exact ⟨h.told,hq,parse_few (Classical.not_not.1 a) (strata_zero (hsp _) hq).2.1,fun hr => (by cases hr),fun _ => rfl,fun b hb => (by cases hb)⟩
  rw [if_neg h2]
  by_cases h3 : x.kind = 3
  · rw [if_pos h3]
    exact setD_ok h fun he => upon_begin (hsp _) he
  rw [if_neg h3]
  by_cases h5 : x.kind = 5
  · rw [if_pos h5];exact h
  rw [if_neg h5]
  by_cases h6 : x.kind = 6
  · rw [if_pos h6];exact h
  rw [if_neg h6]
  by_cases h8 : x.kind = 8
  · rw [if_pos h8]
    unfold backD
    cases hs : d.saved with
    | none => exact h
    | some b =>
      obtain ⟨r,rfl,hu⟩ := h.saved b hs
      refine setD_ok h fun he => ?_
      obtain ⟨-,-,cc,-⟩ := strata_count (hsp d.rules) h.rules
      obtain ⟨g1,g2⟩ := load_save (q := (sp d.rules).2.1) cc (runBad_zero.2 ⟨h.rules,hu.ok⟩)
      have he' := (load_zero he).2.2
      rw [g2] at he'
      show Upon _ _ _ (loadP (sp d.rules).1 (sp d.rules).2.1 d.rules (runB8 r)).1
      rw [he']
      exact hu
  rw [if_neg h8]
  by_cases h4 : x.kind = 4
  · rw [if_pos h4]
    cases hr : d.running
    · exact h
    · rw [if_pos rfl]
      exact setD_ok h fun he => upon_steps (hsp _) h.rules (h.run hr) he
  rw [if_neg h4]
  by_cases h7 : x.kind = 7
  · rw [if_pos h7]
    cases hr : d.running
    · exact h
    · rw [if_pos rfl]
      unfold saveD
      split
      · exact h
      · rename_i a
        refine ⟨h.told,h.rules,h.few,h.run,h.none_,fun b hb => ⟨d.run,?_,h.run hr⟩⟩
        have hb' : some (saveP (sp d.rules).1 (sp d.rules).2.1 d.rules d.run).1 = some b := hb
        obtain rfl := Option.some.inj hb'
        unfold saveP
        rw [if_neg (by rw [runBad_zero.2 ⟨h.rules,(h.run hr).ok⟩];simp)]
  rw [if_neg h7]
  exact h
theorem zero_ok (hsp : ∀ p,StrataIs p (sp p).1 (sp p).2) : DeskOk sp zeroDesk := by
  refine ⟨⟨List.Pairwise.nil,Nat.zero_le _,fun x hx => by cases hx⟩,?_,Nat.zero_le _,fun h => (by cases h),fun _ => rfl,fun b hb => (by cases hb)⟩
  have h1 : StrataIs [] ([].map fun _ => (0 : Int)) (0,0) := .inr ⟨by decide +kernel,.inl ⟨fun _ => 0,⟨⟨fun _ _ => rfl,fun r hr => by cases hr⟩,fun M _ s => Nat.zero_le _⟩,rfl,rfl⟩⟩
  have h2 := (StrataIs.unique (hsp []) h1).2
  show (sp []).2.1 = 0
  rw [h2]
theorem play_ok (hsp : ∀ p,StrataIs p (sp p).1 (sp p).2) : ∀ (l : List PDo) {d : PDesk},DeskOk sp d → DeskOk sp (playL sp d l).1
  | [],_,h => h
  | x :: l,_,h => play_ok hsp l (do_ok hsp h x)
end Go.Proofs.YtiiicochdidolaaGreat
