/-
  THE TEXTS ProofGo, RcGo, RoundP, RoundQ, ProofPrv, one behind the other.
-/
import Derived.Test.YtdngkcieckejoaaGreatPk4
import Derived.Test.YtdngkcieckejoaaGreatPk15
import Derived.Test.YtdngkcieckejoaaGreatPk28
namespace Go.Proofs.YtdngkcieckejoaaGreat
section
open Go.RowKit
theorem kids_le {F : Nat → PFact → Option PProof × Nat} (hF : ∀ (s : Nat) (k : PFact) (x : PProof),s ≤ 400 → (F s k).1 = some x → (F s k).2 ≤ 400) : ∀ (ks : List PFact) (xs : List PProof) (s : Nat) (ys : List PProof),s ≤ 400 → (kidsAcc F xs s ks).1 = some ys → (kidsAcc F xs s ks).2 ≤ 400
 | [],xs,s,ys,hs,_ => hs
 | k :: ks,xs,s,ys,hs,h => by
  rw [kidsAcc] at h ⊢
  have h1 := hF s k
  generalize F s k = y at *
  obtain ⟨yo,s'⟩ := y
  cases yo with
  | none => cases h
  | some x => exact kids_le hF ks _ s' ys (h1 x hs rfl) h
theorem findN_le {p : List PRule} {told M : List PFact} {age : Str → Option Int} : ∀ (n s : Nat) (f : PFact) (d : Nat) (x : PProof),s ≤ 400 → (findN p told M age n s f d).1 = some x → (findN p told M age n s f d).2 ≤ 400
 | 0,s,f,d,x,hs,h => by cases h
 | n + 1,s,f,d,x,hs,h => by
  rw [findN] at h ⊢
  split at h
  ·cases h
  ·rename_i hb
   rw [if_neg hb]
   split at h
   ·rename_i hm
    rw [if_pos hm]
    show s + 1 ≤ 400
    omega
   ·rename_i hm
    rw [if_neg hm]
    cases hp : pickRule age M f 0 p with
    | none => rw [hp] at h;cases h
    | some z =>
     obtain ⟨i,ks⟩ := z
     rw [hp] at h
     dsimp only at h ⊢
     have h2 := kids_le (F := fun s k => findN p told M age n s k (d + 1)) (fun s k x hs hx => findN_le n s k (d + 1) x hs hx) ks [] (s + 1)
     generalize kidsAcc (fun s k => findN p told M age n s k (d + 1)) [] (s + 1) ks = T at *
     obtain ⟨To,Ts⟩ := T
     cases To with
     | none => cases h
     | some ys => exact h2 ys (by omega) rfl
theorem findCalls {p : List PRule} {told M : List PFact} {age : Str → Option Int} {N D C G : Nat} {pv tv mv : Value} (hR : ∀ r ∈ p,ruleBad r = 0) (hRS : ∀ r ∈ p,RuleSmall r) (hpl : p.length ≤ 1048576) (hM : Good M) (hT : Good told) :
 ∀ (n : Nat) {S S4 : Nat → Prop} (f : PFact) (av : Value) (sz d : Nat) (w : World),n + d = 61 → FEnv S age N p told M D C G pv tv mv w sz → RdStrs S4 w av f.args → ¬ S4 D → sz ≤ 400 → wrongF f = 0 →
  Calls Tryz.prog 23 #[.pointer (some ⟨D,0,none⟩),.agg #[.string f.name,av],.int .i64 (d : Int)] w (FindPost (findN p told M age (n + 1) sz f d) (n + 1) D C G w)
 | 0,S,S4,f,av,sz,d,w,hnd,hE,ha,hS4,hs,hf => by
  rw [findN_step]
  exact findWalk age N p told M D C G 0 pv tv mv _ f av sz d w hE ha hS4 (fun h => absurd h (by omega)) hs (by omega) hf hR hRS hpl hM hT
 | n + 1,S,S4,f,av,sz,d,w,hnd,hE,ha,hS4,hs,hf => by
  rw [findN_step]
  exact findWalk age N p told M D C G (n + 1) pv tv mv _ f av sz d w hE ha hS4 (fun _ S' s k av' W hs' hk hE' ⟨S5,ha',hS5⟩ => ⟨fun x hx => findN_le (n + 1) s k (d + 1) x hs' hx,findCalls hR hRS hpl hM hT n k av' s (d + 1) W (by omega) hE' ha' hS5 hs' hk⟩) hs (by omega) hf hR hRS hpl hM hT
end
section
open Go.RowKit
theorem ofCalls7 {p : List PRule} {told M : List PFact} {zs : List (List PFact)} {age : Str → Option Int} {D zl : Nat} {za : Option Addr} {zc : Nat} {pv : Value} (hzl : zs.length = zl + 1) (hA : AgesIn age zs M) (hh : zs.head? = some told) (hl : zl ≤ 1000) (hz2 : ∀ z ∈ zs,z.length ≤ 200) (hR : ∀ r ∈ p,ruleBad r = 0) (hRS : ∀ r ∈ p,RuleSmall r) (hpl : p.length ≤ 1048576) (hM : Good M) :
 ∀ (n : Nat) {S S4 : Nat → Prop} (f : PFact) (av : Value) (sz d : Nat) (w : World),n + d = 61 → WEnv S p zs D pv (.slice za (zl + 1) zc) w sz → RdStrs S4 w av f.args → ¬ S4 D → sz ≤ 400 → f ∈ M →
  Calls Tryz.prog 27 #[.pointer (some ⟨D,0,none⟩),.agg #[.string f.name,av],.int .i64 (d : Int)] w (OfPost (findN p told M age (n + 1) sz f d) (n + 1) D S4 pv (.slice za (zl + 1) zc) w)
 | 0,S,S4,f,av,sz,d,w,hnd,hE,ha,hS4,hs,hf => by
  rw [findN_step]
  exact ofWalk age p told M zs D 0 zl za zc pv _ f av sz d w hzl hE ha hS4 (fun h => absurd h (by omega)) hs (by omega) hf hA hh hl hz2 hR hRS hpl hM
 | n + 1,S,S4,f,av,sz,d,w,hnd,hE,ha,hS4,hs,hf => by
  rw [findN_step]
  exact ofWalk age p told M zs D (n + 1) zl za zc pv _ f av sz d w hzl hE ha hS4 (fun _ S' S5 s k av' W hs' hk hE' ha' hS5 => ⟨fun x hx => findN_le (n + 1) s k (d + 1) x hs' hx,ofCalls7 hzl hA hh hl hz2 hR hRS hpl hM n k av' s (d + 1) W (by omega) hE' ha' hS5 hs' hk⟩) hs (by omega) hf hA hh hl hz2 hR hRS hpl hM
theorem roundsAges {S S2 : Nat → Prop} (p : List PRule) (v fv : Value) (st : List Int) (q : Int × Int) (l : List PFact) (w : World) (hS : StrataIs p st q) (h : RdRules S w v p) (hf : RdFacts S2 w fv l)
 (n1 : p.length ≤ 1048576) (n2 : ∀ r ∈ p,RuleSmall r) (n3 : ∀ r ∈ p,NameSmall r) (n4 : l.length ≤ 1048576) (n5 : FactsSmall l) :
 Calls Tryz.prog 24 #[v,fv] w fun e w' => Below w.heap.size w w' ∧ ((∃ n,naiveP st q.1 p l = ([],n) ∧ n ≠ 0 ∧ e = .returned (.tuple #[.slice none 0 0,.int .i64 n])) ∨
  ∃ M,naiveP st q.1 p l = (M,0) ∧ ∃ (a : Option Addr) (c m : Nat) (zs : List (List PFact)),m < 1000 ∧ zs.length = m + 1 ∧ e = .returned (.tuple #[.slice a (m + 1) c,.int .i64 0]) ∧ RdLists (fun _ => True) w' (.slice a (m + 1) c) zs ∧ zs[m]? = some M ∧ AgesIn (agesP st p l) zs M ∧ zs.head? = some l ∧ ∀ z ∈ zs,z.length ≤ 200) := by
 refine (roundsRefI (AgeI (p.zip st) (countP st).toNat (agesP st p l) l) p v fv st q l w hS h hf n1 n2 n3 n4 n5 (fun h1 h2 => ?_)).mono fun e w' ⟨hb,hr⟩ => ⟨hb,?_⟩
 ·obtain ⟨hR,-⟩ := strata_zero hS h1
  exact age_inv (fun r s hm => hR r (List.of_mem_zip hm).1) (good_of (factsBad_set h2))
 ·rcases hr with h1 | ⟨M,h1,a,c,m,zs,h2,h3,h4,h5,h6,n,h7,h8⟩
  ·exact .inl h1
  ·obtain ⟨g1,g2,g3⟩ := age_end h8 h7
   exact .inr ⟨M,h1,a,c,m,zs,h2,h3,h4,h5,h6,g1,g2,g3⟩
end
section
end
section
structure Ruled (st : List Int) (p : List PRule) : Prop where
 rules : ∀ r ∈ p,ruleBad r = 0
 arity : Arity p
theorem strata_count {p : List PRule} {st : List Int} {q : Int × Int} (hs : StrataIs p st q) (hq : q.1 = 0) : Ruled st p ∧ 0 ≤ countP st ∧ countP st ≤ 16 ∧ ∃ L,Least p L ∧ st = p.map (fun r => (L r.head.name : Int)) := by
 obtain ⟨h1,h2,L,hL,e⟩ := strata_zero hs hq
 obtain ⟨k1,-,k3⟩ := wrongP_iff.1 h2
 refine ⟨⟨h1,k3⟩,?_,?_,L,hL,e⟩
 ·rcases count_is st with ⟨-,h⟩ | ⟨x,hx,h⟩
  ·omega
  ·rw [e] at hx
   obtain ⟨r,-,rfl⟩ := List.mem_map.1 hx
   omega
 ·rcases count_is st with ⟨-,h⟩ | ⟨x,hx,h⟩
  ·omega
  ·rw [e] at hx
   obtain ⟨r,hr,rfl⟩ := List.mem_map.1 hx
   have := hL.bound (D := headsOf p) (fun x hx => hx) (s := r.head.name) (List.mem_map.2 ⟨r,hr,rfl⟩)
   rw [show (headsOf p).length = p.length from List.length_map ..] at this
   omega
end
section
open Go.RowKit
theorem below_but {D : Nat} {w wa w' : World} (h : Below w.heap.size w wa) (hb : But D wa w') (hD : w.heap.size ≤ D) : Below w.heap.size w w' :=
 ⟨hb.os.trans h.1,hb.tape.trans h.2,hb.output.trans h.3,Nat.le_trans h.size hb.size,fun k hk => (hb.block k (Nat.lt_of_lt_of_le hk h.size) (fun e => by have := Option.some.inj e;omega)).trans (h.block k hk)⟩
def ProvePost (r : Option PProof × Int) (w : World) (e : Ending) (w' : World) : Prop :=
 Below w.heap.size w w' ∧ match r.1 with
  | none => e = .returned (.tuple #[.agg #[.string ⟨#[]⟩,.slice none 0 0,.int .i64 0,.slice none 0 0],.int .i64 r.2])
  | some x => ∃ aa ac ka kc,e = .returned (.tuple #[.agg #[.string x.fact.name,.slice aa x.fact.args.length ac,.int .i64 x.rule,.slice ka x.kids.length kc],.int .i64 r.2]) ∧ RdStrs (New w) w' (.slice aa x.fact.args.length ac) x.fact.args ∧ RdProofs 61 (New w) w' (.slice ka x.kids.length kc) x.kids
def ProveOwn (r : Option PProof × Int) (w : World) (e : Ending) (w' : World) : Prop :=
 Below w.heap.size w w' ∧ match r.1 with
  | none => e = .returned (.tuple #[.agg #[.string ⟨#[]⟩,.slice none 0 0,.int .i64 0,.slice none 0 0],.int .i64 r.2])
  | some x => ∃ aa ac ka kc,e = .returned (.tuple #[.agg #[.string x.fact.name,.slice aa x.fact.args.length ac,.int .i64 x.rule,.slice ka x.kids.length kc],.int .i64 r.2]) ∧ OwnP 62 w.heap.size w'.heap.size w' (.slice aa x.fact.args.length ac) (.slice ka x.kids.length kc) x
theorem ProveOwn.post {r : Option PProof × Int} {w w' : World} {e : Ending} (h : ProveOwn r w e w') : ProvePost r w e w' := by
 obtain ⟨hb,h⟩ := h
 refine ⟨hb,?_⟩
 obtain ⟨ro,rn⟩ := r
 cases ro with
 | none => exact h
 | some x =>
  obtain ⟨aa,ac,ka,kc,he,ho⟩ := h
  obtain ⟨h1,h2⟩ := ho.kids
  exact ⟨aa,ac,ka,kc,he,h1.more ζS (fun b hb _ => hb.1),h2.more (RProofN.steady 61) (fun b hb _ => hb.1)⟩
theorem prove_none {r : Option PProof × Int} {n : Int} {w w' : World} (h : r = (none,n)) (hb : Below w.heap.size w w') : ProveOwn r w (.returned (.tuple #[.agg #[.string ⟨#[]⟩,.slice none 0 0,.int .i64 0,.slice none 0 0],.int .i64 n])) w' := by subst h;exact ⟨hb,rfl⟩
theorem prove_some {r : Option PProof × Int} {x : PProof} {n : Int} {aa ka : Option Addr} {ac kc : Nat} {w w' : World} (h : r = (some x,n)) (hb : Below w.heap.size w w') (ho : OwnP 62 w.heap.size w'.heap.size w' (.slice aa x.fact.args.length ac) (.slice ka x.kids.length kc) x) :
 ProveOwn r w (.returned (.tuple #[.agg #[.string x.fact.name,.slice aa x.fact.args.length ac,.int .i64 x.rule,.slice ka x.kids.length kc],.int .i64 n])) w' := by subst h;exact ⟨hb,aa,ac,ka,kc,rfl,ho⟩
theorem prove_q {st : List Int} {q : Int} {p : List PRule} {l : List PFact} {f : PFact} (h : q ≠ 0) : proveP st q p l f = (none,q) := by unfold proveP;rw [if_pos h]
theorem prove_all {st : List Int} {p : List PRule} {l : List PFact} {f : PFact} (h : (naiveP st 0 p l).2 ≠ 0) : proveP st 0 p l f = (none,(naiveP st 0 p l).2) := by unfold proveP;rw [if_neg (by simp),if_pos h]
theorem prove_wrong {st : List Int} {p : List PRule} {l : List PFact} {f : PFact} (h : (naiveP st 0 p l).2 = 0) (h2 : wrongF f ≠ 0) : proveP st 0 p l f = (none,wrongF f) := by unfold proveP;rw [if_neg (by simp),if_neg (by simpa using h),if_pos h2]
theorem prove_out {st : List Int} {p : List PRule} {l : List PFact} {f : PFact} (h : (naiveP st 0 p l).2 = 0) (h2 : wrongF f = 0) (h3 : memF f (naiveP st 0 p l).1 = false) : proveP st 0 p l f = (none,6) := by unfold proveP;rw [if_neg (by simp),if_neg (by simpa using h),if_neg (by simpa using h2),if_pos h3]
theorem prove_find {st : List Int} {p : List PRule} {l : List PFact} {f : PFact} (h : (naiveP st 0 p l).2 = 0) (h2 : wrongF f = 0) (h3 : memF f (naiveP st 0 p l).1 = true) : proveP st 0 p l f = match (findN p l (naiveP st 0 p l).1 (agesP st p l) 61 0 f 1).1 with
 | none => (none,4)
 | some x => (some x,0) := by unfold proveP;rw [if_neg (by simp),if_neg (by simpa using h),if_neg (by simpa using h2),if_neg (by rw [h3];simp)] <;> rfl
theorem hb6w (w5 : World) (o1 o2 o3 : Obj) : Below w5.heap.size w5 (((w5.alloc o1).alloc o2).alloc o3) := (((ζb _ _).alloc (ζn _) _).alloc (by simp) _).alloc (by simp;omega) _
theorem hr_i {S : Nat → Prop} {w w' : World} {v : Value} {l : List Int} (h : RdInts S w v l) (hb : Below w.heap.size w w') : RdInts (fun _ => True) w' v l := (h.more RInt.steady (fun _ _ _ => trivial)).agree RInt.steady (Below.agree hb)
structure PvW (w W : World) (nm av : Value) : Prop where
 below : Below w.heap.size w W
 f : Blk W w.heap.size 27 #[nm,av]
 z : Blk W (w.heap.size + 1) 30 #[.string ⟨#[]⟩,.slice none 0 0,.int .i64 0,.slice none 0 0]
theorem PvW.next {w W W' : World} {nm av : Value} (h : PvW w W nm av) (hb : Below W.heap.size W W') : PvW w W' nm av := ⟨h.below.trans (hb.mono h.below.size),h.f.below hb h.f.lt,h.z.below hb h.z.lt⟩
theorem FEnv.map {S : Nat → Prop} {age age' : Str → Option Int} {N N' : Nat} {p : List PRule} {told M : List PFact} {D C G : Nat} {pv tv mv : Value} {w w' : World} {sz : Nat} (h : FEnv S age N p told M D C G pv tv mv w sz) (hb : But G w w') (hm : MapI w' G N' age') (h1 : D ≠ G) (h2 : C ≠ G) (hS : ¬ S G) : FEnv S age' N' p told M D C G pv tv mv w' sz :=
 ⟨h.hD.but hb h1,h.hC.but hb h2,hm,h.hp.agree RRule.steady (hb.agree hS),h.ht.agree ζF (hb.agree hS),h.hm.agree ζF (hb.agree hS),h.nS,h.nC,h.nG⟩
theorem ageMore_snoc {a : Int} {m : Str → Option Int} {l : List PFact} {k : Nat} {x : PFact} (h : l[k]? = some x) : ageMore a m (l.take (k + 1)) = putM (ageMore a m (l.take k)) (keyP x) a := by unfold ageMore;exact foldl_snoc h
theorem strata_fine {p : List PRule} {st : List Int} {q : Int × Int} (hs : StrataIs p st q) (hq : q.1 = 0) : ∀ z ∈ st,0 ≤ z ∧ z ≤ 1048576 := fun z hz => by
 obtain ⟨-,h1,h2,L,-,rfl⟩ := strata_count hs hq
 have h3 := count_gt hz
 obtain ⟨r,-,rfl⟩ := List.mem_map.1 hz
 omega
structure RdW (w wb wr : World) (nm av : Value) (p : List PRule) (l m : List PFact) (st : List Int) (pv tv mv sv : Value) (mp : Str → Option Int) (N : Nat) : Prop where
 pw : PvW w wr nm av
 env : FEnv (fun b => b < wb.heap.size) mp N p l m (wb.heap.size + 2) wb.heap.size (wb.heap.size + 1) pv tv mv wr 0
 st : RdInts (fun b => b < wb.heap.size) wr sv st
section
variable {w wb wr w' : World} {nm av : Value} {p : List PRule} {l m : List PFact} {st : List Int} {pv tv mv sv : Value} {mp mp' : Str → Option Int} {N N' : Nat}
theorem RdW.next (h : RdW w wb wr nm av p l m st pv tv mv sv mp N) (hb : Below wr.heap.size wr w') : RdW w wb w' nm av p l m st pv tv mv sv mp N := ⟨h.pw.next hb,h.env.below hb,h.st.agree RInt.steady (Below.agree hb)⟩
theorem RdW.map (h : RdW w wb wr nm av p l m st pv tv mv sv mp N) (hw : w.heap.size + 1 < wb.heap.size) (hb : But (wb.heap.size + 1) wr w') (hm : MapI w' (wb.heap.size + 1) N' mp') : RdW w wb w' nm av p l m st pv tv mv sv mp' N' :=
 ⟨⟨below_but h.pw.below hb (by omega),h.pw.f.but hb (by omega),h.pw.z.but hb (by omega)⟩,h.env.map hb hm (by omega) (by omega) (by omega),h.st.agree RInt.steady (hb.agree (by omega))⟩
end
attribute [local go_sem ↓] Go.wp_at_zero Go.wp_at_succ
set_option maxRecDepth 100000 in
set_option maxHeartbeats 0 in
theorem proveOwn {S S3 S4 : Nat → Prop} (p : List PRule) (v fv : Value) (st : List Int) (q : Int × Int) (l : List PFact) (f : PFact) (av : Value) (w : World) (hS : StrataIs p st q) (h : RdRules S w v p) (hf : RdFacts S3 w fv l) (ha : RdStrs S4 w av f.args)
 (n1 : p.length ≤ 1048576) (n2 : ∀ r ∈ p,RuleSmall r) (n3 : ∀ r ∈ p,NameSmall r) (n4 : l.length ≤ 1048576) (n5 : ∀ x ∈ l,x.args.length ≤ 1048576) (n6 : f.args.length ≤ 1048576) :
 Calls Tryz.prog 8 #[v,fv,.agg #[.string f.name,av]] w (ProveOwn (proveP st q.1 p l f) w) := by
 obtain ⟨a,c,rfl,-,-,-⟩ := id h.form
 obtain ⟨fa,fc,rfl,-,-,-⟩ := id hf.form
 obtain ⟨aa,ac,rfl,-,-,-⟩ := id ha.form
 obtain ⟨W0,hW0⟩ : ∃ W0 : World,(w.alloc (.cells #[.string f.name,.slice aa f.args.length ac] 27)).alloc (.cells #[.string ⟨#[]⟩,.slice none 0 0,.int .i64 0,.slice none 0 0] 30) = W0 := ⟨_,rfl⟩
 have HW0 := ζ (show PvW w W0 (.string f.name) (.slice aa f.args.length ac) by
  subst hW0
  exact ⟨((ζb _ _).alloc (ζn _) _).alloc (by simp) _,(Blk.new w _ _).alloc _,heap_new_at (by simp)⟩)
 obtain ⟨q0,q1⟩ := q
 have KS := ζ (strataKnown (n := st.length) rfl hS (h.up HW0.out.below) n1 n2 n3)
 have KN := ζ (fun W (hW : Below w.heap.size w W) => naiveReads p (.slice a p.length c) (.slice fa l.length fc) st (q0,q1) l W hS (h.up hW) (RdFacts.up hf hW) n1 n2 n3 n4 n5)
 have H := ζ h
 have HF := ζ hf
 have HA := ζ ha
 have N2 := ζ n2
 have N5 := ζ n5
 have HS := ζ hS
 have hR1 : w.heap.size ≤ w.heap.size + 1 := Nat.le_succ _
 clear h hf ha n2 n3 n5 hS
 dsimp only at *
 by_cases hq : q0 = 0
 case neg =>
  have g1 : (q0 != 0) = true := by simpa using hq
  have HE := ζ (prove_q (st := st) (p := p) (l := l) (f := f) hq)
  clear hq
  go_enter Tryz.func8,Tryz.ntmps8
  go_wp2_with (go_at_call 15;refine (KS.out).mono ?_;rintro e w2 ⟨⟨a2,c2,rfl,hr2⟩,hb2⟩;have HW2 := ζ ((HW0.out.next hb2).next ((ζb w2.heap.size w2).alloc (ζn _) (.cells #[.int .i64 q0,.int .i64 q1] 49)));have HQ2 := ζ (Blk.new w2 49 #[.int .i64 q0,.int .i64 q1]);have HQ3 := ζ (HW0.out.next hb2).z.lt;have k0 := HQ2.out.cell 0;have c0 := HW2.out.z.cell 0;have c1 := HW2.out.z.cell 1;have c2' := HW2.out.z.cell 2;have c3 := HW2.out.z.cell 3;have y0 := HW2.out.z.frozen 0;have y1 := HW2.out.z.frozen 1;have y2 := HW2.out.z.frozen 2;have y3 := HW2.out.z.frozen 3;simp only [ζc] at k0 c0 c1 c2' c3;clear hr2 hb2)
  have hne1 : w2.heap.size ≠ w.heap.size + 1 := fun e => by have h1 := HQ3.out;omega
  have hne2 : w.heap.size + 1 ≠ w2.heap.size := fun e => hne1 e.symm
  go_region
  go_wp2
  refine bodyPost_ret (v := .tuple #[.agg #[.string ⟨#[]⟩,.slice none 0 0,.int .i64 0,.slice none 0 0],.int .i64 q0]) (by simp [results,Tryz.results8,go_sem,c0,c1,c2',c3]) rfl (prove_none HE.out ?_)
  exact ((((HW2.out.below.setCell hR1 _).setCell hR1 _).setCell hR1 _).setCell hR1 _).drew
 subst hq
 have KW := ζ (fun W (hW : Below w.heap.size w W) => wrongFact f (.slice aa f.args.length ac) W (HA.out.up hW) (by omega))
 have HFO := ζ (naive_follows HS.out (l := l))
 have E1 := ζ (prove_all (st := st) (p := p) (l := l) (f := f))
 have E2 := ζ (prove_wrong (st := st) (p := p) (l := l) (f := f))
 have E3 := ζ (prove_out (st := st) (p := p) (l := l) (f := f))
 have E4 := ζ (prove_find (st := st) (p := p) (l := l) (f := f))
 have E5 := ζ (fun (h : (naiveP st 0 p l).2 = 0) => (naive_zero h).2.2)
 generalize proveP st 0 p l f = RR at *
 dsimp only at HFO
 generalize naiveP st 0 p l = z at *
 obtain ⟨m,e0⟩ := z
 dsimp only at *
 by_cases he : e0 = 0
 case neg =>
  have g1 : (e0 != 0) = true := by simpa using he
  have HE := ζ (E1.out he)
  clear he E1 E2 E3 E4 E5 HFO KW
  go_enter Tryz.func8,Tryz.ntmps8
  go_wp2_with (first
   | (go_at_call 11;have hh := HW2.out;clear hh;refine (KN.out _ HW2.out.below).mono ?_;rintro e w3 ⟨⟨a3,c3',rfl,hr3⟩,hb3⟩;have HW3 := ζ (HW2.out.next hb3);have c0 := HW3.out.z.cell 0;have c1 := HW3.out.z.cell 1;have c2' := HW3.out.z.cell 2;have c3 := HW3.out.z.cell 3;have y0 := HW3.out.z.frozen 0;have y1 := HW3.out.z.frozen 1;have y2 := HW3.out.z.frozen 2;have y3 := HW3.out.z.frozen 3;simp only [ζc] at c0 c1 c2' c3;clear hr3 hb3)
   | (go_at_call 15;refine (KS.out).mono ?_;rintro e w2 ⟨⟨a2,c2,rfl,hr2⟩,hb2⟩;have HW2 := ζ ((HW0.out.next hb2).next ((ζb w2.heap.size w2).alloc (ζn _) (.cells #[.int .i64 0,.int .i64 q1] 49)));clear hr2 hb2))
  refine bodyPost_ret (v := .tuple #[.agg #[.string ⟨#[]⟩,.slice none 0 0,.int .i64 0,.slice none 0 0],.int .i64 e0]) (by simp [results,Tryz.results8,go_sem,c0,c1,c2',c3]) rfl (prove_none HE.out ?_)
  exact (((HW3.out.below.setCell hR1 _).setCell hR1 _).setCell hR1 _).setCell hR1 _
 subst he
 obtain ⟨hF,hset,hR⟩ := HFO.out rfl
 have HG := ζ (good_of hset)
 have HFL := ζ hF
 have HR := ζ hR
 clear hF hset hR HFO E1
 by_cases hwf : wrongF f = 0
 case neg =>
  have HE := ζ (E2.out rfl hwf)
  have g1 : (wrongF f != 0) = true := by simpa using hwf
  clear hwf E2 E3 E4 E5
  generalize wrongF f = wf at *
  go_enter Tryz.func8,Tryz.ntmps8
  go_wp2_with (first
   | (go_at_call 16;have hh := HW3.out;clear hh;refine (KW.out _ HW3.out.below).mono ?_;rintro e w4 ⟨rfl,hf4⟩;have HW4 := ζ (HW3.out.next hf4.below);have c0 := HW4.out.z.cell 0;have c1 := HW4.out.z.cell 1;have c2' := HW4.out.z.cell 2;have c3 := HW4.out.z.cell 3;have y0 := HW4.out.z.frozen 0;have y1 := HW4.out.z.frozen 1;have y2 := HW4.out.z.frozen 2;have y3 := HW4.out.z.frozen 3;simp only [ζc] at c0 c1 c2' c3;have HI4 := ζ (hr_i HI3.out hf4.below);have HM4 := ζ (RdFacts.up HM3.out hf4.below);clear hf4)
   | (go_at_call 11;have hh := HW2.out;clear hh;refine (KN.out _ HW2.out.below).mono ?_;rintro e w3 ⟨⟨a3,c3',rfl,hr3⟩,hb3⟩;have HW3 := ζ (HW2.out.next hb3);have f30 := HW3.out.f.cell 0;have f31 := HW3.out.f.cell 1;simp only [ζc] at f30 f31;have HI3 := ζ (hr_i HI2.out hb3);have HM3 := ζ hr3;clear hr3 hb3)
   | (go_at_call 15;refine (KS.out).mono ?_;rintro e w2 ⟨⟨a2,c2,rfl,hr2⟩,hb2⟩;have HW2 := ζ ((HW0.out.next hb2).next ((ζb w2.heap.size w2).alloc (ζn _) (.cells #[.int .i64 0,.int .i64 q1] 49)));have HI2 := ζ (hr2.agree RInt.steady ((Agree.refl _ _).alloc (.cells #[.int .i64 0,.int .i64 q1] 49)));have hz2 := (HW0.out.next hb2).below.size;clear hr2 hb2))
  refine bodyPost_ret (v := .tuple #[.agg #[.string ⟨#[]⟩,.slice none 0 0,.int .i64 0,.slice none 0 0],.int .i64 wf]) (by simp [results,Tryz.results8,go_sem,c0,c1,c2',c3]) rfl (prove_none HE.out ?_)
  exact (((HW4.out.below.setCell hR1 _).setCell hR1 _).setCell hR1 _).setCell hR1 _
 have HFW := ζ hwf
 rw [hwf] at KW
 clear hwf E2
 cases hmf : memF f m with
 | false =>
  have HE := ζ (E3.out rfl HFW.out hmf)
  have KI := ζ hmf
  go_enter Tryz.func8,Tryz.ntmps8
  go_wp2_with (first
   | (go_at_call 17;have hh := HW4.out;clear hh;refine (inFact _ m f _ _ HM4.out (HA.out.up HW4.out.below) HFL.out.rise (Nat.le_trans HFL.out.len (by decide)) (fun z hz => by have := (wrongF_zero.1 (HFL.out.good z hz)).2.1;omega)).mono ?_;rw [KI.out];rintro e w5 ⟨rfl,hf5⟩;have HW5 := ζ (HW4.out.next hf5.below);have c0 := HW5.out.z.cell 0;have c1 := HW5.out.z.cell 1;have c2' := HW5.out.z.cell 2;have c3 := HW5.out.z.cell 3;have y0 := HW5.out.z.frozen 0;have y1 := HW5.out.z.frozen 1;have y2 := HW5.out.z.frozen 2;have y3 := HW5.out.z.frozen 3;simp only [ζc] at c0 c1 c2' c3;have HI5 := ζ (hr_i HI4.out hf5.below);have HM5 := ζ (RdFacts.up HM4.out hf5.below);clear hf5)
   | (go_at_call 16;have hh := HW3.out;clear hh;refine (KW.out _ HW3.out.below).mono ?_;rintro e w4 ⟨rfl,hf4⟩;have HW4 := ζ (HW3.out.next hf4.below);have f40 := HW4.out.f.cell 0;have f41 := HW4.out.f.cell 1;simp only [ζc] at f40 f41;have HI4 := ζ (hr_i HI3.out hf4.below);have HM4 := ζ (RdFacts.up HM3.out hf4.below);clear hf4)
   | (go_at_call 11;have hh := HW2.out;clear hh;refine (KN.out _ HW2.out.below).mono ?_;rintro e w3 ⟨⟨a3,c3',rfl,hr3⟩,hb3⟩;have HW3 := ζ (HW2.out.next hb3);have f30 := HW3.out.f.cell 0;have f31 := HW3.out.f.cell 1;simp only [ζc] at f30 f31;have HI3 := ζ (hr_i HI2.out hb3);have HM3 := ζ hr3;clear hr3 hb3)
   | (go_at_call 15;refine (KS.out).mono ?_;rintro e w2 ⟨⟨a2,c2,rfl,hr2⟩,hb2⟩;have HW2 := ζ ((HW0.out.next hb2).next ((ζb w2.heap.size w2).alloc (ζn _) (.cells #[.int .i64 0,.int .i64 q1] 49)));have HI2 := ζ (hr2.agree RInt.steady ((Agree.refl _ _).alloc (.cells #[.int .i64 0,.int .i64 q1] 49)));have hz2 := (HW0.out.next hb2).below.size;clear hr2 hb2))
  refine bodyPost_ret (v := .tuple #[.agg #[.string ⟨#[]⟩,.slice none 0 0,.int .i64 0,.slice none 0 0],.int .i64 6]) (by simp [results,Tryz.results8,go_sem,c0,c1,c2',c3]) rfl (prove_none HE.out ?_)
  exact (((HW5.out.below.setCell hR1 _).setCell hR1 _).setCell hR1 _).setCell hR1 _
 | true =>
  have HE := ζ (E4.out rfl HFW.out hmf)
  have HRUN := ζ (E5.out rfl)
  have KI := ζ hmf
  clear E3 E4 E5 hmf
  have hmm := @run_makeMap Tryz.prog
  go_enter Tryz.func8,Tryz.ntmps8
  go_wp2_with (first
   | (go_at_call 18;have hh := HW5.out;clear hh;refine (ownCalls _ l _ (RdFacts.up HF.out (HW5.out.below.trans ((hb6w _ _ _ _).mono HW5.out.below.size))) (by omega) (fun z hz => by have := N5.out z hz;omega)).mono ?_;rintro e w6 ⟨⟨v6,rfl,ho6⟩,hb6⟩;obtain ⟨a6,c6,rfl,-,-,-⟩ := id (ho6.read ζF).form;have HO6 := ζ (ho6.read ζF);have HB6 := ζ hb6;clear ho6 hb6)
   | (go_at_call 17;have hh := HW4.out;clear hh;refine (inFact _ m f _ _ HM4.out (HA.out.up HW4.out.below) HFL.out.rise (Nat.le_trans HFL.out.len (by decide)) (fun z hz => by have := (wrongF_zero.1 (HFL.out.good z hz)).2.1;omega)).mono ?_;rw [KI.out];rintro e w5 ⟨rfl,hf5⟩;have HW5 := ζ (HW4.out.next hf5.below);have f50 := HW5.out.f.cell 0;have f51 := HW5.out.f.cell 1;simp only [ζc] at f50 f51;have HI5 := ζ (hr_i HI4.out hf5.below);have HM5 := ζ (RdFacts.up HM4.out hf5.below);clear hf5)
   | (go_at_call 16;have hh := HW3.out;clear hh;refine (KW.out _ HW3.out.below).mono ?_;rintro e w4 ⟨rfl,hf4⟩;have HW4 := ζ (HW3.out.next hf4.below);have f40 := HW4.out.f.cell 0;have f41 := HW4.out.f.cell 1;simp only [ζc] at f40 f41;have HI4 := ζ (hr_i HI3.out hf4.below);have HM4 := ζ (RdFacts.up HM3.out hf4.below);clear hf4)
   | (go_at_call 11;have hh := HW2.out;clear hh;refine (KN.out _ HW2.out.below).mono ?_;rintro e w3 ⟨⟨a3,c3',rfl,hr3⟩,hb3⟩;have HW3 := ζ (HW2.out.next hb3);have f30 := HW3.out.f.cell 0;have f31 := HW3.out.f.cell 1;simp only [ζc] at f30 f31;have HI3 := ζ (hr_i HI2.out hb3);have HM3 := ζ hr3;clear hr3 hb3)
   | (go_at_call 15;refine (KS.out).mono ?_;rintro e w2 ⟨⟨a2,c2,rfl,hr2⟩,hb2⟩;have HW2 := ζ ((HW0.out.next hb2).next ((ζb w2.heap.size w2).alloc (ζn _) (.cells #[.int .i64 0,.int .i64 q1] 49)));have HI2 := ζ (hr2.agree RInt.steady ((Agree.refl _ _).alloc (.cells #[.int .i64 0,.int .i64 q1] 49)));have hz2 := (HW0.out.next hb2).below.size;clear hr2 hb2))
  obtain ⟨-,hc0,hc16,L0,-,hst0⟩ := strata_count HS.out rfl
  have HZP := ζ (fun (r : PRule) (s : Int) (h : (r,s) ∈ p.zip st) => HR.out r (List.of_mem_zip h).1)
  have HLEN := ζ (show st.length = p.length by rw [hst0,List.length_map])
  obtain ⟨cnt,hcnt⟩ : ∃ cnt : Nat,countP st = (cnt : Int) := ⟨(countP st).toNat,by omega⟩
  have hcn : (countP st).toNat = cnt := by omega
  have KC := ζ (countCalls (.slice a2 st.length c2) st w6 (hr_i HI5.out ((hb6w _ _ _ _).trans (HB6.out.mono (hb6w _ _ _ _).size))) (by rw [HLEN.out];exact n1) (strata_fine HS.out rfl))
  rw [hcnt] at KC
  have hw5 := HW5.out.z.lt
  have HRW := ζ (show RdW w w5 w6 (.string f.name) (.slice aa f.args.length ac) p l m st (.slice a p.length c) (.slice fa l.length fc) (.slice a3 m.length c3') (.slice a2 st.length c2) (fun _ => none) 0 from by
   have hbw := (hb6w w5 (.cells #[.slice a p.length c,.slice fa l.length fc,.slice a3 m.length c3'] 43) (.map #[] 0) (.cells #[.pointer (some ⟨w5.heap.size,0,none⟩),.map (some (w5.heap.size + 1)),.int .i64 0] 57)).trans (HB6.out.mono (hb6w _ _ _ _).size)
   refine ⟨HW5.out.next hbw,⟨?_,?_,?_,?_,?_,?_,?_,?_,?_⟩,?_⟩
   ·exact (show Blk (((w5.alloc (.cells #[.slice a p.length c,.slice fa l.length fc,.slice a3 m.length c3'] 43)).alloc (.map #[] 0)).alloc (.cells #[.pointer (some ⟨w5.heap.size,0,none⟩),.map (some (w5.heap.size + 1)),.int .i64 0] 57)) (w5.heap.size + 2) _ _ from heap_new_at (by simp)).below HB6.out (by simp)
   ·exact (((Blk.new w5 _ _).alloc _).alloc _).below HB6.out (by simp;omega)
   ·exact MapI.below (((show MapI ((w5.alloc (.cells #[.slice a p.length c,.slice fa l.length fc,.slice a3 m.length c3'] 43)).alloc (.map #[] 0)) (w5.heap.size + 1) 0 (fun _ => none) by have h := MapI.made (w5.alloc (.cells #[.slice a p.length c,.slice fa l.length fc,.slice a3 m.length c3'] 43));simpa using h)).alloc _) HB6.out (by simp)
   ·exact (H.out.more RRule.steady (S' := fun b => b < w5.heap.size) (fun b _ hb => by have := HW5.out.below.size;omega)).agree RRule.steady (Below.agree (HW5.out.next hbw).below)
   ·exact (HF.out.more ζF (S' := fun b => b < w5.heap.size) (fun b _ hb => by have := HW5.out.below.size;omega)).agree ζF (Below.agree (HW5.out.next hbw).below)
   ·exact (HM5.out.more ζF (S' := fun b => b < w5.heap.size) (fun b _ hb => hb)).agree ζF (Below.agree hbw)
   ·omega
   ·omega
   ·omega
   ·exact (HI5.out.more RInt.steady (S' := fun b => b < w5.heap.size) (fun b _ hb => hb)).agree RInt.steady (Below.agree hbw))
  have HCU := ζ (HO6.out.more ζF (S' := fun b => w5.heap.size + 3 ≤ b) (fun b hb _ => by have h1 := hb.elim id id;have h2 : (((w5.alloc (.cells #[.slice a p.length c,.slice fa l.length fc,.slice a3 m.length c3'] 43)).alloc (.map #[] 0)).alloc (.cells #[.pointer (some ⟨w5.heap.size,0,none⟩),.map (some (w5.heap.size + 1)),.int .i64 0] 57)).heap.size ≤ b := h1;simp at h2;omega))
  have HGO := ζ (show Going (p.zip st) cnt 0 l (m,0) by
   have h1 := going_run (ps := p.zip st) (cnt := cnt) (i := 0) (cur := l)
   rw [Nat.add_zero] at h1
   have h2 := HRUN.out
   rw [hcn] at h2
   rw [h2]
   exact h1)
  have HAG := ζ (show Aging (p.zip st) cnt 0 l ((0 : Nat) : Int) (fun _ => none) (agesP st p l) by
   have h1 := aging_run (ps := p.zip st) (cnt := cnt) (i := 0) (cur := l) (a := 0) (m := fun _ => none)
   rw [Nat.add_zero] at h1
   unfold agesP
   rw [hcn]
   exact h1)
  have HA0 := ζ (show (0 : Nat) ≤ l.length + 0 from Nat.zero_le _)
  have HN0 := ζ (show (0 : Nat) ≤ 200 * 0 from Nat.zero_le _)
  clear HRUN hcn HW5 HM5 HI5 HO6 HB6 f50 f51 KW KI hst0
  go_wp2_with (go_at_call 19;refine (KC.out).mono ?_;rintro e w7 ⟨rfl,rfl⟩)
  go_loopw [67,14,15] (fun i nv av wr => ∃ (n : Nat) (cur : List PFact) (ag N : Nat) (mp : Str → Option Int) (ca : Option Addr) (cc : Nat),n ≤ cnt ∧ i = .int .i64 n ∧ nv = .slice ca cur.length cc ∧ av = .int .i64 ag ∧ Hid (Going (p.zip st) cnt n cur (m,0)) ∧ Hid (Aging (p.zip st) cnt n cur (ag : Int) mp (agesP st p l)) ∧ Hid (Good cur) ∧ Hid (ag ≤ cur.length + n) ∧ Hid (N ≤ 200 * ag) ∧ Hid (RdFacts (fun b => w5.heap.size + 3 ≤ b) wr (.slice ca cur.length cc) cur) ∧ Hid (RdW w w5 wr (.string f.name) (.slice aa f.args.length ac) p l m st (.slice a p.length c) (.slice fa l.length fc) (.slice a3 m.length c3') (.slice a2 st.length c2) mp N)) (fun i _ _ _ => cnt - (intOf i).toNat)
  case atStart => exact ⟨0,l,0,0,_,a6,c6,Nat.zero_le _,rfl,rfl,rfl,HGO,HAG,HG,HA0,HN0,HCU,HRW⟩
  case round =>
   clear HGO HAG HA0 HN0 HCU HRW KC
   obtain ⟨n,cur,ag,N,mp,ca,cc,hn,rfl,rfl,rfl,HGO,HAG,HGC,HAL,HNL,HCU,HRW⟩ := hrel
   by_cases hlt : n < cnt
   ·go_wp2
    go_loopw [14,15] (fun nv av wr => ∃ (cur : List PFact) (ag N : Nat) (mp : Str → Option Int) (ca : Option Addr) (cc : Nat),nv = .slice ca cur.length cc ∧ av = .int .i64 ag ∧ Hid (Going (p.zip st) cnt n cur (m,0)) ∧ Hid (Aging (p.zip st) cnt n cur (ag : Int) mp (agesP st p l)) ∧ Hid (Good cur) ∧ Hid (ag ≤ cur.length + n) ∧ Hid (N ≤ 200 * ag) ∧ Hid (RdFacts (fun b => w5.heap.size + 3 ≤ b) wr (.slice ca cur.length cc) cur) ∧ Hid (RdW w w5 wr (.string f.name) (.slice aa f.args.length ac) p l m st (.slice a p.length c) (.slice fa l.length fc) (.slice a3 m.length c3') (.slice a2 st.length c2) mp N)) (fun nv _ _ => 201 - lenV nv)
    case atStart => exact ⟨cur,ag,N,mp,ca,cc,rfl,rfl,HGO,HAG,HGC,HAL,HNL,HCU,HRW⟩
    case round =>
     clear HGO HAG HGC HAL HNL HCU HRW
     obtain ⟨cur,ag,N,mp,ca,cc,rfl,rfl,HGO,HAG,HGC,HAL,HNL,HCU,HRW⟩ := hrel
     have he : (onceP (n : Int) cur (p.zip st) cur).2 = 0 := Classical.byContradiction fun h => h (congrArg (fun z : List PFact × Int => z.2) (going_err HGO.out HGC.out hlt h)).symm
     have HGX := ζ (once_good HGC.out (fun r s h => HZP.out r s h) HGC.out he)
     have HLI := ζ (less_iff HGC.out he)
     have HSAM := ζ (going_same HGO.out HGC.out hlt he)
     have HMOR := ζ (going_more HGO.out HGC.out hlt he)
     have HAST := ζ (aging_stop HAG.out HGC.out.len hlt)
     have HAMO := ζ (aging_more HAG.out HGC.out.len hlt)
     have KO := ζ (onceCalls p (.slice a p.length c) (.slice a2 st.length c2) (.slice ca cur.length cc) st (n : Int) cur wr HRW.out.env.hp HRW.out.st HCU.out HLEN.out n1 N2.out (Nat.le_trans HGC.out.len (by decide)) (fun z hz => by have := (wrongF_zero.1 (HGC.out.fine z hz)).2.1;omega))
     have hcl := HGC.out.len
     have hal := HAL.out
     have hnl := HNL.out
     have HWS := ζ (show w5.heap.size + 3 ≤ wr.heap.size from HRW.out.env.hD.lt)
     clear HGO HAG
     generalize (onceP (n : Int) cur (p.zip st) cur) = z at *
     obtain ⟨x,xe⟩ := z
     dsimp only at *
     subst he
     have KL := ζ (fun W vx (hx : RdFacts (New wr) W vx x) (hb : Below wr.heap.size wr W) => lessCalls vx (.slice ca cur.length cc) x cur W hx (RdSlice.agree ζF (Below.agree hb) HCU.out) HGC.out.rise (Nat.le_trans HGX.out.len (by decide)) (fun z hz => by have := (wrongF_zero.1 (HGX.out.fine z hz)).2.1;omega) (Nat.le_trans HGC.out.len (by decide)) (fun z hz => by have := (wrongF_zero.1 (HGC.out.fine z hz)).2.1;omega))
     have HMG := ζ (show ∀ z ∈ lessF x cur,wrongF z = 0 from fun z hz => HGX.out.fine z (List.mem_filter.1 hz).1)
     have hml : (lessF x cur).length ≤ 200 := Nat.le_trans (List.length_filter_le _ _) HGX.out.len
     go_wp2_with (first
      | (go_at_call 21;have hh := HX8.out;clear hh;refine (KL.out _ _ HX8.out HB8.out).mono ?_;rintro e w9 ⟨⟨v9,rfl,ho9⟩,hb9⟩;obtain ⟨a9,c9,rfl,-,-,-⟩ := id (ho9.read ζF).form;have HM9 := ζ (ho9.read ζF);have HB9 := ζ (HB8.out.trans (hb9.mono HB8.out.size));have HX9 := ζ (RdSlice.agree ζF (Below.agree hb9) HX8.out);have hs9 := HB8.out.size;clear ho9 hb9)
      | (go_at_call 20;refine (KO.out).mono ?_;rintro e w8 ⟨hb8,v8,rfl,ho8⟩;obtain ⟨a8,c8,rfl,-,-,-⟩ := id (ho8.read ζF).form;have HX8 := ζ ((ho8.read ζF).more ζF (S' := New wr) (fun b hb _ => hb.elim id id));have HB8 := ζ hb8;clear hb8 ho8))
     have HRW9 := ζ (HRW.out.next HB9.out)
     have HX9' := ζ (HX9.out.more ζF (S' := fun b => w5.heap.size + 3 ≤ b) (fun b hb _ => Nat.le_trans HWS.out hb))
     have HM9' := ζ (HM9.out.more ζF (S' := fun b => w5.heap.size + 3 ≤ b) (fun b hb _ => by have h1 := hb.elim id id;have h2 : w8.heap.size ≤ b := h1;have h3 := HWS.out;omega))
     have hag : ag ≤ 216 := by omega
     have HMP0 := ζ (show ageMore ((ag : Int) + 1) mp ((lessF x cur).take 0) = ageMore ((ag : Int) + 1) mp ((lessF x cur).take 0) from rfl)
     have HNJ0 := ζ (show N ≤ N + 0 from ζn _)
     clear HX8 HB8 HX9 HM9 HB9 HRW KL KO HCU hs9
     obtain ⟨wl,hwl⟩ : ∃ wl : World,wl = w9 := ⟨_,rfl⟩
     subst hwl
     go_loopw [89] (fun i wr => ∃ (j N2 : Nat) (mp2 : Str → Option Int),j ≤ (lessF x cur).length ∧ i = .int .i64 j ∧ Hid (mp2 = ageMore ((ag : Int) + 1) mp ((lessF x cur).take j)) ∧ Hid (N2 ≤ N + j) ∧ Hid (RdFacts (fun b => w5.heap.size + 3 ≤ b) wr (.slice a9 (lessF x cur).length c9) (lessF x cur)) ∧ Hid (RdFacts (fun b => w5.heap.size + 3 ≤ b) wr (.slice a8 x.length c8) x) ∧ Hid (RdW w w5 wr (.string f.name) (.slice aa f.args.length ac) p l m st (.slice a p.length c) (.slice fa l.length fc) (.slice a3 m.length c3') (.slice a2 st.length c2) mp2 N2)) (fun i _ => (lessF x cur).length - (intOf i).toNat)
     case atStart => exact ⟨0,N,_,Nat.zero_le _,rfl,HMP0,HNJ0,HM9',HX9',HRW9⟩
     case round =>
      clear HMP0 HNJ0 HM9' HX9' HRW9
      obtain ⟨j,N2,mp2,hj,rfl,HMP,HNJ,HM9,HX9,HRW9⟩ := hrel
      have hnj := HNJ.out
      by_cases hltj : j < (lessF x cur).length
      ·obtain ⟨z,hz⟩ : ∃ z,(lessF x cur)[j]? = some z := ⟨_,ζe hltj⟩
       obtain ⟨b8,o8,av8,rfl,-,hb8,e0,e1,hza⟩ := RdFacts.at HM9.out hz
       obtain ⟨hz1,hz2,hz3⟩ := wrongF_zero.1 (HMG.out z (ζm hz))
       have KK := ζ (keyCalls z b8 (o8 + j * 2) av8 wr.drew e0 e1 (hza.agree ζS (Below.agree (ζb _ _).drew)) (Nat.le_trans (named_size hz1) (by decide)) (Nat.le_trans hz2 (by decide)) (fun y hy => Nat.le_trans (named_size (hz3 y hy)) (by decide)))
       obtain ⟨wm,hput,hmm',hgm⟩ := (HRW9.out.env.hG.drew).put (n := N2) (Nat.lt_of_lt_of_le (show N2 < 100000 by omega) (by simp [maxLen])) (key_size (named_size hz1) hz2 (fun y hy => named_size (hz3 y hy))) (x := (ag : Int) + 1) (WalkArith.wf_i64 (by omega))
       have HRD := ζ (HRW9.out.next (ζb _ _).drew)
       have HRM := ζ (HRD.out.map (by omega) hgm hmm')
       have HMN := ζ (show (fun t => if t = keyP z then some ((ag : Int) + 1) else mp2 t) = ageMore ((ag : Int) + 1) mp ((lessF x cur).take (j + 1)) by rw [ageMore_snoc hz,← HMP.out];rfl)
       have HM1 := ζ ((HM9.out.agree ζF (Below.agree (ζb _ _).drew)).agree ζF (But.agree hgm (fun h => by have h' : w5.heap.size + 3 ≤ w5.heap.size + 1 := h;omega)))
       have HX1 := ζ ((HX9.out.agree ζF (Below.agree (ζb _ _).drew)).agree ζF (But.agree hgm (fun h => by have h' : w5.heap.size + 3 ≤ w5.heap.size + 1 := h;omega)))
       have HNJ1 := ζ (show N2 + 1 ≤ N + (j + 1) by omega)
       have d1 := HRW9.out.env.hD.cell 1
       have d1' := HRD.out.env.hD.cell 1
       have d2' := HRM.out.env.hD.cell 1
       simp only [ζc] at d1 d1' d2'
       have j0 : (0 : Int) ≤ (j : Int) := by omega
       have j1 : (j : Int) < ((lessF x cur).length : Int) := by omega
       clear hz hza hz1 hz2 hz3 HM9 HX9 hgm hmm' e0 e1
       go_wp2
       go_region_held3 (fun w' => w'.cell? ⟨w5.heap.size + 2,1,none⟩ = some (.map (some (w5.heap.size + 1))))
        (first | (with_reducible exact d2') | (with_reducible exact d1') | (with_reducible exact d1) | go_keep)
        (first | (go_at_call 22;(with_reducible refine (KK.out).mono ?_);rintro e w10 ⟨rfl,rfl⟩))
       go_wp2
       go_roundw
       case rel => exact ⟨j + 1,N2 + 1,_,by omega,by go_num,HMN,HNJ1,HM1,HX1,HRM⟩
       case measure => simp [intOf];omega
      ·obtain rfl : j = (lessF x cur).length := by omega
       have HMF := ζ (show mp2 = ageMore ((ag : Int) + 1) mp (lessF x cur) by rw [HMP.out,List.take_length])
       have hgl := HGX.out.len
       by_cases hem : lessF x cur = []
       ·obtain ⟨hxc,hgo⟩ := HSAM.out (HLI.out.1 hem)
        have HGO1 := ζ hgo
        have HAG1 := ζ (show Aging (p.zip st) cnt (n + 1) x (((ag + 1 : Nat)) : Int) mp2 (agesP st p l) by rw [HMF.out,show ((ag + 1 : Nat) : Int) = (ag : Int) + 1 by omega];exact HAST.out hem)
        have HGO2 := ζ (show Going (p.zip st) cnt (n + 1) x (m,0) by rw [hxc];exact HGO1.out)
        have HAL1 := ζ (show ag + 1 ≤ x.length + (n + 1) by rw [hxc];omega)
        have HNL1 := ζ (show N2 ≤ 200 * (ag + 1) by omega)
        have hz0 : (lessF x cur).length = 0 := by rw [hem];rfl
        have hz1 : ((lessF x cur).length : Int) = 0 := by omega
        clear hem hxc hgo hz0
        go_wp2
        go_roundw
        case rel => exact ⟨n + 1,x,ag + 1,N2,mp2,a8,c8,by omega,by go_num,rfl,by go_num,HGO2,HAG1,HGX,HAL1,HNL1,HX9,HRW9⟩
        case measure => simp [intOf];omega
       ·have hne : ¬ x.length = cur.length := fun h => hem (HLI.out.2 h)
        obtain ⟨hgr,hgo⟩ := HMOR.out hne
        have HGO2 := ζ hgo
        have HAG1 := ζ (show Aging (p.zip st) cnt n x (((ag + 1 : Nat)) : Int) mp2 (agesP st p l) by rw [HMF.out,show ((ag + 1 : Nat) : Int) = (ag : Int) + 1 by omega];exact HAMO.out hem hgr)
        have HAL1 := ζ (show ag + 1 ≤ x.length + n by omega)
        have HNL1 := ζ (show N2 ≤ 200 * (ag + 1) by omega)
        have hpos := List.length_pos_iff.2 hem
        have hz1 : ¬ ((lessF x cur).length : Int) = 0 := by omega
        clear hem hgo hne
        go_wp2
        go_roundw
        case rel => exact ⟨x,ag + 1,N2,mp2,a8,c8,rfl,by go_num,HGO2,HAG1,HGX,HAL1,HNL1,HX9,HRW9⟩
        case measure => simp [lenV];omega
   ·obtain rfl : n = cnt := by omega
    have hmp := aging_end HAG.out (by omega)
    rw [hmp] at HE
    have hsz := HRW.out.pw.below.size
    have kf := findCalls (N := N) (D := w5.heap.size + 2) (C := w5.heap.size) (G := w5.heap.size + 1) (age := mp) HR.out N2.out n1 (good_of (by rw [HFL.out.set])) HG.out 60 f (.slice aa f.args.length ac) 0 1 wr rfl HRW.out.env (RdSlice.agree ζS (Below.agree HRW.out.pw.below) (HA.out.more ζS (S' := fun b => b < w.heap.size) (fun b _ hb => hb))) (fun h => by have h' : w5.heap.size + 2 < w.heap.size := h;omega) (Nat.zero_le _) HFW.out
    rw [show ((1 : Nat) : Int) = 1 from rfl] at kf
    have f0 := HRW.out.pw.f.cell 0;have f1 := HRW.out.pw.f.cell 1
    simp only [ζc] at f0 f1
    have HPW := ζ HRW.out.pw
    generalize findN p l m mp (60 + 1) 0 f 1 = y at *
    obtain ⟨yo,ys⟩ := y
    have KF := ζ kf
    have hDz : w.heap.size + 1 ≠ w5.heap.size + 2 := by omega
    have hDw : w.heap.size ≤ w5.heap.size + 2 := by omega
    clear kf hmp HAG HGO HRW HCU HGC HAL HNL
    cases yo with
    | none =>
     have HEE := ζ (show RR = (none,4) from HE.out)
     go_wp2_with (go_at_call 23;refine (KF.out).mono ?_;rintro e w8 ⟨hb8,-,rfl⟩;have HB8 := ζ ((below_but HPW.out.below hb8 hDw).alloc (below_but HPW.out.below hb8 hDw).size (.cells #[.string ⟨#[]⟩,.slice none 0 0,.int .i64 0,.slice none 0 0] 30));have HZ8 := ζ ((HPW.out.z.but hb8 hDz).alloc (.cells #[.string ⟨#[]⟩,.slice none 0 0,.int .i64 0,.slice none 0 0] 30));have c0 := HZ8.out.cell 0;have c1 := HZ8.out.cell 1;have c2' := HZ8.out.cell 2;have c3 := HZ8.out.cell 3;have y0 := HZ8.out.frozen 0;have y1 := HZ8.out.frozen 1;have y2 := HZ8.out.frozen 2;have y3 := HZ8.out.frozen 3;simp only [ζc] at c0 c1 c2' c3;clear hb8)
     refine bodyPost_ret (v := .tuple #[.agg #[.string ⟨#[]⟩,.slice none 0 0,.int .i64 0,.slice none 0 0],.int .i64 4]) (by simp [results,Tryz.results8,go_sem,c0,c1,c2',c3]) rfl (prove_none HEE.out ?_)
     exact (((HB8.out.setCell hR1 _).setCell hR1 _).setCell hR1 _).setCell hR1 _
    | some x =>
     have HEE := ζ (show RR = (some x,0) from HE.out)
     have hnz : ∀ hi,¬ Span wr.heap.size hi (w.heap.size + 1) := fun hi h => by have h' : wr.heap.size ≤ w.heap.size + 1 := h.1;have := HPW.out.z.lt;omega
     go_wp2_with (go_at_call 23;refine (KF.out).mono ?_;rintro e w8 ⟨hb8,-,xa,xc,ka,kc,rfl,hxo⟩;have HB8 := ζ ((below_but HPW.out.below hb8 hDw).alloc (below_but HPW.out.below hb8 hDw).size (.cells #[.string x.fact.name,.slice xa x.fact.args.length xc,.int .i64 x.rule,.slice ka x.kids.length kc] 30));have HZ8 := ζ ((HPW.out.z.but hb8 hDz).alloc (.cells #[.string x.fact.name,.slice xa x.fact.args.length xc,.int .i64 x.rule,.slice ka x.kids.length kc] 30));have HXO := ζ (hxo.agree ((Agree.refl _ _).alloc (.cells #[.string x.fact.name,.slice xa x.fact.args.length xc,.int .i64 x.rule,.slice ka x.kids.length kc] 30)));have c0 := HZ8.out.cell 0;have c1 := HZ8.out.cell 1;have c2' := HZ8.out.cell 2;have c3 := HZ8.out.cell 3;have y0 := HZ8.out.frozen 0;have y1 := HZ8.out.frozen 1;have y2 := HZ8.out.frozen 2;have y3 := HZ8.out.frozen 3;simp only [ζc] at c0 c1 c2' c3;clear hb8 hxo)
     refine bodyPost_ret (v := .tuple #[.agg #[.string x.fact.name,.slice xa x.fact.args.length xc,.int .i64 x.rule,.slice ka x.kids.length kc],.int .i64 0]) (by simp [results,Tryz.results8,go_sem,c0,c1,c2',c3]) rfl (prove_some HEE.out ?_ ?_)
     ·exact (((HB8.out.setCell hR1 _).setCell hR1 _).setCell hR1 _).setCell hR1 _
     ·exact (OwnP.four HXO.out (hnz _) _ _ _ _).wide hsz (by simp)
theorem proveCalls {S S3 S4 : Nat → Prop} (p : List PRule) (v fv : Value) (st : List Int) (q : Int × Int) (l : List PFact) (f : PFact) (av : Value) (w : World) (hS : StrataIs p st q) (h : RdRules S w v p) (hf : RdFacts S3 w fv l) (ha : RdStrs S4 w av f.args)
 (n1 : p.length ≤ 1048576) (n2 : ∀ r ∈ p,RuleSmall r) (n3 : ∀ r ∈ p,NameSmall r) (n4 : l.length ≤ 1048576) (n5 : ∀ x ∈ l,x.args.length ≤ 1048576) (n6 : f.args.length ≤ 1048576) :
 Calls Tryz.prog 8 #[v,fv,.agg #[.string f.name,av]] w (ProvePost (proveP st q.1 p l f) w) := (proveOwn p v fv st q l f av w hS h hf ha n1 n2 n3 n4 n5 n6).mono fun _ _ h => h.post
end
end Go.Proofs.YtdngkcieckejoaaGreat
