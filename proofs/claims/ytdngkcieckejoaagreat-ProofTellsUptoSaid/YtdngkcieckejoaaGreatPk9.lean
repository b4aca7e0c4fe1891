/-
  THE TEXTS ProofOne, AllS, one behind the other.
-/
import Derived.Test.YtdngkcieckejoaaGreatPk6
import Derived.Test.YtdngkcieckejoaaGreatPk8
namespace Go.Proofs.YtdngkcieckejoaaGreat
section
open Go.RowKit
theorem meetL_grow : ∀ (ts : List PTerm) (ns : List Str) (l m : Binds),meetL l ts ns = some m → m.length ≤ l.length + ts.length
 | [],ns,l,m,h => by
  have h' : some l = some m := h
  obtain rfl := Option.some.inj h'
  simp
 | t :: ts,[],l,m,h => by
  have h' : (none : Option Binds) = some m := h
  cases h'
 | t :: ts,n :: ns,l,m,h => by
  rw [meetL] at h
  cases hv : valT l t with
  | none =>
   rw [hv] at h
   have := meetL_grow ts ns _ m h
   simp only [List.length_append,List.length_cons,List.length_nil] at this ⊢
   omega
  | some z =>
   rw [hv] at h
   dsimp only at h
   split at h
   ·have := meetL_grow ts ns _ m h
    simp only [List.length_cons]
    omega
   ·cases h
theorem meetP_grow {a : PAtom} {f : PFact} {l m : Binds} (h : meetP a f l = some m) : m.length ≤ l.length + a.terms.length := by
 unfold meetP at h
 split at h
 ·exact meetL_grow _ _ _ _ h
 ·cases h
def oneStep (p : List PRule) (told M : List PFact) (c : PProof → Int) (x : PProof) : Int := if x.rule < 0 then leafBad told x else match p[x.rule.toNat]? with
 | none => 1
 | some r => if ruleOf r M x ≠ 0 then ruleOf r M x else firstErr c x.kids
theorem oneStep_none {p : List PRule} {told M : List PFact} {c : PProof → Int} {x : PProof} {rk : Nat} (hr : x.rule = (rk : Int)) (h : p.length ≤ rk) : oneStep p told M c x = 1 := by
 unfold oneStep
 rw [if_neg (by omega),hr,Int.toNat_natCast,List.getElem?_eq_none h]
theorem oneStep_some {p : List PRule} {told M : List PFact} {c : PProof → Int} {x : PProof} {rk : Nat} {r : PRule} (hr : x.rule = (rk : Int)) (h : p[rk]? = some r) : oneStep p told M c x = if ruleOf r M x ≠ 0 then ruleOf r M x else firstErr c x.kids := by
 unfold oneStep
 rw [if_neg (by omega),hr,Int.toNat_natCast,h]
theorem ruleOf_none {r : PRule} {M : List PFact} {x : PProof} (h : meetP r.head x.fact [] = none) : ruleOf r M x = 8 := by unfold ruleOf;rw [h]
theorem ruleOf_some {r : PRule} {M : List PFact} {x : PProof} {b : Binds} (h : meetP r.head x.fact [] = some b) : ruleOf r M x = if (bodyMeet r.body (x.kids.map PProof.fact) b).2.2 ≠ 0 then (bodyMeet r.body (x.kids.map PProof.fact) b).2.2
 else if (bodyMeet r.body (x.kids.map PProof.fact) b).2.1 ≠ [] then 5
 else if r.body.any (badNeg M (bodyMeet r.body (x.kids.map PProof.fact) b).1) then 10 else 0 := by unfold ruleOf;rw [h]
theorem drop_get {α : Type} {l : List α} {n : Nat} {x : α} (h : l[n]? = some x) : l.drop n = x :: l.drop (n + 1) := List.drop_eq_getElem?_toList_append.trans (by rw [h];rfl)
theorem bm_neg {l : List PAtom} {n : Nat} {a : PAtom} {k : List PFact} {b : Binds} (h : l[n]? = some a) (hn : a.neg = true) : bodyMeet (l.drop n) k b = bodyMeet (l.drop (n + 1)) k b := by rw [drop_get h,bodyMeet_cons,if_pos hn]
theorem bm_none {l : List PAtom} {n : Nat} {a : PAtom} {b : Binds} (h : l[n]? = some a) (hn : a.neg = false) : bodyMeet (l.drop n) [] b = (b,[],5) := by rw [drop_get h,bodyMeet_cons,if_neg (by rw [hn];simp)]
theorem bm_miss {l : List PAtom} {n : Nat} {a : PAtom} {f : PFact} {k : List PFact} {b : Binds} (h : l[n]? = some a) (hn : a.neg = false) (hm : meetP a f b = none) : bodyMeet (l.drop n) (f :: k) b = (b,k,8) := by
 rw [drop_get h,bodyMeet_cons,if_neg (by rw [hn];simp)]
 dsimp only
 rw [hm]
theorem bm_hit {l : List PAtom} {n : Nat} {a : PAtom} {f : PFact} {k : List PFact} {b m : Binds} (h : l[n]? = some a) (hn : a.neg = false) (hm : meetP a f b = some m) : bodyMeet (l.drop n) (f :: k) b = bodyMeet (l.drop (n + 1)) k m := by
 rw [drop_get h,bodyMeet_cons,if_neg (by rw [hn];simp)]
 dsimp only
 rw [hm]
theorem RdBinds.nilS {S : Nat → Prop} {w : World} : RdBinds S w (.slice none 0 0) [] := ⟨none,0,rfl,ζn _,Nat.zero_le _,fun _ => rfl,fun i x h => by simp at h⟩
theorem meetKnown {S S2 S3 : Nat → Prop} {a : PAtom} {tv : Value} {f : PFact} {fv lv : Value} {l m : Binds} {w : World} (hm : meetP a f l = some m) (ht : RdTerms S w tv a.terms) (hf : RdStrs S2 w fv f.args) (hl : RdBinds S3 w lv l) (n1 : a.terms.length ≤ 1048576) (n2 : f.args.length ≤ 1048576) (n3 : l.length ≤ 536870912) :
 Calls Tryz.prog 30 #[.agg #[.bool a.neg,.string a.name,tv],.agg #[.string f.name,fv],lv] w fun e w' => (∃ ba bc,e = .returned (.tuple #[.slice ba m.length bc,.bool true]) ∧ RdBinds (fun _ => True) w' (.slice ba m.length bc) m) ∧ Below w.heap.size w w' :=
 (meetCalls a tv f fv lv l w ht hf hl n1 n2 n3).mono fun e w' ⟨h1,h2⟩ => by
  rw [hm] at h2
  obtain ⟨v,he,ho⟩ := h2
  have hr := (ho.read).more RBind.steady (S' := fun _ => True) (fun _ _ _ => trivial)
  obtain ⟨ba,bc,rfl,-,-,-⟩ := id hr.form
  exact ⟨⟨ba,bc,he,hr⟩,h1⟩
theorem meetMiss {S S2 S3 : Nat → Prop} {a : PAtom} {tv : Value} {f : PFact} {fv lv : Value} {l : Binds} {w : World} (hm : meetP a f l = none) (ht : RdTerms S w tv a.terms) (hf : RdStrs S2 w fv f.args) (hl : RdBinds S3 w lv l) (n1 : a.terms.length ≤ 1048576) (n2 : f.args.length ≤ 1048576) (n3 : l.length ≤ 536870912) :
 Calls Tryz.prog 30 #[.agg #[.bool a.neg,.string a.name,tv],.agg #[.string f.name,fv],lv] w fun e w' => e = .returned (.tuple #[.slice none 0 0,.bool false]) ∧ Below w.heap.size w w' :=
 (meetCalls a tv f fv lv l w ht hf hl n1 n2 n3).mono fun e w' ⟨h1,h2⟩ => by
  rw [hm] at h2
  exact ⟨h2,h1⟩
theorem any_get {α : Type} {l : List α} {n : Nat} {a : α} {q : α → Bool} (h : l[n]? = some a) : (l.take (n + 1)).any q = ((l.take n).any q || q a) := by rw [List.take_add_one,h,List.any_append];simp
theorem bad_pos {M : List PFact} {b : Binds} {a : PAtom} (h : a.neg = false) : badNeg M b a = false := by unfold badNeg;rw [h];rfl
theorem bad_none {M : List PFact} {b : Binds} {a : PAtom} (h : a.neg = true) (hf : fillP a b = none) : badNeg M b a = true := by unfold badNeg;rw [h,hf];rfl
theorem bad_some {M : List PFact} {b : Binds} {a : PAtom} {f : PFact} (h : a.neg = true) (hf : fillP a b = some f) : badNeg M b a = memF f M := by unfold badNeg;rw [h,hf];rfl
theorem fillMiss {S S2 : Nat → Prop} {a : PAtom} {tv lv : Value} {l : Binds} {w : World} (hfl : fillP a l = none) (ht : RdTerms S w tv a.terms) (hl : RdBinds S2 w lv l) (n1 : a.terms.length ≤ 1048576) (n2 : l.length ≤ 1073741824) :
 Calls Tryz.prog 31 #[.agg #[.bool a.neg,.string a.name,tv],lv] w fun e w' => e = .returned (.tuple #[.agg #[.string ⟨#[]⟩,.slice none 0 0],.bool false]) ∧ Below w.heap.size w w' :=
 (fillCalls a tv lv l w ht hl n1 n2).mono fun e w' ⟨h1,h2⟩ => by
  rw [hfl] at h2
  exact ⟨h2,h1⟩
structure PrfAt (w : World) (b off : Nat) (f : PFact) (rl : Int) (av kv : Value) : Prop where
 lt : b < w.heap.size
 c0 : w.cell? ⟨b,off,none⟩ = some (.string f.name)
 c1 : w.cell? ⟨b,off + 1,none⟩ = some av
 c2 : w.cell? ⟨b,off + 2,none⟩ = some (.int .i64 rl)
 c3 : w.cell? ⟨b,off + 3,none⟩ = some kv
 args : RdStrs (fun _ => True) w av f.args
theorem PrfAt.up {w w' : World} {b off : Nat} {f : PFact} {rl : Int} {av kv : Value} (h : PrfAt w b off f rl av kv) (hb : Below w.heap.size w w') : PrfAt w' b off f rl av kv :=
 ⟨Nat.lt_of_lt_of_le h.lt hb.size,(ζl hb h.lt _).trans h.c0,(ζl hb h.lt _).trans h.c1,(ζl hb h.lt _).trans h.c2,(ζl hb h.lt _).trans h.c3,h.args.up hb⟩
attribute [local go_sem ↓] Go.wp_at_zero Go.wp_at_succ
set_option maxRecDepth 100000 in
set_option maxHeartbeats 0 in
theorem oneWalk {S S2 S3 : Nat → Prop} (p : List PRule) (told M : List PFact) (c : PProof → Int) (C b off : Nat) (pv tv mv av : Value) (ka : Option Addr) (kc : Nat) (f : PFact) (rl : Int) (ks : List PProof) (w : World)
 (hC : Blk w C 43 #[pv,tv,mv]) (hp : RdRules S w pv p) (ht : RdFacts S2 w tv told) (hm : RdFacts S3 w mv M) (hX : PrfAt w b off f rl av (.slice ka ks.length kc))
 (K : ∀ (i : Nat) (k : PProof),ks[i]? = some k → ∃ b' off' av' kv',ka = some ⟨b',off',none⟩ ∧ PrfAt w b' (off' + i * 4) k.fact k.rule av' kv' ∧ k.fact.args.length ≤ 1048576 ∧
  ∀ W,Below w.heap.size w W → Calls Tryz.prog 12 #[.pointer (some ⟨C,0,none⟩),.pointer (some ⟨b',off' + i * 4,none⟩)] W fun e w' => e = .returned (.int .i64 (c k)) ∧ Below W.heap.size W w')
 (hf : f.args.length ≤ 1048576) (hkl : ks.length ≤ 1048576) (_hpl : p.length ≤ 1048576) (hpt : ∀ r ∈ p,r.head.terms.length ≤ 4 ∧ r.body.length ≤ 5 ∧ ∀ a ∈ r.body,a.terms.length ≤ 4)
 (ut : Rising told) (ut1 : told.length ≤ 1073741824) (ut2 : ∀ x ∈ told,x.args.length ≤ 1073741824) (um : Rising M) (um1 : M.length ≤ 1073741824) (um2 : ∀ x ∈ M,x.args.length ≤ 1073741824) :
 Calls Tryz.prog 12 #[.pointer (some ⟨C,0,none⟩),.pointer (some ⟨b,off,none⟩)] w fun e w' => e = .returned (.int .i64 (oneStep p told M c (.mk f rl ks))) ∧ Below w.heap.size w w' := by
 obtain ⟨pa,pc,rfl,-,-,-⟩ := id hp.form
 obtain ⟨ta,tc,rfl,-,-,-⟩ := id ht.form
 obtain ⟨ma,mc,rfl,-,-,-⟩ := id hm.form
 have KT := ζ (fun W (hW : Below w.heap.size w W) fv (z : PFact) (hz : RdStrs (fun _ => True) W fv z.args) => inFact (.slice ta told.length tc) told z fv W (RdFacts.up ht hW) hz ut ut1 ut2)
 have KM := ζ (fun W (hW : Below w.heap.size w W) fv (z : PFact) (hz : RdStrs (fun _ => True) W fv z.args) => inFact (.slice ma M.length mc) M z fv W (RdFacts.up hm hW) hz um um1 um2)
 have HK := ζ K
 have HP := ζ hp
 have HC := ζ hC
 have HX := ζ hX
 have HPT := ζ hpt
 have q0 := hC.cell 0;have q1 := hC.cell 1;have q2 := hC.cell 2
 simp only [ζc] at q0 q1 q2
 have x0 := hX.c0;have x1 := hX.c1;have x2 := hX.c2;have x3 := hX.c3
 clear K hp ht hm hC hX hpt ut ut1 ut2 um um1 um2
 have HB0 := ζ (ζb w.heap.size w)
 by_cases hr : rl < 0
 ·by_cases h1 : rl = -1
  case neg =>
   have g1 : (rl != -1) = true := by simpa using h1
   have HE := ζ (show oneStep p told M c (.mk f rl ks) = 6 from (if_pos hr).trans (if_pos (.inl h1)))
   clear h1
   go_enter Tryz.func12,Tryz.ntmps12
   go_wp2
   go_region
   go_wp2
   go_ret
   refine ⟨?_,(ζb _ _).drew⟩
   rw [HE.out]
   rfl
  subst h1
  by_cases h2 : ks = []
  ·subst h2
   have KI := ζ (fun W (hW : Below w.heap.size w W) => KT.out W hW av f (HX.out.args.up hW))
   have HE := ζ (show oneStep p told M c (.mk f (-1) []) = if memF f told = false then 6 else 0 from (if_pos hr).trans (by
    unfold leafBad
    by_cases h : memF f told = false
    ·rw [if_pos (.inr (.inr h)),if_pos h]
    ·rw [if_neg h,if_neg]
     rintro (h3 | h3 | h3)
     ·exact h3 rfl
     ·exact h3 rfl
     ·exact h h3))
   have HBD := ζ ((ζb w.heap.size w).drew)
   have hz : ((-1 : Int) != -1) = false := rfl
   simp only [List.length_nil] at x3
   generalize memF f told = bm at *
   cases bm
   all_goals
    go_enter Tryz.func12,Tryz.ntmps12
    go_wp2
    go_region_held3 (fun w' => w'.cell? ⟨b,off + 2,none⟩ = some (.int .i64 (-1)) ∧ w'.cell? ⟨b,off + 3,none⟩ = some (.slice ka 0 kc) ∧ w'.cell? ⟨C,1,none⟩ = some (.slice ta told.length tc) ∧ w'.cell? ⟨b,off,none⟩ = some (.string f.name) ∧ w'.cell? ⟨b,off + 1,none⟩ = some av)
     (first | (with_reducible exact ⟨k2,k3,p1,k0,k1⟩) | (with_reducible exact ⟨x2,x3,q1,x0,x1⟩) | go_keep)
     (first | (go_at_call 17;(with_reducible refine (KI.out _ HBD.out).mono ?_);rintro e w1 ⟨rfl,hf1⟩;have HB1 := ζ (HBD.out.trans (hf1.below.mono HBD.out.size));have HX1 := ζ (HX.out.up HB1.out);have k0 := HX1.out.c0;have k1 := HX1.out.c1;have k2 := HX1.out.c2;have k3 := HX1.out.c3;have p1 := (HC.out.below HB1.out HC.out.lt).cell 1;simp only [ζc] at p1;clear hf1))
    go_wp2
    go_ret
    exact ⟨ret_int HE.out.symm,HB1.out⟩
  ·obtain ⟨k0,kt,rfl⟩ : ∃ k0 kt,ks = k0 :: kt := List.exists_cons_of_ne_nil h2
   simp only [List.length_cons] at x3
   have hz : ((-1 : Int) != -1) = false := rfl
   have HE := ζ (show oneStep p told M c (.mk f (-1) (k0 :: kt)) = 6 from (if_pos hr).trans (if_pos (.inr (.inl h2))))
   clear h2
   go_enter Tryz.func12,Tryz.ntmps12
   go_wp2
   refine wp_region_held_drew (S := (fun w' => w'.cell? ⟨b,off + 2,none⟩ = some (.int .i64 (-1)) ∧ w'.cell? ⟨b,off + 3,none⟩ = some (.slice ka (kt.length + 1) kc))) (by kernel_rfl) ?_ (fun hHeld => ?_)
   ·exact ⟨x2,x3⟩
   refine ζt (i := 0) (oi := ⟨some 22,_,_,_,_,_⟩) (v := ?_) rfl (Or.inl ⟨by rfl,?_⟩) (by assumption) ?_
   rotate_left
   ·(intro w' hSw;(try dsimp only at hSw);go_simp;try with_reducible rfl)
   try simp only [ζp]
   refine ζt (i := 1) (oi := ⟨some 23,_,_,_,_,_⟩) (v := ?_) rfl (Or.inl ⟨by rfl,?_⟩) (by assumption) ?_
   rotate_left
   ·(intro w' hSw;(try dsimp only at hSw);go_simp;try with_reducible rfl)
   try simp only [ζp]
   refine ζt (i := 2) (oi := ⟨some 24,_,_,_,_,_⟩) (v := ?_) rfl (Or.inl ⟨by rfl,?_⟩) (by assumption) ?_
   rotate_left
   ·(intro w' hSw;(try dsimp only at hSw);go_simp;try with_reducible rfl)
   try simp only [ζp]
   refine ζt (i := 3) (oi := ⟨some 25,_,_,_,_,_⟩) (v := ?_) rfl (Or.inl ⟨by rfl,?_⟩) (by assumption) ?_
   rotate_left
   ·(intro w' hSw;(try dsimp only at hSw);go_simp;try with_reducible rfl)
   try simp only [ζp]
   refine ζt (i := 4) (oi := ⟨some 26,_,_,_,_,_⟩) (v := ?_) rfl (Or.inl ⟨by rfl,?_⟩) (by assumption) ?_
   rotate_left
   ·(intro w' hSw;(try dsimp only at hSw);go_simp;try with_reducible rfl)
   try simp only [ζp]
   refine ζt (i := 5) (oi := ⟨some 27,_,_,_,_,_⟩) (v := ?_) rfl (Or.inl ⟨by rfl,?_⟩) (by assumption) ?_
   rotate_left
   ·(intro w' hSw;(try dsimp only at hSw);go_simp;try with_reducible rfl)
   try simp only [ζp]
   refine ζt (i := 6) (oi := ⟨some 28,_,_,_,_,_⟩) (v := ?_) rfl (Or.inl ⟨by rfl,?_⟩) (by assumption) ?_
   rotate_left
   ·(intro w' hSw;(try dsimp only at hSw);go_simp;try with_reducible rfl)
   try simp only [ζp]
   refine ζt (i := 7) (oi := ⟨some 29,_,_,_,_,_⟩) (v := ?_) rfl (Or.inl ⟨by rfl,?_⟩) (by assumption) ?_
   rotate_left
   ·(intro w' hSw;(try dsimp only at hSw);go_simp;try with_reducible rfl)
   try simp only [ζp]
   refine ζt (i := 8) (oi := ⟨some 30,_,_,_,_,_⟩) (v := ?_) rfl (Or.inl ⟨by rfl,?_⟩) (by assumption) ?_
   rotate_left
   ·(intro w' hSw;(try dsimp only at hSw);go_simp;try with_reducible rfl)
   try simp only [ζp]
   refine ζt (i := 9) (oi := ⟨some 31,_,_,_,_,_⟩) (v := ?_) rfl (Or.inl ⟨by rfl,?_⟩) (by assumption) ?_
   rotate_left
   ·(intro w' hSw;(try dsimp only at hSw);go_simp;try with_reducible rfl)
   try simp only [ζp]
   refine wpAnyH_ready (rs := [10]) (by kernel_rfl) (by simp) ?_
   refine AllReadyH.cons (o := ⟨some 32,_,_,_,_,_⟩) rfl (fun K hK => ?_) AllReadyH.nil
   go_simp
   skip
   refine hK.out _ _ ?_ (fun hHeld => ?_)
   ·exact ⟨x2,x3⟩
   clear hK K
   try simp only [ζp]
   refine ζt (i := 11) (oi := ⟨some 33,_,_,_,_,_⟩) (v := ?_) rfl (Or.inl ⟨by rfl,?_⟩) (by assumption) ?_
   rotate_left
   ·(intro w' hSw;(try dsimp only at hSw);go_simp;try with_reducible rfl)
   try simp only [ζp]
   refine ζt (i := 12) (oi := ⟨some 34,_,_,_,_,_⟩) (v := ?_) rfl (Or.inl ⟨by rfl,?_⟩) (by assumption) ?_
   rotate_left
   ·(intro w' hSw;(try dsimp only at hSw);go_simp;try with_reducible rfl)
   try simp only [ζp]
   refine ζt (i := 13) (oi := ⟨some 35,_,_,_,_,_⟩) (v := ?_) rfl (Or.inl ⟨by rfl,?_⟩) (by assumption) ?_
   rotate_left
   ·(intro w' hSw;(try dsimp only at hSw);go_simp;try with_reducible rfl)
   try simp only [ζp]
   refine ζt (i := 14) (oi := ⟨some 36,_,_,_,_,_⟩) (v := undef) rfl (Or.inr ⟨by rfl,rfl⟩) (by assumption) ?_
   try simp only [ζp]
   refine ζt (i := 15) (oi := ⟨some 37,_,_,_,_,_⟩) (v := undef) rfl (Or.inr ⟨by rfl,rfl⟩) (by assumption) ?_
   try simp only [ζp]
   refine ζt (i := 16) (oi := ⟨some 38,_,_,_,_,_⟩) (v := undef) rfl (Or.inr ⟨by rfl,rfl⟩) (by assumption) ?_
   try simp only [ζp]
   refine ζt (i := 17) (oi := ⟨some 39,_,_,_,_,_⟩) (v := undef) rfl (Or.inr ⟨by rfl,rfl⟩) (by assumption) ?_
   try simp only [ζp]
   refine ζt (i := 18) (oi := ⟨some 40,_,_,_,_,_⟩) (v := undef) rfl (Or.inr ⟨by rfl,rfl⟩) (by assumption) ?_
   try simp only [ζp]
   refine ζt (i := 19) (oi := ⟨some 41,_,_,_,_,_⟩) (v := undef) rfl (Or.inr ⟨by rfl,rfl⟩) (by assumption) ?_
   try simp only [ζp]
   refine ζt (i := 20) (oi := ⟨some 42,_,_,_,_,_⟩) (v := undef) rfl (Or.inr ⟨by rfl,rfl⟩) (by assumption) ?_
   try simp only [ζp]
   refine ζt (i := 21) (oi := ⟨some 43,_,_,_,_,_⟩) (v := undef) rfl (Or.inr ⟨by rfl,rfl⟩) (by assumption) ?_
   try simp only [ζp]
   refine ζt (i := 22) (oi := ⟨some 44,_,_,_,_,_⟩) (v := undef) rfl (Or.inr ⟨by rfl,rfl⟩) (by assumption) ?_
   try simp only [ζp]
   refine ζt (i := 23) (oi := ⟨some 45,_,_,_,_,_⟩) (v := undef) rfl (Or.inr ⟨by rfl,rfl⟩) (by assumption) ?_
   try simp only [ζp]
   refine ζt (i := 24) (oi := ⟨some 46,_,_,_,_,_⟩) (v := ?_) rfl (Or.inl ⟨by rfl,?_⟩) (by assumption) ?_
   rotate_left
   ·(intro w' hSw;(try dsimp only at hSw);go_simp;try with_reducible rfl)
   try simp only [ζp]
   refine wpAnyH_done (by kernel_rfl) ?_ _
   go_wp2
   go_ret
   refine ⟨?_,(ζb _ _).drew⟩
   rw [HE.out]
   rfl
 ·obtain ⟨rk,rfl⟩ : ∃ rk : Nat,rl = rk := ⟨rl.toNat,by omega⟩
  by_cases hlt : rk < p.length
  case neg =>
   have g1 : ¬ ((rk : Int) < (p.length : Int)) := by omega
   have g2 : (p.length : Int) ≤ (rk : Int) := by omega
   have HE := ζ (oneStep_none (told := told) (M := M) (c := c) (x := .mk f rk ks) rfl (Nat.le_of_not_lt hlt))
   go_enter Tryz.func12,Tryz.ntmps12
   go_wp2
   go_region
   go_wp2
   go_ret
   refine ⟨?_,(ζb _ _).drew⟩
   rw [HE.out]
   rfl
  obtain ⟨r,hrr⟩ : ∃ r,p[rk]? = some r := ⟨_,ζe hlt⟩
  have g1 : (rk : Int) < (p.length : Int) := by omega
  have g0 : (0 : Int) ≤ (rk : Int) := by omega
  have HOS := ζ (show oneStep p told M c (.mk f rk ks) = if ruleOf r M (.mk f rk ks) ≠ 0 then ruleOf r M (.mk f rk ks) else firstErr c ks from oneStep_some (told := told) (M := M) (c := c) (x := .mk f rk ks) rfl hrr)
  obtain ⟨b1,o1,tv,bv,rfl,-,hb1,r0,r1,r2,r3,hrt,hrb⟩ := HP.out.at hrr
  obtain ⟨ta1,tc1,rfl,-,-,-⟩ := id hrt.form
  obtain ⟨ba1,bc1,rfl,-,-,-⟩ := id hrb.form
  obtain ⟨u1,u2,u3⟩ := HPT.out r (ζm hrr)
  have HT := ζ hrt
  have HBD := ζ hrb
  have U3 := ζ u3
  clear hrt hrb u3 hrr
  have HB3 := ζ (show Below w.heap.size w w.drew.drew.drew from (((ζb w.heap.size w).drew).drew).drew)
  have hnf : f.args.length ≤ 1048576 := hf
  cases hm0 : meetP r.head f [] with
  | none =>
   have KE := ζ (fun W (hW : Below w.heap.size w W) => meetMiss hm0 (HT.out.up hW) (HX.out.args.up hW) (RdBinds.nilS (S := fun _ => True)) (by omega) hnf (by simp))
   have HE := ζ (show oneStep p told M c (.mk f rk ks) = 8 by rw [HOS.out,ruleOf_none hm0];rfl)
   clear hm0 HOS
   go_enter Tryz.func12,Tryz.ntmps12
   go_wp2
   go_region
   go_wp2
   go_region
   go_wp2
   go_region_held3 (fun w' => w'.cell? ⟨b1,o1 + rk * 4,none⟩ = some (.bool r.head.neg) ∧ w'.cell? ⟨b1,o1 + rk * 4 + 1,none⟩ = some (.string r.head.name) ∧ w'.cell? ⟨b1,o1 + rk * 4 + 2,none⟩ = some (.slice ta1 r.head.terms.length tc1) ∧ w'.cell? ⟨b,off,none⟩ = some (.string f.name) ∧ w'.cell? ⟨b,off + 1,none⟩ = some av)
    (first | (with_reducible exact ⟨k0,k1,k2,k3,k4⟩) | (with_reducible exact ⟨r0,r1,r2,x0,x1⟩) | go_keep)
    (first | (go_at_call 30;(with_reducible refine (KE.out _ HB3.out).mono ?_);rintro e w2 ⟨rfl,hb2⟩;have HB2 := ζ (HB3.out.trans (hb2.mono HB3.out.size));have k0 := (ζl HB2.out hb1 _).trans r0;have k1 := (ζl HB2.out hb1 _).trans r1;have k2 := (ζl HB2.out hb1 _).trans r2;have k3 := (HX.out.up HB2.out).c0;have k4 := (HX.out.up HB2.out).c1;clear hb2))
   go_wp2
   go_ret
   refine ⟨?_,HB2.out⟩
   rw [HE.out]
   rfl
  | some b0 =>
  have KE := ζ (fun W (hW : Below w.heap.size w W) => meetKnown hm0 (HT.out.up hW) (HX.out.args.up hW) (RdBinds.nilS (S := fun _ => True)) (by omega) hnf (by simp))
  have hb0l := meetP_grow hm0
  simp only [List.length_nil] at hb0l
  have HL0 := ζ (show b0.length ≤ 4 + 4 * 0 by omega)
  rw [ruleOf_some hm0] at HOS
  have HT0 := ζ (show bodyMeet (r.body.drop 0) ((ks.map PProof.fact).drop 0) b0 = bodyMeet r.body (ks.map PProof.fact) b0 from rfl)
  change Hid (oneStep p told M c (.mk f rk ks) = if (if (bodyMeet r.body (ks.map PProof.fact) b0).2.2 ≠ 0 then (bodyMeet r.body (ks.map PProof.fact) b0).2.2 else if (bodyMeet r.body (ks.map PProof.fact) b0).2.1 ≠ [] then 5 else if r.body.any (badNeg M (bodyMeet r.body (ks.map PProof.fact) b0).1) then 10 else 0) ≠ 0 then (if (bodyMeet r.body (ks.map PProof.fact) b0).2.2 ≠ 0 then (bodyMeet r.body (ks.map PProof.fact) b0).2.2 else if (bodyMeet r.body (ks.map PProof.fact) b0).2.1 ≠ [] then 5 else if r.body.any (badNeg M (bodyMeet r.body (ks.map PProof.fact) b0).1) then 10 else 0) else firstErr c ks) at HOS
  clear hm0 hb0l
  generalize bodyMeet r.body (ks.map PProof.fact) b0 = T at *
  obtain ⟨Tb,Tk,Te⟩ := T
  dsimp only at HOS
  generalize oneStep p told M c (.mk f rk ks) = R at *
  have HR1 := ζ (show ∀ e : Int,Te = e → e ≠ 0 → R = e from fun e h1 h2 => by subst h1;rw [HOS.out,if_pos h2,if_pos h2])
  have HR2 := ζ (show Te = 0 → Tk ≠ [] → R = 5 from fun h1 h2 => by subst h1;rw [HOS.out];simp [h2])
  have HR3 := ζ (show Te = 0 → Tk = [] → r.body.any (badNeg M Tb) = true → R = 10 from fun h1 h2 h3 => by subst h1;subst h2;rw [HOS.out,h3];simp)
  have HR4 := ζ (show Te = 0 → Tk = [] → r.body.any (badNeg M Tb) = false → R = firstErr c ks from fun h1 h2 h3 => by subst h1;subst h2;rw [HOS.out,h3];simp)
  clear HOS
  go_enter Tryz.func12,Tryz.ntmps12
  go_wp2
  go_region
  go_wp2
  go_region
  go_wp2
  go_region_held3 (fun w' => w'.cell? ⟨b1,o1 + rk * 4,none⟩ = some (.bool r.head.neg) ∧ w'.cell? ⟨b1,o1 + rk * 4 + 1,none⟩ = some (.string r.head.name) ∧ w'.cell? ⟨b1,o1 + rk * 4 + 2,none⟩ = some (.slice ta1 r.head.terms.length tc1) ∧ w'.cell? ⟨b,off,none⟩ = some (.string f.name) ∧ w'.cell? ⟨b,off + 1,none⟩ = some av)
   (first | (with_reducible exact ⟨k0,k1,k2,k3,k4⟩) | (with_reducible exact ⟨r0,r1,r2,x0,x1⟩) | go_keep)
   (first | (go_at_call 30;(with_reducible refine (KE.out _ HB3.out).mono ?_);rintro e w2 ⟨⟨ba0,bc0,rfl,hbr0⟩,hb2⟩;have HB2 := ζ (HB3.out.trans (hb2.mono HB3.out.size));have HBR0 := ζ hbr0;have k0 := (ζl HB2.out hb1 _).trans r0;have k1 := (ζl HB2.out hb1 _).trans r1;have k2 := (ζl HB2.out hb1 _).trans r2;have k3 := (HX.out.up HB2.out).c0;have k4 := (HX.out.up HB2.out).c1;have k5 := (ζl HB2.out hb1 _).trans r3;clear hb2 hbr0))
  go_wp2
  have HR3C := ζ r3
  clear k0 k1 k2 k3 k4 KE HB3 HT r0 r1 r2 r3 q0 q1 q2 x0 x1 x2 x3
  have HBL := ζ (show r.body.length ≤ 5 from u2)
  go_loopw [85,8,6,7] (fun i k bv ok wr => ∃ (n j : Nat) (bs : Binds) (ba : Option Addr) (bc : Nat),n ≤ r.body.length ∧ j ≤ ks.length ∧ i = .int .i64 n ∧ k = .int .i64 j ∧ bv = .slice ba bs.length bc ∧ ok = .bool true ∧ Hid (RdBinds (fun _ => True) wr (.slice ba bs.length bc) bs) ∧ Hid (bs.length ≤ 4 + 4 * n) ∧ Hid (bodyMeet (r.body.drop n) ((ks.map PProof.fact).drop j) bs = (Tb,Tk,Te)) ∧ Hid (Below w.heap.size w wr)) (fun i _ _ _ _ => r.body.length - (intOf i).toNat)
  case atStart => exact ⟨0,0,b0,ba0,bc0,Nat.zero_le _,Nat.zero_le _,rfl,rfl,rfl,rfl,HBR0,HL0,HT0,HB2⟩
  case round =>
   clear HBR0 HL0 HT0 HB2 k5
   obtain ⟨n,j,bs,ba,bc,hn,hj,rfl,rfl,rfl,rfl,HBR,HL,HBM,HB⟩ := hrel
   have HX2 := ζ (HX.out.up HB.out)
   have x0 := HX2.out.c0;have x1 := HX2.out.c1;have x2 := HX2.out.c2;have x3 := HX2.out.c3
   by_cases hlt2 : n < r.body.length
   ·obtain ⟨a,ha⟩ : ∃ a,r.body[n]? = some a := ⟨_,ζe hlt2⟩
    obtain ⟨b4,o4,tv4,rfl,-,hb4,a0,a1,a2,hat⟩ := (HBD.out.up HB.out).at ha
    obtain ⟨ta4,tc4,rfl,-,-,-⟩ := id hat.form
    have ht4 := U3.out a (ζm ha)
    have HAT := ζ hat
    have HBC := ζ (HB.out.alloc HB.out.size (.cells #[.bool a.neg,.string a.name,.slice ta4 a.terms.length tc4] 78))
    have HCP := ζ (Blk.new wr 78 #[.bool a.neg,.string a.name,.slice ta4 a.terms.length tc4])
    have hl5 := HBL.out
    have hbl := HL.out
    cases hng : a.neg with
    | true =>
     rw [hng] at a0 HBC HCP
     have HN := ζ ((bm_neg ha hng).symm.trans HBM.out)
     clear hat ha hng
     have HBR1 := ζ (HBR.out.up ((ζb wr.heap.size wr).alloc (ζn _) (.cells #[.bool true,.string a.name,.slice ta4 a.terms.length tc4] 78)))
     have HL1 := ζ (show bs.length ≤ 4 + 4 * (n + 1) by omega)
     clear hl5 hbl
     go_wp2
     go_roundw
     case rel => exact ⟨n + 1,j,bs,ba,bc,by omega,hj,by go_num,rfl,rfl,rfl,HBR1,HL1,HN,HBC⟩
     case measure => simp [intOf];omega
    | false =>
     rw [hng] at a0 HBC HCP
     have HXA := ζ (HX2.out.up ((ζb wr.heap.size wr).alloc (ζn _) (.cells #[.bool false,.string a.name,.slice ta4 a.terms.length tc4] 78)))
     have y3 := HXA.out.c3
     have c0 := HCP.out.cell 0;have c1 := HCP.out.cell 1;have c2 := HCP.out.cell 2
     simp only [ζc] at c0 c1 c2
     by_cases hjl : j < ks.length
     case neg =>
      have hje : (ks.map PProof.fact).drop j = [] := List.drop_eq_nil_of_le (by simp;omega)
      obtain rfl : j = ks.length := by omega
      have HE := ζ (show R = 5 from HR1.out 5 (by have h1 := HBM.out;rw [hje,bm_none ha hng] at h1;exact (congrArg (fun z : Binds × List PFact × Int => z.2.2) h1).symm) (by decide))
      clear hje ha hng hat hl5 hbl hjl
      go_wp2
      go_ret
      refine ⟨?_,HBC.out⟩
      rw [HE.out]
      rfl
     case pos =>
      obtain ⟨kd,hkd⟩ : ∃ kd,ks[j]? = some kd := ⟨_,ζe hjl⟩
      obtain ⟨b5,o5,av5,kv5,rfl,hP5,hal5,-⟩ := HK.out j kd hkd
      have hdj : (ks.map PProof.fact).drop j = kd.fact :: (ks.map PProof.fact).drop (j + 1) := drop_get (by rw [List.getElem?_map,hkd];rfl)
      have HPA := ζ (hP5.up HBC.out)
      have d0 := HPA.out.c0;have d1 := HPA.out.c1
      have hjne : ¬ ((j : Int) = (ks.length : Int)) := by omega
      have hj0 : (0 : Int) ≤ (j : Int) := by omega
      have hj1 : (j : Int) < (ks.length : Int) := by omega
      have HBW := ζ HBC.out.drew
      cases hm1 : meetP a kd.fact bs with
      | none =>
       have ke := meetMiss hm1 (HAT.out.up (((ζb wr.heap.size wr).alloc (ζn _) (.cells #[.bool false,.string a.name,.slice ta4 a.terms.length tc4] 78)).drew)) (hP5.args.up HBW.out) (HBR.out.up (((ζb wr.heap.size wr).alloc (ζn _) (.cells #[.bool false,.string a.name,.slice ta4 a.terms.length tc4] 78)).drew)) (by omega) hal5 (by omega)
       rw [hng] at ke
       have KE := ζ ke
       have HE := ζ (show R = 8 from HR1.out 8 (by have h1 := HBM.out;rw [hdj,bm_miss ha hng hm1] at h1;exact (congrArg (fun z : Binds × List PFact × Int => z.2.2) h1).symm) (by decide))
       clear ke hm1 hdj ha hng hat hl5 hbl hP5 hal5 hkd
       go_wp2
       go_region_held3 (fun w' => w'.cell? ⟨wr.heap.size,0,none⟩ = some (.bool false) ∧ w'.cell? ⟨wr.heap.size,1,none⟩ = some (.string a.name) ∧ w'.cell? ⟨wr.heap.size,2,none⟩ = some (.slice ta4 a.terms.length tc4) ∧ w'.cell? ⟨b,off + 3,none⟩ = some (.slice (some ⟨b5,o5,none⟩) ks.length kc) ∧ w'.cell? ⟨b5,o5 + j * 4,none⟩ = some (.string kd.fact.name) ∧ w'.cell? ⟨b5,o5 + j * 4 + 1,none⟩ = some av5)
        (first | (with_reducible exact ⟨k0,k1,k2,k3,k4,k5⟩) | (with_reducible exact ⟨c0,c1,c2,y3,d0,d1⟩) | go_keep)
        (first | (go_at_call 30;(with_reducible refine (KE.out).mono ?_);rintro e w6 ⟨rfl,hb6⟩;have HB6 := ζ (HBW.out.trans (hb6.mono HBW.out.size));have hcp := HCP.out.drew.below hb6 HCP.out.lt;have k0 := hcp.cell 0;have k1 := hcp.cell 1;have k2 := hcp.cell 2;simp only [ζc] at k0 k1 k2;have k3 := (HX.out.up HB6.out).c3;have k4 := (HPA.out.up ((ζb _ _).drew.trans hb6)).c0;have k5 := (HPA.out.up ((ζb _ _).drew.trans hb6)).c1;clear hb6 hcp))
       go_wp2
       go_ret
       refine ⟨?_,HB6.out⟩
       rw [HE.out]
       rfl
      | some m =>
       have ke := meetKnown hm1 (HAT.out.up (((ζb wr.heap.size wr).alloc (ζn _) (.cells #[.bool false,.string a.name,.slice ta4 a.terms.length tc4] 78)).drew)) (hP5.args.up HBW.out) (HBR.out.up (((ζb wr.heap.size wr).alloc (ζn _) (.cells #[.bool false,.string a.name,.slice ta4 a.terms.length tc4] 78)).drew)) (by omega) hal5 (by omega)
       rw [hng] at ke
       have KE := ζ ke
       have HN := ζ (show bodyMeet (r.body.drop (n + 1)) ((ks.map PProof.fact).drop (j + 1)) m = (Tb,Tk,Te) by have h1 := HBM.out;rwa [hdj,bm_hit ha hng hm1] at h1)
       have hml := meetP_grow hm1
       have HL1 := ζ (show m.length ≤ 4 + 4 * (n + 1) by omega)
       clear ke hm1 hdj ha hng hat hl5 hbl hP5 hal5 hkd hml
       go_wp2
       go_region_held3 (fun w' => w'.cell? ⟨wr.heap.size,0,none⟩ = some (.bool false) ∧ w'.cell? ⟨wr.heap.size,1,none⟩ = some (.string a.name) ∧ w'.cell? ⟨wr.heap.size,2,none⟩ = some (.slice ta4 a.terms.length tc4) ∧ w'.cell? ⟨b,off + 3,none⟩ = some (.slice (some ⟨b5,o5,none⟩) ks.length kc) ∧ w'.cell? ⟨b5,o5 + j * 4,none⟩ = some (.string kd.fact.name) ∧ w'.cell? ⟨b5,o5 + j * 4 + 1,none⟩ = some av5)
        (first | (with_reducible exact ⟨k0,k1,k2,k3,k4,k5⟩) | (with_reducible exact ⟨c0,c1,c2,y3,d0,d1⟩) | go_keep)
        (first | (go_at_call 30;(with_reducible refine (KE.out).mono ?_);rintro e w6 ⟨⟨ba6,bc6,rfl,hbr6⟩,hb6⟩;have HB6 := ζ (HBW.out.trans (hb6.mono HBW.out.size));have HBR6 := ζ hbr6;have hcp := HCP.out.drew.below hb6 HCP.out.lt;have k0 := hcp.cell 0;have k1 := hcp.cell 1;have k2 := hcp.cell 2;simp only [ζc] at k0 k1 k2;have k3 := (HX.out.up HB6.out).c3;have k4 := (HPA.out.up ((ζb _ _).drew.trans hb6)).c0;have k5 := (HPA.out.up ((ζb _ _).drew.trans hb6)).c1;clear hb6 hcp hbr6))
       go_wp2
       go_roundw
       case rel => exact ⟨n + 1,j + 1,m,ba6,bc6,by omega,by omega,by go_num,by go_num,rfl,rfl,HBR6,HL1,HN,HB6⟩
       case measure => simp [intOf];omega
   ·obtain rfl : n = r.body.length := by omega
    have hbe : (bs,(ks.map PProof.fact).drop j,(0 : Int)) = (Tb,Tk,Te) := by have h1 := HBM.out;rwa [List.drop_eq_nil_of_le (ζn _)] at h1
    simp only [Prod.mk.injEq] at hbe
    obtain ⟨rfl,rfl,rfl⟩ := hbe
    have hbl := HL.out
    have hl5 := HBL.out
    by_cases hjl : j < ks.length
    ·have HE := ζ (show R = 5 from HR2.out rfl (fun h => by have := congrArg List.length h;simp at this;omega))
     have hj1 : (j : Int) < (ks.length : Int) := by omega
     clear hjl hbl hl5
     go_wp2
     go_ret
     refine ⟨?_,HB.out⟩
     rw [HE.out]
     rfl
    have hje : (ks.map PProof.fact).drop j = [] := List.drop_eq_nil_of_le (by simp;omega)
    have H3 := ζ (fun h => HR3.out rfl hje h)
    have H4 := ζ (fun h => HR4.out rfl hje h)
    have hj1 : ¬ ((j : Int) < (ks.length : Int)) := by omega
    have e3 := (ζl HB.out hb1 _).trans HR3C.out
    have hbl2 : bs.length ≤ 24 := by omega
    clear HR1 HR2 HR3 HR4 hje hjl hbl hl5 HBM
    obtain ⟨wo,hwo⟩ : ∃ wo : World,wo = wr := ⟨_,rfl⟩
    subst hwo
    have HQ0 := ζ (show (r.body.take 0).any (badNeg M bs) = false by simp)
    have HBI0 := ζ (ζb wo.heap.size wo)
    go_wp2
    go_loopw [129] (fun i wr => ∃ n : Nat,n ≤ r.body.length ∧ i = .int .i64 n ∧ Hid ((r.body.take n).any (badNeg M bs) = false) ∧ Hid (Below wo.heap.size wo wr)) (fun i _ => r.body.length - (intOf i).toNat)
    case atStart => exact ⟨0,Nat.zero_le _,rfl,HQ0,HBI0⟩
    case round =>
     clear HQ0 HBI0 x0 x1 x2 x3 e3
     obtain ⟨n,hn,rfl,HQ,HBI⟩ := hrel
     have HBW := ζ (HB.out.trans (HBI.out.mono HB.out.size))
     by_cases hlt2 : n < r.body.length
     ·obtain ⟨a,ha⟩ : ∃ a,r.body[n]? = some a := ⟨_,ζe hlt2⟩
      obtain ⟨b4,o4,tv4,rfl,-,hb4,a0,a1,a2,hat⟩ := (HBD.out.up HBW.out).at ha
      obtain ⟨ta4,tc4,rfl,-,-,-⟩ := id hat.form
      have ht4 := U3.out a (ζm ha)
      have HAT := ζ hat
      have HCP := ζ (Blk.new wr 78 #[.bool a.neg,.string a.name,.slice ta4 a.terms.length tc4])
      have c0 := HCP.out.cell 0;have c1 := HCP.out.cell 1;have c2 := HCP.out.cell 2
      simp only [ζc] at c0 c1 c2
      have HQ1 := ζ (any_get (q := badNeg M bs) ha)
      have HAM := ζ (ζm ha)
      clear hat ha
      cases hng : a.neg with
      | false =>
       rw [hng] at a0 HCP c0
       have HQ2 := ζ (show (r.body.take (n + 1)).any (badNeg M bs) = false by rw [HQ1.out,HQ.out,bad_pos hng];rfl)
       cases hfl : fillP a bs with
       | none =>
        have ke := fillMiss hfl (HAT.out.up (((ζb wr.heap.size wr).alloc (ζn _) (.cells #[.bool false,.string a.name,.slice ta4 a.terms.length tc4] 78)))) (HBR.out.up ((HBI.out.alloc HBI.out.size (.cells #[.bool false,.string a.name,.slice ta4 a.terms.length tc4] 78)))) (by omega) (by omega)
        rw [hng] at ke
        have KE := ζ ke
        clear ke
        go_wp2_with (go_at_call 31;refine (KE.out).mono ?_;rintro e w6 ⟨rfl,hb6⟩;have HB6 := ζ ((HBI.out.alloc HBI.out.size (.cells #[.bool false,.string a.name,.slice ta4 a.terms.length tc4] 78)).trans (hb6.mono (HBI.out.alloc HBI.out.size (.cells #[.bool false,.string a.name,.slice ta4 a.terms.length tc4] 78)).size));have HB7 := ζ (HB6.out.alloc HB6.out.size (.cells #[.string ⟨#[]⟩,.slice none 0 0] 27));have HCP7 := ζ ((HCP.out.below hb6 HCP.out.lt).alloc (.cells #[.string ⟨#[]⟩,.slice none 0 0] 27));have HF7 := ζ (Blk.new w6 27 #[.string ⟨#[]⟩,.slice none 0 0]);have k0 := HCP7.out.cell 0;simp only [List.getElem?_toArray,List.getElem?_cons_zero] at k0;clear hb6)
        clear hng hfl
        refine wp_region_held_drew (S := (fun w' => w'.cell? ⟨wr.heap.size,0,none⟩ = some (.bool false))) (by kernel_rfl) ?_ (fun hHeld => ?_)
        ·exact k0
        refine ζt (i := 0) (oi := ⟨some 139,_,_,_,_,_⟩) (v := ?_) rfl (Or.inl ⟨by rfl,?_⟩) (by assumption) ?_
        rotate_left
        ·(intro w' hSw;(try dsimp only at hSw);go_simp;try with_reducible rfl)
        try simp only [ζp]
        refine ζt (i := 1) (oi := ⟨some 140,_,_,_,_,_⟩) (v := ?_) rfl (Or.inl ⟨by rfl,?_⟩) (by assumption) ?_
        rotate_left
        ·(intro w' hSw;(try dsimp only at hSw);go_simp;try with_reducible rfl)
        try simp only [ζp]
        refine ζt (i := 2) (oi := ⟨some 141,_,_,_,_,_⟩) (v := ?_) rfl (Or.inl ⟨by rfl,?_⟩) (by assumption) ?_
        rotate_left
        ·(intro w' hSw;(try dsimp only at hSw);go_simp;try with_reducible rfl)
        try simp only [ζp]
        refine ζt (i := 3) (oi := ⟨some 142,_,_,_,_,_⟩) (v := undef) rfl (Or.inr ⟨by rfl,rfl⟩) (by assumption) ?_
        try simp only [ζp]
        refine ζt (i := 4) (oi := ⟨some 143,_,_,_,_,_⟩) (v := undef) rfl (Or.inr ⟨by rfl,rfl⟩) (by assumption) ?_
        try simp only [ζp]
        refine ζt (i := 5) (oi := ⟨some 144,_,_,_,_,_⟩) (v := undef) rfl (Or.inr ⟨by rfl,rfl⟩) (by assumption) ?_
        try simp only [ζp]
        refine ζt (i := 6) (oi := ⟨some 145,_,_,_,_,_⟩) (v := undef) rfl (Or.inr ⟨by rfl,rfl⟩) (by assumption) ?_
        try simp only [ζp]
        refine ζt (i := 7) (oi := ⟨some 146,_,_,_,_,_⟩) (v := undef) rfl (Or.inr ⟨by rfl,rfl⟩) (by assumption) ?_
        try simp only [ζp]
        refine ζt (i := 8) (oi := ⟨some 147,_,_,_,_,_⟩) (v := undef) rfl (Or.inr ⟨by rfl,rfl⟩) (by assumption) ?_
        try simp only [ζp]
        refine ζt (i := 9) (oi := ⟨some 148,_,_,_,_,_⟩) (v := undef) rfl (Or.inr ⟨by rfl,rfl⟩) (by assumption) ?_
        try simp only [ζp]
        refine ζt (i := 10) (oi := ⟨some 149,_,_,_,_,_⟩) (v := undef) rfl (Or.inr ⟨by rfl,rfl⟩) (by assumption) ?_
        try simp only [ζp]
        refine ζt (i := 11) (oi := ⟨some 150,_,_,_,_,_⟩) (v := undef) rfl (Or.inr ⟨by rfl,rfl⟩) (by assumption) ?_
        try simp only [ζp]
        refine ζt (i := 12) (oi := ⟨some 151,_,_,_,_,_⟩) (v := undef) rfl (Or.inr ⟨by rfl,rfl⟩) (by assumption) ?_
        try simp only [ζp]
        refine ζt (i := 13) (oi := ⟨some 152,_,_,_,_,_⟩) (v := ?_) rfl (Or.inl ⟨by rfl,?_⟩) (by assumption) ?_
        rotate_left
        ·(intro w' hSw;(try dsimp only at hSw);go_simp;try with_reducible rfl)
        try simp only [ζp]
        refine wpAnyH_done (by kernel_rfl) ?_ _
        go_wp2
        go_roundw
        case rel => exact ⟨n + 1,by omega,by go_num,HQ2,ζ HB7.out.drew⟩
        case measure => simp [intOf];omega
       | some fc =>
        have ke := fillKnown hfl (HAT.out.up (((ζb wr.heap.size wr).alloc (ζn _) (.cells #[.bool false,.string a.name,.slice ta4 a.terms.length tc4] 78)))) (HBR.out.up ((HBI.out.alloc HBI.out.size (.cells #[.bool false,.string a.name,.slice ta4 a.terms.length tc4] 78)))) (by omega) (by omega)
        rw [hng] at ke
        have KE := ζ ke
        clear ke
        go_wp2_with (go_at_call 31;refine (KE.out).mono ?_;rintro e w6 ⟨⟨fa6,fc6,rfl,hr6⟩,hb6⟩;have HB6 := ζ ((HBI.out.alloc HBI.out.size (.cells #[.bool false,.string a.name,.slice ta4 a.terms.length tc4] 78)).trans (hb6.mono (HBI.out.alloc HBI.out.size (.cells #[.bool false,.string a.name,.slice ta4 a.terms.length tc4] 78)).size));have HB7 := ζ (HB6.out.alloc HB6.out.size (.cells #[.string fc.name,.slice fa6 fc.args.length fc6] 27));have HCP7 := ζ ((HCP.out.below hb6 HCP.out.lt).alloc (.cells #[.string fc.name,.slice fa6 fc.args.length fc6] 27));have HF7 := ζ (Blk.new w6 27 #[.string fc.name,.slice fa6 fc.args.length fc6]);have k0 := HCP7.out.cell 0;simp only [List.getElem?_toArray,List.getElem?_cons_zero] at k0;have HR6 := ζ (hr6.up ((ζb w6.heap.size w6).alloc (ζn _) (.cells #[.string fc.name,.slice fa6 fc.args.length fc6] 27)));clear hr6;clear hb6)
        clear hng hfl
        refine wp_region_held_drew (S := (fun w' => w'.cell? ⟨wr.heap.size,0,none⟩ = some (.bool false))) (by kernel_rfl) ?_ (fun hHeld => ?_)
        ·exact k0
        refine ζt (i := 0) (oi := ⟨some 139,_,_,_,_,_⟩) (v := ?_) rfl (Or.inl ⟨by rfl,?_⟩) (by assumption) ?_
        rotate_left
        ·(intro w' hSw;(try dsimp only at hSw);go_simp;try with_reducible rfl)
        try simp only [ζp]
        refine ζt (i := 1) (oi := ⟨some 140,_,_,_,_,_⟩) (v := ?_) rfl (Or.inl ⟨by rfl,?_⟩) (by assumption) ?_
        rotate_left
        ·(intro w' hSw;(try dsimp only at hSw);go_simp;try with_reducible rfl)
        try simp only [ζp]
        refine ζt (i := 2) (oi := ⟨some 141,_,_,_,_,_⟩) (v := ?_) rfl (Or.inl ⟨by rfl,?_⟩) (by assumption) ?_
        rotate_left
        ·(intro w' hSw;(try dsimp only at hSw);go_simp;try with_reducible rfl)
        try simp only [ζp]
        refine ζt (i := 3) (oi := ⟨some 142,_,_,_,_,_⟩) (v := undef) rfl (Or.inr ⟨by rfl,rfl⟩) (by assumption) ?_
        try simp only [ζp]
        refine ζt (i := 4) (oi := ⟨some 143,_,_,_,_,_⟩) (v := undef) rfl (Or.inr ⟨by rfl,rfl⟩) (by assumption) ?_
        try simp only [ζp]
        refine ζt (i := 5) (oi := ⟨some 144,_,_,_,_,_⟩) (v := undef) rfl (Or.inr ⟨by rfl,rfl⟩) (by assumption) ?_
        try simp only [ζp]
        refine ζt (i := 6) (oi := ⟨some 145,_,_,_,_,_⟩) (v := undef) rfl (Or.inr ⟨by rfl,rfl⟩) (by assumption) ?_
        try simp only [ζp]
        refine ζt (i := 7) (oi := ⟨some 146,_,_,_,_,_⟩) (v := undef) rfl (Or.inr ⟨by rfl,rfl⟩) (by assumption) ?_
        try simp only [ζp]
        refine ζt (i := 8) (oi := ⟨some 147,_,_,_,_,_⟩) (v := undef) rfl (Or.inr ⟨by rfl,rfl⟩) (by assumption) ?_
        try simp only [ζp]
        refine ζt (i := 9) (oi := ⟨some 148,_,_,_,_,_⟩) (v := undef) rfl (Or.inr ⟨by rfl,rfl⟩) (by assumption) ?_
        try simp only [ζp]
        refine ζt (i := 10) (oi := ⟨some 149,_,_,_,_,_⟩) (v := undef) rfl (Or.inr ⟨by rfl,rfl⟩) (by assumption) ?_
        try simp only [ζp]
        refine ζt (i := 11) (oi := ⟨some 150,_,_,_,_,_⟩) (v := undef) rfl (Or.inr ⟨by rfl,rfl⟩) (by assumption) ?_
        try simp only [ζp]
        refine ζt (i := 12) (oi := ⟨some 151,_,_,_,_,_⟩) (v := undef) rfl (Or.inr ⟨by rfl,rfl⟩) (by assumption) ?_
        try simp only [ζp]
        refine ζt (i := 13) (oi := ⟨some 152,_,_,_,_,_⟩) (v := ?_) rfl (Or.inl ⟨by rfl,?_⟩) (by assumption) ?_
        rotate_left
        ·(intro w' hSw;(try dsimp only at hSw);go_simp;try with_reducible rfl)
        try simp only [ζp]
        refine wpAnyH_done (by kernel_rfl) ?_ _
        go_wp2
        go_roundw
        case rel => exact ⟨n + 1,by omega,by go_num,HQ2,ζ HB7.out.drew⟩
        case measure => simp [intOf];omega
      | true =>
       rw [hng] at a0 HCP c0
       cases hfl : fillP a bs with
       | none =>
        have HE := ζ (show R = 10 from H3.out (List.any_eq_true.2 ⟨a,HAM.out,bad_none hng hfl⟩))
        have ke := fillMiss hfl (HAT.out.up (((ζb wr.heap.size wr).alloc (ζn _) (.cells #[.bool true,.string a.name,.slice ta4 a.terms.length tc4] 78)))) (HBR.out.up ((HBI.out.alloc HBI.out.size (.cells #[.bool true,.string a.name,.slice ta4 a.terms.length tc4] 78)))) (by omega) (by omega)
        rw [hng] at ke
        have KE := ζ ke
        clear ke
        go_wp2_with (go_at_call 31;refine (KE.out).mono ?_;rintro e w6 ⟨rfl,hb6⟩;have HB6 := ζ ((HBI.out.alloc HBI.out.size (.cells #[.bool true,.string a.name,.slice ta4 a.terms.length tc4] 78)).trans (hb6.mono (HBI.out.alloc HBI.out.size (.cells #[.bool true,.string a.name,.slice ta4 a.terms.length tc4] 78)).size));have HB7 := ζ (HB6.out.alloc HB6.out.size (.cells #[.string ⟨#[]⟩,.slice none 0 0] 27));have HCP7 := ζ ((HCP.out.below hb6 HCP.out.lt).alloc (.cells #[.string ⟨#[]⟩,.slice none 0 0] 27));have HF7 := ζ (Blk.new w6 27 #[.string ⟨#[]⟩,.slice none 0 0]);have k0 := HCP7.out.cell 0;simp only [List.getElem?_toArray,List.getElem?_cons_zero] at k0;clear hb6)
        clear hng hfl
        refine wp_region_held_drew (S := (fun w' => w'.cell? ⟨wr.heap.size,0,none⟩ = some (.bool true))) (by kernel_rfl) ?_ (fun hHeld => ?_)
        ·exact k0
        refine ζt (i := 0) (oi := ⟨some 139,_,_,_,_,_⟩) (v := ?_) rfl (Or.inl ⟨by rfl,?_⟩) (by assumption) ?_
        rotate_left
        ·(intro w' hSw;(try dsimp only at hSw);go_simp;try with_reducible rfl)
        try simp only [ζp]
        refine ζt (i := 1) (oi := ⟨some 140,_,_,_,_,_⟩) (v := ?_) rfl (Or.inl ⟨by rfl,?_⟩) (by assumption) ?_
        rotate_left
        ·(intro w' hSw;(try dsimp only at hSw);go_simp;try with_reducible rfl)
        try simp only [ζp]
        refine ζt (i := 2) (oi := ⟨some 141,_,_,_,_,_⟩) (v := ?_) rfl (Or.inl ⟨by rfl,?_⟩) (by assumption) ?_
        rotate_left
        ·(intro w' hSw;(try dsimp only at hSw);go_simp;try with_reducible rfl)
        try simp only [ζp]
        refine ζt (i := 3) (oi := ⟨some 142,_,_,_,_,_⟩) (v := ?_) rfl (Or.inl ⟨by rfl,?_⟩) (by assumption) ?_
        rotate_left
        ·(intro w' hSw;(try dsimp only at hSw);go_simp;try with_reducible rfl)
        try simp only [ζp]
        refine ζt (i := 4) (oi := ⟨some 143,_,_,_,_,_⟩) (v := ?_) rfl (Or.inl ⟨by rfl,?_⟩) (by assumption) ?_
        rotate_left
        ·(intro w' hSw;(try dsimp only at hSw);go_simp;try with_reducible rfl)
        try simp only [ζp]
        refine ζt (i := 5) (oi := ⟨some 144,_,_,_,_,_⟩) (v := ?_) rfl (Or.inl ⟨by rfl,?_⟩) (by assumption) ?_
        rotate_left
        ·(intro w' hSw;(try dsimp only at hSw);go_simp;try with_reducible rfl)
        try simp only [ζp]
        refine ζt (i := 6) (oi := ⟨some 145,_,_,_,_,_⟩) (v := undef) rfl (Or.inr ⟨by rfl,rfl⟩) (by assumption) ?_
        try simp only [ζp]
        refine ζt (i := 7) (oi := ⟨some 146,_,_,_,_,_⟩) (v := undef) rfl (Or.inr ⟨by rfl,rfl⟩) (by assumption) ?_
        try simp only [ζp]
        refine ζt (i := 8) (oi := ⟨some 147,_,_,_,_,_⟩) (v := undef) rfl (Or.inr ⟨by rfl,rfl⟩) (by assumption) ?_
        try simp only [ζp]
        refine ζt (i := 9) (oi := ⟨some 148,_,_,_,_,_⟩) (v := undef) rfl (Or.inr ⟨by rfl,rfl⟩) (by assumption) ?_
        try simp only [ζp]
        refine ζt (i := 10) (oi := ⟨some 149,_,_,_,_,_⟩) (v := undef) rfl (Or.inr ⟨by rfl,rfl⟩) (by assumption) ?_
        try simp only [ζp]
        refine ζt (i := 11) (oi := ⟨some 150,_,_,_,_,_⟩) (v := undef) rfl (Or.inr ⟨by rfl,rfl⟩) (by assumption) ?_
        try simp only [ζp]
        refine ζt (i := 12) (oi := ⟨some 151,_,_,_,_,_⟩) (v := ?_) rfl (Or.inl ⟨by rfl,?_⟩) (by assumption) ?_
        rotate_left
        ·(intro w' hSw;(try dsimp only at hSw);go_simp;try with_reducible rfl)
        try simp only [ζp]
        refine ζt (i := 13) (oi := ⟨some 152,_,_,_,_,_⟩) (v := ?_) rfl (Or.inl ⟨by rfl,?_⟩) (by assumption) ?_
        rotate_left
        ·(intro w' hSw;(try dsimp only at hSw);go_simp;try with_reducible rfl)
        try simp only [ζp]
        refine wpAnyH_done (by kernel_rfl) ?_ _
        go_wp2
        go_ret
        refine ⟨?_,HB.out.trans ((HB7.out.drew).mono HB.out.size)⟩
        rw [HE.out]
        rfl
       | some fc =>
        have HBB := ζ (bad_some (M := M) hng hfl)
        have ke := fillKnown hfl (HAT.out.up (((ζb wr.heap.size wr).alloc (ζn _) (.cells #[.bool true,.string a.name,.slice ta4 a.terms.length tc4] 78)))) (HBR.out.up ((HBI.out.alloc HBI.out.size (.cells #[.bool true,.string a.name,.slice ta4 a.terms.length tc4] 78)))) (by omega) (by omega)
        rw [hng] at ke
        have KE := ζ ke
        clear ke
        go_wp2_with (go_at_call 31;refine (KE.out).mono ?_;rintro e w6 ⟨⟨fa6,fc6,rfl,hr6⟩,hb6⟩;have HB6 := ζ ((HBI.out.alloc HBI.out.size (.cells #[.bool true,.string a.name,.slice ta4 a.terms.length tc4] 78)).trans (hb6.mono (HBI.out.alloc HBI.out.size (.cells #[.bool true,.string a.name,.slice ta4 a.terms.length tc4] 78)).size));have HB7 := ζ (HB6.out.alloc HB6.out.size (.cells #[.string fc.name,.slice fa6 fc.args.length fc6] 27));have HCP7 := ζ ((HCP.out.below hb6 HCP.out.lt).alloc (.cells #[.string fc.name,.slice fa6 fc.args.length fc6] 27));have HF7 := ζ (Blk.new w6 27 #[.string fc.name,.slice fa6 fc.args.length fc6]);have k0 := HCP7.out.cell 0;simp only [List.getElem?_toArray,List.getElem?_cons_zero] at k0;have HR6 := ζ (hr6.up ((ζb w6.heap.size w6).alloc (ζn _) (.cells #[.string fc.name,.slice fa6 fc.args.length fc6] 27)));clear hr6;clear hb6)
        clear hng hfl
        have HB8 := ζ (show Below w.heap.size w _ from HB.out.trans ((HB7.out.drew).mono HB.out.size))
        have KI := ζ (KM.out _ HB8.out _ fc (HR6.out.up (ζb _ _).drew))
        have k1 := (HC.out.below (HB.out.trans (HB7.out.mono HB.out.size)) HC.out.lt).cell 2;have k2 := HF7.out.cell 0;have k3 := HF7.out.cell 1
        simp only [ζc] at k1 k2 k3
        cases hmm : memF fc M with
        | true =>
         rw [hmm] at KI
         have HE := ζ (show R = 10 from H3.out (List.any_eq_true.2 ⟨a,HAM.out,by rw [HBB.out,hmm]⟩))
         clear hmm
         go_region_held3 (fun w' => w'.cell? ⟨wr.heap.size,0,none⟩ = some (.bool true) ∧ w'.cell? ⟨C,2,none⟩ = some (.slice ma M.length mc) ∧ w'.cell? ⟨w6.heap.size,0,none⟩ = some (.string fc.name) ∧ w'.cell? ⟨w6.heap.size,1,none⟩ = some (.slice fa6 fc.args.length fc6))
          (first | (with_reducible exact ⟨g0,g1,g2,g3⟩) | (with_reducible exact ⟨k0,k1,k2,k3⟩) | go_keep)
          (first | (go_at_call 17;(with_reducible refine (KI.out).mono ?_);rintro e w9 ⟨rfl,hf9⟩;have HB9 := ζ (HB7.out.drew.trans (hf9.below.mono HB7.out.drew.size));have HC9 := ζ (HCP7.out.drew.below hf9.below HCP7.out.lt);have HF9 := ζ (HF7.out.drew.below hf9.below HF7.out.lt);have g0 := HC9.out.cell 0;have g2 := HF9.out.cell 0;have g3 := HF9.out.cell 1;have g1 := (HC.out.below (HB.out.trans (HB9.out.mono HB.out.size)) HC.out.lt).cell 2;simp only [ζc] at g0 g1 g2 g3;clear hf9))
         go_wp2
         go_ret
         refine ⟨?_,HB.out.trans (HB9.out.mono HB.out.size)⟩
         rw [HE.out]
         rfl
        | false =>
         rw [hmm] at KI
         have HQ2 := ζ (show (r.body.take (n + 1)).any (badNeg M bs) = false by rw [HQ1.out,HQ.out,HBB.out,hmm];rfl)
         clear hmm
         go_region_held3 (fun w' => w'.cell? ⟨wr.heap.size,0,none⟩ = some (.bool true) ∧ w'.cell? ⟨C,2,none⟩ = some (.slice ma M.length mc) ∧ w'.cell? ⟨w6.heap.size,0,none⟩ = some (.string fc.name) ∧ w'.cell? ⟨w6.heap.size,1,none⟩ = some (.slice fa6 fc.args.length fc6))
          (first | (with_reducible exact ⟨g0,g1,g2,g3⟩) | (with_reducible exact ⟨k0,k1,k2,k3⟩) | go_keep)
          (first | (go_at_call 17;(with_reducible refine (KI.out).mono ?_);rintro e w9 ⟨rfl,hf9⟩;have HB9 := ζ (HB7.out.drew.trans (hf9.below.mono HB7.out.drew.size));have HC9 := ζ (HCP7.out.drew.below hf9.below HCP7.out.lt);have HF9 := ζ (HF7.out.drew.below hf9.below HF7.out.lt);have g0 := HC9.out.cell 0;have g2 := HF9.out.cell 0;have g3 := HF9.out.cell 1;have g1 := (HC.out.below (HB.out.trans (HB9.out.mono HB.out.size)) HC.out.lt).cell 2;simp only [ζc] at g0 g1 g2 g3;clear hf9))
         go_wp2
         go_roundw
         case rel => exact ⟨n + 1,by omega,by go_num,HQ2,HB9⟩
         case measure => simp [intOf];omega
     ·obtain rfl : n = r.body.length := by omega
      have HQE := ζ (show R = firstErr c ks from H4.out (by have := HQ.out;rwa [List.take_of_length_le (ζn _)] at this))
      have x3 := (HX.out.up HBW.out).c3
      obtain ⟨wi,hwi⟩ : ∃ wi : World,wi = wr := ⟨_,rfl⟩
      subst hwi
      have HQ0 := ζ (show firstErr c (ks.drop 0) = R from HQE.out.symm)
      clear HQE H3 H4 HQ HBI HBR HL
      go_wp2
      go_loopw [159] (fun i wr => ∃ n : Nat,n ≤ ks.length ∧ i = .int .i64 n ∧ Hid (firstErr c (ks.drop n) = R) ∧ Hid (Below w.heap.size w wr)) (fun i _ => ks.length - (intOf i).toNat)
      case atStart => exact ⟨0,Nat.zero_le _,rfl,HQ0,HBW⟩
      case round =>
       clear HQ0 HBW x3
       obtain ⟨n,hn,rfl,HQ,HBW⟩ := hrel
       have x3 := (HX.out.up HBW.out).c3
       by_cases hlt3 : n < ks.length
       ·obtain ⟨kd,hkd⟩ : ∃ kd,ks[n]? = some kd := ⟨_,ζe hlt3⟩
        obtain ⟨b5,o5,av5,kv5,rfl,-,-,KC⟩ := HK.out n kd hkd
        have KE := ζ (KC wr HBW.out)
        have HF := ζ (show (if c kd ≠ 0 then c kd else firstErr c (ks.drop (n + 1))) = R by have h1 := HQ.out;rwa [drop_get hkd] at h1)
        have hn0 : (0 : Int) ≤ (n : Int) := by omega
        have hn1 : (n : Int) < (ks.length : Int) := by omega
        clear hkd KC HQ
        generalize c kd = ck at *
        by_cases hck : ck = 0
        ·subst hck
         have HQ1 := ζ (show firstErr c (ks.drop (n + 1)) = R from HF.out)
         go_wp2_with (go_at_call 12;refine (KE.out).mono ?_;rintro e w6 ⟨rfl,hb6⟩;have HB6 := ζ (HBW.out.trans (hb6.mono HBW.out.size));clear hb6)
         go_roundw
         case rel => exact ⟨n + 1,by omega,by go_num,HQ1,HB6⟩
         case measure => simp [intOf];omega
        ·have HE := ζ (show R = ck by have h1 := HF.out;rw [if_pos hck] at h1;exact h1.symm)
         have g1 : (ck != 0) = true := by simpa using hck
         clear hck
         go_wp2_with (go_at_call 12;refine (KE.out).mono ?_;rintro e w6 ⟨rfl,hb6⟩;have HB6 := ζ (HBW.out.trans (hb6.mono HBW.out.size));clear hb6)
         go_ret
         refine ⟨?_,HB6.out⟩
         rw [HE.out]
         rfl
       ·have HE := ζ (show R = 0 by have h1 := HQ.out;rw [List.drop_eq_nil_of_le (by omega)] at h1;exact h1.symm)
        go_wp2
        go_ret
        refine ⟨?_,HBW.out⟩
        rw [HE.out]
        rfl
end
section
theorem goP_short {pick : Nat → List PFact} {c : Nat} : ∀ (body : List PAtom) (i : Nat) (ls out : List Binds),goP pick i ls body = some out → (∀ l ∈ ls,l.length ≤ c) → (∀ a ∈ body,a.terms.length ≤ 4) → ∀ m ∈ out,m.length ≤ c + 4 * body.length
 | [],i,ls,out,h,hc,_,m,hm => by
  obtain rfl := Option.some.inj h
  have := hc m hm
  simp only [List.length_nil];omega
 | a :: b,i,ls,out,h,hc,ht,m,hm => by
  rw [goP] at h
  split at h
  ·have := goP_short b (i + 1) ls out h hc (fun x hx => ht x (by simp [hx])) m hm
   simp only [List.length_cons];omega
  ·split at h
   ·cases h
   ·have h1 := ht a (by simp)
    have := goP_short (c := c + a.terms.length) b (i + 1) _ out h (stepP_short hc) (fun x hx => ht x (by simp [hx])) m hm
    simp only [List.length_cons];omega
theorem goP_count {pick : Nat → List PFact} : ∀ (body : List PAtom) (i : Nat) (ls out : List Binds),goP pick i ls body = some out → ls.length ≤ 20000 → out.length ≤ 20000
 | [],i,ls,out,h,hc => by obtain rfl := Option.some.inj h;exact hc
 | a :: b,i,ls,out,h,hc => by
  rw [goP] at h
  split at h
  ·exact goP_count b (i + 1) ls out h hc
  ·split at h
   ·cases h
   ·exact goP_count b (i + 1) _ out h (by omega)
theorem notP_count {pick : Nat → List PFact} : ∀ (body : List PAtom) (i : Nat) (ls : List Binds),(notP pick i ls body).length ≤ ls.length
 | [],i,ls => ζn _
 | a :: b,i,ls => by
  rw [notP]
  refine Nat.le_trans (notP_count b (i + 1) _) ?_
  split
  ·exact List.length_filter_le _ _
  ·exact ζn _
theorem addC_count {α : Type} [DecidableEq α] {c : α → α → Int} (f : α) : ∀ l : List α,(addC c f l).length ≤ l.length + 1
 | [] => ζn _
 | g :: l => by
  unfold addC
  split
  ·simp
  ·split
   ·simp
   ·have := addC_count (c := c) f l
    simp only [List.length_cons];omega
theorem ofC_count {α : Type} [DecidableEq α] {c : α → α → Int} : ∀ l : List α,(ofC c l).length ≤ l.length
 | [] => ζn _
 | f :: l => by
  have h1 := addC_count (c := c) f (ofC c l)
  have h2 := ofC_count (c := c) l
  show (addC c f (ofC c l)).length ≤ _
  simp only [List.length_cons];omega
theorem with_short (body : List PAtom) (facts : List PFact) (at' : Int) (other : List PFact) : (withP body facts at' other).1.length ≤ 20000 ∧ ∀ m ∈ (withP body facts at' other).1,m.length ≤ 20 := by
 unfold withP
 by_cases h1 : bodyBad body = 0
 case neg => rw [if_pos h1];simp
 rw [if_neg (by simpa using h1)]
 by_cases h2 : (setF facts).1 = 0
 case neg => rw [if_pos h2];simp
 rw [if_neg (by simpa using h2)]
 by_cases h3 : (setF other).1 = 0
 case neg => rw [if_pos h3];simp
 rw [if_neg (by simpa using h3)]
 cases hg : goP (pickP facts other at') 0 [[]] body with
 | none => simp
 | some ls =>
  have g1 := goP_count body 0 _ _ hg (by simp)
  have g2 := goP_short (c := 0) body 0 _ _ hg (by simp) (fun a ha => body_terms h1 ha)
  have g3 := notP_count (pick := pickP facts other at') body 0 ls
  have g4 := body_atoms h1
  dsimp only
  refine ⟨?_,fun m hm => ?_⟩
  ·have := ofC_count (c := cmpBinds) ((notP (pickP facts other at') 0 ls body).map (ofC cmpBind))
   rw [List.length_map] at this
   unfold tidyP
   omega
  ·obtain ⟨l,hl,rfl⟩ := mem_tidyP.1 hm
   have h5 := ofC_count (c := cmpBind) l
   have h6 := g2 l ((mem_notP body 0 ls l).1 hl).1
   omega
theorem all_short (body : List PAtom) (facts : List PFact) : (allP body facts).1.length ≤ 20000 ∧ ∀ m ∈ (allP body facts).1,m.length ≤ 20 := with_short _ _ _ _
end
end Go.Proofs.YtdngkcieckejoaaGreat
