/-
  THE WALK OF (*proof.finder).rule.
-/
import Derived.Test.YtdngkcieckejoaaGreatPk3
import Derived.Test.YtdngkcieckejoaaGreatPk13
namespace Go.Proofs.YtdngkcieckejoaaGreat
open Go.RowKit
theorem subT_var {b : Binds} {t : PTerm} {n : Str} (h : t.var = true) (hg : getB t.name b = some n) : subT b t = ⟨false,n⟩ := by unfold subT;rw [if_pos h,hg]
theorem subT_free {b : Binds} {t : PTerm} (h : t.var = true) (hg : getB t.name b = none) : subT b t = t := by unfold subT;rw [if_pos h,hg]
theorem subT_name {b : Binds} {t : PTerm} (h : t.var = false) : subT b t = t := by unfold subT;rw [if_neg (by rw [h];simp)]
theorem map_snoc {α β : Type} {g : α → β} {l : List α} {k : Nat} {x : α} (h : l[k]? = some x) : (l.take (k + 1)).map g = (l.take k).map g ++ [g x] := by rw [List.take_add_one,h,List.map_append];rfl
def RulePost (r : Option (List PFact)) (w : World) (e : Ending) (w' : World) : Prop :=
 Below w.heap.size w w' ∧ match r with
  | none => e = .returned (.tuple #[.slice none 0 0,.bool false])
  | some ks => ∃ a c,e = .returned (.tuple #[.slice a ks.length c,.bool true]) ∧ RdFacts (New w) w' (.slice a ks.length c) ks
theorem rule_none {r : Option (List PFact)} {w w' : World} (h : r = none) (hb : Below w.heap.size w w') : RulePost r w (.returned (.tuple #[.slice none 0 0,.bool false])) w' := by subst h;exact ⟨hb,rfl⟩
theorem rule_some {r : Option (List PFact)} {ks : List PFact} {a : Option Addr} {c : Nat} {w w' : World} (h : r = some ks) (hb : Below w.heap.size w w') (hr : RdFacts (New w) w' (.slice a ks.length c) ks) : RulePost r w (.returned (.tuple #[.slice a ks.length c,.bool true])) w' := by subst h;exact ⟨hb,a,c,rfl,hr⟩
theorem meetL_names : ∀ (ts : List PTerm) (ns : List Str) (l m : Binds),meetL l ts ns = some m → ∀ z ∈ m,z ∈ l ∨ z.name ∈ ns
 | [],ns,l,m,h,z,hz => by
  have h' : some l = some m := h
  obtain rfl := Option.some.inj h'
  exact .inl hz
 | t :: ts,[],l,m,h,z,hz => by
  have h' : (none : Option Binds) = some m := h
  cases h'
 | t :: ts,n :: ns,l,m,h,z,hz => by
  rw [meetL] at h
  cases hv : valT l t with
  | none =>
   rw [hv] at h
   rcases meetL_names ts ns _ m h z hz with h1 | h1
   ·rcases List.mem_append.1 h1 with h2 | h2
    ·exact .inl h2
    ·rw [List.mem_singleton.1 h2];exact .inr (by simp)
   ·exact .inr (by simp [h1])
  | some y =>
   rw [hv] at h
   dsimp only at h
   split at h
   ·rcases meetL_names ts ns _ m h z hz with h1 | h1
    ·exact .inl h1
    ·exact .inr (by simp [h1])
   ·cases h
theorem meetP_names {a : PAtom} {f : PFact} {m : Binds} (h : meetP a f [] = some m) {v n : Str} (hg : getB v m = some n) : n ∈ f.args := by
 unfold meetP at h
 split at h
 ·rcases meetL_names _ _ _ _ h _ (getB_mem hg) with h1 | h1
  ·simp at h1
  ·exact h1
 ·cases h
theorem sub_small {s : Binds} {r : PRule} {f : PFact} (hm : meetP r.head f [] = some s) (hs : RuleSmall r) (hf : ∀ n ∈ f.args,named n = true) : ∀ a ∈ subBody s r.body,∀ t ∈ a.terms,t.name.size ≤ 1048576 := fun a ha t ht => by
 obtain ⟨y,hy,rfl⟩ := List.mem_map.1 ha
 obtain ⟨z,hz,rfl⟩ := List.mem_map.1 ht
 have h0 := hs.b2 y hy z hz
 unfold subT
 split
 ·split
  ·rename_i n hg
   exact Nat.le_trans (named_size (hf n (meetP_names hm hg))) (by decide)
  ·exact h0
 ·exact h0
theorem kidsOf_snoc {l : List PAtom} {b : Binds} {k : Nat} {a : PAtom} (h : l[k]? = some a) : kidsOf (l.take (k + 1)) b = kidsOf (l.take k) b ++ (if a.neg then none else fillP a b).toList := by
 unfold kidsOf
 rw [List.take_add_one,h,List.filterMap_append]
 simp only [Option.toList]
 cases hf : (if a.neg then none else fillP a b) <;> simp [hf]
theorem kidsOf_neg {l : List PAtom} {b : Binds} {k : Nat} {a : PAtom} (h : l[k]? = some a) (hn : a.neg = true) : kidsOf (l.take (k + 1)) b = kidsOf (l.take k) b := by rw [kidsOf_snoc h,if_pos hn];simp
theorem kidsOf_pos {l : List PAtom} {b : Binds} {k : Nat} {a : PAtom} {x : PFact} (h : l[k]? = some a) (hn : a.neg = false) (hf : fillP a b = some x) : kidsOf (l.take (k + 1)) b = kidsOf (l.take k) b ++ [x] := by rw [kidsOf_snoc h,if_neg (by rw [hn];simp),hf];rfl
theorem kidsOf_le (l : List PAtom) (b : Binds) (k : Nat) : (kidsOf (l.take k) b).length ≤ k := filterMap_le _ _ _
theorem agree_drew {S : Nat → Prop} {w w' : World} (h : Agree S w w') : Agree S w w'.drew := h
theorem find_hit {α : Type} {l : List α} {n : Nat} {x : α} {P : α → Bool} (h : l[n]? = some x) (hp : P x = true) : (l.drop n).find? P = some x := by rw [drop_get h,List.find?_cons,hp]
theorem find_miss {α : Type} {l : List α} {n : Nat} {x : α} {P : α → Bool} (h : l[n]? = some x) (hp : P x = false) : (l.drop n).find? P = (l.drop (n + 1)).find? P := by rw [drop_get h,List.find?_cons,hp]
theorem ruleG_none {age : Str → Option Int} {M : List PFact} {r : PRule} {f : PFact} (h : meetP r.head f [] = none) : ruleG age M r f = none := by unfold ruleG;rw [h]
theorem ruleG_some {age : Str → Option Int} {M : List PFact} {r : PRule} {f : PFact} {s : Binds} (h : meetP r.head f [] = some s) : ruleG age M r f = if (allP (subBody s r.body) M).2 ≠ 0 then none else ((allP (subBody s r.body) M).1.find? fun b => (kidsOf (subBody s r.body) b).all (olderP age f)).map (kidsOf (subBody s r.body)) := by unfold ruleG;rw [h]
attribute [local go_sem ↓] Go.wp_at_zero Go.wp_at_succ
set_option maxRecDepth 100000 in
set_option maxHeartbeats 0 in
theorem ruleWalk {S S3 : Nat → Prop} (age : Str → Option Int) (N : Nat) (p : List PRule) (M : List PFact) (D C G b off : Nat) (sz : Int) (pv tv mv av : Value) (f : PFact) (rk : Nat) (r : PRule) (w : World)
 (hD : Blk w D 57 #[.pointer (some ⟨C,0,none⟩),.map (some G),.int .i64 sz]) (hC : Blk w C 43 #[pv,tv,mv]) (hG : MapI w G N age) (hp : RdRules S w pv p) (hm : RdFacts S3 w mv M) (hrr : p[rk]? = some r)
 (hb : b < w.heap.size) (hx0 : w.cell? ⟨b,off,none⟩ = some (.string f.name)) (hx1 : w.cell? ⟨b,off + 1,none⟩ = some av) (ha : RdStrs (fun _ => True) w av f.args)
 (hs : RuleSmall r) (hbad : ruleBad r = 0) (hf : wrongF f = 0) (hM : Good M) :
 Calls Tryz.prog 44 #[.pointer (some ⟨D,0,none⟩),.int .i64 (rk : Int),.pointer (some ⟨b,off,none⟩)] w (RulePost (ruleG age M r f) w) := by
 obtain ⟨pa,pc,rfl,-,-,-⟩ := id hp.form
 obtain ⟨ma,mc,rfl,-,-,-⟩ := id hm.form
 obtain ⟨aa,ac,rfl,-,-,-⟩ := id ha.form
 have hlt : rk < p.length := (List.getElem?_eq_some_iff.1 hrr).1
 have g1 : (rk : Int) < (p.length : Int) := by omega
 have g0 : (0 : Int) ≤ (rk : Int) := by omega
 obtain ⟨b1,o1,tv1,bv1,rfl,-,hb1,r0,r1,r2,r3,hrt,hrb⟩ := hp.at hrr
 obtain ⟨ta1,tc1,rfl,-,-,-⟩ := id hrt.form
 obtain ⟨ba1,bc1,rfl,-,-,-⟩ := id hrb.form
 have q0 := hC.cell 0;have q2 := hC.cell 2
 have d0 := hD.cell 0;have d1 := hD.cell 1
 simp only [ζc] at q0 q2 d0 d1
 obtain ⟨-,hfa,hfn⟩ := wrongF_zero.1 hf
 have hfa' : f.args.length ≤ 1048576 := by omega
 obtain ⟨u1,u2,u3⟩ := rules_terms (p := [r]) (fun z hz => by rw [List.mem_singleton.1 hz];exact hbad) r (by simp)
 have HT := ζ hrt
 have HBD := ζ hrb
 have HM := ζ hm
 have HD := ζ hD
 have HC := ζ hC
 have HG := ζ hG
 have HA := ζ ha
 have U3 := ζ u3
 have HR3C := ζ r3
 have HX0 := ζ hx0
 have HX1 := ζ hx1
 have HB3 := ζ (show Below w.heap.size w w.drew from (ζb w.heap.size w).drew)
 have HRS := ζ hs
 have HBAD := ζ hbad
 have hf0 := hf
 clear hrt hrb hm hD hC hG ha u3 hp hrr hbad hf hs
 have HFZ := ζ (show (keyP f).size ≤ maxLen from key_size (named_size (wrongF_zero.1 hf0).1) hfa (fun z hz => named_size (hfn z hz)))
 have HKF := ζ (fun W b off av h0 h1 (h2 : RdStrs (fun _ => True) W av f.args) => keyCalls f b off av W h0 h1 h2 (Nat.le_trans (named_size (wrongF_zero.1 hf0).1) (by decide)) (Nat.le_trans hfa (by decide)) (fun z hz => Nat.le_trans (named_size (hfn z hz)) (by decide)))
 clear hf0
 cases hm0 : meetP r.head f [] with
 | none =>
  have KE := ζ (fun W (hW : Below w.heap.size w W) => meetMiss hm0 (HT.out.up hW) (HA.out.up hW) (RdBinds.nilS (S := fun _ => True)) (by omega) hfa' (by simp))
  have HE := ζ (ruleG_none (age := age) (M := M) hm0)
  clear hm0
  go_enter Tryz.func44,Tryz.ntmps44
  go_wp2
  go_region_held3 (fun w' => w'.cell? ⟨b1,o1 + rk * 4,none⟩ = some (.bool r.head.neg) ∧ w'.cell? ⟨b1,o1 + rk * 4 + 1,none⟩ = some (.string r.head.name) ∧ w'.cell? ⟨b1,o1 + rk * 4 + 2,none⟩ = some (.slice ta1 r.head.terms.length tc1) ∧ w'.cell? ⟨b,off,none⟩ = some (.string f.name) ∧ w'.cell? ⟨b,off + 1,none⟩ = some (.slice aa f.args.length ac))
   (first | (with_reducible exact ⟨k0,k1,k2,k3,k4⟩) | (with_reducible exact ⟨r0,r1,r2,hx0,hx1⟩) | go_keep)
   (first | (go_at_call 30;(with_reducible refine (KE.out _ HB3.out).mono ?_);rintro e w2 ⟨rfl,hb2⟩;have HB2 := ζ (HB3.out.trans (hb2.mono HB3.out.size));have k0 := (ζl HB2.out hb1 _).trans r0;have k1 := (ζl HB2.out hb1 _).trans r1;have k2 := (ζl HB2.out hb1 _).trans r2;have k3 := (ζl HB2.out hb _).trans hx0;have k4 := (ζl HB2.out hb _).trans hx1;clear hb2))
  go_wp2
  go_ret2
  exact rule_none HE.out HB2.out
 | some s =>
 have KE := ζ (fun W (hW : Below w.heap.size w W) => meetKnown hm0 (HT.out.up hW) (HA.out.up hW) (RdBinds.nilS (S := fun _ => True)) (by omega) hfa' (by simp))
 have HRF := ζ (ruleG_some (age := age) (M := M) hm0)
 have hsl := meetP_grow hm0
 simp only [List.length_nil] at hsl
 have HSL := ζ (show s.length ≤ 4 by omega)
 have HSB := ζ (sub_small hm0 HRS.out hfn)
 clear hm0 hsl
 go_enter Tryz.func44,Tryz.ntmps44
 go_wp2
 go_region_held3 (fun w' => w'.cell? ⟨b1,o1 + rk * 4,none⟩ = some (.bool r.head.neg) ∧ w'.cell? ⟨b1,o1 + rk * 4 + 1,none⟩ = some (.string r.head.name) ∧ w'.cell? ⟨b1,o1 + rk * 4 + 2,none⟩ = some (.slice ta1 r.head.terms.length tc1) ∧ w'.cell? ⟨b,off,none⟩ = some (.string f.name) ∧ w'.cell? ⟨b,off + 1,none⟩ = some (.slice aa f.args.length ac))
  (first | (with_reducible exact ⟨k0,k1,k2,k3,k4⟩) | (with_reducible exact ⟨r0,r1,r2,hx0,hx1⟩) | go_keep)
  (first | (go_at_call 30;(with_reducible refine (KE.out _ HB3.out).mono ?_);rintro e w2 ⟨⟨sa,sc,rfl,hbs⟩,hb2⟩;have HB2 := ζ (HB3.out.trans (hb2.mono HB3.out.size));have k0 := (ζl HB2.out hb1 _).trans r0;have k1 := (ζl HB2.out hb1 _).trans r1;have k2 := (ζl HB2.out hb1 _).trans r2;have k3 := (ζl HB2.out hb _).trans hx0;have k4 := (ζl HB2.out hb _).trans hx1;have k5 := (ζl HB2.out hb1 _).trans r3;have HSR := ζ hbs;clear hb2))
 clear hbs
 go_wp2
 have HBL := ζ u2
 clear k0 k1 k2 k3 k4 KE HB3 HT r0 r1 r2 r3 q0 q2 d0 d1 hx0 hx1 g0 g1 u1 u2
 obtain ⟨w3,hw3⟩ : ∃ w3 : World,w3 = w2 := ⟨_,rfl⟩
 subst hw3
 have HI0 := ζ (ζb w3.heap.size w3)
 have HO0 := ζ (show Owned 3 RAtom w3.heap.size 78 (New w3) w3 (.slice none 0 0) ((r.body.take 0).map (subA s)) from Owned.nil)
 go_loopw [56,11] (fun i v wr => ∃ (k : Nat) (bv : Value),k ≤ r.body.length ∧ i = .int .i64 k ∧ bv = v ∧ Hid (Owned 3 RAtom w3.heap.size 78 (New w3) wr bv ((r.body.take k).map (subA s))) ∧ Hid (Below w3.heap.size w3 wr)) (fun i _ _ => r.body.length - (intOf i).toNat)
 case atStart => exact ⟨0,_,Nat.zero_le _,rfl,rfl,HO0,HI0⟩
 case round =>
  clear HO0 HI0 k5
  obtain ⟨k,bv,hk,rfl,rfl,HO,HI⟩ := hrel
  have HBW := ζ (HB2.out.trans (HI.out.mono HB2.out.size))
  by_cases hlt2 : k < r.body.length
  ·obtain ⟨a,ha⟩ : ∃ a,r.body[k]? = some a := ⟨_,ζe hlt2⟩
   obtain ⟨b4,o4,tv4,rfl,-,hb4,a0,a1,a2,hat⟩ := (HBD.out.up HBW.out).at ha
   obtain ⟨ta4,tc4,rfl,-,-,-⟩ := id hat.form
   have ht4 := U3.out a (ζm ha)
   have HSN := ζ (map_snoc (g := subA s) ha)
   have HAT := ζ hat
   obtain ⟨wk,hwk⟩ : ∃ wk : World,wk = wr := ⟨_,rfl⟩
   subst hwk
   have HI1 := ζ (show Below wk.heap.size wk ((wk.alloc (.cells #[.bool a.neg,.string a.name,.slice ta4 a.terms.length tc4] 78)).alloc (.cells #[.bool a.neg,.string a.name,.slice none 0 0] 78)) from ((ζb _ _).alloc (ζn _) _).alloc (by simp) _)
   have HQ1 := ζ (show Blk ((wk.alloc (.cells #[.bool a.neg,.string a.name,.slice ta4 a.terms.length tc4] 78)).alloc (.cells #[.bool a.neg,.string a.name,.slice none 0 0] 78)) (wk.heap.size + 1) 78 #[.bool a.neg,.string a.name,.slice none 0 0] from heap_new_at (by simp))
   have hlo : ((r.body.take k).map (subA s)).length ≤ 5 := by have := HBL.out;simp;omega
   have HTO := ζ (show Owned 2 RTerm (wk.heap.size + 2) 104 (fun _ => False) ((wk.alloc (.cells #[.bool a.neg,.string a.name,.slice ta4 a.terms.length tc4] 78)).alloc (.cells #[.bool a.neg,.string a.name,.slice none 0 0] 78)) (.slice none 0 0) ((a.terms.take 0).map (subT s)) from Owned.nil)
   generalize (r.body.take k).map (subA s) = out at *
   clear hat ha
   go_wp2
   go_loopw [68] (fun i wr => ∃ (j : Nat) (tv : Value),j ≤ a.terms.length ∧ i = .int .i64 j ∧ Hid (Below wk.heap.size wk wr) ∧ Hid (Blk wr (wk.heap.size + 1) 78 #[.bool a.neg,.string a.name,tv]) ∧ Hid (Owned 2 RTerm (wk.heap.size + 2) 104 (fun _ => False) wr tv ((a.terms.take j).map (subT s)))) (fun i _ => a.terms.length - (intOf i).toNat)
   case atStart => exact ⟨0,_,Nat.zero_le _,rfl,HI1,HQ1,HTO⟩
   case round =>
    clear HI1 HQ1 HTO
    obtain ⟨j,tv,hj,rfl,HI1,HQ,HTO⟩ := hrel
    obtain ⟨va,vc,efm,-,-,-⟩ := (HTO.out.read RTerm.steady).form
    subst efm
    have hsz : wk.heap.size + 2 ≤ wr.heap.size := by have := HQ.out.lt;omega
    by_cases hlt3 : j < a.terms.length
    ·obtain ⟨t,hx⟩ : ∃ t,a.terms[j]? = some t := ⟨_,ζe hlt3⟩
     obtain ⟨b7,o7,rfl,-,-,t0,t1⟩ := RdTerms.at (HAT.out.up HI1.out) hx
     have HTN := ζ (map_snoc (g := subT s) hx)
     have hlt4 : ((a.terms.take j).map (subT s)).length ≤ 4 := by simp;omega
     have HBT := ζ (HBW.out.trans (HI1.out.mono HBW.out.size))
     have HI3 := ζ (HI.out.trans (HI1.out.mono HI.out.size))
     clear hx
     generalize (a.terms.take j).map (subT s) = ts at *
     have hsl := HSL.out
     cases hg : getB t.name s with
     | none =>
      cases htv : t.var with
      | false =>
       rw [htv] at t0
       have HTT := ζ (show t = ⟨false,t.name⟩ by rw [← htv])
       have ke := getCalls (.slice sa s.length sc) s t.name (wr.alloc (.cells #[.bool false,.string t.name] 104)) (HSR.out.up ((HI3.out.alloc HI3.out.size (.cells #[.bool false,.string t.name] 104)))) (by omega)
       rw [hg] at ke
       have KE := ζ ke
       have HTS := ζ (subT_name (b := s) htv)
       clear ke htv hg
       go_wp2_with (first | (go_at_call 55;refine (KE.out).mono ?_;rintro e w5 ⟨rfl,hb5⟩;dsimp only [getV];have hb5' := ((ζb wr.heap.size wr).alloc (ζn _) (.cells #[.bool false,.string t.name] 104)).trans (hb5.mono (by simp));have HI5 := ζ (HI1.out.trans (hb5'.mono HI1.out.size));have HQ5 := ζ (HQ.out.below hb5' HQ.out.lt);have HTO5 := ζ (HTO.out.below RTerm.steady hb5');have HT5 := ζ ((Blk.new wr 104 #[.bool false,.string t.name]).below hb5 (Blk.new wr 104 #[.bool false,.string t.name]).lt);have hs5 : wr.heap.size + 1 ≤ w5.heap.size := (by have := hb5.size;simp at this;omega);have k0 := HT5.out.cell 0;have k1 := HT5.out.cell 1;have f0 := HT5.out.frozen 0;have f1 := HT5.out.frozen 1;have m2 := HQ5.out.cell 2;simp only [ζc] at k0 k1 m2;clear hb5 hb5') | (at_builtin;have HTO6 := HTO5;have HQ6 := HQ5;have HI6 := HI5;have HS6 := ζ HI6.out.size;refine wpList_append_one (B := wk.heap.size + 2) (e := 104) (S := fun _ => False) (by rfl) _ _ 76 (by rfl) RTerm.steady rowTerms _ ts (by rfl) (HTO6.out.alloc RTerm.steady _) w5.heap.size 1 #[.bool false,.string t.name] 104 (0,0) ⟨false,t.name⟩ (by rfl) (heap_new_at (by simp)) rfl (by simp [Value.oneCell']) rfl (by omega) (by simp;omega) ?_;intro v7 w7 hown7 hg7 hat7;obtain ⟨a7,c7,rfl,-,-,-⟩ := id (hown7.read RTerm.steady).form;rw [show (ts ++ [(⟨false,t.name⟩ : PTerm)]).length = ts.length + 1 by simp] at hown7;have HO7 := ζ hown7;have HI7 := ζ ((HI6.out.alloc HI6.out.size _).grown hg7 (by have := HS6.out;simp at this ⊢;omega) (fun q hq => by have := (HTO5.out.row_lt hq).1;omega));have HQ7 := ζ ((HQ6.out.alloc _).grown hg7 (fun e => by have := (HTO5.out.row_lt e.symm).1;omega));have g2 : w7.cell? ⟨wk.heap.size + 1,2,none⟩ = some (.slice va ts.length vc) := HQ7.out.cell 2;have y2 := HQ7.out.frozen 2;clear hown7 hg7 hat7))
       go_roundw
       case rel => exact ⟨j + 1,_,by omega,by go_num,ζ (HI7.out.setCell (p := ⟨wk.heap.size + 1,2,none⟩) (by show wk.heap.size ≤ wk.heap.size + 1;omega) _),ζ (HQ7.out.set_ 2 _),ζ (by rw [HTN.out,HTS.out,HTT.out];exact HO7.out.setCell RTerm.steady (p := ⟨wk.heap.size + 1,2,none⟩) (fun h => h) (fun e => by have := (HO7.out.row_lt e).1;have h2 : wk.heap.size + 2 ≤ wk.heap.size + 1 := this;omega) _)⟩
       case measure => simp [intOf];omega
      | true =>
       rw [htv] at t0
       have HTT := ζ (show t = ⟨true,t.name⟩ by rw [← htv])
       have ke := getCalls (.slice sa s.length sc) s t.name (wr.alloc (.cells #[.bool true,.string t.name] 104)) (HSR.out.up ((HI3.out.alloc HI3.out.size (.cells #[.bool true,.string t.name] 104)))) (by omega)
       rw [hg] at ke
       have KE := ζ ke
       have HTS := ζ (subT_free (b := s) htv hg)
       clear ke htv hg
       go_wp2_with (first | (go_at_call 55;refine (KE.out).mono ?_;rintro e w5 ⟨rfl,hb5⟩;dsimp only [getV];have hb5' := ((ζb wr.heap.size wr).alloc (ζn _) (.cells #[.bool true,.string t.name] 104)).trans (hb5.mono (by simp));have HI5 := ζ (HI1.out.trans (hb5'.mono HI1.out.size));have HQ5 := ζ (HQ.out.below hb5' HQ.out.lt);have HTO5 := ζ (HTO.out.below RTerm.steady hb5');have HT5 := ζ ((Blk.new wr 104 #[.bool true,.string t.name]).below hb5 (Blk.new wr 104 #[.bool true,.string t.name]).lt);have hs5 : wr.heap.size + 1 ≤ w5.heap.size := (by have := hb5.size;simp at this;omega);have k0 := HT5.out.cell 0;have k1 := HT5.out.cell 1;have f0 := HT5.out.frozen 0;have f1 := HT5.out.frozen 1;have m2 := HQ5.out.cell 2;simp only [ζc] at k0 k1 m2;clear hb5 hb5') | (at_builtin;have HTO6 := HTO5;have HQ6 := HQ5;have HI6 := HI5;have HS6 := ζ HI6.out.size;refine wpList_append_one (B := wk.heap.size + 2) (e := 104) (S := fun _ => False) (by rfl) _ _ 76 (by rfl) RTerm.steady rowTerms _ ts (by rfl) (HTO6.out.alloc RTerm.steady _) w5.heap.size 1 #[.bool true,.string t.name] 104 (0,0) ⟨true,t.name⟩ (by rfl) (heap_new_at (by simp)) rfl (by simp [Value.oneCell']) rfl (by omega) (by simp;omega) ?_;intro v7 w7 hown7 hg7 hat7;obtain ⟨a7,c7,rfl,-,-,-⟩ := id (hown7.read RTerm.steady).form;rw [show (ts ++ [(⟨true,t.name⟩ : PTerm)]).length = ts.length + 1 by simp] at hown7;have HO7 := ζ hown7;have HI7 := ζ ((HI6.out.alloc HI6.out.size _).grown hg7 (by have := HS6.out;simp at this ⊢;omega) (fun q hq => by have := (HTO5.out.row_lt hq).1;omega));have HQ7 := ζ ((HQ6.out.alloc _).grown hg7 (fun e => by have := (HTO5.out.row_lt e.symm).1;omega));have g2 : w7.cell? ⟨wk.heap.size + 1,2,none⟩ = some (.slice va ts.length vc) := HQ7.out.cell 2;have y2 := HQ7.out.frozen 2;clear hown7 hg7 hat7))
       go_roundw
       case rel => exact ⟨j + 1,_,by omega,by go_num,ζ (HI7.out.setCell (p := ⟨wk.heap.size + 1,2,none⟩) (by show wk.heap.size ≤ wk.heap.size + 1;omega) _),ζ (HQ7.out.set_ 2 _),ζ (by rw [HTN.out,HTS.out,HTT.out];exact HO7.out.setCell RTerm.steady (p := ⟨wk.heap.size + 1,2,none⟩) (fun h => h) (fun e => by have := (HO7.out.row_lt e).1;have h2 : wk.heap.size + 2 ≤ wk.heap.size + 1 := this;omega) _)⟩
       case measure => simp [intOf];omega
     | some n =>
      cases htv : t.var with
      | false =>
       rw [htv] at t0
       have HTT := ζ (show t = ⟨false,t.name⟩ by rw [← htv])
       have ke := getCalls (.slice sa s.length sc) s t.name (wr.alloc (.cells #[.bool false,.string t.name] 104)) (HSR.out.up ((HI3.out.alloc HI3.out.size (.cells #[.bool false,.string t.name] 104)))) (by omega)
       rw [hg] at ke
       have KE := ζ ke
       have HTS := ζ (subT_name (b := s) htv)
       clear ke htv hg
       go_wp2_with (first | (go_at_call 55;refine (KE.out).mono ?_;rintro e w5 ⟨rfl,hb5⟩;dsimp only [getV];have hb5' := ((ζb wr.heap.size wr).alloc (ζn _) (.cells #[.bool false,.string t.name] 104)).trans (hb5.mono (by simp));have HI5 := ζ (HI1.out.trans (hb5'.mono HI1.out.size));have HQ5 := ζ (HQ.out.below hb5' HQ.out.lt);have HTO5 := ζ (HTO.out.below RTerm.steady hb5');have HT5 := ζ ((Blk.new wr 104 #[.bool false,.string t.name]).below hb5 (Blk.new wr 104 #[.bool false,.string t.name]).lt);have hs5 : wr.heap.size + 1 ≤ w5.heap.size := (by have := hb5.size;simp at this;omega);have k0 := HT5.out.cell 0;have k1 := HT5.out.cell 1;have f0 := HT5.out.frozen 0;have f1 := HT5.out.frozen 1;have m2 := HQ5.out.cell 2;simp only [ζc] at k0 k1 m2;clear hb5 hb5') | (at_builtin;have HTO6 := HTO5;have HQ6 := HQ5;have HI6 := HI5;have HS6 := ζ HI6.out.size;refine wpList_append_one (B := wk.heap.size + 2) (e := 104) (S := fun _ => False) (by rfl) _ _ 76 (by rfl) RTerm.steady rowTerms _ ts (by rfl) (HTO6.out.alloc RTerm.steady _) w5.heap.size 1 #[.bool false,.string t.name] 104 (0,0) ⟨false,t.name⟩ (by rfl) (heap_new_at (by simp)) rfl (by simp [Value.oneCell']) rfl (by omega) (by simp;omega) ?_;intro v7 w7 hown7 hg7 hat7;obtain ⟨a7,c7,rfl,-,-,-⟩ := id (hown7.read RTerm.steady).form;rw [show (ts ++ [(⟨false,t.name⟩ : PTerm)]).length = ts.length + 1 by simp] at hown7;have HO7 := ζ hown7;have HI7 := ζ ((HI6.out.alloc HI6.out.size _).grown hg7 (by have := HS6.out;simp at this ⊢;omega) (fun q hq => by have := (HTO5.out.row_lt hq).1;omega));have HQ7 := ζ ((HQ6.out.alloc _).grown hg7 (fun e => by have := (HTO5.out.row_lt e.symm).1;omega));have g2 : w7.cell? ⟨wk.heap.size + 1,2,none⟩ = some (.slice va ts.length vc) := HQ7.out.cell 2;have y2 := HQ7.out.frozen 2;clear hown7 hg7 hat7))
       go_roundw
       case rel => exact ⟨j + 1,_,by omega,by go_num,ζ (HI7.out.setCell (p := ⟨wk.heap.size + 1,2,none⟩) (by show wk.heap.size ≤ wk.heap.size + 1;omega) _),ζ (HQ7.out.set_ 2 _),ζ (by rw [HTN.out,HTS.out,HTT.out];exact HO7.out.setCell RTerm.steady (p := ⟨wk.heap.size + 1,2,none⟩) (fun h => h) (fun e => by have := (HO7.out.row_lt e).1;have h2 : wk.heap.size + 2 ≤ wk.heap.size + 1 := this;omega) _)⟩
       case measure => simp [intOf];omega
      | true =>
       rw [htv] at t0
       have ke := getCalls (.slice sa s.length sc) s t.name (wr.alloc (.cells #[.bool true,.string t.name] 104)) (HSR.out.up ((HI3.out.alloc HI3.out.size (.cells #[.bool true,.string t.name] 104)))) (by omega)
       rw [hg] at ke
       have KE := ζ ke
       have HTS := ζ (subT_var (b := s) htv hg)
       clear ke htv hg
       go_wp2_with (first | (go_at_call 55;refine (KE.out).mono ?_;rintro e w5 ⟨rfl,hb5⟩;dsimp only [getV];have hb5' := ((ζb wr.heap.size wr).alloc (ζn _) (.cells #[.bool true,.string t.name] 104)).trans (hb5.mono (by simp));have HI5 := ζ (HI1.out.trans (hb5'.mono HI1.out.size));have HQ5 := ζ (HQ.out.below hb5' HQ.out.lt);have HTO5 := ζ (HTO.out.below RTerm.steady hb5');have HT5 := ζ ((Blk.new wr 104 #[.bool true,.string t.name]).below hb5 (Blk.new wr 104 #[.bool true,.string t.name]).lt);have hs5 : wr.heap.size + 1 ≤ w5.heap.size := (by have := hb5.size;simp at this;omega);have k0 := HT5.out.cell 0;have k1 := HT5.out.cell 1;have f0 := HT5.out.frozen 0;have f1 := HT5.out.frozen 1;have m2 := HQ5.out.cell 2;simp only [ζc] at k0 k1 m2;clear hb5 hb5') | (at_builtin;have HTO6 := ζ (HTO5.out.setCell RTerm.steady (p := ⟨wr.heap.size,0,none⟩) (fun h => h) (fun e => by have := (HTO.out.row_lt e).2;have h2 : wr.heap.size < wr.heap.size := this;omega) (.bool false) |>.setCell RTerm.steady (p := ⟨wr.heap.size,1,none⟩) (fun h => h) (fun e => by have := (HTO.out.row_lt e).2;have h2 : wr.heap.size < wr.heap.size := this;omega) (.string n));have HQ6 := ζ ((HQ5.out.far (p := ⟨wr.heap.size,0,none⟩) (by show wk.heap.size + 1 ≠ wr.heap.size;omega) (.bool false)).far (p := ⟨wr.heap.size,1,none⟩) (by show wk.heap.size + 1 ≠ wr.heap.size;omega) (.string n));have HI6 := ζ ((HI5.out.setCell (p := ⟨wr.heap.size,0,none⟩) (by show wk.heap.size ≤ wr.heap.size;omega) (.bool false)).setCell (p := ⟨wr.heap.size,1,none⟩) (by show wk.heap.size ≤ wr.heap.size;omega) (.string n));have HS6 := ζ HI6.out.size;refine wpList_append_one (B := wk.heap.size + 2) (e := 104) (S := fun _ => False) (by rfl) _ _ 76 (by rfl) RTerm.steady rowTerms _ ts (by rfl) (HTO6.out.alloc RTerm.steady _) w5.heap.size 1 #[.bool false,.string n] 104 (0,0) ⟨false,n⟩ (by rfl) (heap_new_at (by simp)) rfl (by simp [Value.oneCell']) rfl (by omega) (by simp;omega) ?_;intro v7 w7 hown7 hg7 hat7;obtain ⟨a7,c7,rfl,-,-,-⟩ := id (hown7.read RTerm.steady).form;rw [show (ts ++ [(⟨false,n⟩ : PTerm)]).length = ts.length + 1 by simp] at hown7;have HO7 := ζ hown7;have HI7 := ζ ((HI6.out.alloc HI6.out.size _).grown hg7 (by have := HS6.out;simp at this ⊢;omega) (fun q hq => by have := (HTO5.out.row_lt hq).1;omega));have HQ7 := ζ ((HQ6.out.alloc _).grown hg7 (fun e => by have := (HTO5.out.row_lt e.symm).1;omega));have g2 : w7.cell? ⟨wk.heap.size + 1,2,none⟩ = some (.slice va ts.length vc) := HQ7.out.cell 2;have y2 := HQ7.out.frozen 2;clear hown7 hg7 hat7))
       go_roundw
       case rel => exact ⟨j + 1,_,by omega,by go_num,ζ (HI7.out.setCell (p := ⟨wk.heap.size + 1,2,none⟩) (by show wk.heap.size ≤ wk.heap.size + 1;omega) _),ζ (HQ7.out.set_ 2 _),ζ (by rw [HTN.out,HTS.out];exact HO7.out.setCell RTerm.steady (p := ⟨wk.heap.size + 1,2,none⟩) (fun h => h) (fun e => by have := (HO7.out.row_lt e).1;have h2 : wk.heap.size + 2 ≤ wk.heap.size + 1 := this;omega) _)⟩
       case measure => simp [intOf];omega
    ·obtain rfl : j = a.terms.length := by omega
     have HTR := ζ (show RdTerms (fun b => wk.heap.size + 2 ≤ b ∧ b < wr.heap.size) wr (.slice va ((a.terms.take a.terms.length).map (subT s)).length vc) (subA s a).terms by
      have h1 := HTO.out.read RTerm.steady
      have e1 : (a.terms.take a.terms.length).map (subT s) = (subA s a).terms := by rw [List.take_length];rfl
      rw [e1] at h1 ⊢
      exact h1.more RTerm.steady (fun b hb hl => hb.elim False.elim (fun e => ⟨e,hl⟩)))
     have m0 := HQ.out.cell 0;have m1 := HQ.out.cell 1;have m2 := HQ.out.cell 2
     simp only [ζc] at m0 m1 m2
     have HO1 := ζ (HO.out.below RAtom.steady HI1.out)
     have HI3 := ζ (HI.out.trans (HI1.out.mono HI.out.size))
     have hk1 := HI.out.size
     have hbl5 : r.body.length ≤ 5 := HBL.out
     generalize ((a.terms.take a.terms.length).map (subT s)).length = tn at *
     go_wp2_with (at_builtin;refine wpList_append_one (B := w3.heap.size) (e := 78) (S := New w3) (by rfl) _ _ 79 (by rfl) RAtom.steady rowAtoms _ out (by rfl) (HO1.out.alloc RAtom.steady _) wr.heap.size 1 #[.bool a.neg,.string a.name,.slice va tn vc] 78 (0,0) (subA s a) (by rfl) (heap_new_at rfl) rfl (by simp [Value.oneCell']) ⟨_,rfl,(RdSlice.agree RTerm.steady ((Agree.refl _ _).alloc _) HTR.out).more RTerm.steady (fun b hb _ => ⟨by have := hb.1;show w3.heap.size ≤ b;omega,fun e => by have h1 := (HO.out.row_lt e.symm).2;have h2 := hb.1;omega⟩)⟩ (by omega) (by simp;omega) ?_;intro v7 w7 hown7 hg7 hat7;rw [← HSN.out] at hown7;have HO7 := ζ hown7;have HI7 := ζ ((HI3.out.alloc HI3.out.size _).grown hg7 (by have := HI3.out.size;simp;omega) (fun q hq => (HO1.out.row_lt hq).1));clear hown7 hg7 hat7)
     go_roundw
     case rel => exact ⟨k + 1,_,by omega,by go_num,rfl,HO7,HI7⟩
     case measure => simp [intOf];omega
  ·obtain rfl : k = r.body.length := by omega
   have HRB := ζ (show RdAtoms (New w3) wr bv (subBody s r.body) by
    have h1 := HO.out.read RAtom.steady
    rw [List.take_length] at h1
    exact h1.more RAtom.steady (fun b hb _ => hb.elim id id))
   obtain ⟨va,vc,rfl,-,-,-⟩ := id HRB.out.form
   have hbl5 : r.body.length ≤ 5 := HBL.out
   have HB5 := ζ (show (subBody s r.body).length ≤ 5 by unfold subBody;rw [List.length_map];exact hbl5)
   have HBT := ζ (show ∀ a ∈ subBody s r.body,a.terms.length ≤ 4 from fun a ha => by obtain ⟨y,hy,rfl⟩ := List.mem_map.1 ha;show (y.terms.map (subT s)).length ≤ 4;rw [List.length_map];exact U3.out y hy)
   have dd0 := (HD.out.below HBW.out HD.out.lt).cell 0;have cc2 := (HC.out.below HBW.out HC.out.lt).cell 2
   simp only [ζc] at dd0 cc2
   have KA := ζ (allReads (.slice va (subBody s r.body).length vc) (subBody s r.body) (.slice ma M.length mc) M wr HRB.out (RdFacts.up HM.out HBW.out) (Nat.le_trans HB5.out (by decide)) (fun a ha => Nat.le_trans (HBT.out a ha) (by decide)) HSB.out (Nat.le_trans hM.len (by decide)) (fun x hx => by have := (wrongF_zero.1 (hM.fine x hx)).2.1;omega))
   have HCS := ζ (allP_cases (subBody s r.body) M)
   have HSH := ζ (all_short (subBody s r.body) M)
   clear HO HBL
   generalize subBody s r.body = B at *
   generalize allP B M = z at *
   obtain ⟨ls,q⟩ := z
   dsimp only at *
   by_cases hq : q = 0
   case neg =>
    have g1 : (q != 0) = true := by simpa using hq
    have HE := ζ (show ruleG age M r f = none by rw [HRF.out,if_pos hq])
    clear hq HRF HCS
    go_wp2_with (go_at_call 63;refine (KA.out).mono ?_;rintro e w8 ⟨⟨la,lc,rfl,hr8⟩,hb8⟩;have HB8 := ζ (HBW.out.trans (hb8.mono HBW.out.size));clear hr8 hb8)
    go_ret2
    exact rule_none HE.out HB8.out
   subst hq
   have HRE := ζ (show ruleG age M r f = (ls.find? fun b => (kidsOf B b).all (olderP age f)).map (kidsOf B) by rw [HRF.out,if_neg (by simp)])
   have HTL := ζ (show ∀ m ∈ ls,∀ a ∈ B,a.neg = false → ∃ x,fillP a m = some x ∧ wrongF x = 0 from fun m hm a ha hn => by
    rcases HCS.out with ⟨h1,-⟩ | ⟨-,-,-,-,h5⟩
    ·exact absurd rfl h1
    ·obtain ⟨jj,hjj⟩ := List.mem_iff_getElem?.1 ha
     obtain ⟨x,hx,hxm⟩ := ((h5 m).1 hm).2.2.2 jj a hjj
     rw [hn] at hxm
     exact ⟨x,hx,hM.fine x ((memF_iff x M).1 hxm)⟩)
   clear HRF HCS HSB HM
   generalize hG0 : ruleG age M r f = RG at *
   go_wp2_with (go_at_call 63;refine (KA.out).mono ?_;rintro e w8 ⟨⟨la,lc,rfl,hr8⟩,hb8⟩;have HB8 := ζ (HBW.out.trans (hb8.mono HBW.out.size));have HLS := ζ hr8;have HRB8 := ζ (HRB.out.up hb8);clear hr8 hb8)
   clear KA HRB HBW HI dd0 cc2 HB2 HSR U3
   obtain ⟨wo,hwo⟩ : ∃ wo : World,wo = w8 := ⟨_,rfl⟩
   subst hwo
   have HI0 := ζ (ζb wo.heap.size wo)
   have HF0 := ζ (show ((ls.drop 0).find? fun b => (kidsOf B b).all (olderP age f)) = ls.find? fun b => (kidsOf B b).all (olderP age f) from rfl)
   go_loopw [114] (fun i wr => ∃ n : Nat,n ≤ ls.length ∧ i = .int .i64 n ∧ Hid (((ls.drop n).find? fun b => (kidsOf B b).all (olderP age f)) = ls.find? fun b => (kidsOf B b).all (olderP age f)) ∧ Hid (Below wo.heap.size wo wr)) (fun i _ => ls.length - (intOf i).toNat)
   case atStart => exact ⟨0,Nat.zero_le _,rfl,HF0,HI0⟩
   case round =>
    clear HI0 HF0
    obtain ⟨n,hn,rfl,HFN,HI⟩ := hrel
    by_cases hltn : n < ls.length
    ·obtain ⟨l,hl⟩ : ∃ l,ls[n]? = some l := ⟨_,ζe hltn⟩
     obtain ⟨b9,o9,lv,rfl,-,hb9,e9,hlv⟩ := RdBindss.at' HLS.out hl
     obtain ⟨l9,c9,rfl,-,-,-⟩ := id hlv.form
     have f9 := (ζl HI.out hb9 _).trans e9
     have hll := HSH.out.2 l (ζm hl)
     have hln := HSH.out.1
     have HLV := ζ hlv
     have HTM := ζ (HTL.out l (ζm hl))
     have HHIT := ζ (fun h => (find_hit (P := fun b => (kidsOf B b).all (olderP age f)) hl h).symm.trans HFN.out)
     have HMIS := ζ (fun h => (find_miss (P := fun b => (kidsOf B b).all (olderP age f)) hl h).symm.trans HFN.out)
     clear e9 hl hlv
     obtain ⟨wi,hwi⟩ : ∃ wi : World,wi = wr := ⟨_,rfl⟩
     subst hwi
     have HJ0 := ζ (ζb wi.heap.size wi)
     have HO0 := ζ (show Owned 2 RFact wi.heap.size 27 (New wi) wi (.slice none 0 0) (kidsOf (B.take 0) l) from Owned.nil)
     go_wp2
     go_loopw [120,23,24] (fun i v o wr => ∃ (j : Nat) (kv : Value),j ≤ B.length ∧ i = .int .i64 j ∧ kv = v ∧ o = .bool ((kidsOf (B.take j) l).all (olderP age f)) ∧ Hid (Owned 2 RFact wi.heap.size 27 (New wi) wr kv (kidsOf (B.take j) l)) ∧ Hid (Below wi.heap.size wi wr)) (fun i _ _ _ => B.length - (intOf i).toNat)
     case atStart => exact ⟨0,_,Nat.zero_le _,rfl,rfl,rfl,HO0,HJ0⟩
     case round =>
      clear HJ0 HO0 f9
      obtain ⟨j,kv,hj,rfl,rfl,rfl,HO,HJ⟩ := hrel
      have hbl5 := HB5.out
      have hj0 := HJ.out.size
      have HIJ := ζ (HI.out.trans (HJ.out.mono HI.out.size))
      by_cases hltj : j < B.length
      ·obtain ⟨a,ha⟩ : ∃ a,B[j]? = some a := ⟨_,ζe hltj⟩
       obtain ⟨b4,o4,tv4,rfl,-,hb4,a0,a1,a2,hat⟩ := (HRB8.out.up HIJ.out).at ha
       obtain ⟨ta4,tc4,rfl,-,-,-⟩ := id hat.form
       have ht4 := HBT.out a (ζm ha)
       have HAT := ζ hat
       have hkl := kidsOf_le B l j
       cases hng : a.neg with
       | true =>
        rw [hng] at a0
        have HKN := ζ (kidsOf_neg (b := l) ha hng)
        have HJ1 := ζ (HJ.out.alloc HJ.out.size (.cells #[.bool true,.string a.name,.slice ta4 a.terms.length tc4] 78))
        have HO1 := ζ (HO.out.alloc ζF (.cells #[.bool true,.string a.name,.slice ta4 a.terms.length tc4] 78))
        clear hat ha hng
        go_wp2
        go_roundw
        case rel => exact ⟨j + 1,_,by omega,by go_num,rfl,by rw [HKN.out],by rw [HKN.out];exact HO1,HJ1⟩
        case measure => simp [intOf];omega
       | false =>
        rw [hng] at a0
        obtain ⟨x,hfx,hwx⟩ := HTM.out a (ζm ha) hng
        have HKP := ζ (kidsOf_pos (b := l) ha hng hfx)
        have ke := fillKnown hfx (HAT.out.up ((ζb wr.heap.size wr).alloc (ζn _) (.cells #[.bool false,.string a.name,.slice ta4 a.terms.length tc4] 78))) (HLV.out.up (HIJ.out.alloc HIJ.out.size (.cells #[.bool false,.string a.name,.slice ta4 a.terms.length tc4] 78))) (by omega) (by omega)
        rw [hng] at ke
        have KE := ζ ke
        obtain ⟨hx1,hx2,hx3⟩ := wrongF_zero.1 hwx
        have HKX := ζ (fun W b off av h0 h1 (h2 : RdStrs (fun _ => True) W av x.args) => keyCalls x b off av W h0 h1 h2 (Nat.le_trans (named_size hx1) (by decide)) (Nat.le_trans hx2 (by decide)) (fun z hz => Nat.le_trans (named_size (hx3 z hz)) (by decide)))
        have HKZ := ζ (show (keyP x).size ≤ maxLen from key_size (named_size hx1) hx2 (fun z hz => named_size (hx3 z hz)))
        clear hat ha hng hfx hwx ke hx1 hx2 hx3
        generalize kidsOf (B.take j) l = ks at *
        go_wp2_with (go_at_call 31;refine (KE.out).mono ?_;rintro e w6 ⟨⟨xa,xc,rfl,hr6⟩,hb6⟩;have hb6' := ((ζb wr.heap.size wr).alloc (ζn _) (.cells #[.bool false,.string a.name,.slice ta4 a.terms.length tc4] 78)).trans (hb6.mono (by simp));have HJ6 := ζ (HJ.out.trans (hb6'.mono HJ.out.size));have HO6 := ζ (HO.out.below ζF hb6');have HX6 := ζ hr6;have hs6 : wr.heap.size + 1 ≤ w6.heap.size := (by have := hb6.size;simp at this;omega);clear hb6 hb6' hr6)
        have HJ7 := ζ (HJ6.out.alloc HJ6.out.size (.cells #[.string x.name,.slice xa x.args.length xc] 27))
        have HF7 := ζ (Blk.new w6 27 #[.string x.name,.slice xa x.args.length xc])
        have z0 := HF7.out.cell 0;have z1 := HF7.out.cell 1
        have HWJ := ζ (HB8.out.trans ((HI.out.trans (HJ7.out.mono HI.out.size)).mono HB8.out.size))
        have y1 := (HD.out.below HWJ.out HD.out.lt).cell 1
        simp only [ζc] at z0 z1 y1
        cases hob : ks.all (olderP age f) with
        | false =>
         have HOB := ζ (show (kidsOf (B.take (j + 1)) l).all (olderP age f) = false by rw [HKP.out,List.all_append,hob];rfl)
         clear hob
         refine wp_region_held_drew (S := (fun _ => True)) (by kernel_rfl) ?_ (fun hHeld => ?_)
         ·trivial
         refine ζt (i := 0) (oi := ⟨some 132,_,_,_,_,_⟩) (v := ?_) rfl (Or.inl ⟨by rfl,?_⟩) (by assumption) ?_
         rotate_left
         ·(intro w' hSw;(try dsimp only at hSw);go_simp;try with_reducible rfl)
         try simp only [ζp]
         refine ζt (i := 1) (oi := ⟨some 133,_,_,_,_,_⟩) (v := ?_) rfl (Or.inl ⟨by rfl,?_⟩) (by assumption) ?_
         rotate_left
         ·(intro w' hSw;(try dsimp only at hSw);go_simp;try with_reducible rfl)
         try simp only [ζp]
         refine ζt (i := 2) (oi := ⟨some 134,_,_,_,_,_⟩) (v := undef) rfl (Or.inr ⟨by rfl,rfl⟩) (by assumption) ?_
         try simp only [ζp]
         refine ζt (i := 3) (oi := ⟨some 135,_,_,_,_,_⟩) (v := undef) rfl (Or.inr ⟨by rfl,rfl⟩) (by assumption) ?_
         try simp only [ζp]
         refine ζt (i := 4) (oi := ⟨some 136,_,_,_,_,_⟩) (v := undef) rfl (Or.inr ⟨by rfl,rfl⟩) (by assumption) ?_
         try simp only [ζp]
         refine ζt (i := 5) (oi := ⟨some 137,_,_,_,_,_⟩) (v := undef) rfl (Or.inr ⟨by rfl,rfl⟩) (by assumption) ?_
         try simp only [ζp]
         refine ζt (i := 6) (oi := ⟨some 138,_,_,_,_,_⟩) (v := undef) rfl (Or.inr ⟨by rfl,rfl⟩) (by assumption) ?_
         try simp only [ζp]
         refine ζt (i := 7) (oi := ⟨some 139,_,_,_,_,_⟩) (v := undef) rfl (Or.inr ⟨by rfl,rfl⟩) (by assumption) ?_
         try simp only [ζp]
         refine ζt (i := 8) (oi := ⟨some 140,_,_,_,_,_⟩) (v := undef) rfl (Or.inr ⟨by rfl,rfl⟩) (by assumption) ?_
         try simp only [ζp]
         refine ζt (i := 9) (oi := ⟨some 141,_,_,_,_,_⟩) (v := undef) rfl (Or.inr ⟨by rfl,rfl⟩) (by assumption) ?_
         try simp only [ζp]
         refine ζt (i := 10) (oi := ⟨some 142,_,_,_,_,_⟩) (v := undef) rfl (Or.inr ⟨by rfl,rfl⟩) (by assumption) ?_
         try simp only [ζp]
         refine ζt (i := 11) (oi := ⟨some 143,_,_,_,_,_⟩) (v := undef) rfl (Or.inr ⟨by rfl,rfl⟩) (by assumption) ?_
         try simp only [ζp]
         refine ζt (i := 12) (oi := ⟨some 144,_,_,_,_,_⟩) (v := undef) rfl (Or.inr ⟨by rfl,rfl⟩) (by assumption) ?_
         try simp only [ζp]
         refine ζt (i := 13) (oi := ⟨some 145,_,_,_,_,_⟩) (v := undef) rfl (Or.inr ⟨by rfl,rfl⟩) (by assumption) ?_
         try simp only [ζp]
         refine ζt (i := 14) (oi := ⟨some 146,_,_,_,_,_⟩) (v := undef) rfl (Or.inr ⟨by rfl,rfl⟩) (by assumption) ?_
         try simp only [ζp]
         refine ζt (i := 15) (oi := ⟨some 147,_,_,_,_,_⟩) (v := undef) rfl (Or.inr ⟨by rfl,rfl⟩) (by assumption) ?_
         try simp only [ζp]
         refine ζt (i := 16) (oi := ⟨some 148,_,_,_,_,_⟩) (v := ?_) rfl (Or.inl ⟨by rfl,?_⟩) (by assumption) ?_
         rotate_left
         ·(intro w' hSw;(try dsimp only at hSw);go_simp;try with_reducible rfl)
         try simp only [ζp]
         refine ζt (i := 17) (oi := ⟨some 24,_,_,_,_,_⟩) (v := ?_) rfl (Or.inl ⟨by rfl,?_⟩) (by assumption) ?_
         rotate_left
         ·(intro w' hSw;(try dsimp only at hSw);go_simp;try with_reducible rfl)
         try simp only [ζp]
         refine wpAnyH_done (by kernel_rfl) ?_ _
         have HJ8 := HJ7
         have HO8 := ζ (HO6.out.alloc ζF (.cells #[.string x.name,.slice xa x.args.length xc] 27))
         go_wp2_with (at_builtin;refine wpList_append_one (B := wi.heap.size) (e := 27) (S := New wi) (by rfl) _ _ 24 (by rfl) ζF rowFacts _ ks (by rfl) ((HO8.out.alloc ζF _).drew ζF) (w6.heap.size + 1) 1 #[.string x.name,.slice xa x.args.length xc] 27 (0,0) x (by rfl) (heap_new_at (by simp)) rfl (by simp [Value.oneCell']) (RFact.behind (x := x) (W1 := wr) HO.out HJ.out.size (ζn _) (HX6.out.more ζS (fun b hb _ => by have h' : (wr.alloc (.cells #[.bool false,.string a.name,.slice ta4 a.terms.length tc4] 78)).heap.size ≤ b := hb;simp at h';show wr.heap.size ≤ b;omega)) (agree_drew (((Agree.refl _ _).alloc _).alloc _))) (by omega) (by simp;omega) ?_;intro v9 w9 hown9 hg9 hat9;rw [← HKP.out] at hown9;have HO9 := ζ hown9;have HJ9 := ζ (((HJ8.out.alloc HJ8.out.size _).drew).grown hg9 (by have := HJ8.out.size;simp at this ⊢;omega) (fun q hq => (HO8.out.row_lt hq).1));clear hown9 hg9 hat9)
         go_roundw
         case rel => exact ⟨j + 1,_,by omega,by go_num,rfl,by rw [HOB.out],HO9,HJ9⟩
         case measure => simp [intOf];omega
        | true =>
         have HOB := ζ (show (kidsOf (B.take (j + 1)) l).all (olderP age f) = olderP age f x by rw [HKP.out,List.all_append,hob];simp)
         clear hob
         have HGM := ζ (HG.out.below HWJ.out HG.out.lt)
         have HAX := ζ (HA.out.up HWJ.out)
         have v0 := (ζl HWJ.out hb _).trans HX0.out;have v1 := (ζl HWJ.out hb _).trans HX1.out
         have HXX := ζ (HX6.out.up ((ζb w6.heap.size w6).alloc (ζn _) (.cells #[.string x.name,.slice xa x.args.length xc] 27)))
         have HLK := ζ (fun W (h : MapI W G N age) => h.get HKZ.out)
         have HLF := ζ (fun W (h : MapI W G N age) => h.get HFZ.out)
         have l0 := HLK.out _ HGM.out;have l1 := HLF.out _ HGM.out
         have l2 := HLK.out _ HGM.out.drew;have l3 := HLF.out _ HGM.out.drew
         have KK := ζ (HKX.out _ w6.heap.size 0 _ z0 z1 HXX.out)
         have KKD := ζ (HKX.out (w6.alloc (.cells #[.string x.name,.slice xa x.args.length xc] 27)).drew w6.heap.size 0 _ z0 z1 (RdStrs.up HXX.out (ζb _ _).drew))
         have KFD := ζ (HKF.out (w6.alloc (.cells #[.string x.name,.slice xa x.args.length xc] 27)).drew b off _ v0 v1 (RdStrs.up HAX.out (ζb _ _).drew))
         have T4 := ζ True.intro
         have HJ8 := HJ7
         have HO8 := ζ (HO6.out.alloc ζF (.cells #[.string x.name,.slice xa x.args.length xc] 27))
         go_region_held3 (fun w' => w'.cell? ⟨D,1,none⟩ = some (.map (some G)) ∧ (Instr.lookup 55 (.map (some G)) (.string (keyP x)) false).run Tryz.prog w' = .ok (.int .i64 ((age (keyP x)).getD 0)) w' ∧ (Instr.lookup 55 (.map (some G)) (.string (keyP f)) false).run Tryz.prog w' = .ok (.int .i64 ((age (keyP f)).getD 0)) w')
          (first | (with_reducible exact ⟨y1,l2,l3⟩) | (with_reducible exact ⟨y1,l0,l1⟩) | go_keep)
          (first | (go_at_call 22;have hh := T5.out;clear hh;(with_reducible refine (KFD.out).mono ?_);rintro e w10 ⟨rfl,rfl⟩) | (go_at_call 22;have T5 := T4;clear T4;(with_reducible refine (KKD.out).mono ?_);rintro e w10 ⟨rfl,rfl⟩))
         all_goals
          go_wp2_with (at_builtin;refine wpList_append_one (B := wi.heap.size) (e := 27) (S := New wi) (by rfl) _ _ 24 (by rfl) ζF rowFacts _ ks (by rfl) ((HO8.out.alloc ζF _).drew ζF) (w6.heap.size + 1) 1 #[.string x.name,.slice xa x.args.length xc] 27 (0,0) x (by rfl) (heap_new_at (by simp)) rfl (by simp [Value.oneCell']) (RFact.behind (x := x) (W1 := wr) HO.out HJ.out.size (ζn _) (HX6.out.more ζS (fun b hb _ => by have h' : (wr.alloc (.cells #[.bool false,.string a.name,.slice ta4 a.terms.length tc4] 78)).heap.size ≤ b := hb;simp at h';show wr.heap.size ≤ b;omega)) (agree_drew (((Agree.refl _ _).alloc _).alloc _))) (by omega) (by simp;omega) ?_;intro v9 w9 hown9 hg9 hat9;rw [← HKP.out] at hown9;have HO9 := ζ hown9;have HJ9 := ζ (((HJ8.out.alloc HJ8.out.size _).drew).grown hg9 (by have := HJ8.out.size;simp at this ⊢;omega) (fun q hq => (HO8.out.row_lt hq).1));clear hown9 hg9 hat9)
          go_roundw
          case rel => exact ⟨j + 1,_,by omega,by go_num,rfl,by rw [HOB.out];rfl,HO9,HJ9⟩
          case measure => simp [intOf];omega
      ·obtain rfl : j = B.length := by omega
       have HTK := ζ (show B.take B.length = B from List.take_length)
       rw [HTK.out] at HO
       rw [HTK.out]
       have hro := HO.out.read ζF
       obtain ⟨ka,kc,rfl,-,-,-⟩ := id hro.form
       have HRO := ζ (hro.more ζF (S' := New w) (fun b hb _ => by have h1 := (HB8.out.trans (HI.out.mono HB8.out.size)).size;exact Nat.le_trans h1 (hb.elim id id)))
       have HBZ := ζ (HB8.out.trans ((HI.out.trans (HJ.out.mono HI.out.size)).mono HB8.out.size))
       clear hro HO
       cases hob : (kidsOf B l).all (olderP age f) with
       | true =>
        have HE := ζ (show RG = some (kidsOf B l) by rw [HRE.out,← HHIT.out hob];rfl)
        clear hob
        go_wp2
        go_ret2
        exact rule_some HE.out HBZ.out HRO.out
       | false =>
        have HFN1 := ζ (HMIS.out hob)
        have HI9 := ζ (HI.out.trans (HJ.out.mono HI.out.size))
        clear hob
        go_wp2
        go_roundw
        case rel => exact ⟨n + 1,by omega,by go_num,HFN1,HI9⟩
        case measure => simp [intOf];omega
    ·have HE := ζ (show RG = none by rw [HRE.out,← HFN.out,List.drop_eq_nil_of_le (by omega)];rfl)
     go_wp2
     go_ret2
     exact rule_none HE.out (HB8.out.trans (HI.out.mono HB8.out.size))
end Go.Proofs.YtdngkcieckejoaaGreat
