/-
  THE WALK OF desk.Load: bytes as a run.
-/
import Derived.Test.YtiiicochdidolaaGreatTk10
import Derived.Test.YtiiicochdidolaaGreatTk24
namespace Go.Proofs.YtiiicochdidolaaGreat
open Go.RowKit
theorem argsD_len : ∀ (k : Nat) (s : RdB) (acc : List Str),(argsD k s acc).1.length ≤ acc.length + k
  | 0,s,acc => Nat.le_refl _
  | k + 1,s,acc => by
    rw [argsD]
    split
    · have := argsD_len k (textD s).2 (acc ++ [(textD s).1])
      rw [List.length_append,List.length_singleton] at this
      omega
    · show acc.length ≤ _
      omega
theorem factD_args (s : RdB) : (factD s).1.args.length ≤ 255 := by
  have h1 := argsD_len (byteD (textD s).2).1 (byteD (textD s).2).2 []
  have h2 := byteD_lt (textD s).2
  have h3 : (factD s).1.args = (argsD (byteD (textD s).2).1 (byteD (textD s).2).2 []).1 := rfl
  rw [h3]
  simp only [List.length_nil] at h1
  omega
theorem listD_len : ∀ (k : Nat) (s : RdB) (acc : List PFact),(listD k s acc).1.length ≤ acc.length + k ∧ ∀ x ∈ (listD k s acc).1,x ∈ acc ∨ x.args.length ≤ 255
  | 0,s,acc => ⟨Nat.le_refl _,fun x hx => .inl hx⟩
  | k + 1,s,acc => by
    rw [listD]
    split
    · obtain ⟨h1,h2⟩ := listD_len k (factD s).2 (acc ++ [(factD s).1])
      rw [List.length_append,List.length_singleton] at h1
      refine ⟨by omega,fun x hx => ?_⟩
      rcases h2 x hx with h | h
      · rcases List.mem_append.1 h with h | h
        · exact .inl h
        · obtain rfl := List.mem_singleton.1 h;exact .inr (factD_args s)
      · exact .inr h
    · exact ⟨by show acc.length ≤ _;omega,fun x hx => .inl hx⟩
theorem factsD_len (s : RdB) : (factsD s).1.length ≤ 255 ∧ ∀ x ∈ (factsD s).1,x.args.length ≤ 255 := by
  obtain ⟨h1,h2⟩ := listD_len (byteD s).1 (byteD s).2 []
  have h3 := byteD_lt s
  refine ⟨?_,fun x hx => (h2 x hx).resolve_left (fun h => by cases h)⟩
  have e : (factsD s).1 = (listD (byteD s).1 (byteD s).2 []).1 := rfl
  rw [e]
  simp only [List.length_nil] at h1
  omega
theorem newD_len : ∀ (l : List PFact) (s : RdB) (acc : List PFact),(newD l s acc).1.length ≤ acc.length + l.length ∧ ∀ x ∈ (newD l s acc).1,x ∈ acc ∨ x ∈ l
  | [],s,acc => ⟨Nat.le_refl _,fun x hx => .inl hx⟩
  | f :: l,s,acc => by
    rw [newD]
    obtain ⟨h1,h2⟩ := newD_len l (if 1 < (byteD s).1 then ⟨(byteD s).2.b,false⟩ else (byteD s).2) (if (byteD s).1 = 1 then acc ++ [f] else acc)
    refine ⟨?_,fun x hx => ?_⟩
    · refine Nat.le_trans h1 ?_
      rw [List.length_cons]
      split
      · rw [List.length_append,List.length_singleton];omega
      · omega
    · rcases h2 x hx with h | h
      · split at h
        · rcases List.mem_append.1 h with h | h
          · exact .inl h
          · obtain rfl := List.mem_singleton.1 h;exact .inr (List.mem_cons_self ..)
        · exact .inl h
      · exact .inr (List.mem_cons_of_mem _ h)
theorem readR_small (b : Bytes) : RunSmall (readR b) := by
  obtain ⟨h1,h2⟩ := factsD_len (d4 b).2
  obtain ⟨h3,h4⟩ := newD_len (d5 b).1 (d5 b).2 []
  have e1 : (readR b).known = (factsD (d4 b).2).1 := rfl
  have e2 : (readR b).new = (newD (d5 b).1 (d5 b).2 []).1 := rfl
  have e3 : (d5 b).1 = (factsD (d4 b).2).1 := rfl
  rw [List.length_nil,e3] at h3
  have hm : ∀ x ∈ (readR b).new,x ∈ (factsD (d4 b).2).1 := fun x hx => (h4 x (by rw [← e2];exact hx)).resolve_left (fun h => by cases h)
  refine ⟨by rw [e1];omega,fun x hx => by have := h2 x (by rw [← e1];exact hx);omega,by rw [e2];rw [e3];omega,fun x hx => by have := h2 x (hm x hx);omega⟩
structure LdAt (w : World) (b7 : Nat) (s : RdB) (kv nv : Value) (a b : Int) (dn : Bool) (W : World) : Prop where
  q : Blk W w.heap.size 28 #[.slice none 0 0,.slice none 0 0,.int .i64 0,.int .i64 0,.bool false]
  r : Rr (w.heap.size + 1) s W
  x : Blk W b7 28 #[kv,nv,.int .i64 a,.int .i64 b,.bool dn]
  bl : Below w.heap.size w W
  lt : w.heap.size + 1 < b7
section
variable {w W W' : World} {b7 : Nat} {s s' : RdB} {kv nv : Value} {a b : Int} {dn : Bool}
theorem low_but {C B : Nat} (h : Below C w W) (hb : But B W W') (h1 : C ≤ B) (h2 : C ≤ w.heap.size) : Below C w W' :=
  ⟨h.os ▸ hb.os ▸ rfl,h.tape ▸ hb.tape ▸ rfl,h.output ▸ hb.output ▸ rfl,Nat.le_trans h.size hb.size,fun k hk => (hb.block k (by have := h.size;omega) (fun e => by have := Option.some.inj e;omega)).trans (h.block k hk)⟩
theorem LdAt.mk3 {W0 : World} (hq : Blk W0 w.heap.size 28 #[.slice none 0 0,.slice none 0 0,.int .i64 0,.int .i64 0,.bool false]) (hb0 : Below w.heap.size w W0) (hb : But (w.heap.size + 1) W0 W) (hr : Rr (w.heap.size + 1) s W) (a b : Int) :
    LdAt w W.heap.size s (.slice none 0 0) (.slice none 0 0) a b false (W.alloc (.cells #[.slice none 0 0,.slice none 0 0,.int .i64 a,.int .i64 b,.bool false] 28)) :=
  ⟨(hq.but hb (by omega)).alloc _,hr.alloc _,Blk.new _ _ _,(low_but hb0 hb (by omega) (Nat.le_refl _)).alloc (low_but hb0 hb (by omega) (Nat.le_refl _)).size _,hr.lt⟩
theorem LdAt.step (h : LdAt w b7 s kv nv a b dn W) (hb : But (w.heap.size + 1) W W') (hr : Rr (w.heap.size + 1) s' W') : LdAt w b7 s' kv nv a b dn W' :=
  ⟨h.q.but hb (by omega),hr,h.x.but hb (by have := h.lt;omega),low_but h.bl hb (by omega) (Nat.le_refl _),h.lt⟩
theorem LdAt.own (h : LdAt w b7 s kv nv a b dn W) (hb : Below W.heap.size W W') : LdAt w b7 s kv nv a b dn W' :=
  ⟨h.q.below hb h.q.lt,h.r.grown hb,h.x.below hb h.x.lt,h.bl.trans (hb.mono h.bl.size),h.lt⟩
theorem LdAt.alloc (h : LdAt w b7 s kv nv a b dn W) (o : Obj) : LdAt w b7 s kv nv a b dn (W.alloc o) := h.own ((Below.refl _ _).alloc (Nat.le_refl _) o)
theorem LdAt.drew (h : LdAt w b7 s kv nv a b dn W) : LdAt w b7 s kv nv a b dn W.drew := h.own (Below.refl _ _).drew
theorem LdAt.rgrown {row : Option Nat} (h : LdAt w b7 s kv nv a b dn W) (hg : W.grownBy W' row) (hr : ∀ g,row = some g → b7 < g) : LdAt w b7 s kv nv a b dn W' :=
  ⟨h.q.grown hg (fun e => by have := hr _ e.symm;have := h.lt;omega),h.r.grownBy hg (fun g e => by have := hr g e;have := h.lt;omega),h.x.grown hg (fun e => by have := hr _ e.symm;omega),
    ⟨h.bl.os ▸ hg.os ▸ rfl,h.bl.tape ▸ hg.tape ▸ rfl,h.bl.output ▸ hg.output ▸ rfl,Nat.le_trans h.bl.size hg.size,fun k hk => (hg.block k (by have := h.bl.size;omega) (fun e => by have := hr k e.symm;have := h.lt;omega)).trans (h.bl.block k hk)⟩,h.lt⟩
theorem LdAt.set0 (h : LdAt w b7 s kv nv a b dn W) (u : Value) : LdAt w b7 s u nv a b dn (W.setCell ⟨b7,0,none⟩ u) :=
  ⟨h.q.far (by have := h.lt;show w.heap.size ≠ b7;omega) u,h.r.setCell h.lt u,h.x.set_ 0 u,h.bl.setCell (by have := h.lt;show w.heap.size ≤ b7;omega) u,h.lt⟩
theorem LdAt.set1 (h : LdAt w b7 s kv nv a b dn W) (u : Value) : LdAt w b7 s kv u a b dn (W.setCell ⟨b7,1,none⟩ u) :=
  ⟨h.q.far (by have := h.lt;show w.heap.size ≠ b7;omega) u,h.r.setCell h.lt u,h.x.set_ 1 u,h.bl.setCell (by have := h.lt;show w.heap.size ≤ b7;omega) u,h.lt⟩
theorem Rr.frozen {B : Nat} {s : RdB} {w : World} (h : Rr B s w) (i : Nat) : w.frozen? ⟨B,i,none⟩ = false := by obtain ⟨v,h1,-⟩ := h;exact h1.frozen i
theorem LdAt.setr (h : LdAt w b7 s kv nv a b dn W) (k : Bool) : LdAt w b7 ⟨s.b,k⟩ kv nv a b dn (W.setCell ⟨w.heap.size + 1,1,none⟩ (.bool k)) :=
  ⟨h.q.far (by show w.heap.size ≠ w.heap.size + 1;omega) _,by obtain ⟨v,h1,h2⟩ := h.r;exact rr_set1 h1 h2 k,h.x.far (by have := h.lt;show b7 ≠ w.heap.size + 1;omega) _,h.bl.setCell (by show w.heap.size ≤ w.heap.size + 1;omega) _,h.lt⟩
theorem rdFacts_grown {S : Nat → Prop} {row : Option Nat} {v : Value} {l : List PFact} (h : RdFacts S W v l) (hg : W.grownBy W' row) (hr : ∀ q,row = some q → ¬ S q) : RdFacts S W' v l := h.agree RFact.steady ⟨hg.size,fun b hb hl => hg.block b hl (fun e => hr b e.symm hb)⟩
theorem rdFacts_but {S : Nat → Prop} {B : Nat} {v : Value} {l : List PFact} (h : RdFacts S W v l) (hg : But B W W') (hr : ¬ S B) : RdFacts S W' v l := rdFacts_grown h hg (fun q hq => by obtain rfl := Option.some.inj hq;exact hr)
theorem LdAt.set4 (h : LdAt w b7 s kv nv a b dn W) (u : Bool) : LdAt w b7 s kv nv a b u (W.setCell ⟨b7,4,none⟩ (.bool u)) :=
  ⟨h.q.far (by have := h.lt;show w.heap.size ≠ b7;omega) _,h.r.setCell h.lt _,h.x.set_ 4 _,h.bl.setCell (by have := h.lt;show w.heap.size ≤ b7;omega) _,h.lt⟩
end
theorem set5_below {C B : Nat} {w W : World} (h : Below C w W) (hB : C ≤ B) (a b c d e : Value) : Below C w (((((W.setCell ⟨B,0,none⟩ a).setCell ⟨B,1,none⟩ b).setCell ⟨B,2,none⟩ c).setCell ⟨B,3,none⟩ d).setCell ⟨B,4,none⟩ e) :=
  ((((h.setCell hB _).setCell hB _).setCell hB _).setCell hB _).setCell hB _
theorem set5_facts {S : Nat → Prop} {B : Nat} {W : World} {v : Value} {l : List PFact} (h : RdFacts S W v l) (hB : ¬ S B) (a b c d e : Value) : RdFacts S (((((W.setCell ⟨B,0,none⟩ a).setCell ⟨B,1,none⟩ b).setCell ⟨B,2,none⟩ c).setCell ⟨B,3,none⟩ d).setCell ⟨B,4,none⟩ e) v l :=
  RdFacts.set_far (RdFacts.set_far (RdFacts.set_far (RdFacts.set_far (RdFacts.set_far h hB _) hB _) hB _) hB _) hB _
theorem newD_step {l : List PFact} {k : Nat} {f : PFact} {s : RdB} {acc : List PFact} (h : l[k]? = some f) {n : Nat} {s1 : RdB} (hb : byteD s = (n,s1)) :
    newD (l.drop k) s acc = newD (l.drop (k + 1)) (if 1 < n then ⟨s1.b,false⟩ else s1) (if n = 1 then acc ++ [f] else acc) := by
  rw [List.drop_eq_getElem_cons (List.getElem?_eq_some_iff.1 h).1,(List.getElem?_eq_some_iff.1 h).2,newD,hb]
attribute [local go_sem ↓] Go.wp_at_zero Go.wp_at_succ
set_option maxRecDepth 100000 in
set_option maxHeartbeats 8000000 in
theorem loadCalls {S S2 : Nat → Prop} (p : List PRule) (v bv : Value) (st : List Int) (q : Int × Int) (b : Bytes) (w : World) (hS : StrataIs p st q) (h : RdRules S w v p) (hb : RdBytes S2 w bv b)
    (n1 : p.length ≤ 1048576) (n2 : ∀ r ∈ p,RuleSmall r) (n3 : ∀ r ∈ p,NameSmall r) :
    Calls Tryz.prog 20 #[v,bv] w (RunPost (loadP st q.1 p b) w) := by
  obtain ⟨pa,pc,rfl,-,-,-⟩ := id h.form
  obtain ⟨ba,bc,rfl,-,-,-⟩ := id hb.form
  have HRS := Lib.hid (readR_small b)
  have HE0 := Lib.hid (show readR b = ⟨(d5 b).1,(d6 b).1,((d1 b).1 : Int),(((d2 b).1 * 256 + (d3 b).1 : Nat) : Int),(d4 b).1 == 1⟩ from rfl)
  have HFB := Lib.hid (show formBad b = (!(d6 b).2.ok || decide (0 < (d6 b).2.b.length) || decide (1 < (d4 b).1)) from rfl)
  have HD6 := Lib.hid (show newD (d5 b).1 (d5 b).2 [] = d6 b from rfl)
  have K1 := Lib.hid (fun W (h : Rr (w.heap.size + 1) ⟨b,true⟩ W) => show Calls Tryz.prog 41 #[.pointer (some ⟨w.heap.size + 1,0,none⟩)] W (RPost (w.heap.size + 1) (.int .i64 (d1 b).1) (d1 b).2 W) from byteCalls _ _ W h)
  have K2 := Lib.hid (fun W (h : Rr (w.heap.size + 1) (d1 b).2 W) => show Calls Tryz.prog 41 #[.pointer (some ⟨w.heap.size + 1,0,none⟩)] W (RPost (w.heap.size + 1) (.int .i64 (d2 b).1) (d2 b).2 W) from byteCalls _ _ W h)
  have K3 := Lib.hid (fun W (h : Rr (w.heap.size + 1) (d2 b).2 W) => show Calls Tryz.prog 41 #[.pointer (some ⟨w.heap.size + 1,0,none⟩)] W (RPost (w.heap.size + 1) (.int .i64 (d3 b).1) (d3 b).2 W) from byteCalls _ _ W h)
  have K4 := Lib.hid (fun W (h : Rr (w.heap.size + 1) (d3 b).2 W) => show Calls Tryz.prog 41 #[.pointer (some ⟨w.heap.size + 1,0,none⟩)] W (RPost (w.heap.size + 1) (.int .i64 (d4 b).1) (d4 b).2 W) from byteCalls _ _ W h)
  have K5 := Lib.hid (fun W (h : Rr (w.heap.size + 1) (d4 b).2 W) => show Calls Tryz.prog 42 #[.pointer (some ⟨w.heap.size + 1,0,none⟩)] W (fun e w' => ∃ v,e = .returned v ∧ RdFacts (New W) w' v (d5 b).1 ∧ Rr (w.heap.size + 1) (d5 b).2 w' ∧ But (w.heap.size + 1) W w') from rfactsCalls _ _ W h)
  have l1 : (d1 b).1 < 256 := byteD_lt _
  have l2 : (d2 b).1 < 256 := byteD_lt _
  have l3 : (d3 b).1 < 256 := byteD_lt _
  have l4 : (d4 b).1 < 256 := byteD_lt _
  have L5 := Lib.hid (factsD_len (d4 b).2)
  have e5 : (factsD (d4 b).2).1 = (d5 b).1 := rfl
  rw [e5] at L5
  have HLP := Lib.hid (show loadP st q.1 p b = if formBad b then (zeroRun,2) else if runBad st q.1 p (readR b) ≠ 0 then (zeroRun,runBad st q.1 p (readR b)) else (readR b,0) from rfl)
  generalize loadP st q.1 p b = LP at *
  generalize formBad b = FB at *
  generalize readR b = RR at *
  generalize d1 b = t1 at *
  generalize d2 b = t2 at *
  generalize d3 b = t3 at *
  generalize d4 b = t4 at *
  generalize d5 b = t5 at *
  generalize d6 b = t6 at *
  obtain ⟨m1,s1⟩ := t1
  obtain ⟨m2,s2⟩ := t2
  obtain ⟨m3,s3⟩ := t3
  obtain ⟨m4,s4⟩ := t4
  obtain ⟨l,s5⟩ := t5
  dsimp only at *
  have HW0 := Lib.hid (show Rr (w.heap.size + 1) ⟨b,true⟩ ((w.alloc (.cells #[.slice none 0 0,.slice none 0 0,.int .i64 0,.int .i64 0,.bool false] 28)).alloc (.cells #[.slice ba b.length bc,.bool true] 109)) from ⟨_,heap_new_at (by simp),(((hb.old RU8.steady (Below.refl _ _)).agree RU8.steady ((Agree.refl _ _).alloc _)).agree RU8.steady ((Agree.refl _ _).alloc _)).more RU8.steady (fun g hg _ => Nat.lt_succ_of_lt hg)⟩)
  have w1 : IntKind.i64.wrap ((m2 : Int) * 256) = (m2 : Int) * 256 := by rw [IntKind.wrap_i64];omega
  have HQ0 := Lib.hid (show Blk ((w.alloc (.cells #[.slice none 0 0,.slice none 0 0,.int .i64 0,.int .i64 0,.bool false] 28)).alloc (.cells #[.slice ba b.length bc,.bool true] 109)) w.heap.size 28 #[.slice none 0 0,.slice none 0 0,.int .i64 0,.int .i64 0,.bool false] from (Blk.new w _ _).alloc _)
  have HBL0 := Lib.hid (show Below w.heap.size w ((w.alloc (.cells #[.slice none 0 0,.slice none 0 0,.int .i64 0,.int .i64 0,.bool false] 28)).alloc (.cells #[.slice ba b.length bc,.bool true] 109)) from ((Below.refl _ _).alloc (Nat.le_refl _) _).alloc (by simp) _)
  go_enter Tryz.func20,Tryz.ntmps20
  go_wp2_with (first
    | (go_at_call 42;have hh := HL4.out;clear hh;refine (K5.out _ (HL4.out.set4 ((m4 : Int) == 1)).r).mono ?_;rintro e w5 ⟨kv,rfl,hr5,hq5,hb5⟩;obtain ⟨ka,kc,rfl,-,-,-⟩ := id hr5.form;have HL5 := Lib.hid ((HL4.out.set4 ((m4 : Int) == 1)).step hb5 hq5);have HK5 := Lib.hid hr5;have HL6 := Lib.hid (HL5.out.set0 (.slice ka l.length kc));have g0 := HL5.out.x.frozen 0;have d0 := HL6.out.x.cell 0;have g0c := HL5.out.x.cell 0;simp only [List.getElem?_toArray,List.getElem?_cons_zero] at d0 g0c;clear hr5 hb5 hq5)
    | (go_at_call 41;have hh := HL3.out;clear hh;refine (K4.out _ HL3.out.r).mono ?_;rintro e w4 ⟨rfl,hr4,hb4⟩;have HL4 := Lib.hid (HL3.out.step hb4 hr4);have f4 := HL4.out.x.frozen 4;have f4c := HL4.out.x.cell 4;simp only [List.getElem?_toArray,List.getElem?_cons_zero,List.getElem?_cons_succ] at f4c;clear hr4 hb4)
    | (go_at_call 41;have hh := HR2.out;clear hh;refine (K3.out _ HR2.out).mono ?_;rintro e w3 ⟨rfl,hr3,hb3⟩;have HR3 := Lib.hid hr3;have HL3 := Lib.hid (LdAt.mk3 HQ0.out HBL0.out (HB2.out.trans hb3) hr3 m1 (m2 * 256 + m3));clear hr3 hb3)
    | (go_at_call 41;have hh := HR1.out;clear hh;refine (K2.out _ HR1.out).mono ?_;rintro e w2 ⟨rfl,hr2,hb2⟩;have HR2 := Lib.hid hr2;have HB2 := Lib.hid (HB1.out.trans hb2);clear hr2 hb2)
    | (go_at_call 41;refine (K1.out _ HW0.out).mono ?_;rintro e w1 ⟨rfl,hr1,hb1⟩;have HR1 := Lib.hid hr1;have HB1 := Lib.hid hb1;clear hr1 hb1))
  have hb7 := HL5.out.lt
  have hb75 := HL5.out.x.lt
  have hb74 := HL4.out.x.lt
  obtain ⟨b7,hb7e⟩ : ∃ b7,w3.heap.size = b7 := ⟨_,rfl⟩
  rw [hb7e] at HL3 HL4 HL5 HL6 HK5 hb7 hb75 hb74 d0 g0 f4 g0c f4c
  have HKS := Lib.hid (show RdFacts (fun g => b7 < g ∧ g < w5.heap.size) (w5.setCell ⟨b7,0,none⟩ (.slice ka l.length kc)) (.slice ka l.length kc) l from RdFacts.set_far (HK5.out.more RFact.steady (S' := fun g => b7 < g ∧ g < w5.heap.size) (fun g hg hl => ⟨Nat.lt_of_lt_of_le hb74 (by simpa [World.setCell] using hg),hl⟩)) (fun h => Nat.lt_irrefl _ h.1) _)
  simp only [hb7e]
  clear HL5 HL4 HL3 HK5 K1 K2 K3 K4 K5 HW0 HQ0 HBL0 HR1 HR2 HR3 HB1 HB2 f4 f4c g0c
  have HO6 := Lib.hid (show Owned 2 RFact w5.heap.size 38 (New w5) (w5.setCell ⟨b7,0,none⟩ (.slice ka l.length kc)) (.slice none 0 0) [] from Owned.nil)
  clear hb7e g0 d0
  go_loopw [36] (fun i wr => ∃ (k : Nat) (sk : RdB) (acc : List PFact) (nv : Value),k ≤ l.length ∧ acc.length ≤ k ∧ w5.heap.size ≤ wr.heap.size ∧ i = .int .i64 k ∧ Hid (LdAt w b7 sk (.slice ka l.length kc) nv m1 (m2 * 256 + m3) ((m4 : Int) == 1) wr) ∧ Hid (RdFacts (fun g => b7 < g ∧ g < w5.heap.size) wr (.slice ka l.length kc) l) ∧ Hid (Owned 2 RFact w5.heap.size 38 (New w5) wr nv acc) ∧ Hid (newD (l.drop k) sk acc = t6)) (fun i _ => l.length - (intOf i).toNat)
  case atStart => exact ⟨0,s5,[],_,Nat.zero_le _,Nat.le_refl _,by simp [World.setCell],rfl,HL6,HKS,HO6,HD6⟩
  case round =>
    clear HL6 HKS HO6 HD6
    have hll := L5.out.1
    obtain ⟨k,sk,acc,nv,hk,hak,hsw,rfl,HL,HK,HO,HD⟩ := hrel
    obtain ⟨na,nc,rfl,-,-,-⟩ := id (HO.out.read RFact.steady).form
    by_cases hlt : k < l.length
    · obtain ⟨f,hf⟩ : ∃ f,l[k]? = some f := ⟨_,List.getElem?_eq_getElem hlt⟩
      have hfn : f.args.length ≤ 255 := L5.out.2 f (List.mem_of_getElem? hf)
      rcases hbd : byteD sk with ⟨n,s8⟩
      have HD8 := Lib.hid ((newD_step (acc := acc) hf hbd).symm.trans HD.out)
      have KB := Lib.hid (fun W (h : Rr (w.heap.size + 1) sk W) => show Calls Tryz.prog 41 #[.pointer (some ⟨w.heap.size + 1,0,none⟩)] W (RPost (w.heap.size + 1) (.int .i64 n) s8 W) from (byteCalls _ _ W h).mono fun e w' h' => by rw [hbd] at h';exact h')
      obtain ⟨b1,o1,av,rfl,hSb,hb1,d0,d1,hfa⟩ := RdFacts.at HK.out hf
      obtain ⟨aa,ac,rfl,-,-,-⟩ := id hfa.form
      have HFA := Lib.hid hfa
      have hrs := HL.out.r.lt
      have HL7 := Lib.hid (HL.out.alloc (.cells #[.string f.name,.slice aa f.args.length ac] 38))
      have HF7 := Lib.hid (Blk.new wr 38 #[.string f.name,.slice aa f.args.length ac])
      clear hbd hfa hf hSb HD
      have hn3 : 1 < n ∨ n = 1 ∨ n = 0 := by omega
      rcases hn3 with h1 | rfl | rfl
      · rw [if_pos h1,if_neg (by omega)] at HD8
        have h2 : (1 : Int) < (n : Int) := by omega
        have h3 : ((n : Int) == 1) = false := beq_eq_false_iff_ne.2 (by omega)
        go_wp2_with (go_at_call 41;refine (KB.out _ HL7.out.r).mono ?_;rintro e w8 ⟨rfl,hr8,hb8⟩;have hs8 : w5.heap.size ≤ w8.heap.size := (by have := hb8.size;simp at this;omega);have HL8 := Lib.hid (HL7.out.step hb8 hr8);have HK8 := Lib.hid (rdFacts_but (HK.out.agree RFact.steady ((Agree.refl _ _).alloc _)) hb8 (by omega));have HO8 := Lib.hid ((HO.out.alloc RFact.steady _).butS RFact.steady hb8 (by omega) (by show ¬ w5.heap.size ≤ _;omega));have f1 := HL8.out.r.frozen 1;obtain ⟨v8,hv8,-⟩ := id HL8.out.r;have c1 := hv8.cell 1;simp only [List.getElem?_toArray,List.getElem?_cons_zero,List.getElem?_cons_succ] at c1;clear hr8 hb8 hv8)
        go_roundw
        case rel => exact ⟨k + 1,_,acc,_,by omega,by omega,by simpa [World.setCell] using hs8,by go_num,Lib.hid (HL8.out.setr false),Lib.hid (RdFacts.set_far HK8.out (by show ¬ (b7 < w.heap.size + 1 ∧ _);omega) _),Lib.hid (HO8.out.setCell RFact.steady (by show ¬ w5.heap.size ≤ w.heap.size + 1;omega) (fun e => by have h : w5.heap.size ≤ w.heap.size + 1 := (HO8.out.row_lt e).1;omega) _),HD8⟩
        case measure => simp [intOf];omega
      · rw [if_neg (by decide),if_pos rfl] at HD8
        have KC := Lib.hid (fun W (h : RdStrs (fun g => b7 < g ∧ g < w5.heap.size) W (.slice aa f.args.length ac) f.args) => cloneStr (.slice aa f.args.length ac) f.args W h (by omega))
        go_wp2_with (go_at_call 41;refine (KB.out _ HL7.out.r).mono ?_;rintro e w8 ⟨rfl,hr8,hb8⟩;have hs8 : w5.heap.size ≤ w8.heap.size := (by have := hb8.size;simp at this;omega);have HL8 := Lib.hid (HL7.out.step hb8 hr8);have HK8 := Lib.hid (rdFacts_but (HK.out.agree RFact.steady ((Agree.refl _ _).alloc _)) hb8 (by omega));have HO8 := Lib.hid ((HO.out.alloc RFact.steady _).butS RFact.steady hb8 (by omega) (by show ¬ w5.heap.size ≤ _;omega));have HF8 := Lib.hid (HF7.out.but hb8 (by omega));have HFA8 := Lib.hid ((HFA.out.agree RStr.steady ((Agree.refl _ _).alloc _)).agree RStr.steady (hb8.agree (S := fun g => b7 < g ∧ g < w5.heap.size) (by omega)));clear hr8 hb8)
        have x1 := HL8.out.x.cell 1
        have xf := HL8.out.x.frozen 1
        have y0 := HF8.out.cell 0
        have y1 := HF8.out.cell 1
        simp only [List.getElem?_toArray,List.getElem?_cons_zero,List.getElem?_cons_succ] at x1 y0 y1
        have hal : acc.length < 1099511627776 := by omega
        have hz8 := fun q (hq : (Value.slice na acc.length nc).ownBlock = some q) => HO8.out.row_lt hq
        have hz9 : ∀ q,(Value.slice na acc.length nc).ownBlock = some q → b7 < q := fun q hq => by have := hz8 q hq;omega
        have hz10 : ∀ q,(Value.slice na acc.length nc).ownBlock = some q → ¬ (b7 < q ∧ q < w5.heap.size) := fun q hq => by have := hz8 q hq;omega
        have hq9 : ∀ q,w8.heap.size ≤ q → (New w5 q ∧ some q ≠ (Value.slice na acc.length nc).ownBlock) := fun q hq => ⟨by show w5.heap.size ≤ q;omega,fun e => by have := hz8 q e.symm;omega⟩
        clear hz8
        go_wp2
        go_region_law
          (first
            | (have hh := HL9.out;clear hh;refine step_append_one (by rfl) _ _ 24 (by rfl) RFact.steady rowFacts _ acc (by rfl) (HO9.out.alloc RFact.steady _) _ 1 #[.string f.name,.slice ca f.args.length cc] 38 (0,0) f (by rfl) (heap_alloc_new _ _) rfl (by simp [Value.oneCell']) ⟨_,rfl,(HR9.out.agree RStr.steady ((Agree.refl _ _).alloc _)).more RStr.steady (fun q hq _ => hq9 q hq)⟩ hal hs9 ?_;intro v10 w10 hown10 hg10 hat10;have hs10 := Nat.le_trans hs9 hg10.size;obtain ⟨xa,xc,rfl,-,-,-⟩ := id (hown10.read RFact.steady).form;have HO10 := Lib.hid hown10;have HL10 := Lib.hid ((HL9.out.alloc (.cells #[.string f.name,.slice ca f.args.length cc] 38)).rgrown hg10 hz9);have HK10 := Lib.hid (rdFacts_grown (HK9.out.agree RFact.steady ((Agree.refl _ _).alloc (.cells #[.string f.name,.slice ca f.args.length cc] 38))) hg10 hz10);have x2 := HL10.out.x.cell 1;have xf2 := HL10.out.x.frozen 1;simp only [List.getElem?_toArray,List.getElem?_cons_zero,List.getElem?_cons_succ] at x2;clear hown10 hg10 hat10)
            | (go_simp;go_at_call 33;refine (KC.out _ (HFA8.out.agree RStr.steady (Agree.refl _ _).drew)).mono ?_;rintro e w9 ⟨⟨cv,rfl,hr9⟩,hb9⟩;obtain ⟨ca,cc,rfl,-,-,-⟩ := id hr9.form;have HR9 := Lib.hid hr9;have HL9 := Lib.hid (HL8.out.drew.own hb9);have HF9 := Lib.hid (HF8.out.drew.below hb9 HF8.out.lt);have HB9 := Lib.hid hb9;have HO9 := Lib.hid ((HO8.out.drew RFact.steady).below RFact.steady hb9);have HK9 := Lib.hid (HK8.out.agree RFact.steady (Below.agree hb9));have z1 := HL9.out.x.cell 1;have zf := HL9.out.x.frozen 1;have z0 := HF9.out.cell 0;have zA := (HL9.out.alloc (.cells #[.string f.name,.slice ca f.args.length cc] 38)).x.cell 1;simp only [List.getElem?_toArray,List.getElem?_cons_zero,List.getElem?_cons_succ] at z0 z1 zA;have hb9s := hb9.size;have hs9 : w5.heap.size ≤ (w9.alloc (.cells #[.string f.name,.slice ca f.args.length cc] 38)).heap.size := (by simp at hb9s ⊢;omega);clear hr9 hb9))
        all_goals
          have HL11 := Lib.hid (HL10.out.set1 (.slice xa (acc ++ [f]).length xc))
          have HK11 := Lib.hid (RdFacts.set_far (p := ⟨b7,1,none⟩) HK10.out (fun h => Nat.lt_irrefl _ h.1) (.slice xa (acc ++ [f]).length xc))
          have HO11 := Lib.hid (HO10.out.setCell RFact.steady (p := ⟨b7,1,none⟩) (by show ¬ w5.heap.size ≤ b7;omega) (fun e => by have h : w5.heap.size ≤ b7 := (HO10.out.row_lt e).1;omega) (.slice xa (acc ++ [f]).length xc))
          have hlen : (acc ++ [f]).length = acc.length + 1 := by simp
          have hs11 : w5.heap.size ≤ (w10.setCell ⟨b7,1,none⟩ (.slice xa (acc ++ [f]).length xc)).heap.size := by simpa [World.setCell] using hs10
          rw [hlen] at HL11 HK11 HO11 hs11
          go_wp2
          go_roundw
          case rel => exact ⟨k + 1,_,acc ++ [f],_,by omega,by rw [hlen];omega,hs11,by go_num,HL11,HK11,HO11,HD8⟩
          case measure => simp [intOf];omega
      · rw [if_neg (by decide),if_neg (by decide)] at HD8
        go_wp2_with (go_at_call 41;refine (KB.out _ HL7.out.r).mono ?_;rintro e w8 ⟨rfl,hr8,hb8⟩;have hs8 : w5.heap.size ≤ w8.heap.size := (by have := hb8.size;simp at this;omega);have HL8 := Lib.hid (HL7.out.step hb8 hr8);have HK8 := Lib.hid (rdFacts_but (HK.out.agree RFact.steady ((Agree.refl _ _).alloc _)) hb8 (by omega));have HO8 := Lib.hid ((HO.out.alloc RFact.steady _).butS RFact.steady hb8 (by omega) (by show ¬ w5.heap.size ≤ _;omega));clear hr8 hb8)
        go_roundw
        case rel => exact ⟨k + 1,_,acc,_,by omega,by omega,hs8,by go_num,HL8,HK8,HO8,HD8⟩
        case measure => simp [intOf];omega
    · have hkn : k = l.length := by omega
      have e6 : (acc,sk) = t6 := by have h := HD.out;rw [hkn,List.drop_length] at h;exact h
      subst e6
      dsimp only at HFB HE0
      have hcast : ((m2 * 256 + m3 : Nat) : Int) = (m2 : Int) * 256 + m3 := by omega
      have hdn : (m4 == 1) = ((m4 : Int) == 1) := by rw [Bool.eq_iff_iff];simp only [beq_iff_eq];omega
      rw [hcast,hdn] at HE0
      obtain ⟨v8,hv8,hr8⟩ := HL.out.r
      obtain ⟨a8,c8,rfl,-,-,-⟩ := id hr8.form
      have r0 := hv8.cell 0;have r1 := hv8.cell 1
      have c0 := HL.out.q.cell 0;have c1 := HL.out.q.cell 1;have c2 := HL.out.q.cell 2;have c3 := HL.out.q.cell 3;have c4 := HL.out.q.cell 4
      have f0 := HL.out.q.frozen 0;have f1 := HL.out.q.frozen 1;have f2 := HL.out.q.frozen 2;have f3 := HL.out.q.frozen 3;have f4 := HL.out.q.frozen 4
      simp only [List.getElem?_toArray,List.getElem?_cons_zero,List.getElem?_cons_succ] at r0 r1 c0 c1 c2 c3 c4
      clear hv8 hr8 hcast hdn hkn
      by_cases hfb : sk.ok = false ∨ (sk.ok = true ∧ 0 < sk.b.length) ∨ (sk.ok = true ∧ sk.b.length = 0 ∧ 1 < m4)
      · have hFB : FB = true := by
          rw [HFB.out]
          rcases hfb with h | ⟨h,h2⟩ | ⟨h,h2,h3⟩
          · rw [h];rfl
          · rw [h,decide_eq_true h2];rfl
          · rw [h,decide_eq_true h3,Bool.or_true]
        have HE := Lib.hid (show LP = (zeroRun,2) by rw [HLP.out,hFB,if_pos rfl])
        have hcs : sk.ok = false ∨ (sk.ok = true ∧ ∃ z : Nat,sk.b.length = z + 1) ∨ (sk.ok = true ∧ sk.b.length = 0 ∧ (1 : Int) < (m4 : Int)) := by
          rcases hfb with h | ⟨h,h2⟩ | ⟨h,h2,h3⟩
          · exact .inl h
          · exact .inr (.inl ⟨h,sk.b.length - 1,by omega⟩)
          · exact .inr (.inr ⟨h,h2,by omega⟩)
        clear hFB hfb HFB HLP HE0
        rcases hcs with h1 | ⟨h1,z,h2⟩ | ⟨h1,h2,h3⟩
        all_goals
          rw [h1] at r1
          try rw [h2] at r0
          try clear h2
          try have hz : (0 : Int) < (z : Int) + 1 := by omega
          clear h1
          go_wp2
          refine bodyPost_ret (v := .tuple #[.agg #[.slice none 0 0,.slice none 0 0,.int .i64 0,.int .i64 0,.bool false],.int .i64 2]) (by simp [results,Tryz.results20,go_sem,c0,c1,c2,c3,c4]) rfl (run_ret_err HE.out (set5_below HL.out.bl (Nat.le_refl _) _ _ _ _ _))
      · have h1 : sk.ok = true := by cases h : sk.ok;· exact absurd (.inl h) hfb
                                     · rfl
        have h2 : sk.b.length = 0 := Nat.eq_zero_of_not_pos fun h => hfb (.inr (.inl ⟨h1,h⟩))
        have h3 : ¬ (1 : Int) < (m4 : Int) := fun h => hfb (.inr (.inr ⟨h1,h2,by omega⟩))
        have hFB : FB = false := by rw [HFB.out,h1,h2,decide_eq_false (show ¬ 1 < m4 by omega)];rfl
        have HLP2 := Lib.hid (show LP = if runBad st q.1 p RR ≠ 0 then (zeroRun,runBad st q.1 p RR) else (RR,0) by rw [HLP.out,hFB,if_neg Bool.false_ne_true])
        have HRS2 := Lib.hid HRS.out
        rw [HE0.out] at HLP2 HRS2
        clear hfb hFB HFB HLP HRS
        rw [h1] at r1
        rw [h2] at r0
        clear h1 h2
        have KW := Lib.hid (runWrongCalls p (.slice pa p.length pc) st q ⟨l,acc,m1,m2 * 256 + m3,(m4 : Int) == 1⟩ (.slice ka l.length kc) (.slice na acc.length nc) wr hS (h.up HL.out.bl) ⟨RdFacts.any HK.out,RdFacts.any (HO.out.read RFact.steady)⟩ n1 n2 n3 HRS2.out)
        have d0 := HL.out.x.cell 0;have d1 := HL.out.x.cell 1;have d2 := HL.out.x.cell 2;have d3 := HL.out.x.cell 3;have d4 := HL.out.x.cell 4
        simp only [List.getElem?_toArray,List.getElem?_cons_zero,List.getElem?_cons_succ] at d0 d1 d2 d3 d4
        generalize runBad st q.1 p ⟨l,acc,m1,m2 * 256 + m3,(m4 : Int) == 1⟩ = rb at *
        generalize ((m4 : Int) == 1) = dn at *
        by_cases hrb : rb = 0
        · subst hrb
          have HE := Lib.hid (show LP = (⟨l,acc,m1,m2 * 256 + m3,dn⟩,0) by rw [HLP2.out,if_neg (by decide)])
          clear HLP2
          go_wp2_with (go_at_call 43;refine (KW.out).mono ?_;rintro e w9 ⟨rfl,hb9⟩;have HL9 := Lib.hid (HL.out.own hb9);have HK9 := Lib.hid (HK.out.agree RFact.steady (Below.agree hb9));have HO9 := Lib.hid (HO.out.below RFact.steady hb9);clear hb9;have c0 := HL9.out.q.cell 0;have c1 := HL9.out.q.cell 1;have c2 := HL9.out.q.cell 2;have c3 := HL9.out.q.cell 3;have c4 := HL9.out.q.cell 4;have f0 := HL9.out.q.frozen 0;have f1 := HL9.out.q.frozen 1;have f2 := HL9.out.q.frozen 2;have f3 := HL9.out.q.frozen 3;have f4 := HL9.out.q.frozen 4;have d0 := HL9.out.x.cell 0;have d1 := HL9.out.x.cell 1;have d2 := HL9.out.x.cell 2;have d3 := HL9.out.x.cell 3;have d4 := HL9.out.x.cell 4;simp only [List.getElem?_toArray,List.getElem?_cons_zero,List.getElem?_cons_succ] at c0 c1 c2 c3 c4 d0 d1 d2 d3 d4)
          refine bodyPost_ret (v := .tuple #[.agg #[.slice ka l.length kc,.slice na acc.length nc,.int .i64 m1,.int .i64 (m2 * 256 + m3),.bool dn],.int .i64 0]) (by simp [results,Tryz.results20,go_sem,c0,c1,c2,c3,c4]) rfl (run_ret_ok HE.out (set5_below HL9.out.bl (Nat.le_refl _) _ _ _ _ _)
            (RdFacts.newer (set5_facts HK9.out (fun h => by omega) _ _ _ _ _) (fun g hg => by omega)) (RdFacts.newer (set5_facts (HO9.out.read RFact.steady) (fun h => h.elim (fun h => by have h' : w5.heap.size ≤ w.heap.size := h;omega) (fun h => by omega)) _ _ _ _ _) (fun g hg => hg.elim (fun h => by have h' : w5.heap.size ≤ g := h;omega) (fun h => by omega))))
        · have hg : (rb != 0) = true := by simpa using hrb
          have HE := Lib.hid (show LP = (zeroRun,rb) by rw [HLP2.out,if_pos hrb])
          clear HLP2 hrb
          go_wp2_with (go_at_call 43;refine (KW.out).mono ?_;rintro e w9 ⟨rfl,hb9⟩;have HL9 := Lib.hid (HL.out.own hb9);clear hb9;have c0 := HL9.out.q.cell 0;have c1 := HL9.out.q.cell 1;have c2 := HL9.out.q.cell 2;have c3 := HL9.out.q.cell 3;have c4 := HL9.out.q.cell 4;have f0 := HL9.out.q.frozen 0;have f1 := HL9.out.q.frozen 1;have f2 := HL9.out.q.frozen 2;have f3 := HL9.out.q.frozen 3;have f4 := HL9.out.q.frozen 4;simp only [List.getElem?_toArray,List.getElem?_cons_zero,List.getElem?_cons_succ] at c0 c1 c2 c3 c4)
          refine bodyPost_ret (v := .tuple #[.agg #[.slice none 0 0,.slice none 0 0,.int .i64 0,.int .i64 0,.bool false],.int .i64 rb]) (by simp [results,Tryz.results20,go_sem,c0,c1,c2,c3,c4]) rfl (run_ret_err HE.out (set5_below HL9.out.bl (Nat.le_refl _) _ _ _ _ _))
end Go.Proofs.YtiiicochdidolaaGreat
