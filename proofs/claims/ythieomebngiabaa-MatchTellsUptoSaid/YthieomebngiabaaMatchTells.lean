/-
  corolaw4.MatchTells ALWAYS ANSWERS TRUE: Get, Fill, Meet, With and All tell what the document's answer tells. For any arguments of ordinary size; without conditions.
-/
import Derived.Test.YthieomebngiabaaPk5
import Derived.Test.YthieomebngiabaaPk11
import Derived.Test.YthieomebngiabaaPk14
import Derived.Test.YthieomebngiabaaChecked
namespace Go.Proofs.Ythieomebngiabaa
open Go.RowKit Go.ChangeShapes Go.WideShapes Go.Deep Go.Maps

theorem atom_small {a : PAtom} : a.name.size ≤ sizeAtom a ∧ a.terms.length ≤ sizeAtom a ∧ ∀ t ∈ a.terms, t.name.size ≤ sizeAtom a := by
  have h2 := sizeL_le (size := sizeTerm) openTerm.one a.terms
  refine ⟨by simp only [sizeAtom, sizeStr]; omega, by simp only [sizeAtom]; omega, fun t ht => ?_⟩
  have h1 := sizeL_mem (size := sizeTerm) ht
  have h3 : t.name.size ≤ sizeTerm t := by simp only [sizeTerm, sizeStr]; omega
  simp only [sizeAtom]; omega
theorem withReads {S S2 S3 : Nat → Prop} (body : List PAtom) (bv : Value) (facts : List PFact) (fv : Value) (at' : Int) (other : List PFact) (ov : Value) (w : World) (hb : RdAtoms S w bv body) (hf : RdFacts S2 w fv facts) (ho : RdFacts S3 w ov other)
    (n1 : body.length ≤ 1048576) (n2 : ∀ a ∈ body, a.terms.length ≤ 1048576) (n3 : ∀ a ∈ body, ∀ t ∈ a.terms, t.name.size ≤ 1048576) (n4 : facts.length ≤ 1048576) (n5 : ∀ x ∈ facts, x.args.length ≤ 1048576) (n6 : other.length ≤ 1048576) (n7 : ∀ x ∈ other, x.args.length ≤ 1048576) :
    Calls Try.prog 4 #[bv, fv, .int .i64 at', ov] w (WithR (withP body facts at' other) w) :=
  (withCalls bv body fv facts at' ov other w hb hf ho n1 n2 n3 n4 n5 n6 n7).mono fun e w' ⟨h1, v, zs, he, hn, hm⟩ => by
    have hr := (hn.reads.read RBinds.steady).more RBinds.steady (S' := fun _ => True) (fun _ _ _ => trivial)
    rw [hm] at hr
    obtain ⟨a, c, rfl, -, -, -⟩ := id hr.form
    exact ⟨⟨a, c, he, hr⟩, h1⟩
def noFact : PFact := ⟨⟨#[]⟩, []⟩
/-- What Fill answers, in one form. -/
theorem fill_uni {a : PAtom} {l : Binds} {w : World} {e : Ending} {w' : World} (h : FillPost a l w e w') : Below w.heap.size w w' ∧ ∃ p c, e = .returned (.tuple #[.agg #[.string ((fillP a l).getD noFact).name, .slice p ((fillP a l).getD noFact).args.length c], .bool (fillP a l).isSome]) ∧ RdStrs (fun _ => True) w' (.slice p ((fillP a l).getD noFact).args.length c) ((fillP a l).getD noFact).args := by
  obtain ⟨hb, h⟩ := h
  refine ⟨hb, ?_⟩
  cases hf : fillP a l with
  | none => rw [hf] at h; exact ⟨none, 0, h, RdStrs.nil⟩
  | some f =>
    rw [hf] at h
    obtain ⟨v, he, hr⟩ := h
    obtain ⟨p, c, rfl, -, -, -⟩ := id hr.form
    exact ⟨p, c, he, hr.more RStr.steady (fun _ _ _ => trivial)⟩
theorem meet_uni {a : PAtom} {f : PFact} {l : Binds} {w : World} {e : Ending} {w' : World} (h : MeetPost a f l w e w') : Below w.heap.size w w' ∧ ∃ p c, e = .returned (.tuple #[.slice p ((meetP a f l).getD []).length c, .bool (meetP a f l).isSome]) ∧ RdBinds (fun _ => True) w' (.slice p ((meetP a f l).getD []).length c) ((meetP a f l).getD []) := by
  obtain ⟨hb, h⟩ := h
  refine ⟨hb, ?_⟩
  cases hf : meetP a f l with
  | none => rw [hf] at h; exact ⟨none, 0, h, RdSlice.nothing (Nat.zero_le _) (fun _ => rfl)⟩
  | some m =>
    rw [hf] at h
    obtain ⟨v, he, hr⟩ := h
    have h2 := (Owned.read RBind.steady hr).more RBind.steady (S' := fun _ => True) (fun _ _ _ => trivial)
    obtain ⟨p, c, rfl, -, -, -⟩ := id h2.form
    exact ⟨p, c, he, h2⟩
theorem meet_fine {a : PAtom} {f : PFact} {l m : Binds} (h : meetP a f l = some m) (hd : Nd l) (hs : ∀ y ∈ l, y.var.size ≤ 1048576) (ht : ∀ t ∈ a.terms, t.name.size ≤ 1048576) : Nd m ∧ (∀ y ∈ m, y.var.size ≤ maxLen) ∧ m.length ≤ l.length + a.terms.length := by
  have h3 := stepP_short (ls := [l]) (a := a) (fs := [f]) (c := l.length) (fun x hx => by obtain rfl := List.mem_singleton.1 hx; exact Nat.le_refl _) m (mem_stepP.2 ⟨l, List.mem_singleton.2 rfl, f, List.mem_singleton.2 rfl, h⟩)
  unfold meetP at h
  split at h
  · rename_i hq
    obtain ⟨h1, -, -, h2⟩ := meetL_spec _ _ _ _ hq.2 hd h
    refine ⟨h1, fun y hy => ?_, h3⟩
    rcases (h2 y.var).1 (List.mem_map.2 ⟨y, hy, rfl⟩) with hv | ⟨t, ht', -, e⟩
    · obtain ⟨z, hz, e⟩ := List.mem_map.1 hv
      rw [← e]; have := hs z hz; unfold maxLen; omega
    · rw [← e]; have := ht t ht'; unfold maxLen; omega
  · cases h
theorem fill_len (a : PAtom) (l : Binds) : ((fillP a l).getD noFact).args.length ≤ a.terms.length := by
  unfold fillP
  cases h : fillArgs l a.terms with
  | none => exact Nat.zero_le _
  | some ns => exact Nat.le_of_eq (fillArgs_len h).symm
structure SmallM (body : List PAtom) (facts other : List PFact) (l : Binds) : Prop where
  n0 : body.length ≤ 1048576
  b0 : ∀ a ∈ body, a.terms.length ≤ 1048576 ∧ a.name.size ≤ 1048576
  b1 : ∀ a ∈ body, ∀ t ∈ a.terms, t.name.size ≤ 1048576
  n1 : facts.length ≤ 1048576
  n2 : ∀ x ∈ facts, (x.args.length ≤ 1048576 ∧ ∀ a ∈ x.args, a.size ≤ 1048576) ∧ x.name.size ≤ 1048576
  m1 : other.length ≤ 1048576
  m2 : ∀ x ∈ other, (x.args.length ≤ 1048576 ∧ ∀ a ∈ x.args, a.size ≤ 1048576) ∧ x.name.size ≤ 1048576
  l0 : l.length ≤ 1048576
  l1 : ∀ y ∈ l, y.var.size ≤ 1048576 ∧ y.name.size ≤ 1048576
theorem facts_fine {l : List PFact} (h : sizeL sizeFact l ≤ 1048576) : l.length ≤ 1048576 ∧ ∀ x ∈ l, (x.args.length ≤ 1048576 ∧ ∀ a ∈ x.args, a.size ≤ 1048576) ∧ x.name.size ≤ 1048576 := by
  refine ⟨by have := sizeL_le openFact.one l; omega, fun x hx => ?_⟩
  have h1 := sizeL_mem (size := sizeFact) hx
  have h2 := sizeL_le openStr.one x.args
  simp only [sizeFact, sizeStr] at h1
  refine ⟨⟨by omega, fun a ha => ?_⟩, by omega⟩
  have h3 := sizeL_mem (size := sizeStr) ha
  simp only [sizeStr] at h3
  omega
theorem smallM {body : List PAtom} {facts other : List PFact} {l : Binds} (h0 : sizeL sizeAtom body ≤ 1048576) (h1 : sizeL sizeFact facts ≤ 1048576) (h2 : sizeL sizeFact other ≤ 1048576) (h3 : sizeL sizeBind l ≤ 1048576) : SmallM body facts other l where
  n0 := by have := sizeL_le openAtom.one body; omega
  b0 a ha := by have g1 := sizeL_mem (size := sizeAtom) ha; have g2 := atom_small (a := a); exact ⟨by omega, by omega⟩
  b1 a ha t ht := by have g1 := sizeL_mem (size := sizeAtom) ha; have g2 := (atom_small (a := a)).2.2 t ht; omega
  n1 := (facts_fine h1).1
  n2 := (facts_fine h1).2
  m1 := (facts_fine h2).1
  m2 := (facts_fine h2).2
  l0 := by have := sizeL_le openBind.one l; omega
  l1 y hy := by have g1 := sizeL_mem (size := sizeBind) hy; simp only [sizeBind, sizeStr] at g1; exact ⟨by omega, by omega⟩
theorem trodAll_five {H : Type} {enc : TypeId × Value → H} {P : Program} {w : World} {base : Nat} {spare : Nat → Bool} {held : Bool} {t t' t'' t3 t4 : TypeId} {args : Array Value} {ds : List (DataW H)} {ps : List MemPlace} (h : DataW.TrodAll enc P w base spare held [t, t', t'', t3, t4] args.toList ds ps) :
    ∃ v v' v'' v3 v4 d d' d'' d3 d4 p p' p'' p3 p4, args = #[v, v', v'', v3, v4] ∧ ds = [d, d', d'', d3, d4] ∧ ps = p ++ p' ++ p'' ++ p3 ++ p4 ∧ DataW.Trod enc P w base spare held t v d p ∧ DataW.Trod enc P w base spare held t' v' d' p' ∧ DataW.Trod enc P w base spare held t'' v'' d'' p'' ∧ DataW.Trod enc P w base spare held t3 v3 d3 p3 ∧ DataW.Trod enc P w base spare held t4 v4 d4 p4 := by
  obtain ⟨v, vs, d, ds', p, q, hargs, rfl, rfl, hd, hrest⟩ := trodAll_cons h
  obtain ⟨v', vs', d', ds'', p', q', rfl, rfl, rfl, hd', hrest'⟩ := trodAll_cons hrest
  obtain ⟨v'', vs'', d'', ds''', p'', q'', rfl, rfl, rfl, hd'', hrest''⟩ := trodAll_cons hrest'
  obtain ⟨v3, vs3, d3, ds3, p3, q3, rfl, rfl, rfl, hd3, hrest3⟩ := trodAll_cons hrest''
  obtain ⟨v4, vs4, d4, ds4, p4, q4, rfl, rfl, rfl, hd4, hrest4⟩ := trodAll_cons hrest3
  obtain ⟨rfl, rfl, rfl⟩ := trodAll_nil hrest4
  exact ⟨v, v', v'', v3, v4, d, d', d'', d3, d4, p, p', p'', p3, p4, by cases args; simp_all, rfl, by simp, hd, hd', hd'', hd3, hd4⟩
attribute [local go_sem ↓] Go.wp_at_zero Go.wp_at_succ
set_option maxRecDepth 100000 in
set_option maxHeartbeats 16000000 in
theorem matchTellsCalls {S S2 S3 S4 : Nat → Prop} (body : List PAtom) (bv : Value) (facts : List PFact) (fv : Value) (at' : Int) (other : List PFact) (ov : Value) (l : Binds) (lv : Value) (w : World) (hb : RdAtoms S w bv body) (hf : RdFacts S2 w fv facts) (ho : RdFacts S3 w ov other) (hl : RdBinds S4 w lv l) (hs : SmallM body facts other l) :
    Calls Try.prog 3 #[bv, fv, .int .i64 at', ov, lv] w fun e w' => e = .returned (.bool true) ∧ Below w.heap.size w w' := by
  obtain ⟨ba, bc, rfl, -, -, -⟩ := id hb.form
  obtain ⟨fa, fc, rfl, -, -, -⟩ := id hf.form
  obtain ⟨oa, oc, rfl, -, -, -⟩ := id ho.form
  obtain ⟨la, lc, rfl, -, -, -⟩ := id hl.form
  have HS := Lib.hid hs
  have hl0 := hs.l0
  have hfn := hs.n1
  have hbn := hs.n0
  have KA := Lib.hid (fun W (hW : Below w.heap.size w W) => withReads body (.slice ba body.length bc) facts (.slice fa facts.length fc) at' other (.slice oa other.length oc) W (hb.up hW) (hf.up hW) (ho.up hW) hs.n0 (fun a ha => (hs.b0 a ha).1) hs.b1 hs.n1 (fun x hx => (hs.n2 x hx).1.1) hs.m1 (fun x hx => (hs.m2 x hx).1.1))
  have KB := Lib.hid (fun W (hW : Below w.heap.size w W) => withRef body (.slice ba body.length bc) facts (.slice fa facts.length fc) at' other (.slice oa other.length oc) W (hb.up hW) (hf.up hW) (ho.up hW) hs.n0 hs.b0 hs.b1 hs.n1 hs.n2 hs.m1 hs.m2)
  have KC := Lib.hid (fun W (hW : Below w.heap.size w W) => allReads (.slice ba body.length bc) body (.slice fa facts.length fc) facts W (hb.up hW) (hf.up hW) hs.n0 (fun a ha => (hs.b0 a ha).1) hs.b1 hs.n1 (fun x hx => (hs.n2 x hx).1.1))
  have KD := Lib.hid (fun W (hW : Below w.heap.size w W) => withRef body (.slice ba body.length bc) facts (.slice fa facts.length fc) (-1) [] (.slice none 0 0) W (hb.up hW) (hf.up hW) (RdSlice.nothing (S := fun _ => True) (R := RFact) (k := 2) (Nat.zero_le _) (fun _ => rfl)) hs.n0 hs.b0 hs.b1 hs.n1 hs.n2 (Nat.zero_le _) (fun x hx => by cases hx))
  have HS1 := Lib.hid (with_short body facts at' other)
  have HS2 := Lib.hid (with_short body facts (-1) [])
  have HB := Lib.hid hb
  have HF := Lib.hid hf
  have HL := Lib.hid (hl.more RBind.steady (S' := fun _ => True) (fun _ _ _ => trivial))
  have heq : allP body facts = withP body facts (-1) [] := rfl
  rw [heq] at KC
  clear heq hb hf ho hl hs
  generalize withP body facts at' other = r1 at *
  generalize withP body facts (-1) [] = r2 at *
  obtain ⟨l1, e1⟩ := r1
  obtain ⟨l2, e2⟩ := r2
  dsimp only at *
  unfold WithR at KA KB KD
  have q1 : (e1 != e1) = false := by simp
  have q2 : (e2 != e2) = false := by simp
  go_enter Try.func3, Try.ntmps3
  have T1 := Lib.hid True.intro
  have T2 := Lib.hid True.intro
  have hmm := @run_makeMap Try.prog
  have hnn : ∀ (W : World) (r : Option Nat), (binOp .neq 32 (.map r) (.map none)).run Try.prog W = .ok (.bool (!r.isNone)) W := fun W r => Go.run_neq_map_nil W _ _ _ r Try.underlying32
  go_wp2_with (first
    | (go_at_call 4; clear T1; refine (KA.out _ (Below.refl _ _)).mono ?_; rintro e w1 ⟨⟨a1, c1, rfl, hr1⟩, hb1⟩; have HB1 := Lib.hid hb1; have HR1 := Lib.hid hr1; clear hr1 hb1)
    | (go_at_call 5; clear T2; refine (KB.out _ HB1.out).mono ?_; rintro e w2 ⟨⟨a2, c2, rfl, hr2⟩, hb2⟩; have HB2 := Lib.hid (HB1.out.trans (hb2.mono HB1.out.size)); have HR2 := Lib.hid hr2; have HP2 := Lib.hid (RdSlice.agree RBinds.steady (Below.agree hb2) HR1.out); clear hr2 hb2)
    | (go_at_call 6; have hh := HR6.out; clear hh; refine (sameBindsRef _ _ l2 _ HP6.out HR6.out (by have := HS2.out.1; omega) (fun x hx => by have := HS2.out.2 x hx; omega)).mono ?_; rintro e w7 ⟨rfl, hf7⟩; have HB7 := Lib.hid (HB6.out.trans (hf7.below.mono HB6.out.size)); clear hf7)
    | (go_at_call 5; have hh := HB5.out; clear hh; refine (KD.out _ HB5.out).mono ?_; rintro e w6 ⟨⟨a6, c6, rfl, hr6⟩, hb6⟩; have HB6 := Lib.hid (HB5.out.trans (hb6.mono HB5.out.size)); have HR6 := Lib.hid hr6; have HP6 := Lib.hid (RdSlice.agree RBinds.steady (Below.agree hb6) HR5.out); clear hr6 hb6)
    | (go_at_call 7; have hh := HB3.out; clear hh; refine (KC.out _ HB3.out).mono ?_; rintro e w5 ⟨⟨a5, c5, rfl, hr5⟩, hb5⟩; have HB5 := Lib.hid (HB3.out.trans (hb5.mono HB3.out.size)); have HR5 := Lib.hid hr5; clear hr5 hb5)
    | (go_at_call 6; have hh := HR2.out; clear hh; refine (sameBindsRef _ _ l1 _ HP2.out HR2.out (by have := HS1.out.1; omega) (fun x hx => by have := HS1.out.2 x hx; omega)).mono ?_; rintro e w3 ⟨rfl, hf3⟩; have HB3 := Lib.hid (HB2.out.trans (hf3.below.mono HB2.out.size)); clear hf3))
  clear KA KB KC KD HR1 HR2 HP2 HR5 HR6 HP6 HB1 HB2 HB3 HB5 HB6 HS1 HS2
  have HB0 := Lib.hid (show Below w7.heap.size w7 (w7.alloc (.map #[] 0)) from (Below.refl _ _).alloc (Nat.le_refl _) _)
  have HM0 := Lib.hid (show MapE (w7.alloc (.map #[] 0)) w7.heap.size 0 (fun v => getB v (l.take 0)) from (MapE.made w7).like (fun s _ => rfl))
  have HL7 := Lib.hid (RdBinds.up HL.out HB7.out)
  clear hmm q1 q2
  go_wp2
  go_loopw [84] (fun i wr => ∃ k : Nat, k ≤ l.length ∧ i = .int .i64 k ∧ Hid (Below w7.heap.size w7 wr) ∧ Hid (MapE wr w7.heap.size k (fun v => getB v (l.take k))) ∧ Hid (Nd (l.take k))) (fun i _ => l.length - (intOf i).toNat)
  case atStart => exact ⟨0, Nat.zero_le _, rfl, HB0, HM0, Lib.hid List.Pairwise.nil⟩
  case round =>
    clear HB0 HM0
    obtain ⟨k, hk, rfl, HBK, HM, HN⟩ := hrel
    by_cases hlt : k < l.length
    · obtain ⟨x, hx⟩ : ∃ x, l[k]? = some x := ⟨_, List.getElem?_eq_getElem hlt⟩
      have hxs := HS.out.l1 x (List.mem_of_getElem? hx)
      obtain ⟨b1, o1, rfl, -, hb1, c0, c1⟩ := RdBinds.at (RdBinds.up HL7.out HBK.out) hx
      obtain ⟨X4, hX4⟩ : ∃ X : World, wr.alloc (.cells #[.string x.var, .string x.name] 34) = X := ⟨_, rfl⟩
      have hgX4 : Below wr.heap.size wr X4 := by subst hX4; exact (Below.refl _ _).alloc (Nat.le_refl _) _
      have HZX4 := Lib.hid (show Blk X4 wr.heap.size 34 #[.string x.var, .string x.name] by subst hX4; exact Blk.new wr _ _)
      have HM4 := Lib.hid (show MapE X4 w7.heap.size k (fun v => getB v (l.take k)) by subst hX4; exact HM.out.alloc _)
      have HB4 := Lib.hid (HBK.out.trans (hgX4.mono HBK.out.size))
      have z0 := HZX4.out.cell 0; have z1 := HZX4.out.cell 1; simp only [List.getElem?_toArray, List.getElem?_cons_zero, List.getElem?_cons_succ] at z0 z1
      have hv1 : x.var.size ≤ maxLen := by have := hxs.1; unfold maxLen; omega
      have hv2 : x.name.size ≤ maxLen := by have := hxs.2; unfold maxLen; omega
      have hget := HM4.out.getOk (s := x.var) hv1
      have HSN := Lib.hid (show l.take (k + 1) = l.take k ++ [x] by rw [List.take_add_one, hx]; rfl)
      clear hx hxs hgX4
      cases hg : getB x.var (l.take k) with
      | some n =>
        rw [hg] at hget
        clear hg
        go_wp2
        go_ret
        exact ⟨rfl, HB7.out.trans (HB4.out.mono HB7.out.size)⟩
      | none =>
        rw [hg] at hget
        obtain ⟨w5, hput, hm5, hg5⟩ := HM4.out.put (s := x.var) (x := x.name) (by unfold maxLen; omega) hv1 hv2
        have hgs := getB_snoc (v := x.var) (x := x.name) hg
        have HM5 := Lib.hid (show MapE w5 w7.heap.size (k + 1) (fun v => getB v (l.take (k + 1))) by
          rw [HSN.out, ← hgs]
          exact hm5)
        have HN5 := Lib.hid (show Nd (l.take (k + 1)) by rw [HSN.out]; exact nd_snoc (v := x.var) (n := x.name) HN.out (getB_none.1 hg))
        have HB5 := Lib.hid (HB4.out.grown hg5 HB4.out.size (fun q hq => by cases hq; exact Nat.le_refl _))
        have hq5 : ∀ o, w5.cell? ⟨wr.heap.size, o, none⟩ = X4.cell? ⟨wr.heap.size, o, none⟩ := fun o => by
          have h1 := HM4.out.lt
          have h2 := HZX4.out.lt
          have h3 := HM.out.lt
          have := hg5.block wr.heap.size h2 (fun e => by have := Option.some.inj e; omega)
          simp only [World.cell?, this]
        clear hg hm5 hg5 hgs hq5 hv1 hv2
        go_wp2
        go_roundw
        case rel => exact ⟨k + 1, by omega, by go_num, HB5, HM5, HN5⟩
        case measure => simp [intOf]; omega
    · have hkn : k = l.length := by omega
      subst hkn
      rw [List.take_length] at HM HN
      clear hk
      obtain ⟨Y, hY⟩ : ∃ Y : World, Y = wr := ⟨_, rfl⟩
      subst hY
      have HBY := Lib.hid (HB7.out.trans (HBK.out.mono HB7.out.size))
      have HBA := Lib.hid (HB.out.up HBY.out)
      have HFA := Lib.hid (HF.out.up HBY.out)
      have HLA := Lib.hid (RdBinds.up HL.out HBY.out)
      have HLN := Lib.hid (fun y hy => (HS.out.l1 y hy).1)
      clear HB HF HL HL7 HBK HB7
      generalize w7.heap.size = MB at *
      go_wp2
      go_loopw [104] (fun i wr => ∃ k : Nat, k ≤ body.length ∧ i = .int .i64 k ∧ Hid (Below Y.heap.size Y wr)) (fun i _ => body.length - (intOf i).toNat)
      case atStart => exact ⟨0, Nat.zero_le _, rfl, Lib.hid (Below.refl _ _)⟩
      case round =>
        obtain ⟨k, hk, rfl, HBK⟩ := hrel
        by_cases hlt2 : k < body.length
        · obtain ⟨a, hx⟩ : ∃ a, body[k]? = some a := ⟨_, List.getElem?_eq_getElem hlt2⟩
          have ham := List.mem_of_getElem? hx
          obtain ⟨b1, o1, tv, rfl, -, hb1, c0, c1, c2, htv⟩ := RdAtoms.at (HBA.out.up HBK.out) hx
          obtain ⟨ta, tc, rfl, -, -, -⟩ := id htv.form
          obtain ⟨X4, hX4⟩ : ∃ X : World, wr.alloc (.cells #[.bool a.neg, .string a.name, .slice ta a.terms.length tc] 38) = X := ⟨_, rfl⟩
          have hgX4 : Below wr.heap.size wr X4 := by subst hX4; exact (Below.refl _ _).alloc (Nat.le_refl _) _
          have HZX4 := Lib.hid (show Blk X4 wr.heap.size 38 #[.bool a.neg, .string a.name, .slice ta a.terms.length tc] by subst hX4; exact Blk.new wr _ _)
          have HB4 := Lib.hid (HBK.out.trans (hgX4.mono HBK.out.size))
          have HT4 := Lib.hid (htv.up hgX4)
          have HAS := Lib.hid (HS.out.b0 a ham).1
          have HA1 := Lib.hid (HS.out.b1 a ham)
          have hat := (HS.out.b0 a ham).1
          have HM4 := Lib.hid (HM.out.below HB4.out HM.out.lt)
          have KF1 := Lib.hid (fun W (hW : Below X4.heap.size X4 W) => (fillCalls a (.slice ta a.terms.length tc) (.slice la l.length lc) l W (HT4.out.up hW) (RdBinds.up (RdBinds.up HLA.out HB4.out) hW) hat (by omega)).mono fun e w' h => fill_uni h)
          have KF2 := Lib.hid (fun W (hW : Below X4.heap.size X4 W) => (fillRef a (.slice ta a.terms.length tc) l MB l.length W (HT4.out.up hW) (HM4.out.below hW HM4.out.lt) hat HA1.out).mono fun e w' h => fill_uni h)
          have hFl := fill_len a l
          have z0 := HZX4.out.cell 0; have z1 := HZX4.out.cell 1; have z2 := HZX4.out.cell 2; simp only [List.getElem?_toArray, List.getElem?_cons_zero, List.getElem?_cons_succ] at z0 z1 z2
          clear hx ham htv hgX4
          generalize (fillP a l).getD noFact = F at *
          generalize (fillP a l).isSome = ok at *
          have r1 : (ok != ok) = false := by simp
          have T1 := Lib.hid True.intro
          go_wp2_with (first
            | (go_at_call 8; clear T1; refine (KF1.out _ (Below.refl _ _)).mono ?_; rintro e w5 ⟨hb5, p5, c5, rfl, hr5⟩
               obtain ⟨X5, hX5⟩ : ∃ X : World, w5.alloc (.cells #[.string F.name, .slice p5 F.args.length c5] 41) = X := ⟨_, rfl⟩
               have hgX5 : Below w5.heap.size w5 X5 := by subst hX5; exact (Below.refl _ _).alloc (Nat.le_refl _) _
               have HZX5 := Lib.hid (show Blk X5 w5.heap.size 41 #[.string F.name, .slice p5 F.args.length c5] by subst hX5; exact Blk.new w5 _ _)
               have hb45 := hb5.trans (hgX5.mono hb5.size)
               have HB5 := Lib.hid hb45
               have HR5 := Lib.hid (RdStrs.up hr5 hgX5)
               have HY5 := Lib.hid (HZX4.out.below HB5.out HZX4.out.lt)
               have y0 := HY5.out.cell 0; have y1 := HY5.out.cell 1; have y2 := HY5.out.cell 2; simp only [List.getElem?_toArray, List.getElem?_cons_zero, List.getElem?_cons_succ] at y0 y1 y2
               clear hb5 hr5 hb45 hgX5)
            | (go_at_call 9; have hh := HB5.out; clear hh; refine (KF2.out _ HB5.out).mono ?_; rintro e w6 ⟨hb6, p6, c6, rfl, hr6⟩
               obtain ⟨X6, hX6⟩ : ∃ X : World, w6.alloc (.cells #[.string F.name, .slice p6 F.args.length c6] 41) = X := ⟨_, rfl⟩
               have hgX6 : Below w6.heap.size w6 X6 := by subst hX6; exact (Below.refl _ _).alloc (Nat.le_refl _) _
               have HZX6 := Lib.hid (show Blk X6 w6.heap.size 41 #[.string F.name, .slice p6 F.args.length c6] by subst hX6; exact Blk.new w6 _ _)
               have hb56 := hb6.trans (hgX6.mono hb6.size)
               have HB6 := Lib.hid (HB5.out.trans (hb56.mono HB5.out.size))
               have HR6 := Lib.hid (RdStrs.up hr6 hgX6)
               have HS6 := Lib.hid (RdStrs.up HR5.out hb56)
               have HG6 := Lib.hid (HZX5.out.below hb56 HZX5.out.lt)
               have v0 := HG6.out.cell 0; have v1 := HG6.out.cell 1; simp only [List.getElem?_toArray, List.getElem?_cons_zero, List.getElem?_cons_succ] at v0 v1; have u0 := HZX6.out.cell 0; have u1 := HZX6.out.cell 1; simp only [List.getElem?_toArray, List.getElem?_cons_zero, List.getElem?_cons_succ] at u0 u1
               clear hb6 hr6 hb56 hgX6)
            | (go_at_call 10; have hh := HR6.out; clear hh; refine (equalRef F F _ _ _ HS6.out HR6.out (by omega) (by omega)).mono ?_; rintro e w8 ⟨rfl, hf8⟩; rw [decide_eq_true rfl]; have HB8 := Lib.hid (HB6.out.trans (hf8.below.mono HB6.out.size)); clear hf8))
          clear KF1 KF2 HB5 HB6 HR5 HR6 HS6 HG6 HY5 HZX5 HZX6 u0 u1 v0 v1 y0 y1 y2 hX5 hX6
          obtain ⟨Z, hZ⟩ : ∃ Z : World, Z = w8 := ⟨_, rfl⟩
          subst hZ
          have HB8Y := Lib.hid (HB4.out.trans (HB8.out.mono HB4.out.size))
          have HFZ := Lib.hid (HFA.out.up HB8Y.out)
          have HTZ := Lib.hid (HT4.out.up HB8.out)
          have HMZ := Lib.hid (HM4.out.below HB8.out HM4.out.lt)
          have HLZ := Lib.hid (RdBinds.up HLA.out HB8Y.out)
          have HZZ := Lib.hid (HZX4.out.below HB8.out HZX4.out.lt)
          clear hX4 HZX4 HB8 HB4 HT4 HM4 hFl r1 z0 z1 z2 c0 c1 c2 hb1
          generalize wr.heap.size = A0 at *
          go_wp2
          go_loopw [131] (fun i wr => ∃ k : Nat, k ≤ facts.length ∧ i = .int .i64 k ∧ Hid (Below Z.heap.size Z wr)) (fun i _ => facts.length - (intOf i).toNat)
          case atStart => exact ⟨0, Nat.zero_le _, rfl, Lib.hid (Below.refl _ _)⟩
          case round =>
            obtain ⟨q, hq, rfl, HBQ⟩ := hrel
            by_cases hlt3 : q < facts.length
            · obtain ⟨f, hx⟩ : ∃ f, facts[q]? = some f := ⟨_, List.getElem?_eq_getElem hlt3⟩
              have hfs := HS.out.n2 f (List.mem_of_getElem? hx)
              obtain ⟨b2, o2, av, rfl, -, hb2, c0, c1, hav⟩ := RdFacts.at (HFZ.out.up HBQ.out) hx
              obtain ⟨ga, gc, rfl, -, -, -⟩ := id hav.form
              obtain ⟨X9, hX9⟩ : ∃ X : World, wr.alloc (.cells #[.string f.name, .slice ga f.args.length gc] 41) = X := ⟨_, rfl⟩
              have hgX9 : Below wr.heap.size wr X9 := by subst hX9; exact (Below.refl _ _).alloc (Nat.le_refl _) _
              have HZX9 := Lib.hid (show Blk X9 wr.heap.size 41 #[.string f.name, .slice ga f.args.length gc] by subst hX9; exact Blk.new wr _ _)
              have HB9 := Lib.hid (HBQ.out.trans (hgX9.mono HBQ.out.size))
              have HA9 := Lib.hid (RdStrs.up hav hgX9)
              have HY9 := Lib.hid (HZZ.out.below HB9.out HZZ.out.lt)
              have HM9 := Lib.hid (HMZ.out.below HB9.out HMZ.out.lt)
              have KM1 := Lib.hid (fun W (hW : Below X9.heap.size X9 W) => meetCalls a (.slice ta a.terms.length tc) f (.slice ga f.args.length gc) (.slice la l.length lc) l W ((HTZ.out.up HB9.out).up hW) (HA9.out.up hW) (RdBinds.up (RdBinds.up HLZ.out HB9.out) hW) hat hfs.1.1 (by omega))
              have KM2 := Lib.hid (fun W (hW : Below X9.heap.size X9 W) => tryRef a (.slice ta a.terms.length tc) f (.slice ga f.args.length gc) l MB l.length W ((HTZ.out.up HB9.out).up hW) (HA9.out.up hW) (HM9.out.below hW HM9.out.lt) hat hfs.1.1 (by omega) HA1.out hfs.1.2)
              have HMF := Lib.hid (fun m h => meet_fine (a := a) (f := f) (m := m) h HN.out HLN.out HA1.out)
              have y0 := HY9.out.cell 0; have y1 := HY9.out.cell 1; have y2 := HY9.out.cell 2; simp only [List.getElem?_toArray, List.getElem?_cons_zero, List.getElem?_cons_succ] at y0 y1 y2
              have v0 := HZX9.out.cell 0; have v1 := HZX9.out.cell 1; simp only [List.getElem?_toArray, List.getElem?_cons_zero, List.getElem?_cons_succ] at v0 v1
              unfold MeetPost at KM1
              unfold TryPost at KM2
              have T2 := Lib.hid True.intro
              clear hx hav hfs hgX9 hb2
              cases hmp : meetP a f l with
              | none =>
                simp only [hmp] at KM1 KM2
                clear hmp HMF
                go_wp2_with (first
                  | (go_at_call 11; clear T2; refine (KM1.out _ (Below.refl _ _)).mono ?_; rintro e w10 ⟨hb10, rfl⟩
                     have HB10 := Lib.hid hb10
                     have HY10 := Lib.hid (HY9.out.below hb10 HY9.out.lt)
                     have HG10 := Lib.hid (HZX9.out.below hb10 HZX9.out.lt)
                     have y0 := HY10.out.cell 0; have y1 := HY10.out.cell 1; have y2 := HY10.out.cell 2; simp only [List.getElem?_toArray, List.getElem?_cons_zero, List.getElem?_cons_succ] at y0 y1 y2; have v0 := HG10.out.cell 0; have v1 := HG10.out.cell 1; simp only [List.getElem?_toArray, List.getElem?_cons_zero, List.getElem?_cons_succ] at v0 v1
                     clear hb10)
                  | (go_at_call 12; have hh := HB10.out; clear hh; refine (KM2.out _ HB10.out).mono ?_; rintro e w11 ⟨hb11, rfl⟩; have HB11 := Lib.hid (HB9.out.trans ((HB10.out.trans (hb11.mono HB10.out.size)).mono HB9.out.size)); clear hb11))
                go_loopw [162] (fun i wr => i = .int .i64 0 ∧ Hid (Below Z.heap.size Z wr)) (fun _ _ => 0)
                case atStart => exact ⟨rfl, HB11⟩
                case round =>
                  obtain ⟨rfl, HB12⟩ := hrel
                  go_wp2
                  go_roundw
                  case rel => exact ⟨q + 1, by omega, by go_num, HB12⟩
                  case measure => simp [intOf]; omega
              | some m =>
                obtain ⟨hnd, hmz, hml⟩ := HMF.out m hmp
                simp only [hmp] at KM1 KM2
                have HND := Lib.hid hnd
                have HMZ2 := Lib.hid hmz
                clear hmp HMF hnd hmz
                go_wp2_with (first
                  | (go_at_call 11; clear T2; refine (KM1.out _ (Below.refl _ _)).mono ?_; rintro e w10 ⟨hb10, mv, rfl, ho10⟩
                     have HB10 := Lib.hid hb10
                     have HY10 := Lib.hid (HY9.out.below hb10 HY9.out.lt)
                     have HG10 := Lib.hid (HZX9.out.below hb10 HZX9.out.lt)
                     have y0 := HY10.out.cell 0; have y1 := HY10.out.cell 1; have y2 := HY10.out.cell 2; simp only [List.getElem?_toArray, List.getElem?_cons_zero, List.getElem?_cons_succ] at y0 y1 y2; have v0 := HG10.out.cell 0; have v1 := HG10.out.cell 1; simp only [List.getElem?_toArray, List.getElem?_cons_zero, List.getElem?_cons_succ] at v0 v1
                     obtain ⟨ma, mc, rfl, -, -, -⟩ := id (Owned.read RBind.steady ho10).form; have HR10 := Lib.hid ((Owned.read RBind.steady ho10).more RBind.steady (S' := fun _ => True) (fun _ _ _ => trivial)); clear hb10 ho10)
                  | (go_at_call 12; have hh := HB10.out; clear hh; refine (KM2.out _ HB10.out).mono ?_; rintro e w11 ⟨hb11, b11, rfl, -, hm11⟩; have HB11 := Lib.hid (HB9.out.trans ((HB10.out.trans (hb11.mono HB10.out.size)).mono HB9.out.size)); have HM11 := Lib.hid hm11; have HR11 := Lib.hid (RdBinds.up HR10.out hb11); have hlen := hm11.len HND.out HMZ2.out 3; clear hb11 hm11))
                clear hlen KM1 KM2 HB10 HY10 HG10 HR10 HB9 HY9 HM9 HA9 HZX9 hX9
                obtain ⟨V, hV⟩ : ∃ V : World, V = w11 := ⟨_, rfl⟩
                subst hV
                have hml2 : m.length ≤ 2097152 := by omega
                go_loopw [162] (fun i wr => ∃ j : Nat, j ≤ m.length ∧ i = .int .i64 j ∧ Hid (Below V.heap.size V wr)) (fun i _ => m.length - (intOf i).toNat)
                case atStart => exact ⟨0, Nat.zero_le _, rfl, Lib.hid (Below.refl _ _)⟩
                case round =>
                  obtain ⟨j, hj, rfl, HBJ⟩ := hrel
                  by_cases hlt4 : j < m.length
                  · obtain ⟨x, hx⟩ : ∃ x, m[j]? = some x := ⟨_, List.getElem?_eq_getElem hlt4⟩
                    have hgb := getB_of_mem HND.out (v := x.var) (n := x.name) (List.mem_of_getElem? hx)
                    have hvs := HMZ2.out x (List.mem_of_getElem? hx)
                    obtain ⟨b3, o3, rfl, -, hb3, d0, d1⟩ := RdBinds.at (RdBinds.up HR11.out HBJ.out) hx
                    obtain ⟨X13, hX13⟩ : ∃ X : World, wr.alloc (.cells #[.string x.var, .string x.name] 34) = X := ⟨_, rfl⟩
                    have hgX13 : Below wr.heap.size wr X13 := by subst hX13; exact (Below.refl _ _).alloc (Nat.le_refl _) _
                    have HZX13 := Lib.hid (show Blk X13 wr.heap.size 34 #[.string x.var, .string x.name] by subst hX13; exact Blk.new wr _ _)
                    have HB13 := Lib.hid (HBJ.out.trans (hgX13.mono HBJ.out.size))
                    have KG := Lib.hid (getCalls (.slice (some ⟨b3, o3, none⟩) m.length mc) m x.var X13 (RdBinds.up HR11.out HB13.out) (by omega))
                    rw [hgb] at KG
                    unfold getV at KG
                    have HM13 := Lib.hid (HM11.out.below HB13.out HM11.out.lt)
                    have s0 := HZX13.out.cell 0; have s1 := HZX13.out.cell 1; simp only [List.getElem?_toArray, List.getElem?_cons_zero, List.getElem?_cons_succ] at s0 s1
                    clear hx hgX13 hb3
                    have HGB := Lib.hid hgb
                    clear hgb
                    go_wp2_with (go_at_call 13; refine (KG.out).mono ?_; rintro e w14 ⟨rfl, hb14⟩; have HB14 := Lib.hid (HB13.out.trans (hb14.mono HB13.out.size)); have HZ14 := Lib.hid (HZX13.out.below hb14 HZX13.out.lt); have p0 := HZ14.out.cell 0; have p1 := HZ14.out.cell 1; simp only [List.getElem?_toArray, List.getElem?_cons_zero, List.getElem?_cons_succ] at p0 p1; (have hget : (Instr.lookup 32 (.map (some b11)) (.string x.var) false).run Try.prog w14 = .ok (.string x.name) w14 := by have h := (HM13.out.below hb14 HM13.out.lt).get (s := x.var) hvs; rw [HGB.out] at h; exact h); clear hb14)
                    go_wp2
                    go_roundw
                    case rel => exact ⟨j + 1, by omega, by go_num, HB14⟩
                    case measure => simp [intOf]; omega
                  · go_wp2
                    go_roundw
                    case rel => exact ⟨q + 1, by omega, by go_num, Lib.hid (HB11.out.trans (HBJ.out.mono HB11.out.size))⟩
                    case measure => simp [intOf]; omega
            · go_wp2
              go_roundw
              case rel => exact ⟨k + 1, by omega, by go_num, Lib.hid (HB8Y.out.trans (HBQ.out.mono HB8Y.out.size))⟩
              case measure => simp [intOf]; omega
        · go_wp2
          go_ret
          exact ⟨rfl, HBY.out.trans (HBK.out.mono HBY.out.size)⟩
namespace matchTells
theorem own : ownKnob Try.prog.godebug = none := by kernel_rfl

set_option maxRecDepth 100000 in
theorem contract (H : Type) (enc : TypeId × Value → H) (W : World) (base : Nat) (args : Array Value) (ds gs : List (DataW H)) (before : List MemPlace)
    (hval : ∀ (j : Nat) t v, Try.f3.params[j]? = some t → args[j]? = some v → Value.okWide Try.prog W .any base t v)
    (hW : DataW.Whole enc Try.prog Try.f3.params.toList Rows.matchTellsSpec.vars false W args.toList ds gs before) (hk : Rows.uptoSmall H (ds ++ gs) = true) :
    Calls Try.prog 3 args W fun e W' => ∃ v, e = .returned v ∧ Rows.matchTellsSpec.post enc Try.prog Try.f3 false true false false W args v W' := by
  have hW' := hW
  obtain ⟨p, q, hA0, hV, rfl, hfz, hnd⟩ := hW
  have hA : DataW.TrodAll enc Try.prog W 0 (fun _ => true) true Try.f3.params.toList args.toList ds p := hA0
  rw [Try.params3] at hA hval
  obtain ⟨v0, v1, v2, v3, v4, d0, d1, d2, d3, d4, p0, p1, p2, p3, p4, rfl, rfl, rfl, h0, h1, h2, h3, h4⟩ := trodAll_five hA
  obtain ⟨rfl, rfl⟩ := trodVars_none hV
  obtain ⟨x0, r0, s0⟩ := openAtom.sliceArg Try.underlying22 (hval 0 22 v0 rfl rfl) h0
  obtain ⟨x1, r1, s1⟩ := openFact.sliceArg Try.underlying23 (hval 1 23 v1 rfl rfl) h1
  obtain ⟨x2, rfl, s2⟩ := openInt.intArg Try.underlying3 (hval 2 3 v2 rfl rfl) h2
  obtain ⟨x3, r3, s3⟩ := openFact.sliceArg Try.underlying23 (hval 3 23 v3 rfl rfl) h3
  obtain ⟨x4, r4, s4⟩ := openBind.sliceArg Try.underlying24 (hval 4 24 v4 rfl rfl) h4
  rw [List.append_nil] at hk
  have hb : Rows.uptoBulkAll [d0, d1, d2, d3, d4] ≤ 1048576 := of_decide_eq_true hk
  simp only [Rows.uptoBulkAll] at hb
  refine (matchTellsCalls x0 v0 x1 v1 x2 x3 v3 x4 v4 W r0 r1 r3 r4 (smallM (by omega) (by omega) (by omega) (by omega))).mono fun e W' ⟨he, hb'⟩ => ?_
  subst he
  exact ⟨_, rfl, law_post (tb := 4) hW' rfl rfl (by kernel_rfl) Try.underlying4 (by kernel_rfl) (by kernel_rfl) hb'⟩

set_option maxRecDepth 100000 in
theorem lifted (os : Os) (started : os.Started) (H : Type) (enc : TypeId × Value → H) (F : Stop.Interp) :
    ReturnsInHanded {} Try.checked os 3 .any ((Rows.OpenSpec.upto Rows.matchTellsSpec).pre6 enc Try.prog Try.f3 Rows.matchTellsUptoRow.domain false) (((Rows.OpenSpec.upto Rows.matchTellsSpec).at F).post enc Try.prog Try.f3 false true false false) := by
  refine returnsInHanded_of_cond (C := Try.checked) (s := Rows.OpenSpec.upto Rows.matchTellsSpec) (k := Rows.uptoSmall) rfl own started (by kernel_rfl) Try.func3
    (OpenSpec.witness (enc := enc) (C := Try.checked) (s := Rows.OpenSpec.upto Rows.matchTellsSpec) (k := Rows.uptoSmall) rfl false ⟨#[], #[.slice none 0 0, .slice none 0 0, .int .i64 0, .slice none 0 0, .slice none 0 0], []⟩ 8 (by kernel_rfl) (by kernel_rfl) (by kernel_rfl)
      (x := ([.nil, .nil, .lit (.int .i64 0), .nil, .nil], [], [])) (by kernel_rfl) rfl (by kernel_rfl)) ?_
  intro W base args ds gs before hval hW _ hk _
  exact contract H enc W base args ds gs before hval hW hk

theorem proved : Rows.MatchTellsUptoSaid :=
  OpenClaim.holds_of_cond 3 Try.f3 rfl rfl rfl rfl rfl rfl rfl ⟨rfl, rfl, rfl, rfl, rfl⟩ rfl rfl rfl rfl rfl (by kernel_rfl) Try.func3 (by kernel_rfl)
    (of_decide_eq_true (by kernel_rfl)) (by unfold Func.isWrapper; first | (rw [if_pos (by decide +kernel)]; kernel_rfl) | (rw [if_neg (by decide +kernel)]; exact ⟨rfl, rfl⟩))
    (fun os started H enc _ F => lifted os started H enc F)
end matchTells


end Go.Proofs.Ythieomebngiabaa
