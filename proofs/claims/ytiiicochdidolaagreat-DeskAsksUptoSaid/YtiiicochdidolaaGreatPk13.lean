/-
  THE TEXTS WithW, MatchK, ProofOne, AllS, Clone, FactSort, one behind the other.
-/
import Derived.Test.YtiiicochdidolaaGreatPk2
import Derived.Test.YtiiicochdidolaaGreatPk3
import Derived.Test.YtiiicochdidolaaGreatPk7
import Derived.Test.YtiiicochdidolaaGreatPk10
import Derived.Test.YtiiicochdidolaaGreatPk11
import Derived.Test.YtiiicochdidolaaGreatPk12
namespace Go.Proofs.YtiiicochdidolaaGreat
open Go.RowKit
theorem firstBad_mem : ∀ {l : List PAtom}, firstBad l = 0 → ∀ a ∈ l, atomBad a = 0
  | b :: l, h, a, ha => by
    unfold firstBad at h
    split at h
    · rename_i hb; exact absurd h hb
    · rename_i hb
      rcases List.mem_cons.1 ha with rfl | ha
      · simpa using hb
      · exact firstBad_mem h a ha
theorem body_terms {l : List PAtom} (h : bodyBad l = 0) {a : PAtom} (ha : a ∈ l) : a.terms.length ≤ 4 := by
  have h1 : firstBad l = 0 := by
    unfold bodyBad at h
    split at h
    · exact absurd h (by decide)
    · split at h
      · rename_i hb; exact absurd h hb
      · rename_i hb; simpa using hb
  have h2 := firstBad_mem h1 a ha
  unfold atomBad at h2
  split at h2
  · exact absurd h2 (by decide)
  · split at h2
    · exact absurd h2 (by decide)
    · omega
theorem meetL_len : ∀ {ts : List PTerm} {l : Binds} {ns : List Str} {m : Binds}, meetL l ts ns = some m → m.length ≤ l.length + ts.length
  | [], l, ns, m, h => by obtain rfl := Option.some.inj h; simp
  | t :: ts, l, [], m, h => by cases h
  | t :: ts, l, n :: ns, m, h => by
    rw [meetL] at h
    cases hv : valT l t with
    | none =>
      rw [hv] at h
      have := meetL_len h
      simp only [List.length_append, List.length_cons, List.length_nil] at this ⊢
      omega
    | some x =>
      rw [hv] at h
      dsimp only at h
      split at h
      · have := meetL_len h
        simp only [List.length_cons]
        omega
      · cases h
theorem stepP_short {ls : List Binds} {a : PAtom} {fs : List PFact} {c : Nat} (h : ∀ l ∈ ls, l.length ≤ c) : ∀ m ∈ stepP ls a fs, m.length ≤ c + a.terms.length := fun m hm => by
  obtain ⟨l, hl, f, -, he⟩ := mem_stepP.1 hm
  unfold meetP at he
  split at he
  · have := meetL_len he
    have := h l hl
    omega
  · cases he
theorem withP_body {body : List PAtom} {facts other : List PFact} {at' : Int} (h : bodyBad body ≠ 0) : withP body facts at' other = ([], bodyBad body) := if_pos h
theorem withP_facts {body : List PAtom} {facts other : List PFact} {at' : Int} (h : bodyBad body = 0) (h1 : (setF facts).1 ≠ 0) : withP body facts at' other = ([], (setF facts).1) := by
  unfold withP; rw [if_neg (by simpa using h), if_pos h1]
theorem withP_other {body : List PAtom} {facts other : List PFact} {at' : Int} (h : bodyBad body = 0) (h1 : (setF facts).1 = 0) (h2 : (setF other).1 ≠ 0) : withP body facts at' other = ([], (setF other).1) := by
  unfold withP; rw [if_neg (by simpa using h), if_neg (by simpa using h1), if_pos h2]
theorem withP_many {body : List PAtom} {facts other : List PFact} {at' : Int} (h : bodyBad body = 0) (h1 : (setF facts).1 = 0) (h2 : (setF other).1 = 0) (h3 : goP (pickP facts other at') 0 [[]] body = none) : withP body facts at' other = ([], 4) := by
  unfold withP; rw [if_neg (by simpa using h), if_neg (by simpa using h1), if_neg (by simpa using h2), h3]
theorem withP_some {body : List PAtom} {facts other : List PFact} {at' : Int} {ls : List Binds} (h : bodyBad body = 0) (h1 : (setF facts).1 = 0) (h2 : (setF other).1 = 0) (h3 : goP (pickP facts other at') 0 [[]] body = some ls) : withP body facts at' other = (tidyP (notP (pickP facts other at') 0 ls body), 0) := by
  unfold withP; rw [if_neg (by simpa using h), if_neg (by simpa using h1), if_neg (by simpa using h2), h3]
def WithPost (r : List Binds × Int) (w : World) (e : Ending) (w' : World) : Prop :=
  Below w.heap.size w w' ∧ ∃ v zs, e = .returned (.tuple #[v, .int .i64 r.2]) ∧ Nest w.heap.size w' v zs ∧ zs.map (·.2) = r.1
theorem with_err {r : List Binds × Int} {n : Int} {w w' : World} (h : r = ([], n)) (hb : Below w.heap.size w w') : WithPost r w (.returned (.tuple #[.slice none 0 0, .int .i64 n])) w' := by
  subst h; exact ⟨hb, _, [], rfl, Nest.nil, rfl⟩
theorem wDrewB {B : Nat} {a w : World} (h : Below B a w) (n : Nat) : Below B a (w.drewN n) := ⟨h.os, h.tape, h.output, h.size, h.block⟩
theorem goP_neg {pick : Nat → List PFact} {k : Nat} {ls : List Binds} {a : PAtom} {b : List PAtom} (h : a.neg = true) : goP pick k ls (a :: b) = goP pick (k + 1) ls b := by rw [goP, if_pos h]
theorem goP_pos {pick : Nat → List PFact} {k : Nat} {ls : List Binds} {a : PAtom} {b : List PAtom} (h : a.neg = false) (h2 : ¬ 20000 < (stepP ls a (pick k)).length) : goP pick k ls (a :: b) = goP pick (k + 1) (stepP ls a (pick k)) b := by rw [goP, if_neg (by simp [h]), if_neg h2]
theorem goP_many {pick : Nat → List PFact} {k : Nat} {ls : List Binds} {a : PAtom} {b : List PAtom} (h : a.neg = false) (h2 : 20000 < (stepP ls a (pick k)).length) : goP pick k ls (a :: b) = none := by rw [goP, if_neg (by simp [h]), if_pos h2]
theorem notP_pos {pick : Nat → List PFact} {k : Nat} {ls : List Binds} {a : PAtom} {b : List PAtom} (h : a.neg = false) : notP pick k ls (a :: b) = notP pick (k + 1) ls b := by rw [notP, if_neg (by simp [h])]
theorem notP_neg {pick : Nat → List PFact} {k : Nat} {ls : List Binds} {a : PAtom} {b : List PAtom} (h : a.neg = true) : notP pick k ls (a :: b) = notP pick (k + 1) (ls.filter fun l => !hitP a (pick k) l) b := by rw [notP, if_pos h]
theorem Nest.one_nil {B : Nat} {w : World} (hB : B ≤ w.heap.size) : Nest B (w.alloc (.cells #[.slice none 0 0] 92)) (.slice (some ⟨w.heap.size, 0, none⟩) 1 1) [(.slice none 0 0, [])] :=
  ⟨OV.of_row (World.ownsRow_lit (base := B) (size := 1) (e := 92) w #[.slice none 0 0] 1 hB (by simp [maxLen]) (by simp)) (by simp [Value.oneCell']), by simp; exact Owned.nil, List.pairwise_singleton _ _, by simp [Value.ownBlock]⟩
theorem delStep {S S2 : Nat → Prop} {w W : World} {a : PAtom} {tv xv v : Value} {X : List PFact} {A L : Nat} {zs : List VB} (hbw : Below w.heap.size w W) (hN : Nest w.heap.size W v zs) (a0 : Blk W A 60 #[.bool a.neg, .string a.name, tv]) (l0 : Blk W L 24 #[xv])
    (hA : some A ≠ v.ownBlock) (hL : some L ≠ v.ownBlock) (ht : RdTerms S w tv a.terms) (hf : RdFacts S2 w xv X) (hr : Rising X) (n1 : a.terms.length ≤ 1048576) (n2 : ∀ z ∈ zs, z.2.length ≤ 1048576) (n3 : X.length ≤ 1048576) (n4 : ∀ f ∈ X, f.args.length ≤ 1048576) (n5 : zs.length ≤ 1073741824) :
    Calls Tryz.prog 57 #[v, .func (.func 58) #[] #[.pointer (some ⟨A, 0, none⟩), .pointer (some ⟨L, 0, none⟩)]] W fun e w' => (∃ v', e = .returned v' ∧ Nest w.heap.size w' v' (zs.filter fun z => !hitP a X z.2)) ∧ Below w.heap.size w w' := by
  have hup : ∀ W', W.grownBy W' v.ownBlock → Below w.heap.size w W' := fun W' hW => hbw.grown hW hbw.size (fun q hq => (hN.row_lt hq).1)
  refine (deleteBinds (B := w.heap.size) (q := fun z => hitP a X z.2) v zs W hN.outer (fun W' hW z hz => ?_) (fun z hz => ?_) n5).mono fun e w' ⟨⟨v', he, ho, hv⟩, hg⟩ => ⟨⟨v', he, hN.filter _ ho hg hv⟩, hup _ hg⟩
  · exact with1Calls a tv X xv A L z.1 z.2 W' (a0.grown hW hA) (l0.grown hW hL) (ht.up (hup _ hW)) (hf.up (hup _ hW)) (OB.read ((hN.inner z hz).kept RBind.steady hW (fun q hq e => hN.off z hz q hq e))) hr n1 (by have := n2 z hz; omega) n3 n4
  · obtain ⟨a, c, h, -⟩ := (OB.read (hN.inner z hz)).form
    exact ⟨a, _, c, h⟩
def pick2 {α : Type} (a b : α) (k : Nat) : α := if k = 0 then a else b
set_option maxRecDepth 100000 in
set_option maxHeartbeats 16000000 in
theorem withCalls {S S2 S3 : Nat → Prop} (bv : Value) (body : List PAtom) (fv : Value) (facts : List PFact) (at' : Int) (ov : Value) (other : List PFact) (w : World)
    (hb : RdAtoms S w bv body) (hf : RdFacts S2 w fv facts) (ho : RdFacts S3 w ov other)
    (n1 : body.length ≤ 1048576) (n2 : ∀ a ∈ body, a.terms.length ≤ 1048576) (n3 : ∀ a ∈ body, ∀ t ∈ a.terms, t.name.size ≤ 1048576)
    (n4 : facts.length ≤ 1048576) (n5 : ∀ x ∈ facts, x.args.length ≤ 1048576) (n6 : other.length ≤ 1048576) (n7 : ∀ x ∈ other, x.args.length ≤ 1048576) :
    Calls Tryz.prog 27 #[bv, fv, .int .i64 at', ov] w (WithPost (withP body facts at' other) w) := by
  obtain ⟨ba, bc, rfl, -, -, -⟩ := id hb.form
  obtain ⟨fa, fc, rfl, -, -, -⟩ := id hf.form
  obtain ⟨oa, oc, rfl, -, -, -⟩ := id ho.form
  have HBD := Lib.hid hb
  have HFA := Lib.hid hf
  have HOT := Lib.hid ho
  have N5 := Lib.hid n5
  have N7 := Lib.hid n7
  have KB := Lib.hid (checkBody (.slice ba body.length bc) body w hb n1 n2 n3)
  clear hb hf ho n5 n7 n2 n3
  by_cases hz : bodyBad body = 0
  case neg =>
    have HE := Lib.hid (withP_body (facts := facts) (at' := at') (other := other) hz)
    have hne : (bodyBad body != 0) = true := by simpa using hz
    generalize bodyBad body = q at *
    clear hz
    go_enter Tryz.func27, Tryz.ntmps27
    go_wp2_with (go_at_call 54; refine (KB.out).mono ?_; rintro e w1 ⟨rfl, hb1⟩; have HB1 := Lib.hid hb1; clear hb1)
    refine bodyPost_ret (v := .tuple #[.slice none 0 0, .int .i64 q]) (by simp [results, Tryz.results27, go_sem]) rfl ?_
    exact with_err HE.out HB1.out
  rw [hz] at KB
  have HZ := Lib.hid hz
  clear hz
  go_enter Tryz.func27, Tryz.ntmps27
  go_wp2_with (go_at_call 54; refine (KB.out).mono ?_; rintro e w1 ⟨rfl, hb1⟩; have HB1 := Lib.hid hb1; clear hb1)
  obtain ⟨Q, hQ⟩ : ∃ Q, w1.heap.size = Q := ⟨_, rfl⟩
  have HB2 := Lib.hid (HB1.out.alloc (Below.size HB1.out) (.cells #[.slice fa facts.length fc, .slice oa other.length oc] 24))
  have HQ2 := Lib.hid (show Blk (w1.alloc (.cells #[.slice fa facts.length fc, .slice oa other.length oc] 24)) Q 24 #[.slice fa facts.length fc, .slice oa other.length oc] from heap_new_at hQ)
  have hwQ : w.heap.size ≤ Q := by have := Below.size HB1.out; omega
  rw [hQ]
  clear HB1 KB
  go_loopw [30, 12] (fun i _ wr => ∃ k : Nat, k ≤ 2 ∧ i = .int .i64 k ∧ Hid (Below w.heap.size w wr) ∧ Hid (Blk wr Q 24 #[.slice fa facts.length fc, .slice oa other.length oc]) ∧ Hid (∀ j, j < k → (setF (pick2 facts other j)).1 = 0)) (fun i _ _ => 2 - (intOf i).toNat)
  case atStart => exact ⟨0, by omega, rfl, HB2, HQ2, Lib.hid (fun j h => by omega)⟩
  case round =>
    clear HB2 HQ2 hQ
    obtain ⟨k, hk, rfl, HB, HQ, HS⟩ := hrel
    have hlq := HQ.out.lt
    by_cases hlt : k < 2
    · obtain ⟨xa, xc, X, hc, hrd, hX, hn1, hn2⟩ : ∃ xa xc X, wr.cell? ⟨Q, k, none⟩ = some (.slice xa X.length xc) ∧ RdFacts (fun _ => True) wr (.slice xa X.length xc) X ∧ X = pick2 facts other k ∧ X.length ≤ 1048576 ∧ ∀ x ∈ X, x.args.length ≤ 1048576 := by
        rcases (show k = 0 ∨ k = 1 by omega) with rfl | rfl
        · exact ⟨fa, fc, facts, HQ.out.cell 0, HFA.out.up HB.out, rfl, n4, N5.out⟩
        · exact ⟨oa, oc, other, HQ.out.cell 1, HOT.out.up HB.out, rfl, n6, N7.out⟩
      have KS := Lib.hid (setCalls (.slice xa X.length xc) X wr hrd (by omega) (fun x hx => by have := hn2 x hx; omega))
      have HX := Lib.hid hX
      obtain ⟨r1, hr1⟩ : ∃ r, (setF X).1 = r := ⟨_, rfl⟩
      rw [hr1] at KS
      generalize (setF X).2 = r2 at *
      have HR1 := Lib.hid hr1
      have i2 : (k : Int) < 2 := by omega
      clear hX hrd hn2 hr1
      by_cases h0 : r1 = 0
      · subst h0
        have HS1 := Lib.hid (show ∀ j, j < k + 1 → (setF (pick2 facts other j)).1 = 0 from fun j hj => by
          by_cases e : j = k
          · subst e; rw [← HX.out]; exact HR1.out
          · exact HS.out j (by omega))
        go_wp2_with (go_at_call 55; refine (KS.out).mono ?_; rintro e w2 ⟨rfl, hb2⟩; have HB2 := Lib.hid ((HB.out.trans (hb2.mono (Below.size HB.out))).alloc (Nat.le_trans (Below.size HB.out) hb2.size) (.cells #[.int .i64 0, .int .i64 r2] 49)); have HQ2 := Lib.hid ((HQ.out.below hb2 hlq).alloc (.cells #[.int .i64 0, .int .i64 r2] 49)); clear hb2)
        go_roundw
        case rel => exact ⟨k + 1, by omega, by go_num, HB2, HQ2, HS1⟩
        case measure => simp [intOf]; omega
      · have gz : (r1 != 0) = true := by simpa using h0
        have HE := Lib.hid (show withP body facts at' other = ([], r1) by
          have h1 := HR1.out
          rw [HX.out] at h1
          rcases (show k = 0 ∨ k = 1 by omega) with rfl | rfl
          · have h1' : (setF facts).1 = r1 := h1
            have h2 := withP_facts (at' := at') (other := other) HZ.out (show (setF facts).1 ≠ 0 by rw [h1']; exact h0)
            rwa [h1'] at h2
          · have h1' : (setF other).1 = r1 := h1
            have h2 := withP_other (at' := at') HZ.out (show (setF facts).1 = 0 from HS.out 0 (by omega)) (show (setF other).1 ≠ 0 by rw [h1']; exact h0)
            rwa [h1'] at h2)
        clear h0
        go_wp2_with (go_at_call 55; refine (KS.out).mono ?_; rintro e w2 ⟨rfl, hb2⟩; have HB2 := Lib.hid ((HB.out.trans (hb2.mono (Below.size HB.out))).alloc (Nat.le_trans (Below.size HB.out) hb2.size) (.cells #[.int .i64 r1, .int .i64 r2] 49)); clear hb2)
        go_quiet (fail)
        go_wp2
        refine bodyPost_ret (v := .tuple #[.slice none 0 0, .int .i64 r1]) (by simp [results, Tryz.results27, go_sem]) rfl ?_
        exact with_err HE.out (wDrewB HB2.out _)
    · have HS0 := Lib.hid (show (setF facts).1 = 0 from HS.out 0 (by omega))
      have HS1 := Lib.hid (show (setF other).1 = 0 from HS.out 1 (by omega))
      have hbl := body_atoms HZ.out
      have HNE0 := Lib.hid (Nest.one_nil (B := w.heap.size) (w := wr) (Below.size HB.out))
      have HB0 := Lib.hid (HB.out.alloc (Below.size HB.out) (.cells #[.slice none 0 0] 92))
      clear HS HQ hlq HB
      go_wp2
      go_loopw [45, 14] (fun i v wr => ∃ (k : Nat) (zs : List VB), k ≤ body.length ∧ i = .int .i64 k ∧ zs.length ≤ 20000 ∧ Hid (Below w.heap.size w wr) ∧ Hid (Nest w.heap.size wr v zs) ∧ Hid (goP (pickP facts other at') 0 [[]] body = goP (pickP facts other at') k (zs.map (·.2)) (body.drop k)) ∧ Hid (∀ z ∈ zs, z.2.length ≤ k * 4)) (fun i _ _ => body.length - (intOf i).toNat)
      case atStart => exact ⟨0, _, Nat.zero_le _, rfl, by simp, HB0, HNE0, Lib.hid rfl, Lib.hid (by simp)⟩
      case round =>
        clear HB0 HNE0
        obtain ⟨k, zs, hk, rfl, hzl, HB, HN, HG, HSH⟩ := hrel
        obtain ⟨va, vc, efm, -, -, -⟩ := (HN.out.outer.read RPair.steady).form
        subst efm
        by_cases hlt : k < body.length
        · obtain ⟨a, hx⟩ : ∃ a, body[k]? = some a := ⟨_, List.getElem?_eq_getElem hlt⟩
          obtain ⟨b1, o1, tv, rfl, -, -, d0, d1, d2, htv⟩ := RdAtoms.at (HBD.out.up HB.out) hx
          obtain ⟨ta, tc, rfl, -, -, -⟩ := id htv.form
          have ha4 := body_terms HZ.out (List.mem_of_getElem? hx)
          have HX := Lib.hid hx
          obtain ⟨W1, hW1⟩ : ∃ W1 : World, wr.alloc (.cells #[.bool a.neg, .string a.name, .slice ta a.terms.length tc] 60) = W1 := ⟨_, rfl⟩
          have hbx : Below wr.heap.size wr W1 := by subst hW1; exact (Below.refl _ _).alloc (Nat.le_refl _) _
          have HB1 := Lib.hid (HB.out.trans (hbx.mono (Below.size HB.out)))
          have HN1 := Lib.hid (HN.out.below hbx)
          have e0 : W1.cell? ⟨wr.heap.size, 0, none⟩ = some (.bool a.neg) := by subst hW1; simp
          have e1 : W1.cell? ⟨wr.heap.size, 1, none⟩ = some (.string a.name) := by subst hW1; simp
          have e2 : W1.cell? ⟨wr.heap.size, 2, none⟩ = some (.slice ta a.terms.length tc) := by subst hW1; simp
          have HGN := Lib.hid (show goP (pickP facts other at') 0 [[]] body = goP (pickP facts other at') k (zs.map (·.2)) (a :: body.drop (k + 1)) by rw [HG.out, drop_cons hx])
          clear hx HG
          cases hn : a.neg
          · rw [hn] at d0 hW1 e0
            have HGP := Lib.hid (show ¬ 20000 < (stepP (zs.map (·.2)) a (pickP facts other at' k)).length → goP (pickP facts other at') 0 [[]] body = goP (pickP facts other at') (k + 1) (stepP (zs.map (·.2)) a (pickP facts other at' k)) (body.drop (k + 1)) from fun h => by rw [HGN.out, goP_pos hn h])
            have HMANY := Lib.hid (show 20000 < (stepP (zs.map (·.2)) a (pickP facts other at' k)).length → goP (pickP facts other at') 0 [[]] body = none from fun h => by rw [HGN.out, goP_many hn h])
            have HNR := Lib.hid (HN1.out.reads.read RBinds.steady)
            have HSH4 := Lib.hid (show ∀ l ∈ zs.map (·.2), l.length ≤ k * 4 from fun l hl => by obtain ⟨z, hz, rfl⟩ := List.mem_map.1 hl; exact HSH.out z hz)
            by_cases hat : (k : Int) = at'
            · have HPK := Lib.hid (show pickP facts other at' k = other by unfold pickP; rw [if_pos hat])
              rw [HPK.out] at HGP HMANY
              have KS := Lib.hid (stepCalls (.slice va zs.length vc) (zs.map (·.2)) a (.slice ta a.terms.length tc) (.slice oa other.length oc) other W1 HNR.out (htv.up hbx) (HOT.out.up HB1.out) (by rw [List.length_map]; omega) (fun l hl => by have := HSH4.out l hl; omega) (by omega) (setF_set HS1.out).1 N7.out)
              rw [hn] at KS
              have HSS := Lib.hid (stepP_short (a := a) (fs := other) (c := k * 4) HSH4.out)
              have ge := (show ((k : Int) == at') = true from beq_iff_eq.2 hat)
              clear hn htv hat HPK hbx
              obtain ⟨st, hst⟩ : ∃ st, stepP (zs.map (·.2)) a other = st := ⟨_, rfl⟩
              rw [hst] at HGP HMANY HSS
              have KS2 := Lib.hid ((KS.out).mono (R' := fun e w' => Below W1.heap.size W1 w' ∧ ∃ v zs', e = .returned v ∧ Nest W1.heap.size w' v zs' ∧ zs'.map (·.2) = st) fun e w' ⟨h1, v, zs', h2, h3, h4⟩ => ⟨h1, v, zs', h2, h3, h4.trans hst⟩)
              clear KS hst
              by_cases hmany : 20000 < st.length
              · have HE := Lib.hid (withP_many HZ.out HS0.out HS1.out (HMANY.out hmany))
                have HMM := Lib.hid hmany
                clear hmany
                go_wp2_with (go_at_call 56; refine (KS2.out).mono ?_; rintro e w2 ⟨hb2, v2, ys, rfl, hn2, hm2⟩; obtain ⟨a2, c2, rfl, -, -, -⟩ := id (hn2.outer.read RPair.steady).form; have HB2 := Lib.hid (HB1.out.trans (hb2.mono (Below.size HB1.out))); have gl : decide ((20000 : Int) < (ys.length : Int)) = true := (by have h := congrArg List.length hm2; rw [List.length_map] at h; have := HMM.out; exact decide_eq_true (by omega)); clear hb2 hn2 hm2)
                refine bodyPost_ret (v := .tuple #[.slice none 0 0, .int .i64 4]) (by simp [results, Tryz.results27, go_sem]) rfl ?_
                exact with_err HE.out HB2.out
              · have HG1 := Lib.hid (HGP.out hmany)
                have HMM := Lib.hid hmany
                clear hmany
                go_wp2_with (go_at_call 56; refine (KS2.out).mono ?_; rintro e w2 ⟨hb2, v2, ys, rfl, hn2, hm2⟩; obtain ⟨a2, c2, rfl, -, -, -⟩ := id (hn2.outer.read RPair.steady).form; have HB2 := Lib.hid (HB1.out.trans (hb2.mono (Below.size HB1.out))); have HN2 := Lib.hid (hn2.lower (Below.size HB1.out)); have HM2 := Lib.hid hm2; have HYL := Lib.hid (show ys.length ≤ 20000 by have h := congrArg List.length hm2; rw [List.length_map] at h; have := HMM.out; omega); have gl : decide ((20000 : Int) < (ys.length : Int)) = false := (by have := HYL.out; exact decide_eq_false (by omega)); clear hb2 hn2 hm2)
                have HG2 := Lib.hid (show goP (pickP facts other at') 0 [[]] body = goP (pickP facts other at') (k + 1) (ys.map (·.2)) (body.drop (k + 1)) by rw [HM2.out]; exact HG1.out)
                have HSH1 := Lib.hid (show ∀ z ∈ ys, z.2.length ≤ (k + 1) * 4 from fun z hz => by have := HSS.out z.2 (by rw [← HM2.out]; exact List.mem_map.2 ⟨z, hz, rfl⟩); omega)
                go_roundw
                case rel => exact ⟨k + 1, ys, by omega, by go_num, HYL.out, HB2, HN2, HG2, HSH1⟩
                case measure => simp [intOf]; omega
            · have HPK := Lib.hid (show pickP facts other at' k = facts by unfold pickP; rw [if_neg hat])
              rw [HPK.out] at HGP HMANY
              have KS := Lib.hid (stepCalls (.slice va zs.length vc) (zs.map (·.2)) a (.slice ta a.terms.length tc) (.slice fa facts.length fc) facts W1 HNR.out (htv.up hbx) (HFA.out.up HB1.out) (by rw [List.length_map]; omega) (fun l hl => by have := HSH4.out l hl; omega) (by omega) (setF_set HS0.out).1 N5.out)
              rw [hn] at KS
              have HSS := Lib.hid (stepP_short (a := a) (fs := facts) (c := k * 4) HSH4.out)
              have ge := (show ((k : Int) == at') = false from beq_eq_false_iff_ne.2 hat)
              clear hn htv hat HPK hbx
              obtain ⟨st, hst⟩ : ∃ st, stepP (zs.map (·.2)) a facts = st := ⟨_, rfl⟩
              rw [hst] at HGP HMANY HSS
              have KS2 := Lib.hid ((KS.out).mono (R' := fun e w' => Below W1.heap.size W1 w' ∧ ∃ v zs', e = .returned v ∧ Nest W1.heap.size w' v zs' ∧ zs'.map (·.2) = st) fun e w' ⟨h1, v, zs', h2, h3, h4⟩ => ⟨h1, v, zs', h2, h3, h4.trans hst⟩)
              clear KS hst
              by_cases hmany : 20000 < st.length
              · have HE := Lib.hid (withP_many HZ.out HS0.out HS1.out (HMANY.out hmany))
                have HMM := Lib.hid hmany
                clear hmany
                go_wp2_with (go_at_call 56; refine (KS2.out).mono ?_; rintro e w2 ⟨hb2, v2, ys, rfl, hn2, hm2⟩; obtain ⟨a2, c2, rfl, -, -, -⟩ := id (hn2.outer.read RPair.steady).form; have HB2 := Lib.hid (HB1.out.trans (hb2.mono (Below.size HB1.out))); have gl : decide ((20000 : Int) < (ys.length : Int)) = true := (by have h := congrArg List.length hm2; rw [List.length_map] at h; have := HMM.out; exact decide_eq_true (by omega)); clear hb2 hn2 hm2)
                refine bodyPost_ret (v := .tuple #[.slice none 0 0, .int .i64 4]) (by simp [results, Tryz.results27, go_sem]) rfl ?_
                exact with_err HE.out HB2.out
              · have HG1 := Lib.hid (HGP.out hmany)
                have HMM := Lib.hid hmany
                clear hmany
                go_wp2_with (go_at_call 56; refine (KS2.out).mono ?_; rintro e w2 ⟨hb2, v2, ys, rfl, hn2, hm2⟩; obtain ⟨a2, c2, rfl, -, -, -⟩ := id (hn2.outer.read RPair.steady).form; have HB2 := Lib.hid (HB1.out.trans (hb2.mono (Below.size HB1.out))); have HN2 := Lib.hid (hn2.lower (Below.size HB1.out)); have HM2 := Lib.hid hm2; have HYL := Lib.hid (show ys.length ≤ 20000 by have h := congrArg List.length hm2; rw [List.length_map] at h; have := HMM.out; omega); have gl : decide ((20000 : Int) < (ys.length : Int)) = false := (by have := HYL.out; exact decide_eq_false (by omega)); clear hb2 hn2 hm2)
                have HG2 := Lib.hid (show goP (pickP facts other at') 0 [[]] body = goP (pickP facts other at') (k + 1) (ys.map (·.2)) (body.drop (k + 1)) by rw [HM2.out]; exact HG1.out)
                have HSH1 := Lib.hid (show ∀ z ∈ ys, z.2.length ≤ (k + 1) * 4 from fun z hz => by have := HSS.out z.2 (by rw [← HM2.out]; exact List.mem_map.2 ⟨z, hz, rfl⟩); omega)
                go_roundw
                case rel => exact ⟨k + 1, ys, by omega, by go_num, HYL.out, HB2, HN2, HG2, HSH1⟩
                case measure => simp [intOf]; omega
          · rw [hn] at d0 hW1 e0
            have HG1 := Lib.hid (show goP (pickP facts other at') 0 [[]] body = goP (pickP facts other at') (k + 1) (zs.map (·.2)) (body.drop (k + 1)) by rw [HGN.out, goP_neg hn])
            have HSH1 := Lib.hid (show ∀ z ∈ zs, z.2.length ≤ (k + 1) * 4 from fun z hz => by have := HSH.out z hz; omega)
            clear hn htv hbx
            go_wp2
            go_roundw
            case rel => exact ⟨k + 1, zs, by omega, by go_num, hzl, HB1, HN1, HG1, HSH1⟩
            case measure => simp [intOf]; omega
        · have hge := HG.out
          rw [drop_end (by omega : body.length ≤ k)] at hge
          have hgs : goP (pickP facts other at') 0 [[]] body = some (zs.map (·.2)) := hge
          have HW := Lib.hid (withP_some HZ.out HS0.out HS1.out hgs)
          have HND := Lib.hid (show ∀ l ∈ zs.map (·.2), l.Nodup from fun l hl => by
            obtain ⟨-, -, h1, -⟩ := goP_sound body 0 _ _ hgs (fun l hl => by obtain rfl := List.mem_singleton.1 hl; exact List.Pairwise.nil) l hl
            exact nd_nodup h1)
          have HSL := Lib.hid (show ∀ l ∈ zs.map (·.2), l.length ≤ 1048576 from fun l hl => by obtain ⟨z, hz, rfl⟩ := List.mem_map.1 hl; have := HSH.out z hz; omega)
          clear hge hgs HG HSH
          obtain ⟨ls0, hls0⟩ : ∃ ls0, zs.map (·.2) = ls0 := ⟨_, rfl⟩
          rw [hls0] at HW HND HSL
          have HZS := Lib.hid hls0
          have HSUB := Lib.hid (show ∀ z ∈ zs, z.2 ∈ ls0 from fun z hz => by rw [← hls0]; exact List.mem_map.2 ⟨z, hz, rfl⟩)
          have HNT := Lib.hid (show notP (pickP facts other at') 0 ls0 body = notP (pickP facts other at') 0 (zs.map (·.2)) body by rw [hls0])
          clear hls0
          go_wp2
          obtain ⟨zs0, hzs0⟩ : ∃ y, y = zs := ⟨_, rfl⟩
          subst hzs0
          go_loopw [67, 14] (fun i v wr => ∃ (k : Nat) (zs : List VB), k ≤ body.length ∧ i = .int .i64 k ∧ zs.length ≤ 20000 ∧ Hid (Below w.heap.size w wr) ∧ Hid (Nest w.heap.size wr v zs) ∧ Hid (notP (pickP facts other at') 0 ls0 body = notP (pickP facts other at') k (zs.map (·.2)) (body.drop k)) ∧ Hid (∀ z ∈ zs, z.2 ∈ ls0)) (fun i _ _ => body.length - (intOf i).toNat)
          case atStart => exact ⟨0, zs0, Nat.zero_le _, rfl, hzl, HB, HN, HNT, HSUB⟩
          case round =>
            clear HB HN HNT HSUB HZS hzl hlt hk
            obtain ⟨k, zs, hk, rfl, hzl, HB, HN, HG, HSB⟩ := hrel
            obtain ⟨va, vc, efm, -, -, -⟩ := (HN.out.outer.read RPair.steady).form
            subst efm
            by_cases hlt : k < body.length
            · obtain ⟨a, hx⟩ : ∃ a, body[k]? = some a := ⟨_, List.getElem?_eq_getElem hlt⟩
              obtain ⟨b1, o1, tv, rfl, -, hb1, d00, d10, d20, htv0⟩ := RdAtoms.at HBD.out hx
              have d0 := (cell_below HB.out hb1 _).trans d00
              have d1 := (cell_below HB.out hb1 _).trans d10
              have d2 := (cell_below HB.out hb1 _).trans d20
              obtain ⟨ta, tc, rfl, -, -, -⟩ := id htv0.form
              have ha4 := body_terms HZ.out (List.mem_of_getElem? hx)
              have hbl1 : b1 < wr.heap.size := Nat.lt_of_lt_of_le hb1 (Below.size HB.out)
              have HGN := Lib.hid (show notP (pickP facts other at') 0 ls0 body = notP (pickP facts other at') k (zs.map (·.2)) (a :: body.drop (k + 1)) by rw [HG.out, drop_cons hx])
              clear hx HG d00 d10 d20
              cases hn : a.neg
              · rw [hn] at d0
                have HG1 := Lib.hid (show notP (pickP facts other at') 0 ls0 body = notP (pickP facts other at') (k + 1) (zs.map (·.2)) (body.drop (k + 1)) by rw [HGN.out, notP_pos hn])
                have HB1 := Lib.hid (HB.out.alloc (Below.size HB.out) (.cells #[.bool false, .string a.name, .slice ta a.terms.length tc] 60))
                have HN1 := Lib.hid (HN.out.alloc (.cells #[.bool false, .string a.name, .slice ta a.terms.length tc] 60))
                clear hn htv0
                go_wp2
                go_roundw
                case rel => exact ⟨k + 1, zs, by omega, by go_num, hzl, HB1, HN1, HG1, HSB⟩
                case measure => simp [intOf]; omega
              rw [hn] at d0
              have HGF := Lib.hid (show notP (pickP facts other at') 0 ls0 body = notP (pickP facts other at') (k + 1) ((zs.map (·.2)).filter fun l => !hitP a (pickP facts other at' k) l) (body.drop (k + 1)) by rw [HGN.out, notP_neg hn])
              have HKA := Lib.hid (fun o => (show Blk ((wr.alloc (.cells #[.bool true, .string a.name, .slice ta a.terms.length tc] 60)).alloc o) wr.heap.size 60 #[.bool a.neg, .string a.name, .slice ta a.terms.length tc] by rw [hn]; exact (Blk.new wr _ _).alloc _))
              by_cases hat : (k : Int) = at'
              · have HPK := Lib.hid (show pickP facts other at' k = other by unfold pickP; rw [if_pos hat])
                rw [HPK.out] at HGF
                have ge := (show ((k : Int) == at') = true from beq_iff_eq.2 hat)
                have HKL := Lib.hid (show Blk ((wr.alloc (.cells #[.bool true, .string a.name, .slice ta a.terms.length tc] 60)).alloc (.cells #[.slice oa other.length oc] 24)) (wr.heap.size + 1) 24 #[.slice oa other.length oc] from heap_new_at (by simp))
                have HBL := Lib.hid (show Below wr.heap.size wr ((wr.alloc (.cells #[.bool true, .string a.name, .slice ta a.terms.length tc] 60)).alloc (.cells #[.slice oa other.length oc] 24)) from ((Below.refl _ _).alloc (Nat.le_refl _) _).alloc (by simp) _)
                have KD := Lib.hid (delStep (w := w) (v := .slice va zs.length vc) (A := wr.heap.size) (L := wr.heap.size + 1) (HB.out.trans (HBL.out.mono (Below.size HB.out))) (HN.out.below HBL.out) (HKA.out _) HKL.out (fun e => by have := (HN.out.row_lt e.symm).2; omega) (fun e => by have := (HN.out.row_lt e.symm).2; omega) htv0 HOT.out (setF_set HS1.out).2.1 (by omega) (fun z hz => HSL.out _ (HSB.out z hz)) (by omega) N7.out (by omega))
                clear hn hat HPK HKL HBL
                go_wp2_with (go_at_call 57; refine (KD.out).mono ?_; rintro e w2 ⟨⟨v2, rfl, hn2⟩, hb2⟩; obtain ⟨a2, c2, rfl, -, -, -⟩ := id (hn2.outer.read RPair.steady).form; have HB2 := Lib.hid hb2; have HN2 := Lib.hid hn2; clear hb2 hn2)
                have HG2 := Lib.hid (show notP (pickP facts other at') 0 ls0 body = notP (pickP facts other at') (k + 1) ((zs.filter fun z => !hitP a other z.2).map (·.2)) (body.drop (k + 1)) by rw [HGF.out, List.filter_map]; rfl)
                have HSB2 := Lib.hid (show ∀ z ∈ zs.filter fun z => !hitP a other z.2, z.2 ∈ ls0 from fun z hz => HSB.out z (List.mem_filter.1 hz).1)
                have HYL := Lib.hid (show (zs.filter fun z => !hitP a other z.2).length ≤ 20000 from Nat.le_trans (List.length_filter_le _ _) hzl)
                go_roundw
                case rel => exact ⟨k + 1, _, by omega, by go_num, HYL.out, HB2, HN2, HG2, HSB2⟩
                case measure => simp [intOf]; omega
              · have HPK := Lib.hid (show pickP facts other at' k = facts by unfold pickP; rw [if_neg hat])
                rw [HPK.out] at HGF
                have ge := (show ((k : Int) == at') = false from beq_eq_false_iff_ne.2 hat)
                have HKL := Lib.hid (show Blk ((wr.alloc (.cells #[.bool true, .string a.name, .slice ta a.terms.length tc] 60)).alloc (.cells #[.slice fa facts.length fc] 24)) (wr.heap.size + 1) 24 #[.slice fa facts.length fc] from heap_new_at (by simp))
                have HBL := Lib.hid (show Below wr.heap.size wr ((wr.alloc (.cells #[.bool true, .string a.name, .slice ta a.terms.length tc] 60)).alloc (.cells #[.slice fa facts.length fc] 24)) from ((Below.refl _ _).alloc (Nat.le_refl _) _).alloc (by simp) _)
                have KD := Lib.hid (delStep (w := w) (v := .slice va zs.length vc) (A := wr.heap.size) (L := wr.heap.size + 1) (HB.out.trans (HBL.out.mono (Below.size HB.out))) (HN.out.below HBL.out) (HKA.out _) HKL.out (fun e => by have := (HN.out.row_lt e.symm).2; omega) (fun e => by have := (HN.out.row_lt e.symm).2; omega) htv0 HFA.out (setF_set HS0.out).2.1 (by omega) (fun z hz => HSL.out _ (HSB.out z hz)) (by omega) N5.out (by omega))
                clear hn hat HPK HKL HBL
                go_wp2_with (go_at_call 57; refine (KD.out).mono ?_; rintro e w2 ⟨⟨v2, rfl, hn2⟩, hb2⟩; obtain ⟨a2, c2, rfl, -, -, -⟩ := id (hn2.outer.read RPair.steady).form; have HB2 := Lib.hid hb2; have HN2 := Lib.hid hn2; clear hb2 hn2)
                have HG2 := Lib.hid (show notP (pickP facts other at') 0 ls0 body = notP (pickP facts other at') (k + 1) ((zs.filter fun z => !hitP a facts z.2).map (·.2)) (body.drop (k + 1)) by rw [HGF.out, List.filter_map]; rfl)
                have HSB2 := Lib.hid (show ∀ z ∈ zs.filter fun z => !hitP a facts z.2, z.2 ∈ ls0 from fun z hz => HSB.out z (List.mem_filter.1 hz).1)
                have HYL := Lib.hid (show (zs.filter fun z => !hitP a facts z.2).length ≤ 20000 from Nat.le_trans (List.length_filter_le _ _) hzl)
                go_roundw
                case rel => exact ⟨k + 1, _, by omega, by go_num, HYL.out, HB2, HN2, HG2, HSB2⟩
                case measure => simp [intOf]; omega
            · have HE := Lib.hid (show zs.map (·.2) = notP (pickP facts other at') 0 ls0 body by rw [HG.out, drop_end (by omega : body.length ≤ k)]; rfl)
              have KT := Lib.hid (tidyCalls HN.out (Below.size HB.out) (fun z hz => HND.out _ (HSB.out z hz)) (by omega) (fun z hz => by have := HSL.out _ (HSB.out z hz); omega))
              go_wp2_with (go_at_call 59; refine (KT.out).mono ?_; rintro e w2 ⟨⟨v2, ys, rfl, hn2, hm2⟩, hb2⟩; have HB2 := Lib.hid (HB.out.trans hb2); have HN2 := Lib.hid hn2; have HM2 := Lib.hid hm2; clear hn2 hm2 hb2)
              refine bodyPost_ret (v := .tuple #[v2, .int .i64 0]) (by simp [results, Tryz.results27, go_sem]) rfl ?_
              rw [HW.out]
              exact ⟨HB2.out, v2, ys, rfl, HN2.out, by rw [HM2.out, HE.out]⟩
theorem allCalls {S S2 : Nat → Prop} (bv : Value) (body : List PAtom) (fv : Value) (facts : List PFact) (w : World) (hb : RdAtoms S w bv body) (hf : RdFacts S2 w fv facts)
    (n1 : body.length ≤ 1048576) (n2 : ∀ a ∈ body, a.terms.length ≤ 1048576) (n3 : ∀ a ∈ body, ∀ t ∈ a.terms, t.name.size ≤ 1048576) (n4 : facts.length ≤ 1048576) (n5 : ∀ x ∈ facts, x.args.length ≤ 1048576) :
    Calls Tryz.prog 10 #[bv, fv] w (WithPost (allP body facts) w) := by
  have K := Lib.hid (withCalls bv body fv facts (-1) (.slice none 0 0) [] w hb hf (S3 := fun _ => True) (RdSlice.nothing (Nat.zero_le _) (fun _ => rfl)) n1 n2 n3 n4 n5 (by simp) (by simp))
  obtain ⟨ba, bc, rfl, -, -, -⟩ := id hb.form
  obtain ⟨fa, fc, rfl, -, -, -⟩ := id hf.form
  clear hb hf
  go_enter Tryz.func10, Tryz.ntmps10
  go_wp2_with (go_at_call 27; refine (K.out).mono ?_; rintro e w1 ⟨hb1, v1, zs, rfl, hn1, hm1⟩; obtain ⟨a1, c1, rfl, -, -, -⟩ := id (hn1.outer.read RPair.steady).form; have HB1 := Lib.hid hb1; have HN1 := Lib.hid hn1; have HM1 := Lib.hid hm1; clear hb1 hn1 hm1)
  refine bodyPost_ret (v := .tuple #[.slice a1 zs.length c1, .int .i64 (allP body facts).2]) (by simp [results, Tryz.results10, go_sem]; rfl) rfl ?_
  exact ⟨HB1.out, _, zs, rfl, HN1.out, HM1.out⟩
end Go.Proofs.YtiiicochdidolaaGreat
namespace Go.Proofs.YtiiicochdidolaaGreat
open Go.RowKit
theorem allReads {S S2 : Nat → Prop} (bv : Value) (body : List PAtom) (fv : Value) (facts : List PFact) (w : World) (hb : RdAtoms S w bv body) (hf : RdFacts S2 w fv facts)
    (n1 : body.length ≤ 1048576) (n2 : ∀ a ∈ body, a.terms.length ≤ 1048576) (n3 : ∀ a ∈ body, ∀ t ∈ a.terms, t.name.size ≤ 1048576) (n4 : facts.length ≤ 1048576) (n5 : ∀ x ∈ facts, x.args.length ≤ 1048576) :
    Calls Tryz.prog 10 #[bv, fv] w fun e w' => (∃ a c, e = .returned (.tuple #[.slice a (allP body facts).1.length c, .int .i64 (allP body facts).2]) ∧ RdBindss (fun b => w.heap.size ≤ b) w' (.slice a (allP body facts).1.length c) (allP body facts).1) ∧ Below w.heap.size w w' := by
  refine (allCalls bv body fv facts w hb hf n1 n2 n3 n4 n5).mono fun e w' ⟨h1, v, zs, he, hn, hm⟩ => ⟨?_, h1⟩
  have hr := (hn.reads.read RBinds.steady).more RBinds.steady (S' := fun b => w.heap.size ≤ b) (fun b hb _ => hb.elim id id)
  rw [hm] at hr
  obtain ⟨a, c, rfl, -, -, -⟩ := id hr.form
  exact ⟨a, c, he, hr⟩
theorem fillKnown {S S2 : Nat → Prop} {a : PAtom} {tv lv : Value} {l : Binds} {w : World} {f : PFact} (hfl : fillP a l = some f) (ht : RdTerms S w tv a.terms) (hl : RdBinds S2 w lv l) (n1 : a.terms.length ≤ 1048576) (n2 : l.length ≤ 1073741824) :
    Calls Tryz.prog 31 #[.agg #[.bool a.neg, .string a.name, tv], lv] w fun e w' => (∃ av ac, e = .returned (.tuple #[.agg #[.string f.name, .slice av f.args.length ac], .bool true]) ∧ RdStrs (New w) w' (.slice av f.args.length ac) f.args) ∧ Below w.heap.size w w' :=
  (fillCalls a tv lv l w ht hl n1 n2).mono fun e w' ⟨h1, h2⟩ => by
    rw [hfl] at h2
    obtain ⟨v, he, hr⟩ := h2
    obtain ⟨av, ac, rfl, -, -, -⟩ := id hr.form
    exact ⟨⟨av, ac, he, hr⟩, h1⟩
theorem fill_args {a : PAtom} {l : Binds} {f : PFact} (h : fillP a l = some f) : f.args.length = a.terms.length := (fillArgs_len (fillP_name h).2).symm
end Go.Proofs.YtiiicochdidolaaGreat
namespace Go.Proofs.YtiiicochdidolaaGreat
open Go.RowKit
theorem meetL_grow : ∀ (ts : List PTerm) (ns : List Str) (l m : Binds), meetL l ts ns = some m → m.length ≤ l.length + ts.length
  | [], ns, l, m, h => by
    have h' : some l = some m := h
    obtain rfl := Option.some.inj h'
    simp
  | t :: ts, [], l, m, h => by
    have h' : (none : Option Binds) = some m := h
    cases h'
  | t :: ts, n :: ns, l, m, h => by
    rw [meetL] at h
    cases hv : valT l t with
    | none =>
      rw [hv] at h
      have := meetL_grow ts ns _ m h
      simp only [List.length_append, List.length_cons, List.length_nil] at this ⊢
      omega
    | some z =>
      rw [hv] at h
      dsimp only at h
      split at h
      · have := meetL_grow ts ns _ m h
        simp only [List.length_cons]
        omega
      · cases h
theorem meetP_grow {a : PAtom} {f : PFact} {l m : Binds} (h : meetP a f l = some m) : m.length ≤ l.length + a.terms.length := by
  unfold meetP at h
  split at h
  · exact meetL_grow _ _ _ _ h
  · cases h
theorem drop_get {α : Type} {l : List α} {n : Nat} {x : α} (h : l[n]? = some x) : l.drop n = x :: l.drop (n + 1) := List.drop_eq_getElem?_toList_append.trans (by rw [h]; rfl)
theorem RdBinds.nilS {S : Nat → Prop} {w : World} : RdBinds S w (.slice none 0 0) [] := ⟨none, 0, rfl, Nat.le_refl _, Nat.zero_le _, fun _ => rfl, fun i x h => by simp at h⟩
theorem meetKnown {S S2 S3 : Nat → Prop} {a : PAtom} {tv : Value} {f : PFact} {fv lv : Value} {l m : Binds} {w : World} (hm : meetP a f l = some m) (ht : RdTerms S w tv a.terms) (hf : RdStrs S2 w fv f.args) (hl : RdBinds S3 w lv l) (n1 : a.terms.length ≤ 1048576) (n2 : f.args.length ≤ 1048576) (n3 : l.length ≤ 536870912) :
    Calls Tryz.prog 92 #[.agg #[.bool a.neg, .string a.name, tv], .agg #[.string f.name, fv], lv] w fun e w' => (∃ ba bc, e = .returned (.tuple #[.slice ba m.length bc, .bool true]) ∧ RdBinds (fun _ => True) w' (.slice ba m.length bc) m) ∧ Below w.heap.size w w' :=
  (meetCalls a tv f fv lv l w ht hf hl n1 n2 n3).mono fun e w' ⟨h1, h2⟩ => by
    rw [hm] at h2
    obtain ⟨v, he, ho⟩ := h2
    have hr := (ho.read).more RBind.steady (S' := fun _ => True) (fun _ _ _ => trivial)
    obtain ⟨ba, bc, rfl, -, -, -⟩ := id hr.form
    exact ⟨⟨ba, bc, he, hr⟩, h1⟩
theorem meetMiss {S S2 S3 : Nat → Prop} {a : PAtom} {tv : Value} {f : PFact} {fv lv : Value} {l : Binds} {w : World} (hm : meetP a f l = none) (ht : RdTerms S w tv a.terms) (hf : RdStrs S2 w fv f.args) (hl : RdBinds S3 w lv l) (n1 : a.terms.length ≤ 1048576) (n2 : f.args.length ≤ 1048576) (n3 : l.length ≤ 536870912) :
    Calls Tryz.prog 92 #[.agg #[.bool a.neg, .string a.name, tv], .agg #[.string f.name, fv], lv] w fun e w' => e = .returned (.tuple #[.slice none 0 0, .bool false]) ∧ Below w.heap.size w w' :=
  (meetCalls a tv f fv lv l w ht hf hl n1 n2 n3).mono fun e w' ⟨h1, h2⟩ => by
    rw [hm] at h2
    exact ⟨h2, h1⟩
structure PrfAt (w : World) (b off : Nat) (f : PFact) (rl : Int) (av kv : Value) : Prop where
  lt : b < w.heap.size
  c0 : w.cell? ⟨b, off, none⟩ = some (.string f.name)
  c1 : w.cell? ⟨b, off + 1, none⟩ = some av
  c2 : w.cell? ⟨b, off + 2, none⟩ = some (.int .i64 rl)
  c3 : w.cell? ⟨b, off + 3, none⟩ = some kv
  args : RdStrs (fun _ => True) w av f.args
theorem PrfAt.up {w w' : World} {b off : Nat} {f : PFact} {rl : Int} {av kv : Value} (h : PrfAt w b off f rl av kv) (hb : Below w.heap.size w w') : PrfAt w' b off f rl av kv :=
  ⟨Nat.lt_of_lt_of_le h.lt hb.size, (cell_below hb h.lt _).trans h.c0, (cell_below hb h.lt _).trans h.c1, (cell_below hb h.lt _).trans h.c2, (cell_below hb h.lt _).trans h.c3, h.args.up hb⟩
attribute [local go_sem ↓] Go.wp_at_zero Go.wp_at_succ
end Go.Proofs.YtiiicochdidolaaGreat
namespace Go.Proofs.YtiiicochdidolaaGreat
theorem goP_short {pick : Nat → List PFact} {c : Nat} : ∀ (body : List PAtom) (i : Nat) (ls out : List Binds), goP pick i ls body = some out → (∀ l ∈ ls, l.length ≤ c) → (∀ a ∈ body, a.terms.length ≤ 4) → ∀ m ∈ out, m.length ≤ c + 4 * body.length
  | [], i, ls, out, h, hc, _, m, hm => by
    obtain rfl := Option.some.inj h
    have := hc m hm
    simp only [List.length_nil]; omega
  | a :: b, i, ls, out, h, hc, ht, m, hm => by
    rw [goP] at h
    split at h
    · have := goP_short b (i + 1) ls out h hc (fun x hx => ht x (by simp [hx])) m hm
      simp only [List.length_cons]; omega
    · split at h
      · cases h
      · have h1 := ht a (by simp)
        have := goP_short (c := c + a.terms.length) b (i + 1) _ out h (stepP_short hc) (fun x hx => ht x (by simp [hx])) m hm
        simp only [List.length_cons]; omega
theorem goP_count {pick : Nat → List PFact} : ∀ (body : List PAtom) (i : Nat) (ls out : List Binds), goP pick i ls body = some out → ls.length ≤ 20000 → out.length ≤ 20000
  | [], i, ls, out, h, hc => by obtain rfl := Option.some.inj h; exact hc
  | a :: b, i, ls, out, h, hc => by
    rw [goP] at h
    split at h
    · exact goP_count b (i + 1) ls out h hc
    · split at h
      · cases h
      · exact goP_count b (i + 1) _ out h (by omega)
theorem notP_count {pick : Nat → List PFact} : ∀ (body : List PAtom) (i : Nat) (ls : List Binds), (notP pick i ls body).length ≤ ls.length
  | [], i, ls => Nat.le_refl _
  | a :: b, i, ls => by
    rw [notP]
    refine Nat.le_trans (notP_count b (i + 1) _) ?_
    split
    · exact List.length_filter_le _ _
    · exact Nat.le_refl _
theorem addC_count {α : Type} [DecidableEq α] {c : α → α → Int} (f : α) : ∀ l : List α, (addC c f l).length ≤ l.length + 1
  | [] => Nat.le_refl _
  | g :: l => by
    unfold addC
    split
    · simp
    · split
      · simp
      · have := addC_count (c := c) f l
        simp only [List.length_cons]; omega
theorem ofC_count {α : Type} [DecidableEq α] {c : α → α → Int} : ∀ l : List α, (ofC c l).length ≤ l.length
  | [] => Nat.le_refl _
  | f :: l => by
    have h1 := addC_count (c := c) f (ofC c l)
    have h2 := ofC_count (c := c) l
    show (addC c f (ofC c l)).length ≤ _
    simp only [List.length_cons]; omega
theorem with_short (body : List PAtom) (facts : List PFact) (at' : Int) (other : List PFact) : (withP body facts at' other).1.length ≤ 20000 ∧ ∀ m ∈ (withP body facts at' other).1, m.length ≤ 20 := by
  unfold withP
  by_cases h1 : bodyBad body = 0
  case neg => rw [if_pos h1]; simp
  rw [if_neg (by simpa using h1)]
  by_cases h2 : (setF facts).1 = 0
  case neg => rw [if_pos h2]; simp
  rw [if_neg (by simpa using h2)]
  by_cases h3 : (setF other).1 = 0
  case neg => rw [if_pos h3]; simp
  rw [if_neg (by simpa using h3)]
  cases hg : goP (pickP facts other at') 0 [[]] body with
  | none => simp
  | some ls =>
    have g1 := goP_count body 0 _ _ hg (by simp)
    have g2 := goP_short (c := 0) body 0 _ _ hg (by simp) (fun a ha => body_terms h1 ha)
    have g3 := notP_count (pick := pickP facts other at') body 0 ls
    have g4 := body_atoms h1
    dsimp only
    refine ⟨?_, fun m hm => ?_⟩
    · have := ofC_count (c := cmpBinds) ((notP (pickP facts other at') 0 ls body).map (ofC cmpBind))
      rw [List.length_map] at this
      unfold tidyP
      omega
    · obtain ⟨l, hl, rfl⟩ := mem_tidyP.1 hm
      have h5 := ofC_count (c := cmpBind) l
      have h6 := g2 l ((mem_notP body 0 ls l).1 hl).1
      omega
theorem all_short (body : List PAtom) (facts : List PFact) : (allP body facts).1.length ≤ 20000 ∧ ∀ m ∈ (allP body facts).1, m.length ≤ 20 := with_short _ _ _ _
end Go.Proofs.YtiiicochdidolaaGreat
namespace Go.Proofs.YtiiicochdidolaaGreat
open Go.RowKit
theorem rowFacts : RowT Tryz.prog 24 38 2 := RowT.mk' (b := 40) (z := .agg #[.string ⟨#[]⟩, .slice none 0 0]) Tryz.underlying24 (by kernel_rfl) (by omega) rfl (by omega)
set_option maxHeartbeats 400000 in
theorem cloneStr {S : Nat → Prop} (v : Value) (l : List Str) (w : World) (h : RdStrs S w v l) (n1 : l.length ≤ 1073741824) :
    Calls Tryz.prog 33 #[v] w fun e w' => (∃ v', e = .returned v' ∧ RdStrs (New w) w' v' l) ∧ Below w.heap.size w w' := by
  obtain ⟨a, c, rfl, -, -, hnil⟩ := id h.form
  have heq := fun (w : World) (n c n' c' : Nat) => Lib.run_eql_slice_nil (P := Tryz.prog) w 36 9 a n c n' c' Tryz.underlying36
  cases a with
  | none =>
    have hl : l = [] := by
      cases l with
      | nil => rfl
      | cons x r =>
        obtain ⟨b, o, ha, _⟩ := h.at (i := 0) (x := x) rfl
        cases ha
    subst hl
    obtain rfl := hnil rfl
    clear h hnil
    go_enter Tryz.func33, Tryz.ntmps33
    go_wp2
    go_ret
    exact ⟨⟨_, rfl, (Owned.nil (B := w.heap.size) (e := 0) (S := fun _ => False) (R := RStr)).read RStr.steady |>.more RStr.steady (fun b hb _ => hb.elim False.elim id)⟩, Below.refl _ _⟩
  | some ad =>
    clear hnil
    have H := Lib.hid h
    clear h
    go_enter Tryz.func33, Tryz.ntmps33
    go_wp2_with (at_builtin; refine wpList_append_many (B := w.heap.size) (e := 9) (S := fun _ => False) (by rfl) _ _ 36 (by rfl) RStr.steady RStr.one rowStrs _ [] (by rfl) (Owned.made (w := w) (cur := #[]) (cap := 0) (Nat.le_refl _) (Nat.zero_le _) rfl) _ l (by rfl) (H.out.agree RStr.steady (Agree.alloc (Agree.refl _ _) _)) (fun _ _ h => h) ?hl ?hb ?_)
    case hl => simp; omega
    case hb => simp
    · intro v' w' hown hg hat
      try rw [List.nil_append] at hown
      have hown' := Lib.hid hown
      have hg' := Lib.hid hg
      clear hown hg hat
      go_wp2
      go_ret
      refine ⟨⟨_, rfl, (hown'.out.read RStr.steady).more RStr.steady (fun b hb _ => hb.elim False.elim id)⟩, ?_⟩
      exact (((Below.refl _ _).alloc (Nat.le_refl _) _).grown hg'.out (by simp) (fun k hk => by cases hk; exact Nat.le_refl _))
theorem RFact.fresh {B : Nat} {w W1 w1 w2 : World} {v v1 : Value} {l : List PFact} {x : PFact} (hown : Owned 2 RFact B 38 (fun b => B ≤ b) w v l) (hB : B ≤ w.heap.size) (hle : w.heap.size ≤ W1.heap.size) (hr1 : RdStrs (New W1) w1 v1 x.args) (ha : Agree (New W1) w1 w2) :
    RFact (fun b => B ≤ b ∧ some b ≠ v.ownBlock) w2 [.string x.name, v1] x :=
  ⟨v1, rfl, (hr1.agree RStr.steady ha).more RStr.steady fun b hb _ => ⟨by omega, fun e => by have := (hown.row_lt e.symm).2; omega⟩⟩
attribute [local go_sem ↓] Go.wp_at_zero Go.wp_at_succ
set_option maxRecDepth 100000 in
set_option maxHeartbeats 2000000 in
theorem ownCalls {S : Nat → Prop} (v : Value) (l : List PFact) (w : World) (h : RdFacts S w v l) (n1 : l.length ≤ 1073741824) (n2 : ∀ x ∈ l, x.args.length ≤ 1073741824) :
    Calls Tryz.prog 65 #[v] w fun e w' => (∃ v', e = .returned v' ∧ Owned 2 RFact w.heap.size 38 (New w) w' v' l) ∧ Below w.heap.size w w' := by
  obtain ⟨a, c, rfl, -, -, -⟩ := id h.form
  have H := Lib.hid h
  have N2 := Lib.hid n2
  clear h n2
  go_enter Tryz.func65, Tryz.ntmps65
  go_wp2
  go_loopw [8, 3] (fun i v wr => ∃ k : Nat, k ≤ l.length ∧ i = .int .i64 k ∧ Owned 2 RFact w.heap.size 38 (New w) wr v (l.take k) ∧ Below w.heap.size w wr) (fun i _ _ => l.length - (intOf i).toNat)
  case atStart => exact ⟨0, Nat.zero_le _, rfl, Owned.nil, Below.refl _ _⟩
  case round =>
    obtain ⟨k, hk, rfl, hown, hb⟩ := hrel
    by_cases hlt : k < l.length
    · obtain ⟨x, hx⟩ : ∃ x, l[k]? = some x := ⟨_, List.getElem?_eq_getElem hlt⟩
      have hn2 : x.args.length ≤ 1073741824 := N2.out x (List.mem_of_getElem? hx)
      obtain ⟨b1, o1, av, rfl, -, -, hc1, hc2, hav⟩ := RdFacts.at (H.out.agree RFact.steady (Below.agree hb)) hx
      obtain ⟨aa, ac, rfl, -, -, -⟩ := id hav.form
      have htk : l.take (k + 1) = l.take k ++ [x] := by rw [List.take_add_one, hx]; rfl
      have HT := Lib.hid htk
      have hsz := hb.size
      have HB := Lib.hid hb
      have HO := Lib.hid hown
      have HA := Lib.hid hav
      have hlk : (l.take k).length = k := by rw [List.length_take]; omega
      have HL := Lib.hid hlk
      clear hb hown hav hx htk hlk
      go_wp2_with fail
      go_region_held3 (fun w' => w'.cell? ⟨wr.heap.size, 0, none⟩ = some (.string x.name) ∧ w'.cell? ⟨wr.heap.size, 1, none⟩ = some (.slice aa x.args.length ac))
        (first
          | (refine ⟨?_, ?_⟩ <;> (rw [hk2]; simp))
          | (refine ⟨?_, ?_⟩ <;> (rw [hb1.cell (by simp)]; simp))
          | go_keep)
        (first
          | (go_at_call 33; refine (cloneStr _ x.args _ (HA.out.agree RStr.steady (((Agree.refl _ _).alloc _).drew)) hn2).mono ?_; rintro e w1 ⟨⟨v1, rfl, hr1⟩, hb1⟩; obtain ⟨a1, c1, rfl, -, -, -⟩ := id hr1.form)
          | (refine step_append_one (by rfl) _ _ 24 (by rfl) RFact.steady rowFacts _ (l.take k) (by rfl) ((((HO.out.alloc RFact.steady _).drew RFact.steady).below RFact.steady hb1).alloc RFact.steady _) _ 1 #[.string x.name, .slice a1 x.args.length c1] 38 (0, 0) x (by rfl) (heap_alloc_new _ _) rfl (by simp [Value.oneCell']) (RFact.fresh HO.out hsz (by simp) hr1 ((Agree.refl _ _).alloc _)) (by rw [HL.out]; omega) (by have := hb1.size; simp at this ⊢; omega) ?_; intro v2 w2 hown2 hg2 hat2; have hk2 := fun off => kept_cell (c := wr.heap.size) hb1 hg2 (by simp) (fun e => by have := (HO.out.row_lt e).2; omega) off))
      rw [← HT.out] at hown2
      have hB2 : Below w.heap.size w w2 := ((((HB.out.alloc hsz _).drew.trans (hb1.mono (by simp; omega))).alloc (by have := hb1.size; simp at this ⊢; omega) _).grown hg2 (by have := hb1.size; simp at this ⊢; omega) (fun q hq => (HO.out.row_lt hq).1))
      have HO2 := Lib.hid hown2
      have HB2 := Lib.hid hB2
      clear hown2 hB2 hg2 hat2 hk2 hb1 hr1
      go_wp2
      go_roundw
      case rel => exact ⟨k + 1, by omega, by go_num, HO2.out, HB2.out⟩
      case measure => simp [intOf]; omega
    · have htk : l.take k = l := List.take_of_length_le (by omega)
      rw [htk] at hown
      have HO := Lib.hid hown
      have HB := Lib.hid hb
      clear hown hb htk
      go_wp2
      go_ret
      exact ⟨⟨_, rfl, HO.out⟩, HB.out⟩
end Go.Proofs.YtiiicochdidolaaGreat
namespace Go.Proofs.YtiiicochdidolaaGreat
open Go.RowKit Go.Shelf Go.Sort
theorem enterCompare : ∀ args w, (callFunc 30 args).run Tryz.prog w = .ok (.enter 30 args) w := enters_of Tryz.func30 (by kernel_rfl) rfl
theorem sortFacts {B : Nat} {S : Nat → Prop} {w : World} {v : Value} {l : List PFact} (hown : Owned 2 RFact B 38 S w v l) (n1 : l.length ≤ 1073741824) (n2 : ∀ x ∈ l, x.args.length ≤ 1073741824) :
    Calls Tryz.prog 66 #[v, .func (.func 30) #[] #[]] w fun en w' => en = .returned (.tuple #[]) ∧ ∃ l', l'.Perm l ∧ l'.Pairwise (fun a b => ¬ cmpFact b a < 0) ∧ Owned 2 RFact B 38 S w' v l' ∧ w.grownBy w' v.ownBlock :=
  sort_owned Tryz.sortFact RFact.steady RFact.one (fun x => x.args.length ≤ 1073741824) Tryz.isAgg38 Tryz.sizeOf38 cmpFact3 30 enterCompare
    (fun W x y cx cy hx hy qx _ => by
      obtain ⟨vx, rfl, rx⟩ := hx
      obtain ⟨vy, rfl, ry⟩ := hy
      exact compareFact x y vx vy W rx ry qx)
    hown n2 (by omega)
end Go.Proofs.YtiiicochdidolaaGreat
