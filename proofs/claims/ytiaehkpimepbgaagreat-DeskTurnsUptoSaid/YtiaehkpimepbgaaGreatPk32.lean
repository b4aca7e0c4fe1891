/-
  THE WALKS OF round.All, and of cororef4.SameRun at runs that are the same.
-/
import Derived.Test.YtiaehkpimepbgaaGreatPk31
namespace Go.Proofs.YtiaehkpimepbgaaGreat
open Go.RowKit

set_option maxRecDepth 100000 in
set_option maxHeartbeats 8000000 in
theorem allRunCalls {S S2 : Nat → Prop} (p : List PRule) (v fv : Value) (st : List Int) (q : Int × Int) (l : List PFact) (w : World) (hS : StrataIs p st q) (h : RdRules S w v p) (hf : RdFacts S2 w fv l)
    (n1 : p.length ≤ 1048576) (n2 : ∀ r ∈ p, RuleSmall r) (n3 : ∀ r ∈ p, NameSmall r) (n4 : l.length ≤ 1048576) (n5 : ∀ x ∈ l, x.args.length ≤ 1048576) :
    Calls Tryz.prog 23 #[v, fv] w (FactsEPost (allRun st q.1 p l) w) := by
  obtain ⟨a, c, rfl, -, -, -⟩ := id h.form
  obtain ⟨fa, fc, rfl, -, -, -⟩ := id hf.form
  have KB := Lib.hid (beginCalls p _ _ st q l w hS h hf n1 n2 n3 n4 n5)
  have KS := Lib.hid (fun W kv nv (r : PRun) (hW : Below w.heap.size w W) (hr : RunRd W r kv nv) hs => stepsRunCalls p (.slice a p.length c) st q r kv nv 1000 W hS (h.up hW) hr n1 n2 n3 hs)
  have HBS := Lib.hid (begin_small (st := st) (q := q.1) (p := p) n4 n5)
  have A1 := Lib.hid (all_err1 (st := st) (q := q.1) (p := p) (l := l))
  have A2 := Lib.hid (all_err2 (st := st) (q := q.1) (p := p) (l := l))
  have A3 := Lib.hid (all_ok (st := st) (q := q.1) (p := p) (l := l))
  clear h hf n2 n3 n5 hS
  generalize beginP st q.1 p l = x at *
  obtain ⟨⟨dk, dn, ds, dr, dd⟩, er⟩ := x
  dsimp only at *
  by_cases he : er = 0
  case neg =>
    have g1 : (er != 0) = true := by simpa using he
    have HE := Lib.hid (A1.out he)
    clear he A1 A2 A3 KS
    go_enter Tryz.func23, Tryz.ntmps23
    go_wp2_with (go_at_call 21; refine (KB.out).mono ?_; rintro e w1 ⟨hb1, a1, c1, b1, d1, rfl, hk1, hn1⟩; have HB1 := Lib.hid hb1; clear hb1 hk1 hn1)
    refine bodyPost_ret (v := .tuple #[.slice none 0 0, .int .i64 er]) (by simp [results, Tryz.results23, go_sem]) rfl ?_
    exact factsE_err HE.out (HB1.out.alloc (Below.size HB1.out) _)
  subst he
  have KS1 := Lib.hid (fun W kv nv hW hr => KS.out W kv nv ⟨dk, dn, ds, dr, dd⟩ hW hr HBS.out)
  clear KS A1
  generalize stepsRun st q.1 p ⟨dk, dn, ds, dr, dd⟩ 1000 = y at *
  obtain ⟨⟨ek, en, es, er', ed⟩, e2⟩ := y
  dsimp only at *
  by_cases he : e2 = 0
  case neg =>
    have g1 : (e2 != 0) = true := by simpa using he
    have HE := Lib.hid (A2.out rfl he)
    clear he A2 A3
    go_enter Tryz.func23, Tryz.ntmps23
    go_wp2_with (first
      | (go_at_call 22; have hh := HI1.out; clear hh; refine (KS1.out _ _ _ HI1.out.below HI1.out.rd).mono ?_; rintro e w2 ⟨hb2, a2, c2, b2, d2, rfl, hk2, hn2⟩; have HI2 := Lib.hid (HI1.out.next hb2); have HQ2 := Lib.hid hk2; have HN2 := Lib.hid hn2; have k0 := HI2.out.blk.cell 0; have k1 := HI2.out.blk.cell 1; have k2 := HI2.out.blk.cell 2; have k3 := HI2.out.blk.cell 3; have k4 := HI2.out.blk.cell 4; have y0 := HI2.out.blk.frozen 0; have y1 := HI2.out.blk.frozen 1; have y2 := HI2.out.blk.frozen 2; have y3 := HI2.out.blk.frozen 3; have y4 := HI2.out.blk.frozen 4; simp only [List.getElem?_toArray, List.getElem?_cons_zero, List.getElem?_cons_succ] at k0 k1 k2 k3 k4; clear hb2 hk2 hn2 u0 u1 u2 u3 u4 z0 z1 z2 z3 z4)
      | (go_at_call 21; refine (KB.out).mono ?_; rintro e w1 ⟨hb1, a1, c1, b1, d1, rfl, hk1, hn1⟩; have HI1 := Lib.hid (RunIn.mk_ (r := ⟨dk, dn, ds, dr, dd⟩) hb1 (Below.refl _ _) hk1 hn1); have u0 := HI1.out.blk.cell 0; have u1 := HI1.out.blk.cell 1; have u2 := HI1.out.blk.cell 2; have u3 := HI1.out.blk.cell 3; have u4 := HI1.out.blk.cell 4; have z0 := HI1.out.blk.frozen 0; have z1 := HI1.out.blk.frozen 1; have z2 := HI1.out.blk.frozen 2; have z3 := HI1.out.blk.frozen 3; have z4 := HI1.out.blk.frozen 4; simp only [List.getElem?_toArray, List.getElem?_cons_zero, List.getElem?_cons_succ] at u0 u1 u2 u3 u4; clear hb1 hk1 hn1))
    refine bodyPost_ret (v := .tuple #[.slice none 0 0, .int .i64 e2]) (by simp [results, Tryz.results23, go_sem]) rfl ?_
    exact factsE_err HE.out (HI2.out.store (x := ⟨ek, en, es, er', ed⟩) (by simp) HQ2.out HN2.out).below
  subst he
  have HE := Lib.hid (A3.out rfl rfl)
  clear A2 A3
  go_enter Tryz.func23, Tryz.ntmps23
  go_wp2_with (first
    | (go_at_call 22; have hh := HI1.out; clear hh; refine (KS1.out _ _ _ HI1.out.below HI1.out.rd).mono ?_; rintro e w2 ⟨hb2, a2, c2, b2, d2, rfl, hk2, hn2⟩; have HI2 := Lib.hid (HI1.out.next hb2); have HQ2 := Lib.hid hk2; have HN2 := Lib.hid hn2; have k0 := HI2.out.blk.cell 0; have k1 := HI2.out.blk.cell 1; have k2 := HI2.out.blk.cell 2; have k3 := HI2.out.blk.cell 3; have k4 := HI2.out.blk.cell 4; have y0 := HI2.out.blk.frozen 0; have y1 := HI2.out.blk.frozen 1; have y2 := HI2.out.blk.frozen 2; have y3 := HI2.out.blk.frozen 3; have y4 := HI2.out.blk.frozen 4; simp only [List.getElem?_toArray, List.getElem?_cons_zero, List.getElem?_cons_succ] at k0 k1 k2 k3 k4; clear hb2 hk2 hn2 u0 u1 u2 u3 u4 z0 z1 z2 z3 z4)
    | (go_at_call 21; refine (KB.out).mono ?_; rintro e w1 ⟨hb1, a1, c1, b1, d1, rfl, hk1, hn1⟩; have HI1 := Lib.hid (RunIn.mk_ (r := ⟨dk, dn, ds, dr, dd⟩) hb1 (Below.refl _ _) hk1 hn1); have u0 := HI1.out.blk.cell 0; have u1 := HI1.out.blk.cell 1; have u2 := HI1.out.blk.cell 2; have u3 := HI1.out.blk.cell 3; have u4 := HI1.out.blk.cell 4; have z0 := HI1.out.blk.frozen 0; have z1 := HI1.out.blk.frozen 1; have z2 := HI1.out.blk.frozen 2; have z3 := HI1.out.blk.frozen 3; have z4 := HI1.out.blk.frozen 4; simp only [List.getElem?_toArray, List.getElem?_cons_zero, List.getElem?_cons_succ] at u0 u1 u2 u3 u4; clear hb1 hk1 hn1))
  have HST := Lib.hid (HI2.out.store (x := ⟨ek, en, es, er', ed⟩) (by simp) HQ2.out HN2.out)
  refine bodyPost_ret (v := .tuple #[.slice a2 ek.length c2, .int .i64 0]) (by simp [results, Tryz.results23, go_sem]) rfl ?_
  exact factsE_ok HE.out HST.out.below HST.out.rd.known

theorem sameRefl {S T : Nat → Prop} {va vb : Value} {a : List PFact} {w : World} (ha : RdFacts S w va a) (hb : RdFacts T w vb a) (n1 : a.length ≤ 1048576) (n2 : ∀ x ∈ a, x.args.length ≤ 1048576) :
    Calls Tryz.prog 24 #[va, vb] w fun e w' => e = .returned (.bool true) ∧ Below w.heap.size w w' :=
  (sameRef va vb a a w ha hb (by omega) (fun x hx => by have := n2 x hx; omega) (fun x hx => by have := n2 x hx; omega)).mono fun e w' ⟨he, hf⟩ => ⟨by rw [he, decide_eq_true rfl], hf.below⟩
set_option maxRecDepth 100000 in
set_option maxHeartbeats 4000000 in
theorem sameRunRefl (r : PRun) (kv nv kv' nv' : Value) (w : World) (h1 : RunRd w r kv nv) (h2 : RunRd w r kv' nv') (ns : RunSmall r) :
    Calls Tryz.prog 12 #[.agg #[kv, nv, .int .i64 r.stratum, .int .i64 r.rounds, .bool r.done], .agg #[kv', nv', .int .i64 r.stratum, .int .i64 r.rounds, .bool r.done]] w fun e w' => e = .returned (.bool true) ∧ Below w.heap.size w w' := by
  obtain ⟨rk, rn, rs, rr, rd⟩ := r
  have hb0 : Below w.heap.size w ((w.alloc (.cells #[kv, nv, .int .i64 rs, .int .i64 rr, .bool rd] 26)).alloc (.cells #[kv', nv', .int .i64 rs, .int .i64 rr, .bool rd] 26)) := ((Below.refl _ _).alloc (Nat.le_refl _) _).alloc (by simp) _
  have HB0 := Lib.hid hb0
  have hq1 := (Blk.new w 26 #[kv, nv, .int .i64 rs, .int .i64 rr, .bool rd]).alloc (.cells #[kv', nv', .int .i64 rs, .int .i64 rr, .bool rd] 26)
  have hq2 := Blk.at_ (w := w.alloc (.cells #[kv, nv, .int .i64 rs, .int .i64 rr, .bool rd] 26)) (t := 26) (cs := #[kv', nv', .int .i64 rs, .int .i64 rr, .bool rd]) (n := w.heap.size + 1) (by simp)
  have KS1 := Lib.hid (sameRefl (h1.known.up hb0) (h2.known.up hb0) ns.k1 ns.k2)
  have KS2 := Lib.hid (fun W (hW : Below w.heap.size w W) => sameRefl (h1.new.up hW) (h2.new.up hW) ns.n1 ns.n2)
  have HQ1 := Lib.hid hq1
  have HQ2 := Lib.hid hq2
  clear h1 h2 ns hb0 hq1 hq2
  go_enter Tryz.func12, Tryz.ntmps12
  have c0 := HQ1.out.cell 0; have c1 := HQ1.out.cell 1; have c2 := HQ1.out.cell 2; have c3 := HQ1.out.cell 3; have c4 := HQ1.out.cell 4
  have k0 := HQ2.out.cell 0; have k1 := HQ2.out.cell 1; have k2 := HQ2.out.cell 2; have k3 := HQ2.out.cell 3; have k4 := HQ2.out.cell 4
  simp only [List.getElem?_toArray, List.getElem?_cons_zero, List.getElem?_cons_succ] at c0 c1 c2 c3 c4 k0 k1 k2 k3 k4
  go_wp2_with (first
    | (go_at_call 24; have hh := HB2.out; clear hh; refine (KS2.out _ HB2.out).mono ?_; rintro e w3 ⟨rfl, hb3⟩; have HB3 := Lib.hid (HB2.out.trans (hb3.mono (Below.size HB2.out))); have HX3 := Lib.hid (HX2.out.below hb3 HX2.out.lt); have HY3 := Lib.hid (HY2.out.below hb3 HY2.out.lt); have m0 := HX3.out.cell 0; have m1 := HX3.out.cell 1; have m2 := HX3.out.cell 2; have m3 := HX3.out.cell 3; have m4 := HX3.out.cell 4; have n0 := HY3.out.cell 0; have n1 := HY3.out.cell 1; have n2 := HY3.out.cell 2; have n3 := HY3.out.cell 3; have n4 := HY3.out.cell 4; simp only [List.getElem?_toArray, List.getElem?_cons_zero, List.getElem?_cons_succ] at m0 m1 m2 m3 m4 n0 n1 n2 n3 n4; clear hb3)
    | (go_at_call 24; refine (KS1.out).mono ?_; rintro e w2 ⟨rfl, hb2⟩; have HB2 := Lib.hid (HB0.out.trans (hb2.mono (Below.size HB0.out))); have HX2 := Lib.hid (HQ1.out.below hb2 HQ1.out.lt); have HY2 := Lib.hid (HQ2.out.below hb2 HQ2.out.lt); have i0 := HX2.out.cell 0; have i1 := HX2.out.cell 1; have i2 := HX2.out.cell 2; have i3 := HX2.out.cell 3; have i4 := HX2.out.cell 4; have j0 := HY2.out.cell 0; have j1 := HY2.out.cell 1; have j2 := HY2.out.cell 2; have j3 := HY2.out.cell 3; have j4 := HY2.out.cell 4; simp only [List.getElem?_toArray, List.getElem?_cons_zero, List.getElem?_cons_succ] at i0 i1 i2 i3 i4 j0 j1 j2 j3 j4; clear hb2 c0 c1 c2 c3 c4 k0 k1 k2 k3 k4))
  go_ret
  exact ⟨ret_bool (by simp), HB3.out⟩
end Go.Proofs.YtiaehkpimepbgaaGreat
