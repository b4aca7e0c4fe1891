/-
  corolaw6.RoundTells ALWAYS ANSWERS TRUE: Begin, Wrong, Step and Steps tell what the reference tells. For any arguments of ordinary size; without conditions.
-/
import Derived.Test.YtbbiapgkcekabaaGreatPr23
namespace Go.Proofs.YtbbiapgkcekabaaGreat
open Go.RowKit Go.ChangeShapes Go.WideShapes Go.Deep

theorem iter_smallT {st : List Int} {q : Int × Int} {p : List PRule} (n2 : ∀ r ∈ p, RuleSmall r) : ∀ {k : Nat} {r : PRun}, RunSmall r → RunSmall (iterP st q.1 p k r).1
  | 0, r, h => h
  | k + 1, r, h => by
    rw [iterP]
    split
    · exact h
    split
    · exact zero_small
    · exact iter_smallT n2 (step_small n2 h)
theorem steps_smallT {st : List Int} {q : Int × Int} {p : List PRule} (n2 : ∀ r ∈ p, RuleSmall r) {r : PRun} {n : Int} (h : RunSmall r) : RunSmall (stepsRun st q.1 p r n).1 := by
  unfold stepsRun
  split
  · exact zero_small
  split
  · exact zero_small
  · exact iter_smallT n2 h
theorem facts_smallT {l : List PFact} (h : sizeL sizeFact l ≤ 1048576) : FactsSmall l := fun z hz => by
  have h1 := sizeL_mem (size := sizeFact) hz
  have h2 := sizeL_le openStr.one z.args
  simp only [sizeFact] at h1
  refine ⟨by omega, by simp only [sizeStr] at h1; omega, fun a ha => ?_⟩
  have h3 := sizeL_mem (size := sizeStr) ha
  simp only [sizeStr] at h3 h1
  omega
theorem run_smallT {r : PRun} (h : sizeRun r ≤ 1048576) : RunSmall r ∧ FactsSmall r.known ∧ FactsSmall r.new := by
  simp only [sizeRun] at h
  have h1 := sizeL_le (size := sizeFact) openFact.one r.known
  have h2 := sizeL_le (size := sizeFact) openFact.one r.new
  have g1 : FactsSmall r.known := facts_smallT (by omega)
  have g2 : FactsSmall r.new := facts_smallT (by omega)
  exact ⟨⟨by omega, fun x hx => (g1 x hx).1, by omega, fun x hx => (g2 x hx).1⟩, g1, g2⟩
/-- Neither of two blocks. -/
def OffT (B C : Nat) : Nat → Prop := fun b => b ≠ B ∧ b ≠ C
theorem offT_new {W : World} {B C b : Nat} (h1 : B < C) (h2 : C < W.heap.size) (h3 : New W b) : OffT B C b := by
  have h' : W.heap.size ≤ b := h3
  exact ⟨by omega, by omega⟩
theorem offT_of {w W : World} {B C b : Nat} (h0 : w.heap.size < B) (h1 : B < C) (h2 : C < W.heap.size) (h3 : (fun b => b < w.heap.size) b ∨ W.heap.size ≤ b) : OffT B C b := by
  rcases h3 with h3 | h3
  · have h' : b < w.heap.size := h3
    exact ⟨by omega, by omega⟩
  · exact ⟨by omega, by omega⟩
/-- The law's worlds: the run that is asked of, and the two answers. -/
structure TriR (w W : World) (B C : Nat) (r0 r1 r2 r3 r4 u0 u1 u2 u3 u4 v0 v1 v2 v3 v4 : Value) : Prop where
  below : Below w.heap.size w W
  r : Blk W w.heap.size 47 #[r0, r1, r2, r3, r4]
  b : Blk W B 47 #[u0, u1, u2, u3, u4]
  c : Blk W C 47 #[v0, v1, v2, v3, v4]
  lt : w.heap.size < B
  lt2 : B < C
section
variable {w W W' : World} {B C : Nat} {r0 r1 r2 r3 r4 u0 u1 u2 u3 u4 v0 v1 v2 v3 v4 x0 x1 x2 x3 x4 : Value}
theorem TriR.next (h : TriR w W B C r0 r1 r2 r3 r4 u0 u1 u2 u3 u4 v0 v1 v2 v3 v4) (hb : Below W.heap.size W W') : TriR w W' B C r0 r1 r2 r3 r4 u0 u1 u2 u3 u4 v0 v1 v2 v3 v4 :=
  ⟨h.below.trans (hb.mono h.below.size), h.r.below hb h.r.lt, h.b.below hb h.b.lt, h.c.below hb h.c.lt, h.lt, h.lt2⟩
theorem TriR.storeB (h : TriR w W B C r0 r1 r2 r3 r4 u0 u1 u2 u3 u4 v0 v1 v2 v3 v4) (x0 x1 x2 x3 x4 : Value) : TriR w (((((W.setCell ⟨B, 0, none⟩ x0).setCell ⟨B, 1, none⟩ x1).setCell ⟨B, 2, none⟩ x2).setCell ⟨B, 3, none⟩ x3).setCell ⟨B, 4, none⟩ x4) B C r0 r1 r2 r3 r4 x0 x1 x2 x3 x4 v0 v1 v2 v3 v4 := by
  have e := h.lt
  have e2 := h.lt2
  have f1 : w.heap.size ≠ B := by omega
  have f2 : C ≠ B := by omega
  have f3 : w.heap.size ≤ B := by omega
  exact ⟨((((h.below.setCell f3 _).setCell f3 _).setCell f3 _).setCell f3 _).setCell f3 _,
    ((((h.r.far (p := ⟨B, 0, none⟩) f1 _).far (p := ⟨B, 1, none⟩) f1 _).far (p := ⟨B, 2, none⟩) f1 _).far (p := ⟨B, 3, none⟩) f1 _).far (p := ⟨B, 4, none⟩) f1 _,
    ((((h.b.set_ 0 x0).set_ 1 x1).set_ 2 x2).set_ 3 x3).set_ 4 x4,
    ((((h.c.far (p := ⟨B, 0, none⟩) f2 _).far (p := ⟨B, 1, none⟩) f2 _).far (p := ⟨B, 2, none⟩) f2 _).far (p := ⟨B, 3, none⟩) f2 _).far (p := ⟨B, 4, none⟩) f2 _, e, e2⟩
theorem TriR.storeC (h : TriR w W B C r0 r1 r2 r3 r4 u0 u1 u2 u3 u4 v0 v1 v2 v3 v4) (x0 x1 x2 x3 x4 : Value) : TriR w (((((W.setCell ⟨C, 0, none⟩ x0).setCell ⟨C, 1, none⟩ x1).setCell ⟨C, 2, none⟩ x2).setCell ⟨C, 3, none⟩ x3).setCell ⟨C, 4, none⟩ x4) B C r0 r1 r2 r3 r4 u0 u1 u2 u3 u4 x0 x1 x2 x3 x4 := by
  have e := h.lt
  have e2 := h.lt2
  have f1 : w.heap.size ≠ C := by omega
  have f2 : B ≠ C := by omega
  have f3 : w.heap.size ≤ C := by omega
  exact ⟨((((h.below.setCell f3 _).setCell f3 _).setCell f3 _).setCell f3 _).setCell f3 _,
    ((((h.r.far (p := ⟨C, 0, none⟩) f1 _).far (p := ⟨C, 1, none⟩) f1 _).far (p := ⟨C, 2, none⟩) f1 _).far (p := ⟨C, 3, none⟩) f1 _).far (p := ⟨C, 4, none⟩) f1 _,
    ((((h.b.far (p := ⟨C, 0, none⟩) f2 _).far (p := ⟨C, 1, none⟩) f2 _).far (p := ⟨C, 2, none⟩) f2 _).far (p := ⟨C, 3, none⟩) f2 _).far (p := ⟨C, 4, none⟩) f2 _,
    ((((h.c.set_ 0 x0).set_ 1 x1).set_ 2 x2).set_ 3 x3).set_ 4 x4, e, e2⟩
theorem TriR.lt3 (h : TriR w W B C r0 r1 r2 r3 r4 u0 u1 u2 u3 u4 v0 v1 v2 v3 v4) : C < W.heap.size := h.c.lt
theorem setB {S : Nat → Prop} {l : List PFact} {v : Value} {G : Nat} (h : RdFacts S W v l) (hG : ¬ S G) (x0 x1 x2 x3 x4 : Value) : RdFacts S (((((W.setCell ⟨G, 0, none⟩ x0).setCell ⟨G, 1, none⟩ x1).setCell ⟨G, 2, none⟩ x2).setCell ⟨G, 3, none⟩ x3).setCell ⟨G, 4, none⟩ x4) v l :=
  RdFacts.set_far (RdFacts.set_far (RdFacts.set_far (RdFacts.set_far (RdFacts.set_far h hG _) hG _) hG _) hG _) hG _
end

set_option maxRecDepth 100000 in
set_option maxHeartbeats 16000000 in
theorem roundTellsCalls {S S2 : Nat → Prop} (p : List PRule) (v : Value) (l : List PFact) (fv : Value) (r : PRun) (kv nv : Value) (n : Int) (w : World) (h : RdRules S w v p) (hf : RdFacts S2 w fv l) (hr : RunRd w r kv nv)
    (n1 : p.length ≤ 1048576) (n2 : ∀ r ∈ p, RuleSmall r) (n3 : ∀ r ∈ p, NameSmall r) (n4 : l.length ≤ 1048576) (n5 : FactsSmall l) (ns : RunSmall r) (m1 : FactsSmall r.known) (m2 : FactsSmall r.new) :
    Calls Tryz.prog 4 #[v, fv, .agg #[kv, nv, .int .i64 r.stratum, .int .i64 r.rounds, .bool r.done], .int .i64 n] w fun e w' => e = .returned (.bool true) ∧ Below w.heap.size w w' := by
  obtain ⟨a, c, rfl, -, -, -⟩ := id h.form
  obtain ⟨fa, fc, rfl, -, -, -⟩ := id hf.form
  obtain ⟨rk, rn, rs, rr, rd⟩ := r
  obtain ⟨ka, kc, rfl, -, -, -⟩ := id hr.known.form
  obtain ⟨na, nc, rfl, -, -, -⟩ := id hr.new.form
  obtain ⟨st, q, hS⟩ := exists_strata p
  have hko : RdFacts (fun b => b < w.heap.size) w (.slice ka rk.length kc) rk := hr.known.more RFact.steady (fun _ _ hl => hl)
  have hno : RdFacts (fun b => b < w.heap.size) w (.slice na rn.length nc) rn := hr.new.more RFact.steady (fun _ _ hl => hl)
  have KB := Lib.hid (fun W (hW : Below w.heap.size w W) => beginCalls p _ _ st q l W hS (h.up hW) (hf.up hW) n1 n2 n3 n4 (fun x hx => (n5 x hx).1))
  have LB := Lib.hid (fun W (hW : Below w.heap.size w W) => beginRef p _ _ st q l W hS (h.up hW) (hf.up hW) n1 n2 n3 n4 n5)
  have KW := Lib.hid (fun W (hW : Below w.heap.size w W) => runWrongCalls p (.slice a p.length c) st q ⟨rk, rn, rs, rr, rd⟩ (.slice ka rk.length kc) (.slice na rn.length nc) W hS (h.up hW) (hr.up hW) n1 n2 n3 ns)
  have LW := Lib.hid (fun W (hW : Below w.heap.size w W) => wrongRunRef p (.slice a p.length c) st q ⟨rk, rn, rs, rr, rd⟩ (.slice ka rk.length kc) (.slice na rn.length nc) W hS (h.up hW) (hr.up hW) n1 n2 n3 ns m1 m2)
  have KS := Lib.hid (fun W (hW : Below w.heap.size w W) => stepRunCalls p (.slice a p.length c) st q ⟨rk, rn, rs, rr, rd⟩ (.slice ka rk.length kc) (.slice na rn.length nc) W hS (h.up hW) (hr.up hW) n1 n2 n3 ns)
  have LS := Lib.hid (fun W (hW : Below w.heap.size w W) => stepRefU (U := fun b => b < w.heap.size) p (.slice a p.length c) st q ⟨rk, rn, rs, rr, rd⟩ (.slice ka rk.length kc) (.slice na rn.length nc) W hS (h.up hW) (hr.up hW) (RdSlice.agree RFact.steady (Below.agree hW) hko) (RdSlice.agree RFact.steady (Below.agree hW) hno) n1 n2 n3 ns m1 m2)
  have KT := Lib.hid (fun W (hW : Below w.heap.size w W) => stepsRunCalls p (.slice a p.length c) st q ⟨rk, rn, rs, rr, rd⟩ (.slice ka rk.length kc) (.slice na rn.length nc) n W hS (h.up hW) (hr.up hW) n1 n2 n3 ns)
  have LT := Lib.hid (fun W (hW : Below w.heap.size w W) => stepsRefU (U := fun b => b < w.heap.size) p (.slice a p.length c) st q ⟨rk, rn, rs, rr, rd⟩ (.slice ka rk.length kc) (.slice na rn.length nc) n W hS (h.up hW) (hr.up hW) (RdSlice.agree RFact.steady (Below.agree hW) hko) (RdSlice.agree RFact.steady (Below.agree hW) hno) n1 n2 n3 ns m1 m2)
  have HBS := Lib.hid (begin_small (st := st) (q := q.1) (p := p) n4 (fun x hx => (n5 x hx).1))
  have HSS := Lib.hid (step_small (st := st) (q := q) (p := p) n2 ns)
  have HTS := Lib.hid (steps_smallT (st := st) (q := q) (p := p) n2 (n := n) ns)
  clear h hf hr n2 n3 n5 ns m1 m2 hS hko hno
  generalize beginP st q.1 p l = x at *
  generalize stepRun st q.1 p ⟨rk, rn, rs, rr, rd⟩ = y at *
  generalize stepsRun st q.1 p ⟨rk, rn, rs, rr, rd⟩ n = z at *
  generalize runBad st q.1 p ⟨rk, rn, rs, rr, rd⟩ = bad at *
  obtain ⟨⟨xk, xn, xs, xr, xd⟩, xe⟩ := x
  obtain ⟨⟨yk, yn, ys, yr, yd⟩, ye⟩ := y
  obtain ⟨⟨zk, zn, zs, zr, zd⟩, ze⟩ := z
  dsimp only at *
  have b1 : (xe != xe) = false := by simp
  have b2 : (bad != bad) = false := by simp
  have b3 : (ye != ye) = false := by simp
  have b4 : (ze == ze) = true := by simp
  have HB0 := Lib.hid ((Below.refl w.heap.size w).alloc (Nat.le_refl _) (.cells #[.slice ka rk.length kc, .slice na rn.length nc, .int .i64 rs, .int .i64 rr, .bool rd] 47))
  have HR0 := Lib.hid (Blk.new w 47 #[.slice ka rk.length kc, .slice na rn.length nc, .int .i64 rs, .int .i64 rr, .bool rd])
  go_enter Tryz.func4, Tryz.ntmps4
  go_wp2_with (first
    | (go_at_call 28; have hh := HX1.out; clear hh; refine (LB.out _ HI1.out).mono ?_; rintro e w2 ⟨hb2, a2, c2, b2', d2, rfl, hk2, hn2⟩; have HT2 := Lib.hid (show TriR w (w2.alloc (.cells #[.slice a2 xk.length c2, .slice b2' xn.length d2, .int .i64 xs, .int .i64 xr, .bool xd] 47)) w1.heap.size w2.heap.size (.slice ka rk.length kc) (.slice na rn.length nc) (.int .i64 rs) (.int .i64 rr) (.bool rd) (.slice a1 xk.length c1) (.slice b1' xn.length d1) (.int .i64 xs) (.int .i64 xr) (.bool xd) (.slice a2 xk.length c2) (.slice b2' xn.length d2) (.int .i64 xs) (.int .i64 xr) (.bool xd) from ⟨(HI1.out.trans (hb2.mono (Below.size HI1.out))).alloc (Below.size (HI1.out.trans (hb2.mono (Below.size HI1.out)))) _, (HR1.out.below hb2 HR1.out.lt).alloc _, (HC1.out.below hb2 HC1.out.lt).alloc _, Blk.new _ _ _, HL1.out, by have h1 := HC1.out.lt; have h2 := Below.size hb2; omega⟩); have HX2 := Lib.hid (show RunRd (w2.alloc (.cells #[.slice a2 xk.length c2, .slice b2' xn.length d2, .int .i64 xs, .int .i64 xr, .bool xd] 47)) ⟨xk, xn, xs, xr, xd⟩ (.slice a1 xk.length c1) (.slice b1' xn.length d1) from (HX1.out.up hb2).up ((Below.refl _ _).alloc (Nat.le_refl _) _)); have HY2 := Lib.hid (show RunRd (w2.alloc (.cells #[.slice a2 xk.length c2, .slice b2' xn.length d2, .int .i64 xs, .int .i64 xr, .bool xd] 47)) ⟨xk, xn, xs, xr, xd⟩ (.slice a2 xk.length c2) (.slice b2' xn.length d2) from RunRd.up ⟨hk2, hn2⟩ ((Below.refl _ _).alloc (Nat.le_refl _) _)); clear hb2 hk2 hn2)
    | (go_at_call 27; refine (KB.out _ HB0.out).mono ?_; rintro e w1 ⟨hb1, a1, c1, b1', d1, rfl, hk1, hn1⟩; have HI1 := Lib.hid ((HB0.out.trans (hb1.mono (Below.size HB0.out))).alloc (Below.size (HB0.out.trans (hb1.mono (Below.size HB0.out)))) (.cells #[.slice a1 xk.length c1, .slice b1' xn.length d1, .int .i64 xs, .int .i64 xr, .bool xd] 47)); have HR1 := Lib.hid ((HR0.out.below hb1 HR0.out.lt).alloc (.cells #[.slice a1 xk.length c1, .slice b1' xn.length d1, .int .i64 xs, .int .i64 xr, .bool xd] 47)); have HC1 := Lib.hid (Blk.new w1 47 #[.slice a1 xk.length c1, .slice b1' xn.length d1, .int .i64 xs, .int .i64 xr, .bool xd]); have HL1 := Lib.hid (show w.heap.size < w1.heap.size from (HR0.out.below hb1 HR0.out.lt).lt); have HX1 := Lib.hid (show RunRd (w1.alloc (.cells #[.slice a1 xk.length c1, .slice b1' xn.length d1, .int .i64 xs, .int .i64 xr, .bool xd] 47)) ⟨xk, xn, xs, xr, xd⟩ (.slice a1 xk.length c1) (.slice b1' xn.length d1) from RunRd.up ⟨hk1.any, hn1.any⟩ ((Below.refl _ _).alloc (Nat.le_refl _) _)); clear hb1 hk1 hn1))
  clear HB0 HR0 HI1 HR1 HC1 HL1 HX1
  generalize w2.alloc (.cells #[.slice a2 xk.length c2, .slice b2' xn.length d2, .int .i64 xs, .int .i64 xr, .bool xd] 47) = W2 at *
  generalize w2.heap.size = C at *
  generalize w1.heap.size = B at *
  have hB := HT2.out.lt
  have hC := HT2.out.lt2
  have hn1 : B ≠ w.heap.size := by omega
  have hn2 : w.heap.size ≠ B := by omega
  have hn3 : C ≠ w.heap.size := by omega
  have hn4 : w.heap.size ≠ C := by omega
  have hn5 : B ≠ C := by omega
  have hn6 : C ≠ B := by omega
  have HTD := Lib.hid (HT2.out.next (Below.refl _ _).drew)
  have HXD := Lib.hid (HX2.out.up (Below.refl _ _).drew)
  have HYD := Lib.hid (HY2.out.up (Below.refl _ _).drew)

  obtain ⟨hr0, hr1, hr2, hr3, hr4⟩ := And.intro (HT2.out.r.cell 0) (And.intro (HT2.out.r.cell 1) (And.intro (HT2.out.r.cell 2) (And.intro (HT2.out.r.cell 3) (HT2.out.r.cell 4))))
  obtain ⟨hb0, hb1, hb2, hb3, hb4⟩ := And.intro (HT2.out.b.cell 0) (And.intro (HT2.out.b.cell 1) (And.intro (HT2.out.b.cell 2) (And.intro (HT2.out.b.cell 3) (HT2.out.b.cell 4))))
  obtain ⟨hc0, hc1, hc2, hc3, hc4⟩ := And.intro (HT2.out.c.cell 0) (And.intro (HT2.out.c.cell 1) (And.intro (HT2.out.c.cell 2) (And.intro (HT2.out.c.cell 3) (HT2.out.c.cell 4))))
  simp only [List.getElem?_toArray, List.getElem?_cons_zero, List.getElem?_cons_succ] at hr0 hr1 hr2 hr3 hr4 hb0 hb1 hb2 hb3 hb4 hc0 hc1 hc2 hc3 hc4
  go_region_held3 (fun w' => w'.cell? ⟨w.heap.size, 0, none⟩ = some (.slice ka rk.length kc) ∧ w'.cell? ⟨w.heap.size, 1, none⟩ = some (.slice na rn.length nc) ∧ w'.cell? ⟨w.heap.size, 2, none⟩ = some (.int .i64 rs) ∧ w'.cell? ⟨w.heap.size, 3, none⟩ = some (.int .i64 rr) ∧ w'.cell? ⟨w.heap.size, 4, none⟩ = some (.bool rd) ∧ w'.cell? ⟨B, 0, none⟩ = some (.slice a1 xk.length c1) ∧ w'.cell? ⟨B, 1, none⟩ = some (.slice b1' xn.length d1) ∧ w'.cell? ⟨B, 2, none⟩ = some (.int .i64 xs) ∧ w'.cell? ⟨B, 3, none⟩ = some (.int .i64 xr) ∧ w'.cell? ⟨B, 4, none⟩ = some (.bool xd) ∧ w'.cell? ⟨C, 0, none⟩ = some (.slice a2 xk.length c2) ∧ w'.cell? ⟨C, 1, none⟩ = some (.slice b2' xn.length d2) ∧ w'.cell? ⟨C, 2, none⟩ = some (.int .i64 xs) ∧ w'.cell? ⟨C, 3, none⟩ = some (.int .i64 xr) ∧ w'.cell? ⟨C, 4, none⟩ = some (.bool xd))
    (first | (with_reducible exact ⟨kr0, kr1, kr2, kr3, kr4, kb0, kb1, kb2, kb3, kb4, kc0, kc1, kc2, kc3, kc4⟩) | (with_reducible exact ⟨jr0, jr1, jr2, jr3, jr4, jb0, jb1, jb2, jb3, jb4, jc0, jc1, jc2, jc3, jc4⟩) | (with_reducible exact ⟨ir0, ir1, ir2, ir3, ir4, ib0, ib1, ib2, ib3, ib4, ic0, ic1, ic2, ic3, ic4⟩) | (with_reducible exact ⟨hr0, hr1, hr2, hr3, hr4, hb0, hb1, hb2, hb3, hb4, hc0, hc1, hc2, hc3, hc4⟩) | go_keep)
    (first
      | (go_at_call 31; have hh := HT4.out; clear hh; (with_reducible refine (LW.out _ HT4.out.below).mono ?_); rintro e w5 ⟨rfl, hb5⟩; have HT5 := Lib.hid (HT4.out.next hb5); have kr0 := HT5.out.r.cell 0; have kr1 := HT5.out.r.cell 1; have kr2 := HT5.out.r.cell 2; have kr3 := HT5.out.r.cell 3; have kr4 := HT5.out.r.cell 4; have kb0 := HT5.out.b.cell 0; have kb1 := HT5.out.b.cell 1; have kb2 := HT5.out.b.cell 2; have kb3 := HT5.out.b.cell 3; have kb4 := HT5.out.b.cell 4; have kc0 := HT5.out.c.cell 0; have kc1 := HT5.out.c.cell 1; have kc2 := HT5.out.c.cell 2; have kc3 := HT5.out.c.cell 3; have kc4 := HT5.out.c.cell 4; simp only [List.getElem?_toArray, List.getElem?_cons_zero, List.getElem?_cons_succ] at kr0 kr1 kr2 kr3 kr4 kb0 kb1 kb2 kb3 kb4 kc0 kc1 kc2 kc3 kc4; clear hb5)
      | (go_at_call 30; have hh := HT3.out; clear hh; (with_reducible refine (KW.out _ HT3.out.below).mono ?_); rintro e w4 ⟨rfl, hb4⟩; have HT4 := Lib.hid (HT3.out.next hb4); have jr0 := HT4.out.r.cell 0; have jr1 := HT4.out.r.cell 1; have jr2 := HT4.out.r.cell 2; have jr3 := HT4.out.r.cell 3; have jr4 := HT4.out.r.cell 4; have jb0 := HT4.out.b.cell 0; have jb1 := HT4.out.b.cell 1; have jb2 := HT4.out.b.cell 2; have jb3 := HT4.out.b.cell 3; have jb4 := HT4.out.b.cell 4; have jc0 := HT4.out.c.cell 0; have jc1 := HT4.out.c.cell 1; have jc2 := HT4.out.c.cell 2; have jc3 := HT4.out.c.cell 3; have jc4 := HT4.out.c.cell 4; simp only [List.getElem?_toArray, List.getElem?_cons_zero, List.getElem?_cons_succ] at jr0 jr1 jr2 jr3 jr4 jb0 jb1 jb2 jb3 jb4 jc0 jc1 jc2 jc3 jc4; clear hb4)
      | (go_at_call 29; (with_reducible refine (sameRunRefl ⟨xk, xn, xs, xr, xd⟩ _ _ _ _ _ HXD.out HYD.out HBS.out).mono ?_); rintro e w3 ⟨rfl, hb3⟩; have HT3 := Lib.hid (HTD.out.next hb3); have ir0 := HT3.out.r.cell 0; have ir1 := HT3.out.r.cell 1; have ir2 := HT3.out.r.cell 2; have ir3 := HT3.out.r.cell 3; have ir4 := HT3.out.r.cell 4; have ib0 := HT3.out.b.cell 0; have ib1 := HT3.out.b.cell 1; have ib2 := HT3.out.b.cell 2; have ib3 := HT3.out.b.cell 3; have ib4 := HT3.out.b.cell 4; have ic0 := HT3.out.c.cell 0; have ic1 := HT3.out.c.cell 1; have ic2 := HT3.out.c.cell 2; have ic3 := HT3.out.c.cell 3; have ic4 := HT3.out.c.cell 4; simp only [List.getElem?_toArray, List.getElem?_cons_zero, List.getElem?_cons_succ] at ir0 ir1 ir2 ir3 ir4 ib0 ib1 ib2 ib3 ib4 ic0 ic1 ic2 ic3 ic4; clear hb3))

  clear HT2 HX2 HY2 HTD HXD HYD HT3 HT4 KB LB KW LW HBS b1 b2
  go_wp2_with (first
    | (go_at_call 29; have hh := HX7.out; clear hh; refine (sameRunRefl ⟨yk, yn, ys, yr, yd⟩ _ _ _ _ _ HX7.out HY7.out HSS.out).mono ?_; rintro e w8 ⟨rfl, hb8⟩; have HT8 := Lib.hid (HT7.out.next hb8); have u8_0 := HT8.out.r.cell 0; have u8_1 := HT8.out.r.cell 1; have u8_2 := HT8.out.r.cell 2; have u8_3 := HT8.out.r.cell 3; have u8_4 := HT8.out.r.cell 4; simp only [List.getElem?_toArray, List.getElem?_cons_zero, List.getElem?_cons_succ] at u8_0 u8_1 u8_2 u8_3 u8_4; clear hb8)
    | (go_at_call 33; have hh := HK6.out; clear hh; refine (LS.out _ HT6.out.below).mono ?_; rintro e w7 ⟨hb7, a7, c7', b7', d7, rfl, hk7, hn7⟩; have hl7 := HT6.out.lt3; have ht7 := HT6.out.next hb7; have HT7 := Lib.hid (ht7.storeC (.slice a7 yk.length c7') (.slice b7' yn.length d7) (.int .i64 ys) (.int .i64 yr) (.bool yd)); have HX7 := Lib.hid (show RunRd (((((w7.setCell ⟨C, 0, none⟩ (.slice a7 yk.length c7')).setCell ⟨C, 1, none⟩ (.slice b7' yn.length d7)).setCell ⟨C, 2, none⟩ (.int .i64 ys)).setCell ⟨C, 3, none⟩ (.int .i64 yr)).setCell ⟨C, 4, none⟩ (.bool yd)) ⟨yk, yn, ys, yr, yd⟩ (.slice a6 yk.length c6') (.slice b6' yn.length d6) from ⟨(setB (RdSlice.agree RFact.steady (Below.agree hb7) HK6.out) (G := C) (fun h => h.2 rfl) _ _ _ _ _).any, (setB (RdSlice.agree RFact.steady (Below.agree hb7) HN6.out) (G := C) (fun h => h.2 rfl) _ _ _ _ _).any⟩); have HY7 := Lib.hid (show RunRd (((((w7.setCell ⟨C, 0, none⟩ (.slice a7 yk.length c7')).setCell ⟨C, 1, none⟩ (.slice b7' yn.length d7)).setCell ⟨C, 2, none⟩ (.int .i64 ys)).setCell ⟨C, 3, none⟩ (.int .i64 yr)).setCell ⟨C, 4, none⟩ (.bool yd)) ⟨yk, yn, ys, yr, yd⟩ (.slice a7 yk.length c7') (.slice b7' yn.length d7) from ⟨(setB (hk7.more RFact.steady (S' := OffT B C) (fun b hb _ => offT_of hB hC hl7 hb)) (G := C) (fun h => h.2 rfl) _ _ _ _ _).any, (setB (hn7.more RFact.steady (S' := OffT B C) (fun b hb _ => offT_of hB hC hl7 hb)) (G := C) (fun h => h.2 rfl) _ _ _ _ _).any⟩); have q7_0 := ht7.b.cell 0; have q7_1 := ht7.b.cell 1; have q7_2 := ht7.b.cell 2; have q7_3 := ht7.b.cell 3; have q7_4 := ht7.b.cell 4; have t7_0 := ht7.c.cell 0; have t7_1 := ht7.c.cell 1; have t7_2 := ht7.c.cell 2; have t7_3 := ht7.c.cell 3; have t7_4 := ht7.c.cell 4; have y7_0 := ht7.c.frozen 0; have y7_1 := ht7.c.frozen 1; have y7_2 := ht7.c.frozen 2; have y7_3 := ht7.c.frozen 3; have y7_4 := ht7.c.frozen 4; simp only [List.getElem?_toArray, List.getElem?_cons_zero, List.getElem?_cons_succ] at q7_0 q7_1 q7_2 q7_3 q7_4 t7_0 t7_1 t7_2 t7_3 t7_4; clear hb7 hk7 hn7 ht7)
    | (go_at_call 32; have hh := HT5.out; clear hh; refine (KS.out _ HT5.out.below).mono ?_; rintro e w6 ⟨hb6, a6, c6', b6', d6, rfl, hk6, hn6⟩; have hl6 := HT5.out.lt3; have ht6 := HT5.out.next hb6; have HT6 := Lib.hid (ht6.storeB (.slice a6 yk.length c6') (.slice b6' yn.length d6) (.int .i64 ys) (.int .i64 yr) (.bool yd)); have HK6 := Lib.hid (setB (hk6.more RFact.steady (S' := OffT B C) (fun b hb _ => offT_new hC hl6 hb)) (G := B) (fun h => h.1 rfl) (.slice a6 yk.length c6') (.slice b6' yn.length d6) (.int .i64 ys) (.int .i64 yr) (.bool yd)); have HN6 := Lib.hid (setB (hn6.more RFact.steady (S' := OffT B C) (fun b hb _ => offT_new hC hl6 hb)) (G := B) (fun h => h.1 rfl) (.slice a6 yk.length c6') (.slice b6' yn.length d6) (.int .i64 ys) (.int .i64 yr) (.bool yd)); have p6_0 := ht6.r.cell 0; have p6_1 := ht6.r.cell 1; have p6_2 := ht6.r.cell 2; have p6_3 := ht6.r.cell 3; have p6_4 := ht6.r.cell 4; have s6_0 := ht6.b.cell 0; have s6_1 := ht6.b.cell 1; have s6_2 := ht6.b.cell 2; have s6_3 := ht6.b.cell 3; have s6_4 := ht6.b.cell 4; have z6_0 := ht6.b.frozen 0; have z6_1 := ht6.b.frozen 1; have z6_2 := ht6.b.frozen 2; have z6_3 := ht6.b.frozen 3; have z6_4 := ht6.b.frozen 4; simp only [List.getElem?_toArray, List.getElem?_cons_zero, List.getElem?_cons_succ] at p6_0 p6_1 p6_2 p6_3 p6_4 s6_0 s6_1 s6_2 s6_3 s6_4; clear hb6 hk6 hn6 ht6))
  clear KS LS HSS HT5 HT6 HK6 HN6 HT7 HX7 HY7 b3
  go_wp2_with (first
    | (go_at_call 29; have hh := HX10.out; clear hh; refine (sameRunRefl ⟨zk, zn, zs, zr, zd⟩ _ _ _ _ _ HX10.out HY10.out HTS.out).mono ?_; rintro e w11 ⟨rfl, hb11⟩; have HT11 := Lib.hid (HT10.out.next hb11); have u11_0 := HT11.out.r.cell 0; have u11_1 := HT11.out.r.cell 1; have u11_2 := HT11.out.r.cell 2; have u11_3 := HT11.out.r.cell 3; have u11_4 := HT11.out.r.cell 4; simp only [List.getElem?_toArray, List.getElem?_cons_zero, List.getElem?_cons_succ] at u11_0 u11_1 u11_2 u11_3 u11_4; clear hb11)
    | (go_at_call 35; have hh := HK9.out; clear hh; refine (LT.out _ HT9.out.below).mono ?_; rintro e w10 ⟨hb10, a10, c10', b10', d10, rfl, hk10, hn10⟩; have hl10 := HT9.out.lt3; have ht10 := HT9.out.next hb10; have HT10 := Lib.hid (ht10.storeC (.slice a10 zk.length c10') (.slice b10' zn.length d10) (.int .i64 zs) (.int .i64 zr) (.bool zd)); have HX10 := Lib.hid (show RunRd (((((w10.setCell ⟨C, 0, none⟩ (.slice a10 zk.length c10')).setCell ⟨C, 1, none⟩ (.slice b10' zn.length d10)).setCell ⟨C, 2, none⟩ (.int .i64 zs)).setCell ⟨C, 3, none⟩ (.int .i64 zr)).setCell ⟨C, 4, none⟩ (.bool zd)) ⟨zk, zn, zs, zr, zd⟩ (.slice a9 zk.length c9') (.slice b9' zn.length d9) from ⟨(setB (RdSlice.agree RFact.steady (Below.agree hb10) HK9.out) (G := C) (fun h => h.2 rfl) _ _ _ _ _).any, (setB (RdSlice.agree RFact.steady (Below.agree hb10) HN9.out) (G := C) (fun h => h.2 rfl) _ _ _ _ _).any⟩); have HY10 := Lib.hid (show RunRd (((((w10.setCell ⟨C, 0, none⟩ (.slice a10 zk.length c10')).setCell ⟨C, 1, none⟩ (.slice b10' zn.length d10)).setCell ⟨C, 2, none⟩ (.int .i64 zs)).setCell ⟨C, 3, none⟩ (.int .i64 zr)).setCell ⟨C, 4, none⟩ (.bool zd)) ⟨zk, zn, zs, zr, zd⟩ (.slice a10 zk.length c10') (.slice b10' zn.length d10) from ⟨(setB (hk10.more RFact.steady (S' := OffT B C) (fun b hb _ => offT_of hB hC hl10 hb)) (G := C) (fun h => h.2 rfl) _ _ _ _ _).any, (setB (hn10.more RFact.steady (S' := OffT B C) (fun b hb _ => offT_of hB hC hl10 hb)) (G := C) (fun h => h.2 rfl) _ _ _ _ _).any⟩); have q10_0 := ht10.b.cell 0; have q10_1 := ht10.b.cell 1; have q10_2 := ht10.b.cell 2; have q10_3 := ht10.b.cell 3; have q10_4 := ht10.b.cell 4; have t10_0 := ht10.c.cell 0; have t10_1 := ht10.c.cell 1; have t10_2 := ht10.c.cell 2; have t10_3 := ht10.c.cell 3; have t10_4 := ht10.c.cell 4; have y10_0 := ht10.c.frozen 0; have y10_1 := ht10.c.frozen 1; have y10_2 := ht10.c.frozen 2; have y10_3 := ht10.c.frozen 3; have y10_4 := ht10.c.frozen 4; simp only [List.getElem?_toArray, List.getElem?_cons_zero, List.getElem?_cons_succ] at q10_0 q10_1 q10_2 q10_3 q10_4 t10_0 t10_1 t10_2 t10_3 t10_4; clear hb10 hk10 hn10 ht10)
    | (go_at_call 34; have hh := HT8.out; clear hh; refine (KT.out _ HT8.out.below).mono ?_; rintro e w9 ⟨hb9, a9, c9', b9', d9, rfl, hk9, hn9⟩; have hl9 := HT8.out.lt3; have ht9 := HT8.out.next hb9; have HT9 := Lib.hid (ht9.storeB (.slice a9 zk.length c9') (.slice b9' zn.length d9) (.int .i64 zs) (.int .i64 zr) (.bool zd)); have HK9 := Lib.hid (setB (hk9.more RFact.steady (S' := OffT B C) (fun b hb _ => offT_new hC hl9 hb)) (G := B) (fun h => h.1 rfl) (.slice a9 zk.length c9') (.slice b9' zn.length d9) (.int .i64 zs) (.int .i64 zr) (.bool zd)); have HN9 := Lib.hid (setB (hn9.more RFact.steady (S' := OffT B C) (fun b hb _ => offT_new hC hl9 hb)) (G := B) (fun h => h.1 rfl) (.slice a9 zk.length c9') (.slice b9' zn.length d9) (.int .i64 zs) (.int .i64 zr) (.bool zd)); have p9_0 := ht9.r.cell 0; have p9_1 := ht9.r.cell 1; have p9_2 := ht9.r.cell 2; have p9_3 := ht9.r.cell 3; have p9_4 := ht9.r.cell 4; have s9_0 := ht9.b.cell 0; have s9_1 := ht9.b.cell 1; have s9_2 := ht9.b.cell 2; have s9_3 := ht9.b.cell 3; have s9_4 := ht9.b.cell 4; have z9_0 := ht9.b.frozen 0; have z9_1 := ht9.b.frozen 1; have z9_2 := ht9.b.frozen 2; have z9_3 := ht9.b.frozen 3; have z9_4 := ht9.b.frozen 4; simp only [List.getElem?_toArray, List.getElem?_cons_zero, List.getElem?_cons_succ] at p9_0 p9_1 p9_2 p9_3 p9_4 s9_0 s9_1 s9_2 s9_3 s9_4; clear hb9 hk9 hn9 ht9))
  go_ret
  exact ⟨ret_bool (by simp), HT11.out.below⟩

namespace roundTells
theorem own : ownKnob Tryz.prog.godebug = none := by kernel_rfl

set_option maxRecDepth 100000 in
theorem contract (H : Type) (enc : TypeId × Value → H) (W : World) (base : Nat) (args : Array Value) (ds gs : List (DataW H)) (before : List MemPlace)
    (hval : ∀ (j : Nat) t v, Tryz.f4.params[j]? = some t → args[j]? = some v → Value.okWide Tryz.prog W .any base t v)
    (hW : DataW.Whole enc Tryz.prog Tryz.f4.params.toList Rows.roundTellsSpec.vars false W args.toList ds gs before) (hk : Rows.uptoSmall H (ds ++ gs) = true) :
    Calls Tryz.prog 4 args W fun e W' => ∃ v, e = .returned v ∧ Rows.roundTellsSpec.post enc Tryz.prog Tryz.f4 false true false false W args v W' := by
  have hW' := hW
  obtain ⟨p, q, hA0, hV, rfl, hfz, hnd⟩ := hW
  have hA : DataW.TrodAll enc Tryz.prog W 0 (fun _ => true) true Tryz.f4.params.toList args.toList ds p := hA0
  rw [Tryz.params4] at hA hval
  obtain ⟨v0, v1, v2, v3, d0, d1, d2, d3, p0, p1, p2, p3, rfl, rfl, rfl, h0, h1, h2, h3⟩ := trodAll_four hA
  obtain ⟨rfl, rfl⟩ := trodVars_none hV
  obtain ⟨x0, r0, s0⟩ := openRule.sliceArg Tryz.underlying23 (hval 0 23 v0 rfl rfl) h0
  obtain ⟨x1, r1, s1⟩ := openFact.sliceArg Tryz.underlying24 (hval 1 24 v1 rfl rfl) h1
  obtain ⟨x2, kv2, nv2, rfl, r2, s2⟩ := openRun.runArg Tryz.underlying47 (hval 2 47 v2 rfl rfl) h2
  obtain ⟨x3, rfl, s3⟩ := openInt.intArg Tryz.underlying3 (hval 3 3 v3 rfl rfl) h3
  rw [List.append_nil] at hk
  have hb : Rows.uptoBulkAll [d0, d1, d2, d3] ≤ 1048576 := of_decide_eq_true hk
  simp only [Rows.uptoBulkAll] at hb
  obtain ⟨l0, m0, k0⟩ := rules_small (p := x0) (by omega)
  have l1 := sizeL_le openFact.one x1
  have m1 : ∀ z ∈ x1, z.args.length ≤ 1048576 := fun z hz => by have h1 := sizeL_mem (size := sizeFact) hz; have h2 := sizeL_le openStr.one z.args; simp only [sizeFact] at h1; omega
  obtain ⟨l2, m2, k2⟩ := run_smallT (r := x2) (by omega)
  refine (roundTellsCalls x0 v0 x1 v1 x2 kv2 nv2 x3 W r0 r1 r2 l0 m0 k0 (by omega) (facts_smallT (by omega)) l2 m2 k2).mono fun e W' ⟨he, hb'⟩ => ?_
  subst he
  exact ⟨_, rfl, law_post (tb := 4) hW' rfl rfl (by kernel_rfl) Tryz.underlying4 (by kernel_rfl) (by kernel_rfl) hb'⟩

set_option maxRecDepth 100000 in
theorem lifted (os : Os) (started : os.Started) (H : Type) (enc : TypeId × Value → H) (F : Stop.Interp) :
    ReturnsInHanded {} Tryz.checked os 4 .any ((Rows.OpenSpec.upto Rows.roundTellsSpec).pre6 enc Tryz.prog Tryz.f4 Rows.roundTellsUptoRow.domain false) (((Rows.OpenSpec.upto Rows.roundTellsSpec).at F).post enc Tryz.prog Tryz.f4 false true false false) := by
  refine returnsInHanded_of_cond (C := Tryz.checked) (s := Rows.OpenSpec.upto Rows.roundTellsSpec) (k := Rows.uptoSmall) rfl own started (by kernel_rfl) Tryz.func4
    (OpenSpec.witness (enc := enc) (C := Tryz.checked) (s := Rows.OpenSpec.upto Rows.roundTellsSpec) (k := Rows.uptoSmall) rfl false ⟨#[], #[.slice none 0 0, .slice none 0 0, .agg #[.slice none 0 0, .slice none 0 0, .int .i64 0, .int .i64 0, .bool false], .int .i64 0], []⟩ 8 (by kernel_rfl) (by kernel_rfl) (by kernel_rfl)
      (x := ([.nil, .nil, .agg [.nil, .nil, .lit (.int .i64 0), .lit (.int .i64 0), .lit (.bool false)], .lit (.int .i64 0)], [], [])) (by kernel_rfl) rfl (by kernel_rfl)) ?_
  intro W base args ds gs before hval hW _ hk _
  exact contract H enc W base args ds gs before hval hW hk

theorem proved : Rows.RoundTellsUptoSaid :=
  OpenClaim.holds_of_cond 4 Tryz.f4 rfl rfl rfl rfl rfl rfl rfl ⟨rfl, rfl, rfl, rfl, rfl⟩ rfl rfl rfl rfl rfl (by kernel_rfl) Tryz.func4 (by kernel_rfl)
    (of_decide_eq_true (by kernel_rfl)) (by unfold Func.isWrapper; first | (rw [if_pos (by decide +kernel)]; kernel_rfl) | (rw [if_neg (by decide +kernel)]; exact ⟨rfl, rfl⟩))
    (fun os started H enc _ F => lifted os started H enc F)
end roundTells

end Go.Proofs.YtbbiapgkcekabaaGreat
