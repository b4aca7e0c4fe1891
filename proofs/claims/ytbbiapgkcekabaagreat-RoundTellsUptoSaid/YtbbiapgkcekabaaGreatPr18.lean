/-
  THE WALK OF cororef4.Begin.
-/
import Derived.Test.YtbbiapgkcekabaaGreatPr11
import Derived.Test.YtbbiapgkcekabaaGreatPr17
namespace Go.Proofs.YtbbiapgkcekabaaGreat
open Go.RowKit

/-- A run, and an error, that a call answers, wherever it lies. -/
def RunQ (r : PRun × Int) (w : World) (e : Ending) (w' : World) : Prop :=
  Below w.heap.size w w' ∧ ∃ a c b d, e = .returned (.tuple #[.agg #[.slice a r.1.known.length c, .slice b r.1.new.length d, .int .i64 r.1.stratum, .int .i64 r.1.rounds, .bool r.1.done], .int .i64 r.2]) ∧ RdFacts (fun _ => True) w' (.slice a r.1.known.length c) r.1.known ∧ RdFacts (fun _ => True) w' (.slice b r.1.new.length d) r.1.new
theorem runQ_err {r : PRun × Int} {n : Int} {w w' : World} (h : r = (zeroRun, n)) (hb : Below w.heap.size w w') : RunQ r w (.returned (.tuple #[.agg #[.slice none 0 0, .slice none 0 0, .int .i64 0, .int .i64 0, .bool false], .int .i64 n])) w' := by
  subst h; exact ⟨hb, none, 0, none, 0, rfl, RdFacts.nil, RdFacts.nil⟩
theorem runQ_ok {r : PRun × Int} {k n : List PFact} {s x : Int} {dn : Bool} {w w' : World} {a b : Option Addr} {c d : Nat} (h : r = (⟨k, n, s, x, dn⟩, 0)) (hb : Below w.heap.size w w') (h1 : RdFacts (fun _ => True) w' (.slice a k.length c) k) (h2 : RdFacts (fun _ => True) w' (.slice b n.length d) n) :
    RunQ r w (.returned (.tuple #[.agg #[.slice a k.length c, .slice b n.length d, .int .i64 s, .int .i64 x, .bool dn], .int .i64 0])) w' := by
  subst h; exact ⟨hb, a, c, b, d, rfl, h1, h2⟩

set_option maxRecDepth 100000 in
set_option maxHeartbeats 8000000 in
theorem beginRef {S S2 : Nat → Prop} (p : List PRule) (v fv : Value) (st : List Int) (q : Int × Int) (l : List PFact) (w : World) (hS : StrataIs p st q) (h : RdRules S w v p) (hf : RdFacts S2 w fv l)
    (n1 : p.length ≤ 1048576) (n2 : ∀ r ∈ p, RuleSmall r) (n3 : ∀ r ∈ p, NameSmall r) (n4 : l.length ≤ 1048576) (n5 : FactsSmall l) :
    Calls Tryz.prog 28 #[v, fv] w (RunQ (beginP st q.1 p l) w) := by
  obtain ⟨a, c, rfl, -, -, -⟩ := id h.form
  obtain ⟨fa, fc, rfl, -, -, -⟩ := id hf.form
  obtain ⟨W0, hW0⟩ : ∃ W0 : World, w.alloc (.cells #[.slice none 0 0, .slice none 0 0, .int .i64 0, .int .i64 0, .bool false] 47) = W0 := ⟨_, rfl⟩
  have hb0 : Below w.heap.size w W0 := by subst hW0; exact (Below.refl _ _).alloc (Nat.le_refl _) _
  have hk0 : Blk W0 w.heap.size 47 #[.slice none 0 0, .slice none 0 0, .int .i64 0, .int .i64 0, .bool false] := by subst hW0; exact Blk.new w _ _
  have HB0 := Lib.hid hb0
  have HK0 := Lib.hid hk0
  have H := Lib.hid h
  have HFA := Lib.hid hf
  have N2 := Lib.hid n2
  have N3 := Lib.hid n3
  have N5 := Lib.hid n5
  have HS := Lib.hid hS
  have KS := Lib.hid (strataRefT hS (h.up hb0) n1 n2 n3)
  clear h hf n2 n3 n5 hb0 hk0 hS
  obtain ⟨q1, q2⟩ := q
  dsimp only at *
  by_cases hq : q1 = 0
  case neg =>
    have g1 : (q1 != 0) = true := by simpa using hq
    have HE := Lib.hid (show beginP st q1 p l = (zeroRun, q1) by unfold beginP; rw [if_pos hq])
    clear hq
    go_enter Tryz.func28, Tryz.ntmps28
    go_wp2_with (go_at_call 20; refine (KS.out).mono ?_; rintro e w1 ⟨hb1, a1, c1, rfl, hr1⟩; have HB1 := Lib.hid (HB0.out.trans (hb1.mono (Below.size HB0.out))); have HK1 := Lib.hid (HK0.out.below hb1 HK0.out.lt); clear hb1 hr1)
    have hlt1 := HK1.out.lt
    have hne1 : w1.heap.size ≠ w.heap.size := by omega
    have hne2 : w.heap.size ≠ w1.heap.size := by omega
    have HF2 := Lib.hid (HK1.out.alloc (.cells #[.int .i64 q1, .int .i64 q2] 27))
    have HB2 := Lib.hid (HB1.out.alloc HB1.out.size (.cells #[.int .i64 q1, .int .i64 q2] 27))
    have HN2 := Lib.hid (Blk.new w1 27 #[.int .i64 q1, .int .i64 q2])
    generalize w1.alloc (.cells #[.int .i64 q1, .int .i64 q2] 27) = w2 at *
    have k0 := HN2.out.cell 0; have k1 := HN2.out.cell 1
    have c0 := HF2.out.cell 0; have c1 := HF2.out.cell 1; have c2 := HF2.out.cell 2; have c3 := HF2.out.cell 3; have c4 := HF2.out.cell 4
    have f0 := HF2.out.frozen 0; have f1 := HF2.out.frozen 1; have f2 := HF2.out.frozen 2; have f3 := HF2.out.frozen 3; have f4 := HF2.out.frozen 4
    simp only [List.getElem?_toArray, List.getElem?_cons_zero, List.getElem?_cons_succ] at c0 c1 c2 c3 c4 k0 k1
    go_region_held3 (fun w' => w'.cell? ⟨w1.heap.size, 0, none⟩ = some (.int .i64 q1)) (first | go_keep | (show _ = _; simp [hne1, hne2]; assumption)) (fail)
    go_wp2
    refine bodyPost_ret (v := .tuple #[.agg #[.slice none 0 0, .slice none 0 0, .int .i64 0, .int .i64 0, .bool false], .int .i64 q1]) (by simp [results, Tryz.results28, go_sem, c0, c1, c2, c3, c4]) rfl (runQ_err HE.out ?_)
    exact (((((HB2.out.drew).setCell (Nat.le_refl _) _).setCell (Nat.le_refl _) _).setCell (Nat.le_refl _) _).setCell (Nat.le_refl _) _).setCell (Nat.le_refl _) _
  obtain ⟨hsl, h16, h5, hz16, -, -⟩ := strata_bd HS.out hq
  obtain ⟨-, hwr, -⟩ := strata_zero HS.out hq
  have HAR := Lib.hid (wrongP_iff.1 hwr).2.2
  clear hwr
  have HZ := Lib.hid hz16
  have H5 := Lib.hid h5
  have HSL := Lib.hid hsl
  clear h5 hz16 hsl
  subst hq
  have KF := Lib.hid (fun W (hW : Below w.heap.size w W) => factsRef p (.slice a p.length c) (.slice fa l.length fc) l W (H.out.up hW) (HFA.out.up hW) HAR.out n1 N2.out n4 N5.out)
  by_cases hf : (factsBad p l).1 = 0
  case neg =>
    have g2 : ((factsBad p l).1 != 0) = true := by simpa using hf
    have HE := Lib.hid (show beginP st 0 p l = (zeroRun, (factsBad p l).1) by unfold beginP; rw [if_neg (by simp), if_pos hf])
    clear hf
    generalize factsBad p l = f at *
    obtain ⟨q1, q2'⟩ := f
    dsimp only at *
    go_enter Tryz.func28, Tryz.ntmps28
    go_wp2_with (first
      | (go_at_call 16; have hh := HB1.out; clear hh; refine (KF.out _ HB1.out).mono ?_; rintro e w2 ⟨rfl, hb2⟩; have HB2 := Lib.hid (HB1.out.trans (hb2.mono (Below.size HB1.out))); have HK2 := Lib.hid (HK1.out.below hb2 HK1.out.lt); clear hb2)
      | (go_at_call 20; refine (KS.out).mono ?_; rintro e w1 ⟨hb1, a1, c1, rfl, hr1⟩; have HB1 := Lib.hid ((HB0.out.trans (hb1.mono (Below.size HB0.out))).alloc (Nat.le_trans (Below.size HB0.out) hb1.size) (.cells #[.int .i64 0, .int .i64 q2] 27)); have HK1 := Lib.hid ((HK0.out.below hb1 HK0.out.lt).alloc (.cells #[.int .i64 0, .int .i64 q2] 27)); clear hb1 hr1))
    have hlt1 := HK2.out.lt
    have hne1 : w2.heap.size ≠ w.heap.size := by omega
    have hne2 : w.heap.size ≠ w2.heap.size := by omega
    have HF3 := Lib.hid (HK2.out.alloc (.cells #[.int .i64 q1, .int .i64 q2'] 27))
    have HB3 := Lib.hid (HB2.out.alloc HB2.out.size (.cells #[.int .i64 q1, .int .i64 q2'] 27))
    have HN3 := Lib.hid (Blk.new w2 27 #[.int .i64 q1, .int .i64 q2'])
    generalize w2.alloc (.cells #[.int .i64 q1, .int .i64 q2'] 27) = w3 at *
    have k0 := HN3.out.cell 0; have k1 := HN3.out.cell 1
    have c0 := HF3.out.cell 0; have c1 := HF3.out.cell 1; have c2 := HF3.out.cell 2; have c3 := HF3.out.cell 3; have c4 := HF3.out.cell 4
    have f0 := HF3.out.frozen 0; have f1 := HF3.out.frozen 1; have f2 := HF3.out.frozen 2; have f3 := HF3.out.frozen 3; have f4 := HF3.out.frozen 4
    simp only [List.getElem?_toArray, List.getElem?_cons_zero, List.getElem?_cons_succ] at c0 c1 c2 c3 c4 k0 k1
    go_region_held3 (fun w' => w'.cell? ⟨w2.heap.size, 0, none⟩ = some (.int .i64 q1)) (first | go_keep | (show _ = _; simp [hne1, hne2]; assumption)) (fail)
    go_wp2
    refine bodyPost_ret (v := .tuple #[.agg #[.slice none 0 0, .slice none 0 0, .int .i64 0, .int .i64 0, .bool false], .int .i64 q1]) (by simp [results, Tryz.results28, go_sem, c0, c1, c2, c3, c4]) rfl (runQ_err HE.out ?_)
    exact (((((HB3.out.drew).setCell (Nat.le_refl _) _).setCell (Nat.le_refl _) _).setCell (Nat.le_refl _) _).setCell (Nat.le_refl _) _).setCell (Nat.le_refl _) _
  have HE := Lib.hid (show beginP st 0 p l = (⟨l, l, 0, 0, countP st == 0⟩, 0) by unfold beginP; rw [if_neg (by simp), if_neg (by simpa using hf)])
  rw [hf] at KF
  generalize (factsBad p l).2 = f2 at *
  have KC := Lib.hid (fun W sv (h1 : RdInts (fun _ => True) W sv st) => countRef sv st W h1 (by rw [HSL.out]; omega) (fun z hz => by have := HZ.out z hz; omega))
  clear hf
  obtain ⟨dn, hdn⟩ : ∃ dn, (countP st == 0) = dn := ⟨_, rfl⟩
  rw [hdn] at HE
  generalize countP st = cn at *
  go_enter Tryz.func28, Tryz.ntmps28
  go_wp2_with (first
    | (go_at_call 22; have hh := HI2.out; clear hh; refine (KC.out _ _ HI2.out).mono ?_; rintro e w5 ⟨rfl, rfl⟩; have c0 := HK2.out.cell 0; have c1 := HK2.out.cell 1; have c2 := HK2.out.cell 2; have c3 := HK2.out.cell 3; have c4 := HK2.out.cell 4; have z0 := HK2.out.frozen 0; have z1 := HK2.out.frozen 1; have z2 := HK2.out.frozen 2; have z3 := HK2.out.frozen 3; have z4 := HK2.out.frozen 4; simp only [List.getElem?_toArray, List.getElem?_cons_zero, List.getElem?_cons_succ] at c0 c1 c2 c3 c4)
    | (go_at_call 16; have hh := HB1.out; clear hh; refine (KF.out _ HB1.out).mono ?_; rintro e w2 ⟨rfl, hb2⟩; have HB2 := Lib.hid ((HB1.out.trans (hb2.mono (Below.size HB1.out))).alloc (Nat.le_trans (Below.size HB1.out) hb2.size) (.cells #[.int .i64 0, .int .i64 f2] 27)); have HK2 := Lib.hid ((HK1.out.below hb2 HK1.out.lt).alloc (.cells #[.int .i64 0, .int .i64 f2] 27)); have HI2 := Lib.hid (HI1.out.up (hb2.alloc hb2.size (.cells #[.int .i64 0, .int .i64 f2] 27))); clear hb2)
    | (go_at_call 20; refine (KS.out).mono ?_; rintro e w1 ⟨hb1, a1, c1, rfl, hr1⟩; have HB1 := Lib.hid ((HB0.out.trans (hb1.mono (Below.size HB0.out))).alloc (Nat.le_trans (Below.size HB0.out) hb1.size) (.cells #[.int .i64 0, .int .i64 q2] 27)); have HK1 := Lib.hid ((HK0.out.below hb1 HK0.out.lt).alloc (.cells #[.int .i64 0, .int .i64 q2] 27)); have HI1 := Lib.hid (hr1.up ((Below.refl _ _).alloc (Nat.le_refl _) (.cells #[.int .i64 0, .int .i64 q2] 27))); clear hb1 hr1))
  refine bodyPost_ret (v := .tuple #[.agg #[.slice fa l.length fc, .slice fa l.length fc, .int .i64 0, .int .i64 0, .bool dn], .int .i64 0]) (by simp [results, Tryz.results28, go_sem, c0, c1, c2, c3, c4]) rfl ?_
  refine runQ_ok HE.out ?_ ?_ ?_
  · exact (((((HB2.out.setCell (Nat.le_refl _) _).setCell (Nat.le_refl _) _).setCell (Nat.le_refl _) _).setCell (Nat.le_refl _) _).setCell (Nat.le_refl _) _)
  · exact HFA.out.up (((((HB2.out.setCell (Nat.le_refl _) _).setCell (Nat.le_refl _) _).setCell (Nat.le_refl _) _).setCell (Nat.le_refl _) _).setCell (Nat.le_refl _) _)
  · exact HFA.out.up (((((HB2.out.setCell (Nat.le_refl _) _).setCell (Nat.le_refl _) _).setCell (Nat.le_refl _) _).setCell (Nat.le_refl _) _).setCell (Nat.le_refl _) _)
end Go.Proofs.YtbbiapgkcekabaaGreat
