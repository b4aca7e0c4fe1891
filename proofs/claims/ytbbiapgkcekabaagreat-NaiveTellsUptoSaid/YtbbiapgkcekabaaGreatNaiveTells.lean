/-
  corolaw5.NaiveTells ALWAYS ANSWERS TRUE: Facts, Heads, Once, All and Count tell what is wrong with any facts for any program, and what follows. For any arguments of ordinary size; without conditions.
-/
import Derived.Test.YtbbiapgkcekabaaGreatPk15
import Derived.Test.YtbbiapgkcekabaaGreatPk20
import Derived.Test.YtbbiapgkcekabaaGreatPk24
namespace Go.Proofs.YtbbiapgkcekabaaGreat
open Go.RowKit Go.ChangeShapes Go.WideShapes Go.ChangeAt Go.Deep

set_option maxRecDepth 100000 in
theorem neqFault5 (x y : Int) (w : World) : (binOp .neq 27 (.agg #[.int .i64 x, .int .i64 y]) (.agg #[.int .i64 x, .int .i64 y])).run Tryz.prog w = .ok (.bool false) w := by
  have hp : Tryz.prog.stoodInHeld 27 = false := by kernel_rfl
  have hf : Tryz.prog.fieldsOf 27 = (match Tryz.prog.underlying 27 with | some (.struct fs) => fs | _ => #[]) := rfl
  rw [Tryz.underlying27] at hf
  have hu : Tryz.prog.underlying 27 = some (.struct (Tryz.prog.fieldsOf 27)) := by rw [hf]; exact Tryz.underlying27
  simp only [binOp]
  simp [Op.equal, Op.maxDepth, run_equalIn_struct w 9999 _ _ _ hu hp, go_sem]
theorem sameReflQ {S T : Nat → Prop} {va vb : Value} {a : List PFact} {w : World} (ha : RdFacts S w va a) (hb : RdFacts T w vb a) (n1 : a.length ≤ 1048576) (n2 : ∀ x ∈ a, x.args.length ≤ 1048576) :
    Calls Tryz.prog 19 #[va, vb] w fun e w' => e = .returned (.bool true) ∧ Below w.heap.size w w' :=
  (sameRef va vb a a w ha hb (by omega) (fun x hx => by have := n2 x hx; omega) (fun x hx => by have := n2 x hx; omega)).mono fun e w' ⟨he, hf⟩ => ⟨by rw [he, decide_eq_true rfl], hf.below⟩
theorem facts_smallF {l : List PFact} (h : sizeL sizeFact l ≤ 1048576) : FactsSmall l := fun z hz => by
  have h1 := sizeL_mem (size := sizeFact) hz
  have h2 := sizeL_le openStr.one z.args
  simp only [sizeFact, sizeStr] at h1
  have h3 : ∀ a ∈ z.args, sizeStr a ≤ sizeL sizeStr z.args := fun a ha => sizeL_mem (size := sizeStr) ha
  refine ⟨by have h4 : z.args.length + 1 ≤ sizeL sizeStr z.args := h2; have h5 : 1 + (z.name.size + 1) + sizeL sizeStr z.args ≤ sizeL sizeFact l := h1; omega, by have h5 : 1 + (z.name.size + 1) + sizeL sizeStr z.args ≤ sizeL sizeFact l := h1; omega, fun a ha => ?_⟩
  have h4 : a.size + 1 ≤ sizeL sizeStr z.args := h3 a ha
  have h5 : 1 + (z.name.size + 1) + sizeL sizeStr z.args ≤ sizeL sizeFact l := h1
  omega
theorem fix_none2 {ps : List (PRule × Int)} {i : Int} : ∀ {k : Nat} {o : List PFact}, (fixP ps i k o).2 ≠ 0 → (fixP ps i k o).1 = []
  | 0, o, h => absurd rfl h
  | k + 1, o, h => by
    rw [fixP] at h ⊢
    split at h
    · rename_i h1; rw [if_pos h1]
    · rename_i h1
      rw [if_neg h1] at *
      split at h
      · exact absurd rfl h
      · rename_i h2
        rw [if_neg h2]; exact fix_none2 h
theorem run_none2 {ps : List (PRule × Int)} : ∀ {k : Nat} {i : Int} {o : List PFact}, (runP ps k i o).2 ≠ 0 → (runP ps k i o).1 = []
  | 0, i, o, h => absurd rfl h
  | k + 1, i, o, h => by
    rw [runP] at h ⊢
    split at h
    · rename_i h1; rw [if_pos h1]
    · rename_i h1
      rw [if_neg h1]; exact run_none2 h
theorem naive_none2 {st : List Int} {q : Int} {p : List PRule} {l : List PFact} (h : (naiveP st q p l).2 ≠ 0) : (naiveP st q p l).1 = [] := by
  unfold naiveP at *
  split at h
  · rename_i h1; rw [if_pos h1]
  · rename_i h1
    rw [if_neg h1] at *
    split at h
    · rename_i h2; rw [if_pos h2]
    · rename_i h2
      rw [if_neg h2]; exact run_none2 h
theorem naive_small {p : List PRule} {st : List Int} {q : Int × Int} (hs : StrataIs p st q) {l : List PFact} : (naiveP st q.1 p l).1.length ≤ 1048576 ∧ ∀ x ∈ (naiveP st q.1 p l).1, x.args.length ≤ 1048576 := by
  by_cases h : (naiveP st q.1 p l).2 = 0
  · have hF := (naive_follows hs h).1
    exact ⟨by have := hF.len; omega, fun x hx => by have := (wrongF_zero.1 (hF.good x hx)).2.1; omega⟩
  · rw [naive_none2 h]; exact ⟨by simp, fun x hx => by simp at hx⟩
theorem once_small2 {n : Int} {l : List PFact} (hl : Good l) {ps : List (PRule × Int)} (hR : ∀ r s, (r, s) ∈ ps → ruleBad r = 0) : (onceP n l ps l).1.length ≤ 1048576 ∧ ∀ x ∈ (onceP n l ps l).1, x.args.length ≤ 1048576 := by
  rcases once_cases (n := n) (ps := ps) (out := l) (by rw [hl.set] : (setF l).1 = 0) (fun r s h => (ruleBad_zero (hR r s h)).2.2.1) with h | ⟨h, -⟩ | ⟨h, -⟩
  · have hg := once_good hl hR hl h
    exact ⟨by have := hg.len; omega, fun x hx => by have := (wrongF_zero.1 (hg.fine x hx)).2.1; omega⟩
  · rw [h]; exact ⟨by simp, fun x hx => by simp at hx⟩
  · rw [h]; exact ⟨by simp, fun x hx => by simp at hx⟩

attribute [local go_sem ↓] Go.wp_at_zero Go.wp_at_succ
set_option maxRecDepth 100000 in
set_option maxHeartbeats 16000000 in
theorem naiveTellsCalls {S S2 : Nat → Prop} (p : List PRule) (v : Value) (l : List PFact) (fv : Value) (n : Int) (w : World) (h : RdRules S w v p) (hf : RdFacts S2 w fv l)
    (n1 : p.length ≤ 1048576) (n2 : ∀ r ∈ p, RuleSmall r) (n3 : ∀ r ∈ p, NameSmall r) (n4 : l.length ≤ 1048576) (n5 : FactsSmall l) :
    Calls Tryz.prog 3 #[v, fv, .int .i64 n] w fun e w' => e = .returned (.bool true) ∧ Below w.heap.size w w' := by
  have hfd : ∀ (x y : Int) (w : World), (Instr.field 27 (.agg #[.int .i64 x, .int .i64 y]) 0).run Tryz.prog w = .ok (.int .i64 x) w := fun _ _ _ => by kernel_rfl
  have hnq := neqFault5
  obtain ⟨a, c, rfl, -, -, -⟩ := id h.form
  obtain ⟨fa, fc, rfl, -, -, -⟩ := id hf.form
  obtain ⟨st, q, hS⟩ := exists_strata p
  have HNA := Lib.hid (show ∀ x ∈ l, x.args.length ≤ 1048576 from fun x hx => (n5 x hx).1)
  have KW := Lib.hid (wrongRefP p (.slice a p.length c) w h n1 n2 n3)
  have KF1 := Lib.hid (fun (hw : (wrongP p).1 = 0) W (hW : Below w.heap.size w W) => factsCalls p (.slice a p.length c) (.slice fa l.length fc) l W (h.up hW) (hf.up hW) (wrongP_iff.1 hw).1 (fun r hr => body_atoms (ruleBad_zero ((wrongP_iff.1 hw).2.1 r hr)).2.2.1) n2 n3 n4 HNA.out)
  have KF2 := Lib.hid (fun (hw : (wrongP p).1 = 0) W (hW : Below w.heap.size w W) => factsRef p (.slice a p.length c) (.slice fa l.length fc) l W (h.up hW) (hf.up hW) (wrongP_iff.1 hw).2.2 n1 n2 n4 n5)
  have KA := Lib.hid (fun W (hW : Below w.heap.size w W) => naiveReads p (.slice a p.length c) (.slice fa l.length fc) st q l W hS (h.up hW) (hf.up hW) n1 n2 n3 n4 HNA.out)
  have KB := Lib.hid (fun W (hW : Below w.heap.size w W) => allRefQ p (.slice a p.length c) (.slice fa l.length fc) st q l W hS (h.up hW) (hf.up hW) n1 n2 n3 n4 n5)
  have KS := Lib.hid (fun W (hW : Below w.heap.size w W) => strataRefT hS (h.up hW) n1 n2 n3)
  have HNS := Lib.hid (naive_small hS (l := l))
  have H := Lib.hid h
  have HFA := Lib.hid (RdFacts.anyS hf)
  have N2 := Lib.hid n2
  have N5 := Lib.hid n5
  have HS := Lib.hid hS
  clear h hf n2 n3 n5 hS
  generalize naiveP st q.1 p l = nv at *
  obtain ⟨nl, ne⟩ := nv
  obtain ⟨q1, q2⟩ := q
  dsimp only at *
  have g9 : (ne != ne) = false := by simp
  go_enter Tryz.func3, Tryz.ntmps3
  by_cases hw : (wrongP p).1 = 0
  case neg =>
    have gz : (((wrongP p).1) == 0) = false := beq_eq_false_iff_ne.2 hw
    by_cases hq : q1 = 0
    case pos => exact absurd (strata_zero HS.out hq).2.1 hw
    have g5 : (q1 != 0) = true := by simpa using hq
    clear hw hq
    generalize wrongP p = wp at *
    obtain ⟨w1', w2'⟩ := wp
    dsimp only at *
    case neg =>
      go_wp2_with (first
        | (go_at_call 20; have hh := HB6.out; clear hh; refine (KS.out _ HB6.out).mono ?_; rintro e w7 ⟨hb7, a7, c7, rfl, hr7⟩; have HB7 := Lib.hid ((HB6.out.trans (hb7.mono (Below.size HB6.out))).alloc (Nat.le_trans (Below.size HB6.out) hb7.size) (.cells #[.int .i64 q1, .int .i64 q2] 27)); have HI7 := Lib.hid (hr7.up ((Below.refl _ _).alloc (Nat.le_refl _) (.cells #[.int .i64 q1, .int .i64 q2] 27))); clear hb7 hr7)
        | (go_at_call 19; have hh := HY5.out; clear hh; refine (sameReflQ HX5.out HY5.out HNS.out.1 HNS.out.2).mono ?_; rintro e w6 ⟨rfl, hb6⟩; have HB6 := Lib.hid (HB5.out.trans (hb6.mono (Below.size HB5.out))); clear hb6 HY5)
        | (go_at_call 18; have hh := HX4.out; clear hh; refine (KB.out _ HB4.out).mono ?_; rintro e w5 ⟨⟨a5, c5, rfl, hr5⟩, hb5⟩; have HB5 := Lib.hid (HB4.out.trans (hb5.mono (Below.size HB4.out))); have HX5 := Lib.hid (HX4.out.up hb5); have HY5 := Lib.hid hr5; clear hr5 hb5)
        | (go_at_call 17; refine (KA.out _ HBF.out).mono ?_; rintro e w4 ⟨⟨a4, c4, rfl, hr4⟩, hb4⟩; have HB4 := Lib.hid (HBF.out.trans (hb4.mono (Below.size HBF.out))); have HX4 := Lib.hid hr4; clear hr4 hb4)
        | (go_at_call 14; refine (KW.out).mono ?_; rintro e w1 ⟨rfl, hb1⟩; have HBF := Lib.hid hb1; clear hb1))
      go_ret
      exact ⟨rfl, HB7.out⟩
  case pos =>
    have KG1 := Lib.hid (KF1.out hw)
    have KG2 := Lib.hid (KF2.out hw)
    generalize wrongP p = wp at *
    obtain ⟨w1', w2'⟩ := wp
    dsimp only at *
    subst hw
    have gz : ((0 : Int) == 0) = true := rfl
    go_wp2_with (first
      | (go_at_call 16; have hh := HB2.out; clear hh; refine (KG2.out _ HB2.out).mono ?_; rintro e w3 ⟨rfl, hb3⟩; have HBF := Lib.hid (HB2.out.trans (hb3.mono (Below.size HB2.out))); clear hb3)
      | (go_at_call 15; have hh := HB1.out; clear hh; refine (KG1.out _ HB1.out).mono ?_; rintro e w2 ⟨rfl, hb2⟩; have HB2 := Lib.hid (HB1.out.trans (hb2.mono (Below.size HB1.out))); clear hb2)
      | (go_at_call 14; refine (KW.out).mono ?_; rintro e w1 ⟨rfl, hb1⟩; have HB1 := Lib.hid hb1; clear hb1))
    clear HB2 HB1
    by_cases hq : q1 = 0
    case neg =>
      have g5 : (q1 != 0) = true := by simpa using hq
      clear hq
      go_wp2_with (first
        | (go_at_call 20; have hh := HB6.out; clear hh; refine (KS.out _ HB6.out).mono ?_; rintro e w7 ⟨hb7, a7, c7, rfl, hr7⟩; have HB7 := Lib.hid ((HB6.out.trans (hb7.mono (Below.size HB6.out))).alloc (Nat.le_trans (Below.size HB6.out) hb7.size) (.cells #[.int .i64 q1, .int .i64 q2] 27)); have HI7 := Lib.hid (hr7.up ((Below.refl _ _).alloc (Nat.le_refl _) (.cells #[.int .i64 q1, .int .i64 q2] 27))); clear hb7 hr7)
        | (go_at_call 19; have hh := HY5.out; clear hh; refine (sameReflQ HX5.out HY5.out HNS.out.1 HNS.out.2).mono ?_; rintro e w6 ⟨rfl, hb6⟩; have HB6 := Lib.hid (HB5.out.trans (hb6.mono (Below.size HB5.out))); clear hb6 HY5)
        | (go_at_call 18; have hh := HX4.out; clear hh; refine (KB.out _ HB4.out).mono ?_; rintro e w5 ⟨⟨a5, c5, rfl, hr5⟩, hb5⟩; have HB5 := Lib.hid (HB4.out.trans (hb5.mono (Below.size HB4.out))); have HX5 := Lib.hid (HX4.out.up hb5); have HY5 := Lib.hid hr5; clear hr5 hb5)
        | (go_at_call 17; refine (KA.out _ HBF.out).mono ?_; rintro e w4 ⟨⟨a4, c4, rfl, hr4⟩, hb4⟩; have HB4 := Lib.hid (HBF.out.trans (hb4.mono (Below.size HBF.out))); have HX4 := Lib.hid hr4; clear hr4 hb4))
      go_ret
      exact ⟨rfl, HB7.out⟩
    obtain ⟨hsl, -, -, hz16, -, -⟩ := strata_bd HS.out hq
    obtain ⟨hru, -, -⟩ := strata_zero HS.out hq
    subst hq
    have HSL := Lib.hid hsl
    have HZ := Lib.hid hz16
    have HRU := Lib.hid hru
    clear hsl hz16 hru
    by_cases hf : (factsBad p l).1 = 0
    case neg =>
      have gf : ((factsBad p l).1 != 0) = true := by simpa using hf
      clear hf
      generalize factsBad p l = fb at *
      obtain ⟨f1, f2⟩ := fb
      dsimp only at *
      go_wp2_with (first
        | (go_at_call 16; have hh := HB7.out; clear hh; refine (KG2.out _ HB7.out).mono ?_; rintro e w8 ⟨rfl, hb8⟩; have HB8 := Lib.hid (HB7.out.trans (hb8.mono (Below.size HB7.out))); have HI8 := Lib.hid (HI7.out.up hb8); clear hb8)
        | (go_at_call 20; have hh := HB6.out; clear hh; refine (KS.out _ HB6.out).mono ?_; rintro e w7 ⟨hb7, a7, c7, rfl, hr7⟩; have HB7 := Lib.hid ((HB6.out.trans (hb7.mono (Below.size HB6.out))).alloc (Nat.le_trans (Below.size HB6.out) hb7.size) (.cells #[.int .i64 0, .int .i64 q2] 27)); have HI7 := Lib.hid (hr7.up ((Below.refl _ _).alloc (Nat.le_refl _) (.cells #[.int .i64 0, .int .i64 q2] 27))); clear hb7 hr7)
        | (go_at_call 19; have hh := HY5.out; clear hh; refine (sameReflQ HX5.out HY5.out HNS.out.1 HNS.out.2).mono ?_; rintro e w6 ⟨rfl, hb6⟩; have HB6 := Lib.hid (HB5.out.trans (hb6.mono (Below.size HB5.out))); clear hb6 HY5)
        | (go_at_call 18; have hh := HX4.out; clear hh; refine (KB.out _ HB4.out).mono ?_; rintro e w5 ⟨⟨a5, c5, rfl, hr5⟩, hb5⟩; have HB5 := Lib.hid (HB4.out.trans (hb5.mono (Below.size HB4.out))); have HX5 := Lib.hid (HX4.out.up hb5); have HY5 := Lib.hid hr5; clear hr5 hb5)
        | (go_at_call 17; refine (KA.out _ HBF.out).mono ?_; rintro e w4 ⟨⟨a4, c4, rfl, hr4⟩, hb4⟩; have HB4 := Lib.hid (HBF.out.trans (hb4.mono (Below.size HBF.out))); have HX4 := Lib.hid hr4; clear hr4 hb4))
      go_ret
      exact ⟨rfl, HB8.out⟩
    have hg := good_of (factsBad_set hf)
    have hs0 := factsBad_set hf
    have KC1 := Lib.hid (fun W sv (h1 : RdInts (fun _ => True) W sv st) => countCalls sv st W h1 (by rw [HSL.out]; omega) (fun z hz => by have := HZ.out z hz; omega))
    have KC2 := Lib.hid (fun W sv (h1 : RdInts (fun _ => True) W sv st) => countRef sv st W h1 (by rw [HSL.out]; omega) (fun z hz => by have := HZ.out z hz; omega))
    have KO1 := Lib.hid (fun W sv (hW : Below w.heap.size w W) (h1 : RdInts (fun _ => True) W sv st) => onceCalls p (.slice a p.length c) sv (.slice fa l.length fc) st n l W (H.out.up hW) h1 (HFA.out.up hW) HSL.out n1 N2.out n4 HNA.out)
    have KO2 := Lib.hid (fun W sv (hW : Below w.heap.size w W) (h1 : RdInts (fun _ => True) W sv st) => onceRef p (.slice a p.length c) sv (.slice fa l.length fc) st n l W (H.out.up hW) h1 (HFA.out.up hW) HSL.out n1 N2.out (fun r hr => (ruleBad_zero (HRU.out r hr)).2.2.1) hs0 n4 N5.out)
    have HOS := Lib.hid (once_small2 (n := n) hg (ps := p.zip st) (fun r s hm => HRU.out r (List.of_mem_zip hm).1))
    have HS0 := Lib.hid hs0
    generalize onceP n l (p.zip st) l = on at *
    obtain ⟨ol, oe⟩ := on
    generalize countP st = cn at *
    rw [hf] at KG2
    generalize (factsBad p l).2 = f2 at *
    dsimp only at *
    have g8 : (oe != oe) = false := by simp
    have g7 : (cn != cn) = false := by simp
    clear hf hg hs0
    go_wp2_with (first
      | (go_at_call 19; have hh := HY11.out; clear hh; refine (sameReflQ HX11.out HY11.out HOS.out.1 HOS.out.2).mono ?_; rintro e w12 ⟨rfl, hb12⟩; have HB12 := Lib.hid (HB11.out.trans (hb12.mono (Below.size HB11.out))); clear hb12)
      | (go_at_call 24; have hh := HX10.out; clear hh; refine (KO2.out _ _ HB10.out HI10.out).mono ?_; rintro e w11 ⟨hb11, a11, c11, rfl, hr11⟩; have HB11 := Lib.hid (HB10.out.trans (hb11.mono (Below.size HB10.out))); have HX11 := Lib.hid (RdFacts.up HX10.out hb11); have HY11 := Lib.hid (RdFacts.anyS hr11); clear hb11 hr11)
      | (go_at_call 23; have hh := HB8.out; clear hh; refine (KO1.out _ _ HB8.out HI8.out).mono ?_; rintro e w10 ⟨hb10, v10, rfl, ho10⟩; obtain ⟨a10, c10, rfl, -, -, -⟩ := id (ho10.read RFact.steady).form; have HB10 := Lib.hid (HB8.out.trans (hb10.mono (Below.size HB8.out))); have HI10 := Lib.hid (HI8.out.up hb10); have HX10 := Lib.hid ((ho10.read RFact.steady).more RFact.steady (S' := fun _ => True) (fun _ _ _ => trivial)); clear hb10 ho10)
      | (go_at_call 22; have hh := HB8.out; clear hh; refine (KC2.out _ _ HI8.out).mono ?_; rintro e w9 ⟨rfl, rfl⟩)
      | (go_at_call 21; have hh := HB8.out; clear hh; refine (KC1.out _ _ HI8.out).mono ?_; rintro e w9 ⟨rfl, rfl⟩)
      | (go_at_call 16; have hh := HB7.out; clear hh; refine (KG2.out _ HB7.out).mono ?_; rintro e w8 ⟨rfl, hb8⟩; have HB8 := Lib.hid (HB7.out.trans (hb8.mono (Below.size HB7.out))); have HI8 := Lib.hid (HI7.out.up hb8); clear hb8)
      | (go_at_call 20; have hh := HB6.out; clear hh; refine (KS.out _ HB6.out).mono ?_; rintro e w7 ⟨hb7, a7, c7, rfl, hr7⟩; have HB7 := Lib.hid ((HB6.out.trans (hb7.mono (Below.size HB6.out))).alloc (Nat.le_trans (Below.size HB6.out) hb7.size) (.cells #[.int .i64 0, .int .i64 q2] 27)); have HI7 := Lib.hid (hr7.up ((Below.refl _ _).alloc (Nat.le_refl _) (.cells #[.int .i64 0, .int .i64 q2] 27))); clear hb7 hr7)
      | (go_at_call 19; have hh := HY5.out; clear hh; refine (sameReflQ HX5.out HY5.out HNS.out.1 HNS.out.2).mono ?_; rintro e w6 ⟨rfl, hb6⟩; have HB6 := Lib.hid (HB5.out.trans (hb6.mono (Below.size HB5.out))); clear hb6 HY5)
      | (go_at_call 18; have hh := HX4.out; clear hh; refine (KB.out _ HB4.out).mono ?_; rintro e w5 ⟨⟨a5, c5, rfl, hr5⟩, hb5⟩; have HB5 := Lib.hid (HB4.out.trans (hb5.mono (Below.size HB4.out))); have HX5 := Lib.hid (HX4.out.up hb5); have HY5 := Lib.hid hr5; clear hr5 hb5)
      | (go_at_call 17; refine (KA.out _ HBF.out).mono ?_; rintro e w4 ⟨⟨a4, c4, rfl, hr4⟩, hb4⟩; have HB4 := Lib.hid (HBF.out.trans (hb4.mono (Below.size HBF.out))); have HX4 := Lib.hid hr4; clear hr4 hb4))
    clear KA KB KS KF1 KF2 KG1 KG2 KW KO1 KO2 KC1 KC2 HNS HOS
    obtain ⟨wo, hwo⟩ : ∃ wo : World, wo = w12 := ⟨_, rfl⟩
    subst hwo
    go_loopw [96] (fun i wx => ∃ (k : Nat), k ≤ p.length ∧ i = .int .i64 k ∧ Hid (Below w.heap.size w wx)) (fun i _ => p.length - (intOf i).toNat)
    case atStart => exact ⟨0, Nat.zero_le _, rfl, HB12⟩
    case round =>
      clear HB12 HB11 HB10 HB8 HB7 HB6 HB5 HB4 HBF
      obtain ⟨k, hk, rfl, HB⟩ := hrel
      by_cases hlt : k < p.length
      · obtain ⟨x, hx⟩ : ∃ x, p[k]? = some x := ⟨_, List.getElem?_eq_getElem hlt⟩
        obtain ⟨b1, o1, ta, tc, ba, bc, rfl, hra⟩ := H.out.pick hx
        have HRA := Lib.hid hra
        have hmem := List.mem_of_getElem? hx
        have HSX := Lib.hid (N2.out x hmem)
        have hzx := (ruleBad_zero (HRU.out x hmem)).2.2.1
        obtain ⟨-, d0, d1, d2, d3, -, -⟩ := HRA.out.up HB.out
        have HQ1 := Lib.hid (HB.out.alloc (Below.size HB.out) (.cells #[.bool x.head.neg, .string x.head.name, .slice ta x.head.terms.length tc, .slice ba x.body.length bc] 43))
        have HKR := Lib.hid (Blk.new wr 43 #[.bool x.head.neg, .string x.head.name, .slice ta x.head.terms.length tc, .slice ba x.body.length bc])
        have KH1 := Lib.hid (fun W (hW : Below w.heap.size w W) => headsReads x (.slice ta x.head.terms.length tc) (.slice ba x.body.length bc) (.slice fa l.length fc) l W (HRA.out.up hW).t (HRA.out.up hW).b (HFA.out.up hW) HSX.out n4 HNA.out)
        have KH2 := Lib.hid (fun W (hW : Below w.heap.size w W) => headsRefQ x (.slice ta x.head.terms.length tc) (.slice ba x.body.length bc) (.slice fa l.length fc) l W (HRA.out.up hW).t (HRA.out.up hW).b (HFA.out.up hW) HSX.out hzx HS0.out n4 N5.out)
        have HHS := Lib.hid (show (headsP x l).1.length ≤ 1048576 ∧ ∀ y ∈ (headsP x l).1, y.args.length ≤ 1048576 from ⟨by have := heads_len x l; omega, fun y hy => by rw [heads_args hy]; exact HSX.out.h1⟩)
        generalize headsP x l = hp at *
        obtain ⟨hl, he⟩ := hp
        dsimp only at *
        have g6 : (he != he) = false := by simp
        clear hx hmem hra hzx
        go_wp2_with (first
          | (go_at_call 19; have hh := HY15.out; clear hh; refine (sameReflQ HX15.out HY15.out HHS.out.1 HHS.out.2).mono ?_; rintro e w16 ⟨rfl, hb16⟩; have HQ4 := Lib.hid (HQ3.out.trans (hb16.mono (Below.size HQ3.out))); clear hb16)
          | (go_at_call 26; have hh := HX14.out; clear hh; refine (KH2.out _ HQ2.out).mono ?_; rintro e w15 ⟨hb15, a15, c15, rfl, hr15⟩; have HQ3 := Lib.hid (HQ2.out.trans (hb15.mono (Below.size HQ2.out))); have HX15 := Lib.hid (HX14.out.up hb15); have HY15 := Lib.hid (RdFacts.anyS hr15); clear hb15 hr15)
          | (go_at_call 25; refine (KH1.out _ HQ1.out).mono ?_; rintro e w14 ⟨⟨a14, c14, rfl, hr14⟩, hb14⟩; have HQ2 := Lib.hid (HQ1.out.trans (hb14.mono (Below.size HQ1.out))); have HX14 := Lib.hid hr14; have hk14 := HKR.out.below hb14 HKR.out.lt; have g0 := hk14.cell 0; have g1 := hk14.cell 1; have g2 := hk14.cell 2; have g3 := hk14.cell 3; simp only [List.getElem?_toArray, List.getElem?_cons_zero, List.getElem?_cons_succ] at g0 g1 g2 g3; clear hb14 hr14 hk14))
        go_roundw
        case rel => exact ⟨k + 1, by omega, by go_num, HQ4⟩
        case measure => simp [intOf]; omega
      · go_wp2
        go_ret
        exact ⟨rfl, HB.out⟩
namespace naiveTells
theorem own : ownKnob Tryz.prog.godebug = none := by kernel_rfl

set_option maxRecDepth 100000 in
theorem contract (H : Type) (enc : TypeId × Value → H) (W : World) (base : Nat) (args : Array Value) (ds gs : List (DataW H)) (before : List MemPlace)
    (hval : ∀ (j : Nat) t v, Tryz.f3.params[j]? = some t → args[j]? = some v → Value.okWide Tryz.prog W .any base t v)
    (hW : DataW.Whole enc Tryz.prog Tryz.f3.params.toList Rows.naiveTellsSpec.vars false W args.toList ds gs before) (hk : Rows.uptoSmall H (ds ++ gs) = true) :
    Calls Tryz.prog 3 args W fun e W' => ∃ v, e = .returned v ∧ Rows.naiveTellsSpec.post enc Tryz.prog Tryz.f3 false true false false W args v W' := by
  have hW' := hW
  obtain ⟨p, q, hA0, hV, rfl, hfz, hnd⟩ := hW
  have hA : DataW.TrodAll enc Tryz.prog W 0 (fun _ => true) true Tryz.f3.params.toList args.toList ds p := hA0
  rw [Tryz.params3] at hA hval
  obtain ⟨v0, v1, v2, d0, d1, d2, p0, p1, p2, rfl, rfl, rfl, h0, h1, h2⟩ := trodAll_three hA
  obtain ⟨rfl, rfl⟩ := trodVars_none hV
  obtain ⟨x0, r0, s0⟩ := openRule.sliceArg Tryz.underlying23 (hval 0 23 v0 rfl rfl) h0
  obtain ⟨x1, r1, s1⟩ := openFact.sliceArg Tryz.underlying24 (hval 1 24 v1 rfl rfl) h1
  obtain ⟨x2, rfl, s2⟩ := openInt.intArg Tryz.underlying3 (hval 2 3 v2 rfl rfl) h2
  rw [List.append_nil] at hk
  have hb : Rows.uptoBulkAll [d0, d1, d2] ≤ 1048576 := of_decide_eq_true hk
  simp only [Rows.uptoBulkAll] at hb
  obtain ⟨l0, m0, k0⟩ := rules_small (p := x0) (by omega)
  have l1 := sizeL_le openFact.one x1
  have m1 : FactsSmall x1 := facts_smallF (by omega)
  refine (naiveTellsCalls x0 v0 x1 v1 x2 W r0 r1 l0 m0 k0 (by omega) m1).mono fun e W' ⟨he, hb'⟩ => ?_
  subst he
  exact ⟨_, rfl, law_post (tb := 4) hW' rfl rfl (by kernel_rfl) Tryz.underlying4 (by kernel_rfl) (by kernel_rfl) hb'⟩

set_option maxRecDepth 100000 in
theorem lifted (os : Os) (started : os.Started) (H : Type) (enc : TypeId × Value → H) (F : Stop.Interp) :
    ReturnsInHanded {} Tryz.checked os 3 .any ((Rows.OpenSpec.upto Rows.naiveTellsSpec).pre6 enc Tryz.prog Tryz.f3 Rows.naiveTellsUptoRow.domain false) (((Rows.OpenSpec.upto Rows.naiveTellsSpec).at F).post enc Tryz.prog Tryz.f3 false true false false) := by
  refine returnsInHanded_of_cond (C := Tryz.checked) (s := Rows.OpenSpec.upto Rows.naiveTellsSpec) (k := Rows.uptoSmall) rfl own started (by kernel_rfl) Tryz.func3
    (OpenSpec.witness (enc := enc) (C := Tryz.checked) (s := Rows.OpenSpec.upto Rows.naiveTellsSpec) (k := Rows.uptoSmall) rfl false ⟨#[], #[.slice none 0 0, .slice none 0 0, .int .i64 0], []⟩ 8 (by kernel_rfl) (by kernel_rfl) (by kernel_rfl)
      (x := ([.nil, .nil, .lit (.int .i64 0)], [], [])) (by kernel_rfl) rfl (by kernel_rfl)) ?_
  intro W base args ds gs before hval hW _ hk _
  exact contract H enc W base args ds gs before hval hW hk

theorem proved : Rows.NaiveTellsUptoSaid :=
  OpenClaim.holds_of_cond 3 Tryz.f3 rfl rfl rfl rfl rfl rfl rfl ⟨rfl, rfl, rfl, rfl, rfl⟩ rfl rfl rfl rfl rfl (by kernel_rfl) Tryz.func3 (by kernel_rfl)
    (of_decide_eq_true (by kernel_rfl)) (by unfold Func.isWrapper; first | (rw [if_pos (by decide +kernel)]; kernel_rfl) | (rw [if_neg (by decide +kernel)]; exact ⟨rfl, rfl⟩))
    (fun os started H enc _ F => lifted os started H enc F)
end naiveTells
end Go.Proofs.YtbbiapgkcekabaaGreat
