/-
  THE WALKS OF check.arity, Wrong.
-/
import Derived.Test.YtobbjapmdpkogaaCheckW2
import Derived.Test.YtobbjapmdpkogaaMapW
import Derived.Test.YtobbjapmdpkogaaSynW3
import Derived.Deep.DeepCutAuto
import Derived.Deep.RegionLaw
namespace Go.Proofs.Ytobbjapmdpkogaa
open Go.RowKit Go.Maps

theorem grown_drew (w : World) (row : Option Nat) : w.grownBy w.drew row := ⟨rfl, rfl, rfl, Nat.le_refl _, fun _ _ _ => rfl⟩
theorem MapI.wider {w : World} {b n m : Nat} {f : Str → Option Int} (h : MapI w b n f) (hm : n ≤ m) : MapI w b m f := let ⟨D, ⟨es, clock, h1, h2, h3, h4⟩, h5⟩ := h; ⟨D, ⟨es, clock, h1, h2, Nat.le_trans h3 hm, h4⟩, h5⟩

set_option maxRecDepth 100000 in
set_option maxHeartbeats 4000000 in
theorem arityCalls {S : Nat → Prop} (b o bm n : Nat) (m : Known) (x : PAtom) (tv : Value) (w : World) (c1 : w.cell? ⟨b, o + 1, none⟩ = some (.string x.name)) (c2 : w.cell? ⟨b, o + 2, none⟩ = some tv) (h : RdTerms S w tv x.terms)
    (hm : MapI w bm n m) (hn : n < maxLen) (hs : x.name.size ≤ maxLen) (hl : x.terms.length ≤ 1073741824) :
    Calls Try.prog 33 #[.map (some bm), .pointer (some ⟨b, o, none⟩)] w fun e w' => e = .returned (.bool (fits m x)) ∧ MapI w' bm (n + 1) (learn m x) ∧ w.grownBy w' (some bm) := by
  obtain ⟨a, c, rfl, -, -, -⟩ := id h.form
  have hg := hm.getOk hs
  cases hv : m x.name with
  | some q =>
    rw [hv] at hg
    have HM := Lib.hid (hm.wider (Nat.le_succ n))
    have HL := Lib.hid (show learn m x = m by unfold learn; rw [hv]; rfl)
    have HF := Lib.hid (show fits m x = (q == (x.terms.length : Int)) by unfold fits; rw [hv])
    clear h hm hv
    simp only [Option.isSome, Option.getD] at hg
    go_enter Try.func33, Try.ntmps33
    go_wp2
    go_ret
    exact ⟨ret_bool HF.out.symm, by rw [HL.out]; exact HM.out, World.grownBy.refl _ _⟩
  | none =>
    rw [hv] at hg
    simp only [Option.isSome, Option.getD] at hg
    obtain ⟨w1, hrun, hm1, hg1⟩ := hm.drew.put hn hs (x := (x.terms.length : Int)) (WalkArith.wf_i64 (by omega))
    have HM1 := Lib.hid (show MapI w1 bm (n + 1) (learn m x) by unfold learn; rw [hv]; exact hm1)
    have HG1 := Lib.hid (show w.grownBy w1 (some bm) from (grown_drew w _).trans hg1)
    have HF := Lib.hid (show fits m x = true by unfold fits; rw [hv])
    clear h hm hv hm1 hg1
    go_enter Try.func33, Try.ntmps33
    go_wp2
    go_cut [] (fun wx => MapI wx bm (n + 1) (learn m x) ∧ w.grownBy wx (some bm))
    case first =>
      go_region_law (fail)
      all_goals
        go_wp2_with fail
        go_meet
        exact ⟨HM1.out, HG1.out⟩
    obtain ⟨HM2, HG2⟩ := hcut
    replace HM2 := Lib.hid HM2
    replace HG2 := Lib.hid HG2
    go_wp2
    go_ret
    exact ⟨ret_bool HF.out.symm, HM2.out, HG2.out⟩

/-! ### Wrong -/
theorem wrongFrom_bad {m : Known} {i : Int} {r : PRule} {p : List PRule} (h : ruleBad r ≠ 0) : wrongFrom m i (r :: p) = (ruleBad r, i) := by unfold wrongFrom; rw [if_pos h]
theorem wrongFrom_unfit {m : Known} {i : Int} {r : PRule} {p : List PRule} (h : ruleBad r = 0) (hf : fitAll m (r.head :: r.body) = false) : wrongFrom m i (r :: p) = (8, i) := by unfold wrongFrom; rw [if_neg (by simpa using h), hf]; rfl
theorem wrongFrom_fit {m : Known} {i : Int} {r : PRule} {p : List PRule} (h : ruleBad r = 0) (hf : fitAll m (r.head :: r.body) = true) : wrongFrom m i (r :: p) = wrongFrom (learnAll m (r.head :: r.body)) (i + 1) p := by
  conv => lhs; unfold wrongFrom
  rw [if_neg (by simpa using h), hf]; rfl
structure NameSmall (x : PRule) : Prop where
  h : x.head.name.size ≤ 1048576
  b : ∀ a ∈ x.body, a.name.size ≤ 1048576
theorem at_drop {α : Type} {l : List α} {k : Nat} {x : α} (h : l[k]? = some x) : l.drop k = x :: l.drop (k + 1) := by
  obtain ⟨hk, e⟩ := List.getElem?_eq_some_iff.1 h
  rw [List.drop_eq_getElem_cons hk, e]

set_option maxRecDepth 100000 in
set_option maxHeartbeats 8000000 in
theorem wrongCalls {S : Nat → Prop} (p : List PRule) (v : Value) (w : World) (h : RdRules S w v p) (n1 : p.length ≤ 1048576) (n2 : ∀ r ∈ p, RuleSmall r) (n3 : ∀ r ∈ p, NameSmall r) :
    Calls Try.prog 10 #[v] w fun e w' => e = .returned (.agg #[.int .i64 (wrongP p).1, .int .i64 (wrongP p).2]) ∧ Below w.heap.size w w' := by
  obtain ⟨a, c, rfl, -, -, -⟩ := id h.form
  have H := Lib.hid h
  have N2 := Lib.hid n2
  have N3 := Lib.hid n3
  clear h n2 n3
  by_cases hmany : 16 < p.length
  · have hs : wrongP p = (5, 0) := by unfold wrongP; rw [if_pos hmany]
    have HS := Lib.hid hs
    have i1 : (16 : Int) < (p.length : Int) := by omega
    clear hs
    go_enter Try.func10, Try.ntmps10
    go_wp2
    refine bodyPost_ret (v := .agg #[.int .i64 5, .int .i64 0]) (by simp [results, Try.results10, go_sem]) rfl ⟨by rw [HS.out], ?_⟩
    exact (Below.refl _ _).alloc (Nat.le_refl _) _
  have hP0 : wrongP p = wrongFrom (fun _ => none) ((0 : Nat) : Int) (p.drop 0) := by unfold wrongP; rw [if_neg hmany]; rfl
  have HP0 := Lib.hid hP0
  clear hP0
  have i0 : ¬ ((16 : Int) < (p.length : Int)) := by omega
  have hmm := @run_makeMap Try.prog
  go_enter Try.func10, Try.ntmps10
  go_wp2
  have HB := Lib.hid (((Below.refl w.heap.size w).alloc (Nat.le_refl _) (.cells #[.int .i64 0, .int .i64 0] 26)).alloc (by simp) (.map #[] 0))
  have HK := Lib.hid ((Blk.new w 26 #[.int .i64 0, .int .i64 0]).alloc (.map #[] 0))
  have HM := Lib.hid (MapI.made (w.alloc (.cells #[.int .i64 0, .int .i64 0] 26)))
  have hms : (w.alloc (.cells #[.int .i64 0, .int .i64 0] 26)).heap.size = w.heap.size + 1 := by simp
  rw [hms] at HM
  clear hms
  go_loopw [14] (fun i wr => ∃ (k : Nat) (n : Nat) (m : Known), k ≤ p.length ∧ i = .int .i64 k ∧ n ≤ k * 6 ∧ Hid (MapI wr (w.heap.size + 1) n m) ∧ Hid (Blk wr w.heap.size 26 #[.int .i64 0, .int .i64 0]) ∧ Hid (Below w.heap.size w wr) ∧ Hid (wrongP p = wrongFrom m (k : Int) (p.drop k))) (fun i _ => p.length - (intOf i).toNat)
  case atStart => exact ⟨0, 0, _, Nat.zero_le _, rfl, Nat.zero_le _, by simpa using HM, HK, HB, HP0⟩
  case round =>
    clear HB HK HM HP0
    obtain ⟨k, n, m, hk, rfl, hn, HM, HK, HB, HP⟩ := hrel
    by_cases hlt : k < p.length
    · obtain ⟨x, hx⟩ : ∃ x, p[k]? = some x := ⟨_, List.getElem?_eq_getElem hlt⟩
      have hmem := List.mem_of_getElem? hx
      obtain ⟨b1, o1, tv, bv, rfl, -, hb1, d0, d1, d2, d3, htv, hbv⟩ := RdRules.at H.out hx
      have HR := Lib.hid (show RuleAt S w b1 (o1 + k * 4) x tv bv from ⟨hb1, d0, d1, d2, d3, htv, hbv⟩)
      have HS := Lib.hid (N2.out x hmem)
      have HN := Lib.hid (N3.out x hmem)
      have KR := Lib.hid (checkRule b1 (o1 + k * 4) x tv bv wr (HR.out.up HB.out) HS.out)
      rw [at_drop hx] at HP
      have hx' := hx
      clear d0 d1 d2 d3 htv hbv hx hmem
      by_cases hz : ruleBad x = 0
      rotate_left
      · have HE := Lib.hid (HP.out.trans (wrongFrom_bad hz))
        have hne : (ruleBad x != 0) = true := by simpa using hz
        clear hz
        generalize ruleBad x = q at *
        go_wp2_with (go_at_call 32; refine (KR.out).mono ?_; rintro e w1 ⟨rfl, hf1⟩; have HB1 := Lib.hid (HB.out.trans (hf1.mono HB.out.size)); have HK1 := Lib.hid (HK.out.below hf1 HK.out.lt); have c0 := HK1.out.cell 0; have c1 := HK1.out.cell 1; have f0 := HK1.out.frozen 0; have f1 := HK1.out.frozen 1; simp at c0 c1; clear hf1)
        go_wp2
        refine bodyPost_ret (v := .agg #[.int .i64 q, .int .i64 k]) (by simp [results, Try.results10, go_sem, c0, c1]) rfl ⟨by rw [HE.out], ?_⟩
        exact (HB1.out.setCell (Nat.le_refl _) _).setCell (Nat.le_refl _) _
      rw [hz] at KR
      have HX := Lib.hid hx'
      have HZ := Lib.hid hz
      have hb5 := ruleBad_body hz
      clear hz
      have hmb : w.heap.size + 1 < wr.heap.size := HM.out.lt
      have hnx : n < maxLen := by unfold maxLen; omega
      have hpre : Hid (MapI wr (w.heap.size + 1) n m) := HM
      have HNE : Hid (∀ q, some (w.heap.size + 1) = some q → w.heap.size ≤ q) := Lib.hid (fun q hq => by cases hq; omega)
      have KA := Lib.hid (fun (W : World) (hW : MapI W (w.heap.size + 1) n m) (hB : Below w.heap.size w W) => have hR := HR.out.up hB; arityCalls b1 (o1 + k * 4) (w.heap.size + 1) n m x.head tv W hR.c1 hR.c2 hR.t hW hnx (by have := HN.out.h; unfold maxLen; omega) (by have := HS.out.h1; omega))
      cases hf : fits m x.head
      · rw [hf] at KA
        have HE := Lib.hid (HP.out.trans (wrongFrom_unfit HZ.out (by show (fits m x.head && _) = false; rw [hf]; rfl)))
        clear hf
        go_wp2_with (first
          | (go_at_call 32; refine (KR.out).mono ?_; rintro e w1 ⟨rfl, hf1⟩; have HB1 := Lib.hid (HB.out.trans (hf1.mono HB.out.size)); have HK1 := Lib.hid (HK.out.below hf1 HK.out.lt); have HM1 := Lib.hid (HM.out.below hf1 hmb); clear hf1)
          | (go_at_call 33; refine (KA.out _ HM1.out HB1.out).mono ?_; rintro e w2 ⟨rfl, -, hg2⟩; have HB2 := Lib.hid (HB1.out.grown hg2 HB1.out.size HNE.out); have HK2 := Lib.hid (HK1.out.grown hg2 (by simp)); have c0 := HK2.out.cell 0; have c1 := HK2.out.cell 1; have f0 := HK2.out.frozen 0; have f1 := HK2.out.frozen 1; simp at c0 c1; clear hg2))
        go_wp2
        refine bodyPost_ret (v := .agg #[.int .i64 8, .int .i64 k]) (by simp [results, Try.results10, go_sem, c0, c1]) rfl ⟨by rw [HE.out], ?_⟩
        exact (HB2.out.setCell (Nat.le_refl _) _).setCell (Nat.le_refl _) _
      rw [hf] at KA
      have HF := Lib.hid (show fitAll m (x.head :: x.body) = fitAll (learn m x.head) x.body by show (fits m x.head && _) = _; rw [hf]; rfl)
      clear hf
      obtain ⟨ba, bc, rfl, -, -, -⟩ := id HR.out.b.form
      go_wp2_with (first
        | (go_at_call 32; refine (KR.out).mono ?_; rintro e w1 ⟨rfl, hf1⟩; have HB1 := Lib.hid (HB.out.trans (hf1.mono HB.out.size)); have HK1 := Lib.hid (HK.out.below hf1 HK.out.lt); have HM1 := Lib.hid (HM.out.below hf1 hmb); clear hf1)
        | (go_at_call 33; refine (KA.out _ HM1.out HB1.out).mono ?_; rintro e w2 ⟨rfl, hm2, hg2⟩; have HB2 := Lib.hid (HB1.out.grown hg2 HB1.out.size HNE.out); have HK2 := Lib.hid (HK1.out.grown hg2 (by simp)); have HM2 := Lib.hid hm2; have c3 := (HR.out.up HB2.out).c3; clear hg2 hm2))
      clear c3 HM1 HK1 HB1 HM HK HB hpre
      have hn6 : n + 1 ≤ k * 6 + 1 := by omega
      go_loopw [41] (fun i wr => ∃ (j n' : Nat) (m' : Known), j ≤ x.body.length ∧ i = .int .i64 j ∧ n' ≤ k * 6 + 1 + j ∧ Hid (MapI wr (w.heap.size + 1) n' m') ∧ Hid (Blk wr w.heap.size 26 #[.int .i64 0, .int .i64 0]) ∧ Hid (Below w.heap.size w wr) ∧ Hid (fitAll m (x.head :: x.body) = fitAll m' (x.body.drop j) ∧ learnAll m (x.head :: x.body) = learnAll m' (x.body.drop j))) (fun i _ => x.body.length - (intOf i).toNat)
      case atStart => exact ⟨0, n + 1, _, Nat.zero_le _, rfl, by omega, HM2, HK2, HB2, Lib.hid ⟨HF.out, rfl⟩⟩
      case round =>
        clear HM2 HK2 HB2 HF KA KR
        obtain ⟨j, n', m', hj, rfl, hn', HM, HK, HB, HF⟩ := hrel
        have c3 := (HR.out.up HB.out).c3
        by_cases hlj : j < x.body.length
        · obtain ⟨y, hy⟩ : ∃ y, x.body[j]? = some y := ⟨_, List.getElem?_eq_getElem hlj⟩
          obtain ⟨b4, o4, yv, rfl, -, hb4, e0, e1, e2, hyv⟩ := RdAtoms.at ((HR.out.up HB.out).b) hy
          have ny := HS.out.b1 y (List.mem_of_getElem? hy)
          have hnx2 : n' < maxLen := by unfold maxLen; omega
          have KA := Lib.hid (arityCalls b4 (o4 + j * 3) (w.heap.size + 1) n' m' y yv wr e1 e2 hyv HM.out hnx2 (by have := HN.out.b y (List.mem_of_getElem? hy); unfold maxLen; omega) (by omega))
          rw [at_drop hy] at HF
          clear hy hyv e0 e1 e2 ny
          cases hf : fits m' y
          · rw [hf] at KA
            have HE := Lib.hid (HP.out.trans (wrongFrom_unfit HZ.out (by rw [HF.out.1]; show (fits m' y && _) = false; rw [hf]; rfl)))
            clear hf
            go_wp2_with (go_at_call 33; refine (KA.out).mono ?_; rintro e w2 ⟨rfl, -, hg2⟩; have HB2 := Lib.hid (HB.out.grown hg2 HB.out.size HNE.out); have HK2 := Lib.hid (HK.out.grown hg2 (by simp)); have c0 := HK2.out.cell 0; have c1 := HK2.out.cell 1; have f0 := HK2.out.frozen 0; have f1 := HK2.out.frozen 1; simp at c0 c1; clear hg2)
            go_wp2
            refine bodyPost_ret (v := .agg #[.int .i64 8, .int .i64 k]) (by simp [results, Try.results10, go_sem, c0, c1]) rfl ⟨by rw [HE.out], ?_⟩
            exact (HB2.out.setCell (Nat.le_refl _) _).setCell (Nat.le_refl _) _
          · rw [hf] at KA
            have HF2 := Lib.hid (show fitAll m (x.head :: x.body) = fitAll (learn m' y) (x.body.drop (j + 1)) ∧ learnAll m (x.head :: x.body) = learnAll (learn m' y) (x.body.drop (j + 1)) from ⟨HF.out.1.trans (by show (fits m' y && _) = _; rw [hf]; rfl), HF.out.2⟩)
            clear hf
            go_wp2_with (go_at_call 33; refine (KA.out).mono ?_; rintro e w2 ⟨rfl, hm2, hg2⟩; have HB2 := Lib.hid (HB.out.grown hg2 HB.out.size HNE.out); have HK2 := Lib.hid (HK.out.grown hg2 (by simp)); have HM2 := Lib.hid hm2; clear hg2 hm2)
            go_wp2
            go_roundw
            case rel => exact ⟨j + 1, n' + 1, _, by omega, by go_num, by omega, HM2, HK2, HB2, HF2⟩
            case measure => simp [intOf]; omega
        · have HF2 := Lib.hid (show wrongP p = wrongFrom m' ((k + 1 : Nat) : Int) (p.drop (k + 1)) by
            have h1 := HF.out
            rw [List.drop_eq_nil_of_le (show x.body.length ≤ j by omega)] at h1
            have := HP.out.trans (wrongFrom_fit HZ.out (h1.1.trans rfl))
            rw [h1.2] at this
            rw [this]
            show wrongFrom m' _ _ = _
            congr 1)
          go_wp2
          go_roundw
          case rel => exact ⟨k + 1, n', m', by omega, by go_num, by omega, HM, HK, HB, HF2⟩
          case measure => simp [intOf]; omega
    · have HE := Lib.hid (show wrongP p = (0, 0) by rw [HP.out, List.drop_eq_nil_of_le (by omega)]; rfl)
      have c0 := HK.out.cell 0; have c1 := HK.out.cell 1; have f0 := HK.out.frozen 0; have f1 := HK.out.frozen 1
      simp at c0 c1
      go_wp2
      refine bodyPost_ret (v := .agg #[.int .i64 0, .int .i64 0]) (by simp [results, Try.results10, go_sem, c0, c1]) rfl ⟨by rw [HE.out], ?_⟩
      exact (HB.out.setCell (Nat.le_refl _) _).setCell (Nat.le_refl _) _
end Go.Proofs.Ytobbjapmdpkogaa
