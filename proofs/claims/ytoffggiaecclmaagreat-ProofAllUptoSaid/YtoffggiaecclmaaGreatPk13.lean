/-
  THE TEXTS CheckW3, NaiveW1, SynW4, AppendW, one behind the other.
-/
import Derived.Test.YtoffggiaecclmaaGreatPk2
import Derived.Test.YtoffggiaecclmaaGreatPk3
import Derived.Test.YtoffggiaecclmaaGreatPk4
import Derived.Test.YtoffggiaecclmaaGreatPk6
import Derived.Test.YtoffggiaecclmaaGreatPk10
import Derived.Test.YtoffggiaecclmaaGreatPk12
import Derived.Deep.DeepCutAuto
import Derived.Deep.RegionLaw
/-
  THE WALKS OF check.arity, Wrong.
-/
namespace Go.Proofs.YtoffggiaecclmaaGreat
open Go.RowKit Go.Maps

theorem grown_drew (w : World) (row : Option Nat) : w.grownBy w.drew row := ⟨rfl, rfl, rfl, Nat.le_refl _, fun _ _ _ => rfl⟩
theorem MapI.wider {w : World} {b n m : Nat} {f : Str → Option Int} (h : MapI w b n f) (hm : n ≤ m) : MapI w b m f := let ⟨D, ⟨es, clock, h1, h2, h3, h4⟩, h5⟩ := h; ⟨D, ⟨es, clock, h1, h2, Nat.le_trans h3 hm, h4⟩, h5⟩

set_option maxRecDepth 100000 in
set_option maxHeartbeats 4000000 in
theorem arityCalls {S : Nat → Prop} (b o bm n : Nat) (m : Known) (x : PAtom) (tv : Value) (w : World) (c1 : w.cell? ⟨b, o + 1, none⟩ = some (.string x.name)) (c2 : w.cell? ⟨b, o + 2, none⟩ = some tv) (h : RdTerms S w tv x.terms)
    (hm : MapI w bm n m) (hn : n < maxLen) (hs : x.name.size ≤ maxLen) (hl : x.terms.length ≤ 1073741824) :
    Calls Tryz.prog 59 #[.map (some bm), .pointer (some ⟨b, o, none⟩)] w fun e w' => e = .returned (.bool (fits m x)) ∧ MapI w' bm (n + 1) (learn m x) ∧ w.grownBy w' (some bm) := by
  obtain ⟨a, c, rfl, -, -, -⟩ := id h.form
  have hg := hm.getOk hs
  cases hv : m x.name with
  | some q =>
    rw [hv] at hg
    have HM := Lib.hid (hm.wider (Nat.le_succ n))
    have HL := Lib.hid (show learn m x = m by unfold learn; rw [hv]; rfl)
    have HF := Lib.hid (show fits m x = (q == (x.terms.length : Int)) by unfold fits; rw [hv])
    clear h hm hv
    simp only [Option.isSome, Option.getD] at hg
    go_enter Tryz.func59, Tryz.ntmps59
    go_wp2
    go_ret
    exact ⟨ret_bool HF.out.symm, by rw [HL.out]; exact HM.out, World.grownBy.refl _ _⟩
  | none =>
    rw [hv] at hg
    simp only [Option.isSome, Option.getD] at hg
    obtain ⟨w1, hrun, hm1, hg1⟩ := hm.drew.put hn hs (x := (x.terms.length : Int)) (WalkArith.wf_i64 (by omega))
    have HM1 := Lib.hid (show MapI w1 bm (n + 1) (learn m x) by unfold learn; rw [hv]; exact hm1)
    have HG1 := Lib.hid (show w.grownBy w1 (some bm) from (grown_drew w _).trans hg1)
    have HF := Lib.hid (show fits m x = true by unfold fits; rw [hv])
    clear h hm hv hm1 hg1
    go_enter Tryz.func59, Tryz.ntmps59
    go_wp2
    go_cut [] (fun wx => MapI wx bm (n + 1) (learn m x) ∧ w.grownBy wx (some bm))
    case first =>
      go_region_law (fail)
      all_goals
        go_wp2_with fail
        go_meet
        exact ⟨HM1.out, HG1.out⟩
    obtain ⟨HM2, HG2⟩ := hcut
    replace HM2 := Lib.hid HM2
    replace HG2 := Lib.hid HG2
    go_wp2
    go_ret
    exact ⟨ret_bool HF.out.symm, HM2.out, HG2.out⟩

/-! ### Wrong -/
theorem wrongFrom_bad {m : Known} {i : Int} {r : PRule} {p : List PRule} (h : ruleBad r ≠ 0) : wrongFrom m i (r :: p) = (ruleBad r, i) := by unfold wrongFrom; rw [if_pos h]
theorem wrongFrom_unfit {m : Known} {i : Int} {r : PRule} {p : List PRule} (h : ruleBad r = 0) (hf : fitAll m (r.head :: r.body) = false) : wrongFrom m i (r :: p) = (8, i) := by unfold wrongFrom; rw [if_neg (by simpa using h), hf]; rfl
theorem wrongFrom_fit {m : Known} {i : Int} {r : PRule} {p : List PRule} (h : ruleBad r = 0) (hf : fitAll m (r.head :: r.body) = true) : wrongFrom m i (r :: p) = wrongFrom (learnAll m (r.head :: r.body)) (i + 1) p := by
  conv => lhs; unfold wrongFrom
  rw [if_neg (by simpa using h), hf]; rfl
structure NameSmall (x : PRule) : Prop where
  h : x.head.name.size ≤ 1048576
  b : ∀ a ∈ x.body, a.name.size ≤ 1048576
theorem at_drop {α : Type} {l : List α} {k : Nat} {x : α} (h : l[k]? = some x) : l.drop k = x :: l.drop (k + 1) := by
  obtain ⟨hk, e⟩ := List.getElem?_eq_some_iff.1 h
  rw [List.drop_eq_getElem_cons hk, e]

set_option maxRecDepth 100000 in
set_option maxHeartbeats 8000000 in
theorem wrongCalls {S : Nat → Prop} (p : List PRule) (v : Value) (w : World) (h : RdRules S w v p) (n1 : p.length ≤ 1048576) (n2 : ∀ r ∈ p, RuleSmall r) (n3 : ∀ r ∈ p, NameSmall r) :
    Calls Tryz.prog 37 #[v] w fun e w' => e = .returned (.agg #[.int .i64 (wrongP p).1, .int .i64 (wrongP p).2]) ∧ Below w.heap.size w w' := by
  obtain ⟨a, c, rfl, -, -, -⟩ := id h.form
  have H := Lib.hid h
  have N2 := Lib.hid n2
  have N3 := Lib.hid n3
  clear h n2 n3
  by_cases hmany : 16 < p.length
  · have hs : wrongP p = (5, 0) := by unfold wrongP; rw [if_pos hmany]
    have HS := Lib.hid hs
    have i1 : (16 : Int) < (p.length : Int) := by omega
    clear hs
    go_enter Tryz.func37, Tryz.ntmps37
    go_wp2
    refine bodyPost_ret (v := .agg #[.int .i64 5, .int .i64 0]) (by simp [results, Tryz.results37, go_sem]) rfl ⟨by rw [HS.out], ?_⟩
    exact (Below.refl _ _).alloc (Nat.le_refl _) _
  have hP0 : wrongP p = wrongFrom (fun _ => none) ((0 : Nat) : Int) (p.drop 0) := by unfold wrongP; rw [if_neg hmany]; rfl
  have HP0 := Lib.hid hP0
  clear hP0
  have i0 : ¬ ((16 : Int) < (p.length : Int)) := by omega
  have hmm := @run_makeMap Tryz.prog
  go_enter Tryz.func37, Tryz.ntmps37
  go_wp2
  have HB := Lib.hid (((Below.refl w.heap.size w).alloc (Nat.le_refl _) (.cells #[.int .i64 0, .int .i64 0] 47)).alloc (by simp) (.map #[] 0))
  have HK := Lib.hid ((Blk.new w 47 #[.int .i64 0, .int .i64 0]).alloc (.map #[] 0))
  have HM := Lib.hid (MapI.made (w.alloc (.cells #[.int .i64 0, .int .i64 0] 47)))
  have hms : (w.alloc (.cells #[.int .i64 0, .int .i64 0] 47)).heap.size = w.heap.size + 1 := by simp
  rw [hms] at HM
  clear hms
  go_loopw [14] (fun i wr => ∃ (k : Nat) (n : Nat) (m : Known), k ≤ p.length ∧ i = .int .i64 k ∧ n ≤ k * 6 ∧ Hid (MapI wr (w.heap.size + 1) n m) ∧ Hid (Blk wr w.heap.size 47 #[.int .i64 0, .int .i64 0]) ∧ Hid (Below w.heap.size w wr) ∧ Hid (wrongP p = wrongFrom m (k : Int) (p.drop k))) (fun i _ => p.length - (intOf i).toNat)
  case atStart => exact ⟨0, 0, _, Nat.zero_le _, rfl, Nat.zero_le _, by simpa using HM, HK, HB, HP0⟩
  case round =>
    clear HB HK HM HP0
    obtain ⟨k, n, m, hk, rfl, hn, HM, HK, HB, HP⟩ := hrel
    by_cases hlt : k < p.length
    · obtain ⟨x, hx⟩ : ∃ x, p[k]? = some x := ⟨_, List.getElem?_eq_getElem hlt⟩
      have hmem := List.mem_of_getElem? hx
      obtain ⟨b1, o1, tv, bv, rfl, -, hb1, d0, d1, d2, d3, htv, hbv⟩ := RdRules.at H.out hx
      have HR := Lib.hid (show RuleAt S w b1 (o1 + k * 4) x tv bv from ⟨hb1, d0, d1, d2, d3, htv, hbv⟩)
      have HS := Lib.hid (N2.out x hmem)
      have HN := Lib.hid (N3.out x hmem)
      have KR := Lib.hid (checkRule b1 (o1 + k * 4) x tv bv wr (HR.out.up HB.out) HS.out)
      rw [at_drop hx] at HP
      have hx' := hx
      clear d0 d1 d2 d3 htv hbv hx hmem
      by_cases hz : ruleBad x = 0
      rotate_left
      · have HE := Lib.hid (HP.out.trans (wrongFrom_bad hz))
        have hne : (ruleBad x != 0) = true := by simpa using hz
        clear hz
        generalize ruleBad x = q at *
        go_wp2_with (go_at_call 58; refine (KR.out).mono ?_; rintro e w1 ⟨rfl, hf1⟩; have HB1 := Lib.hid (HB.out.trans (hf1.mono HB.out.size)); have HK1 := Lib.hid (HK.out.below hf1 HK.out.lt); have c0 := HK1.out.cell 0; have c1 := HK1.out.cell 1; have f0 := HK1.out.frozen 0; have f1 := HK1.out.frozen 1; simp at c0 c1; clear hf1)
        go_wp2
        refine bodyPost_ret (v := .agg #[.int .i64 q, .int .i64 k]) (by simp [results, Tryz.results37, go_sem, c0, c1]) rfl ⟨by rw [HE.out], ?_⟩
        exact (HB1.out.setCell (Nat.le_refl _) _).setCell (Nat.le_refl _) _
      rw [hz] at KR
      have HX := Lib.hid hx'
      have HZ := Lib.hid hz
      have hb5 := ruleBad_body hz
      clear hz
      have hmb : w.heap.size + 1 < wr.heap.size := HM.out.lt
      have hnx : n < maxLen := by unfold maxLen; omega
      have hpre : Hid (MapI wr (w.heap.size + 1) n m) := HM
      have HNE : Hid (∀ q, some (w.heap.size + 1) = some q → w.heap.size ≤ q) := Lib.hid (fun q hq => by cases hq; omega)
      have KA := Lib.hid (fun (W : World) (hW : MapI W (w.heap.size + 1) n m) (hB : Below w.heap.size w W) => have hR := HR.out.up hB; arityCalls b1 (o1 + k * 4) (w.heap.size + 1) n m x.head tv W hR.c1 hR.c2 hR.t hW hnx (by have := HN.out.h; unfold maxLen; omega) (by have := HS.out.h1; omega))
      cases hf : fits m x.head
      · rw [hf] at KA
        have HE := Lib.hid (HP.out.trans (wrongFrom_unfit HZ.out (by show (fits m x.head && _) = false; rw [hf]; rfl)))
        clear hf
        go_wp2_with (first
          | (go_at_call 58; refine (KR.out).mono ?_; rintro e w1 ⟨rfl, hf1⟩; have HB1 := Lib.hid (HB.out.trans (hf1.mono HB.out.size)); have HK1 := Lib.hid (HK.out.below hf1 HK.out.lt); have HM1 := Lib.hid (HM.out.below hf1 hmb); clear hf1)
          | (go_at_call 59; refine (KA.out _ HM1.out HB1.out).mono ?_; rintro e w2 ⟨rfl, -, hg2⟩; have HB2 := Lib.hid (HB1.out.grown hg2 HB1.out.size HNE.out); have HK2 := Lib.hid (HK1.out.grown hg2 (by simp)); have c0 := HK2.out.cell 0; have c1 := HK2.out.cell 1; have f0 := HK2.out.frozen 0; have f1 := HK2.out.frozen 1; simp at c0 c1; clear hg2))
        go_wp2
        refine bodyPost_ret (v := .agg #[.int .i64 8, .int .i64 k]) (by simp [results, Tryz.results37, go_sem, c0, c1]) rfl ⟨by rw [HE.out], ?_⟩
        exact (HB2.out.setCell (Nat.le_refl _) _).setCell (Nat.le_refl _) _
      rw [hf] at KA
      have HF := Lib.hid (show fitAll m (x.head :: x.body) = fitAll (learn m x.head) x.body by show (fits m x.head && _) = _; rw [hf]; rfl)
      clear hf
      obtain ⟨ba, bc, rfl, -, -, -⟩ := id HR.out.b.form
      go_wp2_with (first
        | (go_at_call 58; refine (KR.out).mono ?_; rintro e w1 ⟨rfl, hf1⟩; have HB1 := Lib.hid (HB.out.trans (hf1.mono HB.out.size)); have HK1 := Lib.hid (HK.out.below hf1 HK.out.lt); have HM1 := Lib.hid (HM.out.below hf1 hmb); clear hf1)
        | (go_at_call 59; refine (KA.out _ HM1.out HB1.out).mono ?_; rintro e w2 ⟨rfl, hm2, hg2⟩; have HB2 := Lib.hid (HB1.out.grown hg2 HB1.out.size HNE.out); have HK2 := Lib.hid (HK1.out.grown hg2 (by simp)); have HM2 := Lib.hid hm2; have c3 := (HR.out.up HB2.out).c3; clear hg2 hm2))
      clear c3 HM1 HK1 HB1 HM HK HB hpre
      have hn6 : n + 1 ≤ k * 6 + 1 := by omega
      go_loopw [41] (fun i wr => ∃ (j n' : Nat) (m' : Known), j ≤ x.body.length ∧ i = .int .i64 j ∧ n' ≤ k * 6 + 1 + j ∧ Hid (MapI wr (w.heap.size + 1) n' m') ∧ Hid (Blk wr w.heap.size 47 #[.int .i64 0, .int .i64 0]) ∧ Hid (Below w.heap.size w wr) ∧ Hid (fitAll m (x.head :: x.body) = fitAll m' (x.body.drop j) ∧ learnAll m (x.head :: x.body) = learnAll m' (x.body.drop j))) (fun i _ => x.body.length - (intOf i).toNat)
      case atStart => exact ⟨0, n + 1, _, Nat.zero_le _, rfl, by omega, HM2, HK2, HB2, Lib.hid ⟨HF.out, rfl⟩⟩
      case round =>
        clear HM2 HK2 HB2 HF KA KR
        obtain ⟨j, n', m', hj, rfl, hn', HM, HK, HB, HF⟩ := hrel
        have c3 := (HR.out.up HB.out).c3
        by_cases hlj : j < x.body.length
        · obtain ⟨y, hy⟩ : ∃ y, x.body[j]? = some y := ⟨_, List.getElem?_eq_getElem hlj⟩
          obtain ⟨b4, o4, yv, rfl, -, hb4, e0, e1, e2, hyv⟩ := RdAtoms.at ((HR.out.up HB.out).b) hy
          have ny := HS.out.b1 y (List.mem_of_getElem? hy)
          have hnx2 : n' < maxLen := by unfold maxLen; omega
          have KA := Lib.hid (arityCalls b4 (o4 + j * 3) (w.heap.size + 1) n' m' y yv wr e1 e2 hyv HM.out hnx2 (by have := HN.out.b y (List.mem_of_getElem? hy); unfold maxLen; omega) (by omega))
          rw [at_drop hy] at HF
          clear hy hyv e0 e1 e2 ny
          cases hf : fits m' y
          · rw [hf] at KA
            have HE := Lib.hid (HP.out.trans (wrongFrom_unfit HZ.out (by rw [HF.out.1]; show (fits m' y && _) = false; rw [hf]; rfl)))
            clear hf
            go_wp2_with (go_at_call 59; refine (KA.out).mono ?_; rintro e w2 ⟨rfl, -, hg2⟩; have HB2 := Lib.hid (HB.out.grown hg2 HB.out.size HNE.out); have HK2 := Lib.hid (HK.out.grown hg2 (by simp)); have c0 := HK2.out.cell 0; have c1 := HK2.out.cell 1; have f0 := HK2.out.frozen 0; have f1 := HK2.out.frozen 1; simp at c0 c1; clear hg2)
            go_wp2
            refine bodyPost_ret (v := .agg #[.int .i64 8, .int .i64 k]) (by simp [results, Tryz.results37, go_sem, c0, c1]) rfl ⟨by rw [HE.out], ?_⟩
            exact (HB2.out.setCell (Nat.le_refl _) _).setCell (Nat.le_refl _) _
          · rw [hf] at KA
            have HF2 := Lib.hid (show fitAll m (x.head :: x.body) = fitAll (learn m' y) (x.body.drop (j + 1)) ∧ learnAll m (x.head :: x.body) = learnAll (learn m' y) (x.body.drop (j + 1)) from ⟨HF.out.1.trans (by show (fits m' y && _) = _; rw [hf]; rfl), HF.out.2⟩)
            clear hf
            go_wp2_with (go_at_call 59; refine (KA.out).mono ?_; rintro e w2 ⟨rfl, hm2, hg2⟩; have HB2 := Lib.hid (HB.out.grown hg2 HB.out.size HNE.out); have HK2 := Lib.hid (HK.out.grown hg2 (by simp)); have HM2 := Lib.hid hm2; clear hg2 hm2)
            go_wp2
            go_roundw
            case rel => exact ⟨j + 1, n' + 1, _, by omega, by go_num, by omega, HM2, HK2, HB2, HF2⟩
            case measure => simp [intOf]; omega
        · have HF2 := Lib.hid (show wrongP p = wrongFrom m' ((k + 1 : Nat) : Int) (p.drop (k + 1)) by
            have h1 := HF.out
            rw [List.drop_eq_nil_of_le (show x.body.length ≤ j by omega)] at h1
            have := HP.out.trans (wrongFrom_fit HZ.out (h1.1.trans rfl))
            rw [h1.2] at this
            rw [this]
            show wrongFrom m' _ _ = _
            congr 1)
          go_wp2
          go_roundw
          case rel => exact ⟨k + 1, n', m', by omega, by go_num, by omega, HM, HK, HB, HF2⟩
          case measure => simp [intOf]; omega
    · have HE := Lib.hid (show wrongP p = (0, 0) by rw [HP.out, List.drop_eq_nil_of_le (by omega)]; rfl)
      have c0 := HK.out.cell 0; have c1 := HK.out.cell 1; have f0 := HK.out.frozen 0; have f1 := HK.out.frozen 1
      simp at c0 c1
      go_wp2
      refine bodyPost_ret (v := .agg #[.int .i64 0, .int .i64 0]) (by simp [results, Tryz.results37, go_sem, c0, c1]) rfl ⟨by rw [HE.out], ?_⟩
      exact (HB.out.setCell (Nat.le_refl _) _).setCell (Nat.le_refl _) _
end Go.Proofs.YtoffggiaecclmaaGreat

/-
  THE WALKS OF slices.Max, naive.Count, naive.Heads.
-/
namespace Go.Proofs.YtoffggiaecclmaaGreat
open Go.RowKit

theorem foldl_max_bd (b : Int) : ∀ (l : List Int) (x : Int), 0 ≤ x → x ≤ b → (∀ z ∈ l, 0 ≤ z ∧ z ≤ b) → 0 ≤ l.foldl max x ∧ l.foldl max x ≤ b
  | [], x, h1, h2, _ => ⟨h1, h2⟩
  | z :: l, x, h1, h2, h => by
    rw [List.foldl_cons]
    have := h z (by simp)
    exact foldl_max_bd b l (max x z) (by omega) (by omega) fun y hy => h y (by simp [hy])
theorem foldl_take_snoc {l : List Int} {k : Nat} {z x : Int} (h : l[k]? = some z) : (l.take (k + 1)).foldl max x = max ((l.take k).foldl max x) z := by
  rw [List.take_add_one, h, List.foldl_append]; rfl

set_option maxRecDepth 100000 in
set_option maxHeartbeats 2000000 in
theorem maxInts {S : Nat → Prop} (v : Value) (x : Int) (l : List Int) (w : World) (h : RdInts S w v (x :: l)) (n1 : (x :: l).length ≤ 1048576) :
    Calls Tryz.prog 40 #[v] w fun e w' => e = .returned (.int .i64 (l.foldl max x)) ∧ w' = w := by
  obtain ⟨a, c, rfl, -, -, -⟩ := id h.form
  have H := Lib.hid h
  clear h
  simp only [List.length_cons] at n1
  have hlen : (x :: l).length = l.length + 1 := rfl
  obtain ⟨b0, o0, rfl, -, -, d0⟩ := RdInts.at H.out (i := 0) rfl
  rw [hlen] at H ⊢
  obtain ⟨n, hn⟩ : ∃ n, l.length + 1 = n := ⟨_, rfl⟩
  rw [hn]
  have i1 : ¬ ((n : Int) < 1) := by omega
  have i2 : (0 : Int) < (n : Int) := by omega
  have d0' : w.cell? ⟨b0, o0, none⟩ = some (.int .i64 x) := by simpa using d0
  go_enter Tryz.func40, Tryz.ntmps40
  go_wp2
  go_loop [4, 3] (fun i m => ∃ k : Nat, k ≤ l.length ∧ i = .int .i64 ((k + 1 : Nat) : Int) ∧ m = .int .i64 ((l.take k).foldl max x)) (fun i _ => n - (intOf i).toNat)
  case atStart => exact ⟨0, Nat.zero_le _, rfl, rfl⟩
  case round =>
    obtain ⟨k, hk, rfl, rfl⟩ := hrel
    by_cases hlt : k < l.length
    · obtain ⟨z, hz⟩ : ∃ z, l[k]? = some z := ⟨_, List.getElem?_eq_getElem hlt⟩
      obtain ⟨b1, o1, e1, -, -, d1⟩ := RdInts.at H.out (i := k + 1) (x := z) (by simpa using hz)
      injection e1 with e1
      injection e1 with e2 e3 _
      subst e2 e3
      have HZ := Lib.hid (foldl_take_snoc (x := x) hz)
      have i3 : ((k + 1 : Nat) : Int) < (n : Int) := by omega
      have i4 : (0 : Int) ≤ ((k + 1 : Nat) : Int) := by omega
      clear hz
      generalize (l.take k).foldl max x = m at *
      go_wp2
      all_goals
        go_round
        case rel => exact ⟨k + 1, by omega, by go_num, by rw [HZ.out]; try (first | rfl | (rw [Int.max_def]; split <;> first | rfl | (exfalso; omega)))⟩
        case measure => simp [intOf]; omega
    · have i3 : ¬ (((k + 1 : Nat) : Int) < (n : Int)) := by omega
      have hk' : l.take k = l := List.take_of_length_le (by omega)
      rw [hk']
      go_wp2
      go_ret
      exact ⟨rfl, rfl⟩

set_option maxRecDepth 100000 in
theorem countCalls {S : Nat → Prop} (v : Value) (l : List Int) (w : World) (h : RdInts S w v l) (n1 : l.length ≤ 1048576) (n2 : ∀ z ∈ l, 0 ≤ z ∧ z ≤ 1048576) :
    Calls Tryz.prog 20 #[v] w fun e w' => e = .returned (.int .i64 (countP l)) ∧ w' = w := by
  obtain ⟨a, c, rfl, -, -, -⟩ := id h.form
  cases l with
  | nil =>
    go_enter Tryz.func20, Tryz.ntmps20
    go_wp2
    go_ret
    exact ⟨rfl, rfl⟩
  | cons x l =>
    have K := Lib.hid (maxInts _ x l w h n1)
    obtain ⟨g1, g2⟩ := foldl_max_bd 1048576 l x (n2 x (by simp)).1 (n2 x (by simp)).2 fun z hz => n2 z (by simp [hz])
    have HC := Lib.hid (show countP (x :: l) = l.foldl max x + 1 from rfl)
    simp only [List.length_cons] at *
    obtain ⟨n, hn⟩ : ∃ n, l.length + 1 = n := ⟨_, rfl⟩
    rw [hn] at K ⊢
    have i1 : ¬ ((n : Int) = 0) := by omega
    generalize l.foldl max x = m at *
    clear h n2 hn
    go_enter Tryz.func20, Tryz.ntmps20
    go_wp2_with (go_at_call 40; refine (K.out).mono ?_; rintro e w1 ⟨rfl, rfl⟩)
    go_ret
    exact ⟨by rw [HC.out]; rfl, rfl⟩

/-! ### Heads -/
/-- A set that a call made, and an error. -/
def FactsPost (r : List PFact × Int) (w : World) (e : Ending) (w' : World) : Prop :=
  Below w.heap.size w w' ∧ ∃ v, e = .returned (.tuple #[v, .int .i64 r.2]) ∧ Owned 2 RFact w.heap.size 27 (New w) w' v r.1
theorem facts_err {r : List PFact × Int} {n : Int} {w w' : World} (h : r = ([], n)) (hb : Below w.heap.size w w') : FactsPost r w (.returned (.tuple #[.slice none 0 0, .int .i64 n])) w' := by
  subst h; exact ⟨hb, _, rfl, Owned.nil⟩
theorem facts_ok {r : List PFact × Int} {l : List PFact} {w w' : World} {v : Value} (h : r = (l, 0)) (hb : Below w.heap.size w w') (ho : Owned 2 RFact w.heap.size 27 (New w) w' v l) : FactsPost r w (.returned (.tuple #[v, .int .i64 0])) w' := by
  subst h; exact ⟨hb, _, rfl, ho⟩
/-- match.Fill of an atom that is not filled. -/
theorem fillNone {S S2 : Nat → Prop} {a : PAtom} {tv lv : Value} {l : Binds} {w : World} (hfl : fillP a l = none) (ht : RdTerms S w tv a.terms) (hl : RdBinds S2 w lv l) (n1 : a.terms.length ≤ 1048576) (n2 : l.length ≤ 1073741824) :
    Calls Tryz.prog 36 #[.agg #[.bool a.neg, .string a.name, tv], lv] w fun e w' => e = .returned (.tuple #[.agg #[.string ⟨#[]⟩, .slice none 0 0], .bool false]) ∧ Below w.heap.size w w' :=
  (fillCalls a tv lv l w ht hl n1 n2).mono fun e w' ⟨h1, h2⟩ => by
    rw [hfl] at h2
    exact ⟨h2, h1⟩
theorem filterMap_snoc {α β : Type} {f : α → Option β} {l : List α} {k : Nat} {x : α} (h : l[k]? = some x) : (l.take (k + 1)).filterMap f = (l.take k).filterMap f ++ (f x).toList := by
  rw [List.take_add_one, h, List.filterMap_append]
  simp only [Option.toList]
  cases hf : f x <;> simp [hf]
theorem filterMap_le {α β : Type} (f : α → Option β) (l : List α) (k : Nat) : ((l.take k).filterMap f).length ≤ k :=
  Nat.le_trans (List.length_filterMap_le _ _) (by rw [List.length_take]; exact Nat.min_le_left _ _)
theorem RdBindss.at' {S : Nat → Prop} {w : World} {a : Option Addr} {n cap : Nat} {l : List Binds} (h : RdBindss S w (.slice a n cap) l) {i : Nat} {x : Binds} (hx : l[i]? = some x) :
    ∃ b off v, a = some ⟨b, off, none⟩ ∧ S b ∧ b < w.heap.size ∧ w.cell? ⟨b, off + i, none⟩ = some v ∧ RdBinds S w v x := by
  obtain ⟨a', cap', hv, _, _, _, h3⟩ := h
  obtain ⟨b, off, cs, ha, hS, hb, hk, hc, v, hr, hq⟩ := h3 i x hx
  injection hv with e1 e2 e3
  subst e1
  subst hr
  exact ⟨b, off, v, ha, hS, hb, by simpa using hc 0 _ rfl, hq⟩
theorem RFact.behind {B : Nat} {w W1 w1 w2 : World} {v v1 : Value} {l : List PFact} {x : PFact} {B2 : Nat} (hown : Owned 2 RFact B2 27 (fun b => B ≤ b) w v l) (hB : B ≤ w.heap.size) (hle : w.heap.size ≤ W1.heap.size) (hr1 : RdStrs (New W1) w1 v1 x.args) (ha : Agree (New W1) w1 w2) :
    RFact (fun b => B ≤ b ∧ some b ≠ v.ownBlock) w2 [.string x.name, v1] x :=
  ⟨v1, rfl, (hr1.agree RStr.steady ha).more RStr.steady fun b hb _ => ⟨by omega, fun e => by have := (hown.row_lt e.symm).2; omega⟩⟩

attribute [local go_sem ↓] Go.wp_at_zero Go.wp_at_succ
set_option maxRecDepth 100000 in
set_option maxHeartbeats 8000000 in
theorem headsCalls {S S2 S3 : Nat → Prop} (x : PRule) (tv bv fv : Value) (facts : List PFact) (w : World) (ht : RdTerms S w tv x.head.terms) (hb : RdAtoms S2 w bv x.body) (hf : RdFacts S3 w fv facts)
    (hs : RuleSmall x) (n4 : facts.length ≤ 1048576) (n5 : ∀ x ∈ facts, x.args.length ≤ 1048576) :
    Calls Tryz.prog 41 #[.agg #[.bool x.head.neg, .string x.head.name, tv, bv], fv] w (FactsPost (headsP x facts) w) := by
  obtain ⟨ta, tc, rfl, -, -, -⟩ := id ht.form
  obtain ⟨ba, bc, rfl, -, -, -⟩ := id hb.form
  obtain ⟨fa, fc, rfl, -, -, -⟩ := id hf.form
  have HT := Lib.hid ht
  have hn1 := hs.h1
  have HS := Lib.hid hs
  obtain ⟨W0, hW0⟩ : ∃ W0 : World, w.alloc (.cells #[.bool x.head.neg, .string x.head.name, .slice ta x.head.terms.length tc, .slice ba x.body.length bc] 91) = W0 := ⟨_, rfl⟩
  have hb0 : Below w.heap.size w W0 := by subst hW0; exact (Below.refl _ _).alloc (Nat.le_refl _) _
  have HK0 := Lib.hid (show Blk W0 w.heap.size 91 #[.bool x.head.neg, .string x.head.name, .slice ta x.head.terms.length tc, .slice ba x.body.length bc] by subst hW0; exact Blk.new w _ _)
  have hs0 : W0.heap.size = w.heap.size + 1 := by subst hW0; simp
  have HB0 := Lib.hid hb0
  have K := Lib.hid (allReads (.slice ba x.body.length bc) x.body (.slice fa facts.length fc) facts W0 (hb.up hb0) (hf.up hb0) hs.b0 hs.b1 hs.b2 n4 n5)
  have HSH := Lib.hid (all_short x.body facts)
  have HHP := Lib.hid (show headsP x facts = if (allP x.body facts).2 ≠ 0 then ([], (allP x.body facts).2) else (ofF ((allP x.body facts).1.filterMap fun b => fillP x.head b), 0) from rfl)
  have q3 : W0.cell? ⟨w.heap.size, 3, none⟩ = some (.slice ba x.body.length bc) := HK0.out.cell 3
  clear ht hb hf hs n4 n5 hb0
  generalize allP x.body facts = r at *
  obtain ⟨ls, q⟩ := r
  dsimp only at *
  by_cases hq : q = 0
  case neg =>
    have g1 : (q != 0) = true := by simpa using hq
    have HE := Lib.hid (show headsP x facts = ([], q) by rw [HHP.out, if_pos hq])
    clear hq HHP
    go_enter Tryz.func41, Tryz.ntmps41
    go_wp2_with (go_at_call 60; refine (K.out).mono ?_; rintro e w2 ⟨⟨a2, c2, rfl, hr2⟩, hb2⟩; have HB2 := Lib.hid (HB0.out.trans (hb2.mono (Below.size HB0.out))); clear hr2 hb2)
    go_ret2
    exact facts_err HE.out HB2.out
  subst hq
  have HE := Lib.hid (show headsP x facts = (ofF (ls.filterMap fun b => fillP x.head b), 0) by rw [HHP.out, if_neg (by simp)])
  have hll : ls.length ≤ 20000 := HSH.out.1
  clear HHP
  go_enter Tryz.func41, Tryz.ntmps41
  go_wp2_with (go_at_call 60; refine (K.out).mono ?_; rintro e w2 ⟨⟨a2, c2, rfl, hr2⟩, hb2⟩; have HR2 := Lib.hid hr2; have HB2 := Lib.hid (HB0.out.trans (hb2.mono (Below.size HB0.out))); have HK2 := Lib.hid (HK0.out.below hb2 HK0.out.lt); have hs2 : w.heap.size + 1 ≤ w2.heap.size := (by have := hb2.size; omega); clear hr2 hb2)
  clear K HK0 HB0 q3 hW0 hs0
  obtain ⟨wo, hwo⟩ : ∃ wo : World, wo = w2 := ⟨_, rfl⟩
  subst hwo
  have HB0 := Lib.hid (Below.refl wo.heap.size wo)
  go_loopw [25, 8] (fun i v wr => ∃ k : Nat, k ≤ ls.length ∧ i = .int .i64 k ∧ Hid (Owned 2 RFact wo.heap.size 27 (New wo) wr v ((ls.take k).filterMap fun b => fillP x.head b)) ∧ Hid (Below wo.heap.size wo wr)) (fun i _ _ => ls.length - (intOf i).toNat)
  case atStart => exact ⟨0, Nat.zero_le _, rfl, Lib.hid Owned.nil, HB0⟩
  case round =>
    clear HB0
    obtain ⟨k, hk, rfl, HO, HB⟩ := hrel
    have HBW := Lib.hid (HB2.out.trans (HB.out.mono (Below.size HB2.out)))
    have HKW := Lib.hid (HK2.out.below HB.out HK2.out.lt)
    by_cases hlt : k < ls.length
    · obtain ⟨l, hl⟩ : ∃ l, ls[k]? = some l := ⟨_, List.getElem?_eq_getElem hlt⟩
      obtain ⟨b1, o1, lv, rfl, -, hbl, d1, hlv⟩ := RdBindss.at' HR2.out hl
      have f1 := (cell_below HB.out hbl _).trans d1
      have hnl : l.length ≤ 1073741824 := by have := HSH.out.2 l (List.mem_of_getElem? hl); omega
      have e0 : wr.cell? ⟨w.heap.size, 0, none⟩ = some (.bool x.head.neg) := HKW.out.cell 0
      have e1 : wr.cell? ⟨w.heap.size, 1, none⟩ = some (.string x.head.name) := HKW.out.cell 1
      have e2 : wr.cell? ⟨w.heap.size, 2, none⟩ = some (.slice ta x.head.terms.length tc) := HKW.out.cell 2
      have HSN := Lib.hid (filterMap_snoc (f := fun b => fillP x.head b) hl)
      have HLE := Lib.hid (filterMap_le (fun b => fillP x.head b) ls k)
      have hsz := HB.out.size
      clear d1 hl
      cases hfl : fillP x.head l with
      | none =>
        have KF := Lib.hid (fillNone hfl (HT.out.up HBW.out) (hlv.up HB.out) hn1 hnl)
        have HS1 := Lib.hid (show (ls.take (k + 1)).filterMap (fun b => fillP x.head b) = (ls.take k).filterMap (fun b => fillP x.head b) by rw [HSN.out]; simp [hfl])
        clear hfl hlv HSN
        go_wp2_with (go_at_call 36; refine (KF.out).mono ?_; rintro e w3 ⟨rfl, hb3⟩; have HB3 := Lib.hid ((HB.out.trans (hb3.mono hsz)).alloc (Nat.le_trans hsz hb3.size) (.cells #[.string ⟨#[]⟩, .slice none 0 0] 27)); have HO3 := Lib.hid ((HO.out.below RFact.steady hb3).alloc RFact.steady (.cells #[.string ⟨#[]⟩, .slice none 0 0] 27)); clear hb3)
        go_roundw
        case rel => exact ⟨k + 1, by omega, by go_num, by rw [HS1.out]; exact HO3, HB3⟩
        case measure => simp [intOf]; omega
      | some f =>
        have KF := Lib.hid (fillKnown hfl (HT.out.up HBW.out) (hlv.up HB.out) hn1 hnl)
        have HS1 := Lib.hid (show (ls.take (k + 1)).filterMap (fun b => fillP x.head b) = (ls.take k).filterMap (fun b => fillP x.head b) ++ [f] by rw [HSN.out]; simp [hfl])
        clear hfl hlv HSN
        generalize (ls.take k).filterMap (fun b => fillP x.head b) = out at *
        have hol := HLE.out
        go_wp2_with (first
          | (go_at_call 36; refine (KF.out).mono ?_; rintro e w3 ⟨⟨av, ac, rfl, hr3⟩, hb3⟩; have HB3 := Lib.hid (HB.out.trans (hb3.mono hsz)); have HO3 := Lib.hid (HO.out.below RFact.steady hb3); have HR3 := Lib.hid hr3; have hs3 : wr.heap.size ≤ w3.heap.size := hb3.size; clear hb3 hr3)
          | (at_builtin; refine wpList_append_one (B := wo.heap.size) (e := 27) (S := New wo) (by rfl) _ _ 24 (by rfl) RFact.steady rowFacts _ out (by rfl) ((HO3.out.alloc RFact.steady _).alloc RFact.steady _) (w3.heap.size + 1) 1 #[.string f.name, .slice av f.args.length ac] 27 (0, 0) f (by rfl) (heap_new_at (by simp)) rfl (by simp [Value.oneCell']) (RFact.behind HO.out hsz (Nat.le_refl _) HR3.out (((Agree.refl _ _).alloc _).alloc _)) (by omega) (by simp; omega) ?_; intro v4 w4 hown4 hg4 hat4; rw [← HS1.out] at hown4; have HO4 := Lib.hid hown4; have HB4 := Lib.hid ((((HB3.out.alloc (by omega) _).alloc (by simp; omega) _).grown hg4 (by simp; omega) (fun q hq => (HO3.out.row_lt hq).1))); clear hown4 hg4 hat4))
        go_roundw
        case rel => exact ⟨k + 1, by omega, by go_num, HO4, HB4⟩
        case measure => simp [intOf]; omega
    · have htk : ls.take k = ls := List.take_of_length_le (by omega)
      rw [htk] at HO
      have hle : (ls.filterMap fun b => fillP x.head b).length ≤ 1073741824 := Nat.le_trans (List.length_filterMap_le _ _) (by omega)
      have hal : ∀ y ∈ ls.filterMap (fun b => fillP x.head b), y.args.length ≤ 1073741824 := fun y hy => by
        obtain ⟨b, -, hb⟩ := List.mem_filterMap.1 hy
        rw [fill_args hb]; omega
      have KO := Lib.hid (ofCalls _ _ wr (HO.out.read RFact.steady) hle hal)
      clear htk hle hal
      generalize (ls.filterMap fun b => fillP x.head b) = out at *
      go_wp2_with (go_at_call 61; refine (KO.out).mono ?_; rintro e w3 ⟨⟨v3, rfl, ho3⟩, hb3⟩; obtain ⟨a3, c3, rfl, -, -, -⟩ := id (ho3.read RFact.steady).form; have HB3 := Lib.hid (HBW.out.trans (hb3.mono (Below.size HBW.out))); have HO3 := Lib.hid ho3; clear hb3 ho3)
      go_ret2
      exact facts_ok HE.out HB3.out ((HO3.out.lower (Below.size HBW.out)).moreS RFact.steady fun b hb _ => Nat.le_trans (Below.size HBW.out) hb)
end Go.Proofs.YtoffggiaecclmaaGreat

/-
  THE WALKS OF THE PARSER's body AND program.
-/
namespace Go.Proofs.YtoffggiaecclmaaGreat
open Go.RowKit

theorem rowAtoms : RowT Tryz.prog 89 88 3 := RowT.mk' (b := 48) (z := .agg #[.bool false, .string ⟨#[]⟩, .slice none 0 0]) Tryz.underlying89 (by kernel_rfl) (by omega) rfl (by omega)
theorem rowRules : RowT Tryz.prog 23 91 4 := RowT.mk' (b := 72) (z := .agg #[.bool false, .string ⟨#[]⟩, .slice none 0 0, .slice none 0 0]) Tryz.underlying23 (by kernel_rfl) (by omega) rfl (by omega)


theorem Owned.butS {α : Type} {k : Nat} {R : Reader α} {B C : Nat} {e : TypeId} {S : Nat → Prop} {w w' : World} {v : Value} {l : List α} (h : Owned k R B e S w v l) (hR : Steady R) (hb : But C w w') (hC : C < B) (hS : ¬ S C) : Owned k R B e S w' v l :=
  h.keep hR ⟨hb.size, fun b hb' hlt => hb.block b hlt (fun e => hS (by rw [← Option.some.inj e]; exact hb'))⟩ fun g hg => hb.block g (h.row_lt hg).2 (fun e => by have := (h.row_lt hg).1; have := Option.some.inj e; omega)
theorem But.agree {B : Nat} {S : Nat → Prop} {w w' : World} (h : But B w w') (hS : ¬ S B) : Agree S w w' :=
  ⟨h.size, fun b hb hlt => h.block b hlt (fun e => hS (by rw [← Option.some.inj e]; exact hb))⟩
theorem Agree.setCell {S : Nat → Prop} {w : World} {p : Addr} (hS : ¬ S p.block) (u : Value) : Agree S w (w.setCell p u) := ⟨by simp [World.setCell], fun b hb _ => Below.heap_setCell _ _ _ _ (fun e => hS (by rw [← e]; exact hb))⟩
theorem atomF_posF {s : Str} {k : Nat} {no : Bool} {x : PAtom} {r : Bytes} (h : atomF no (rest s k) = .ok (x, r)) : rest s (posF s r) = r := by
  have := atomF_suffix no (rest s k)
  rw [h] at this
  exact rest_posF (List.IsSuffix.trans (l₂ := rest s k) this (rest_suffix s k))
theorem bodyF_posF {s : Str} {k n : Nat} {acc x : List PAtom} {r : Bytes} (h : bodyF n acc (rest s k) = .ok (x, r)) : rest s (posF s r) = r := by
  have := bodyF_suffix n acc (rest s k)
  rw [h] at this
  exact rest_posF (List.IsSuffix.trans (l₂ := rest s k) this (rest_suffix s k))
theorem bodyF_bad {n : Nat} {acc : List PAtom} {r r' : Bytes} {er : Int} (h : atomF true r = .error (er, r')) : bodyF (n + 1) acc r = .error (er, r') := by rw [bodyF, h]
theorem bodyF_good {n : Nat} {acc : List PAtom} {r r1 : Bytes} {x : PAtom} (h : atomF true r = .ok (x, r1)) : bodyF (n + 1) acc r = if eatsF [44] r1 then bodyF n (acc ++ [x]) (eatF [44] r1) else .ok (acc ++ [x], eatF [44] r1) := by rw [bodyF, h]

def VAtoms (w : World) (l : List PAtom) (v : Value) (w' : World) : Prop := RdAtoms (New w) w' v l
def VRules (w : World) (l : List PRule) (v : Value) (w' : World) : Prop := RdRules (New w) w' v l

attribute [local go_sem ↓] Go.wp_at_zero Go.wp_at_succ
set_option maxRecDepth 100000 in
set_option maxHeartbeats 8000000 in
theorem bodyCalls (B : Nat) (s : Str) (k : Nat) (w : World) (hs : s.size ≤ 1048576) (h : Ps B s k w) :
    Calls Tryz.prog 54 #[.pointer (some ⟨B, 0, none⟩)] w fun e w' => Ends B s w (VAtoms w) (bodyF 5 [] (rest s k)) e w' := by
  have hBw := h.lt
  have hk := h.le
  have HP0 := Lib.hid h
  have hs' : s.size ≤ 1099511627776 := by omega
  clear h
  obtain ⟨g, HG⟩ : ∃ g, Hid (bodyF 5 [] (rest s k) = g) := ⟨_, Lib.hid rfl⟩
  rw [HG.out]
  go_enter Tryz.func54, Tryz.ntmps54
  go_wp2
  go_loopg [3] 6 (fun gk v wr => ∃ (n : Nat) (acc : List PAtom) (j : Nat), gk = n + 1 ∧ acc.length + n = 5 ∧ j ≤ s.size ∧ Hid (Ps B s j wr) ∧ Hid (But B w wr) ∧ Hid (Owned 3 RAtom w.heap.size 88 (New w) wr v acc) ∧ Hid (g = bodyF n acc (rest s j)))
  case atStart => exact ⟨5, [], k, rfl, rfl, hk, HP0, Lib.hid (But.refl B w), Lib.hid Owned.nil, Lib.hid HG.out.symm⟩
  case round =>
    obtain ⟨n, acc, j, rfl, hn, hj, HP, HB, HO, HR⟩ := hrel
    obtain ⟨ta, tc, rfl, -, -, -⟩ := id (HO.out.read RAtom.steady).form
    cases n with
    | zero =>
      have e4 : ((acc.length : Int) == 5) = true := beq_iff_eq.2 (by omega)
      have HE := Lib.hid (show g = .error (5, rest s j) from HR.out)
      go_wp2_with (go_at_call 51; refine (failCalls B s j 5 _ HP.out).mono ?_; rintro e w7 ⟨rfl, rfl⟩)
      exact ⟨rfl, Ends.mk_error HE.out HB.out (by rw [posF_rest s hj])⟩
    | succ n =>
      have e4 : ((acc.length : Int) == 5) = false := beq_eq_false_iff_ne.2 (by omega)
      rcases hw : atomF true (rest s j) with ⟨er, r'⟩ | ⟨x, r3⟩
      · have HE := Lib.hid (show g = .error (er, r') by rw [HR.out]; exact bodyF_bad hw)
        have HW := Lib.hid hw
        clear hw
        go_wp2_with (go_at_call 52; refine (atomCalls B s j true _ hs HP.out).mono ?_; rintro e w7 h7; obtain ⟨hb7, rfl⟩ := h7.error HW.out; have HB7 := Lib.hid (HB.out.trans hb7); clear h7 hb7)
        exact ⟨rfl, Ends.mk_error HE.out HB7.out rfl⟩
      have HK4 := Lib.hid (atomF_posF hw)
      have hk4 := posF_le s r3
      obtain ⟨k4, hk4'⟩ : ∃ j, posF s r3 = j := ⟨_, rfl⟩
      have HR4 := Lib.hid (show g = if eatsF [44] (rest s k4) then bodyF n (acc ++ [x]) (eatF [44] (rest s k4)) else .ok (acc ++ [x], eatF [44] (rest s k4)) by
        rw [HR.out, bodyF_good hw, ← hk4', HK4.out])
      have HW := Lib.hid hw
      rw [hk4'] at hk4
      have ATOM : Hid (∀ W, Ps B s j W → Calls Tryz.prog 52 #[.pointer (some ⟨B, 0, none⟩), .bool true] W fun e w' => But B W w' ∧ (∃ tv, e = .returned (.agg #[.bool x.neg, .string x.name, tv]) ∧ RdTerms (New W) w' tv x.terms) ∧ Ps B s k4 w') := Lib.hid fun W hp => (atomCalls B s j true W hs hp).mono fun e w' h4 => by
        obtain ⟨hb4, v, rfl, ⟨tv, rfl, hr⟩, hp4⟩ := h4.ok HW.out
        rw [hk4'] at hp4
        exact ⟨hb4, ⟨tv, rfl, hr⟩, hp4⟩
      have hk5 := posF_le s (eatF [44] (rest s k4))
      have HK5 := Lib.hid (posF_eat s k4 [44])
      obtain ⟨k5, hk5'⟩ : ∃ j, posF s (eatF [44] (rest s k4)) = j := ⟨_, rfl⟩
      have EAT : Hid (∀ W, Ps B s k4 W → Calls Tryz.prog 53 #[.pointer (some ⟨B, 0, none⟩), .string ⟨#[44]⟩] W fun e w' => e = .returned (.bool (eatsF [44] (rest s k4))) ∧ Ps B s k5 w' ∧ But B W w') := Lib.hid fun W hp => by
        have := eatCalls B s k4 ⟨#[44]⟩ W hs' (by decide) hp
        rw [← hk5']
        exact this
      rw [hk5'] at HK5 hk5
      have HJ5 := Lib.hid hk5'
      have HLEN := Lib.hid (show (acc ++ [x]).length = acc.length + 1 by simp)
      clear hw hk4' hk5' HR HW
      cases he : eatsF [44] (rest s k4)
      all_goals
        rw [he] at HR4 EAT
        first | rw [if_neg (by decide)] at HR4 | rw [if_pos rfl, ← HK5.out] at HR4
        clear he
        go_wp2_with (first
          | (go_at_call 52; refine (ATOM.out _ HP.out).mono ?_; rintro e w4 ⟨hb4, ⟨tv, rfl, hr4⟩, hp4⟩; obtain ⟨xa, xc, rfl, -, -, -⟩ := id hr4.form; have HP4 := Lib.hid hp4; have HB4 := Lib.hid (HB.out.trans hb4); have HO4 := Lib.hid (HO.out.butS RAtom.steady hb4 hBw (by show ¬ w.heap.size ≤ B; omega)); have HT4 := Lib.hid hr4; have hz4 := hb4.size; have HZ := Lib.hid (fun q (hq : (Value.slice ta acc.length tc).ownBlock = some q) => (HO.out.row_lt hq).2); clear hb4 hp4 hr4)
          | (at_builtin; refine wpList_append_one (B := w.heap.size) (e := 88) (S := New w) (by rfl) _ _ 89 (by rfl) RAtom.steady rowAtoms _ acc (by rfl) (HO4.out.alloc RAtom.steady _) _ 1 #[.bool x.neg, .string x.name, .slice xa x.terms.length xc] 88 (0, 0) x (by rfl) (heap_alloc_new _ _) rfl (by simp [Value.oneCell']) ⟨_, rfl, (HT4.out.agree RTerm.steady ((Agree.refl _ _).alloc _)).more RTerm.steady (fun q hq _ => ⟨Nat.le_trans HB.out.size hq, fun e => by have := HZ.out q e.symm; have hq' : wr.heap.size ≤ q := hq; omega⟩)⟩ (by omega) (by have := HB4.out.size; simp; omega) ?_; intro v6 w6 hown6 hg6 hat6; have HO6 := Lib.hid hown6; have HP6 := Lib.hid ((HP4.out.alloc (.cells #[.bool x.neg, .string x.name, .slice xa x.terms.length xc] 88)).grown hg6 (fun e => by have := (HO4.out.row_lt e.symm).1; omega)); have HB6 := Lib.hid ((HB4.out.alloc (.cells #[.bool x.neg, .string x.name, .slice xa x.terms.length xc] 88)).row hg6 (fun q hq => (HO4.out.row_lt hq).1)); obtain ⟨a6, c6, rfl, -, -, -⟩ := id (HO6.out.read RAtom.steady).form; clear hown6 hg6 hat6)
          | (go_at_call 53; refine (EAT.out _ HP6.out).mono ?_; rintro e w8 ⟨rfl, hp8, hb8⟩; have HP8 := Lib.hid hp8; have HB8 := Lib.hid (HB6.out.trans hb8); have HO8 := Lib.hid (HO6.out.butS RAtom.steady hb8 hBw (by show ¬ w.heap.size ≤ B; omega)); clear hp8 hb8))
      · rw [HLEN.out] at HO8
        go_wp2
        go_ret
        exact Ends.mk_ok HR4.out HB8.out rfl ((HO8.out.read RAtom.steady).more RAtom.steady (fun b hb _ => hb.elim id id)) (by rw [HJ5.out]; exact HP8.out)
      · rw [HLEN.out] at HO8
        go_roundg (n + 1)
        case measure => omega
        case rel => exact ⟨n, acc ++ [x], k5, rfl, by have := HLEN.out; omega, hk5, HP8, HB8, HO8, HR4⟩

/-! ### program -/
theorem progF_blank (n : Nat) (acc : List PRule) (r : Bytes) : progF n acc (blankF false r) = progF n acc r := by
  cases n <;> simp only [progF, blankF_idem]
theorem progF_end (n : Nat) (acc : List PRule) : progF n acc [] = .ok (acc, []) := by
  cases n <;> simp [progF, blankF]
theorem progF_many {acc : List PRule} {r : Bytes} (h : blankF false r = r) (hr : r ≠ []) : progF 0 acc r = .error (5, r) := by
  simp only [progF, h, if_neg hr]
def tail3 (n : Nat) (acc : List PRule) (h : PAtom) (b : List PAtom) (r : Bytes) : Got (List PRule) :=
  if eatsF [46] r then progF n (acc ++ [⟨h, b⟩]) (eatF [46] r) else .error (2, eatF [46] r)
theorem progF_step {n : Nat} {acc : List PRule} {r : Bytes} (h : blankF false r = r) (hr : r ≠ []) : progF (n + 1) acc r = match atomF false r with
    | .error e => .error e
    | .ok (x, r1) => match (if eatsF [58, 45] r1 then bodyF 5 [] (eatF [58, 45] r1) else .ok ([], eatF [58, 45] r1) : Got (List PAtom)) with
      | .error e => .error e
      | .ok (b, r3) => tail3 n acc x b r3 := by
  simp only [progF, h, if_neg hr, ruleF, headF, tailF]
  rcases atomF false r with e | ⟨x, r1⟩
  · rfl
  · dsimp only
    rcases (if eatsF [58, 45] r1 then bodyF 5 [] (eatF [58, 45] r1) else .ok ([], eatF [58, 45] r1) : Got (List PAtom)) with e | ⟨b, r3⟩
    · rfl
    · dsimp only
      unfold tail3 mustF
      cases eatsF [46] r3 <;> rfl
theorem rest_ne (s : Str) {k : Nat} (h : k < s.size) : rest s k ≠ [] := by rw [rest_cons s k h]; simp

set_option maxRecDepth 100000 in
set_option maxHeartbeats 8000000 in
theorem programCalls (B : Nat) (s : Str) (k : Nat) (w : World) (hs : s.size ≤ 1048576) (h : Ps B s k w) :
    Calls Tryz.prog 34 #[.pointer (some ⟨B, 0, none⟩)] w fun e w' => Ends B s w (VRules w) (progF 16 [] (rest s k)) e w' := by
  have hBw := h.lt
  have hk := h.le
  have HP0 := Lib.hid h
  have hs' : s.size ≤ 1099511627776 := by omega
  clear h
  obtain ⟨g, HG⟩ : ∃ g, Hid (progF 16 [] (rest s k) = g) := ⟨_, Lib.hid rfl⟩
  rw [HG.out]
  have HK0 := Lib.hid (posF_blank s k)
  have hk0 := posF_le s (blankF false (rest s k))
  have BL : Hid (∀ W, Ps B s k W → Calls Tryz.prog 50 #[.pointer (some ⟨B, 0, none⟩)] W fun e w' => e = .returned (.tuple #[]) ∧ Ps B s (posF s (blankF false (rest s k))) w' ∧ But B W w') := Lib.hid fun W hp => blankCalls B s k W hs' hp
  have HG0 := Lib.hid (show g = progF 16 [] (rest s (posF s (blankF false (rest s k)))) by rw [HK0.out, progF_blank, HG.out])
  have HI0 := Lib.hid (show blankF false (rest s (posF s (blankF false (rest s k)))) = rest s (posF s (blankF false (rest s k))) by rw [HK0.out, blankF_idem])
  generalize posF s (blankF false (rest s k)) = k0 at *
  clear HG HK0
  go_enter Tryz.func34, Tryz.ntmps34
  go_wp2_with (go_at_call 50; refine (BL.out _ HP0.out).mono ?_; rintro e w1 ⟨rfl, hp1, hb1⟩; have HP1 := Lib.hid hp1; have HB1 := Lib.hid hb1; clear hp1 hb1)
  clear BL HP0
  go_loopg [3] 17 (fun gk v wr => ∃ (n : Nat) (acc : List PRule) (j : Nat), gk = n + 1 ∧ acc.length + n = 16 ∧ j ≤ s.size ∧ Hid (Ps B s j wr) ∧ Hid (But B w wr) ∧ Hid (Owned 4 RRule w.heap.size 91 (New w) wr v acc) ∧ Hid (g = progF n acc (rest s j)) ∧ Hid (blankF false (rest s j) = rest s j))
  case atStart => exact ⟨16, [], k0, rfl, rfl, hk0, HP1, HB1, Lib.hid Owned.nil, HG0, HI0⟩
  case round =>
    clear HG0 HI0 hk0 HP1 HB1
    obtain ⟨n, acc, j, rfl, hn, hj, HP, HB, HO, HR, HI⟩ := hrel
    obtain ⟨ta, tc, rfl, -, -, -⟩ := id (HO.out.read RRule.steady).form
    have c0 := HP.out.c0
    have c1 := HP.out.c1
    have j0 : (0 : Int) ≤ (j : Int) := by omega
    by_cases hlt : j < s.size
    rotate_left
    · have j1 : ¬ (j : Int) < (s.size : Int) := by omega
      obtain rfl : j = s.size := by omega
      have HE := Lib.hid (show g = .ok (acc, []) by rw [HR.out, rest_end s s.size (Nat.le_refl _)]; exact progF_end n acc)
      go_wp2
      go_quiet (fail)
      go_wp2
      go_ret
      exact Ends.mk_ok HE.out (HB.out.drewN _) rfl (((HO.out.below RRule.steady (Fresh.below ⟨_, #[], rfl⟩)).read RRule.steady).more RRule.steady (fun b hb _ => hb.elim id id)) (by show Ps B s (s.size - 0) _; exact HP.out.drewN _)
    have j1 : (j : Int) < (s.size : Int) := by omega
    have HNE := Lib.hid (rest_ne s hlt)
    cases n with
    | zero =>
      have e4 : ((acc.length : Int) == 16) = true := beq_iff_eq.2 (by omega)
      have HE := Lib.hid (show g = .error (5, rest s j) by rw [HR.out]; exact progF_many HI.out HNE.out)
      go_wp2
      go_quiet (fail)
      go_wp2_with (go_at_call 51; refine (failCalls B s j 5 _ (HP.out.drewN _)).mono ?_; rintro e w7 ⟨rfl, rfl⟩)
      exact ⟨rfl, Ends.mk_error HE.out (HB.out.drewN _) (by rw [posF_rest s hj])⟩
    | succ n =>
      have e4 : ((acc.length : Int) == 16) = false := beq_eq_false_iff_ne.2 (by omega)
      have HR1 := Lib.hid (HR.out.trans (progF_step HI.out HNE.out))
      clear HR HI HNE
      rcases hw : atomF false (rest s j) with ⟨er, r'⟩ | ⟨x, r3⟩
      · have HE := Lib.hid (show g = .error (er, r') by rw [HR1.out, hw])
        have HW := Lib.hid hw
        clear hw
        go_wp2
        go_quiet (fail)
        go_wp2_with (go_at_call 52; refine (atomCalls B s j false _ hs (HP.out.drewN _)).mono ?_; rintro e w7 h7; obtain ⟨hb7, rfl⟩ := h7.error HW.out; have HB7 := Lib.hid ((HB.out.drewN _).trans hb7); clear h7 hb7)
        exact ⟨rfl, Ends.mk_error HE.out HB7.out rfl⟩
      have HK1 := Lib.hid (atomF_posF hw)
      have hk1 := posF_le s r3
      obtain ⟨k1, hk1'⟩ : ∃ j, posF s r3 = j := ⟨_, rfl⟩
      rw [hk1'] at HK1 hk1
      have HR2 := Lib.hid (show g = match (if eatsF [58, 45] (rest s k1) then bodyF 5 [] (eatF [58, 45] (rest s k1)) else .ok ([], eatF [58, 45] (rest s k1)) : Got (List PAtom)) with
          | .error e => .error e
          | .ok (b, r3) => tail3 n acc x b r3 by
        rw [HR1.out, hw, HK1.out])
      have HW := Lib.hid hw
      have ATOM : Hid (∀ W, Ps B s j W → Calls Tryz.prog 52 #[.pointer (some ⟨B, 0, none⟩), .bool false] W fun e w' => But B W w' ∧ (∃ tv, e = .returned (.agg #[.bool x.neg, .string x.name, tv]) ∧ RdTerms (New W) w' tv x.terms) ∧ Ps B s k1 w') := Lib.hid fun W hp => (atomCalls B s j false W hs hp).mono fun e w' h4 => by
        obtain ⟨hb4, v, rfl, ⟨tv, rfl, hr⟩, hp4⟩ := h4.ok HW.out
        rw [hk1'] at hp4
        exact ⟨hb4, ⟨tv, rfl, hr⟩, hp4⟩
      clear hw hk1' HR1 HW HK1
      have hk2 := posF_le s (eatF [58, 45] (rest s k1))
      have HK2 := Lib.hid (posF_eat s k1 [58, 45])
      obtain ⟨k2, hk2'⟩ : ∃ j, posF s (eatF [58, 45] (rest s k1)) = j := ⟨_, rfl⟩
      have EAT : Hid (∀ W, Ps B s k1 W → Calls Tryz.prog 53 #[.pointer (some ⟨B, 0, none⟩), .string ⟨#[58, 45]⟩] W fun e w' => e = .returned (.bool (eatsF [58, 45] (rest s k1))) ∧ Ps B s k2 w' ∧ But B W w') := Lib.hid fun W hp => by
        have := eatCalls B s k1 ⟨#[58, 45]⟩ W hs' (by decide) hp
        rw [← hk2']
        exact this
      rw [hk2'] at HK2 hk2
      rw [← HK2.out] at HR2
      clear hk2'
      go_wp2
      go_quiet (fail)
      cases he : eatsF [58, 45] (rest s k1)
      all_goals
        rw [he] at HR2 EAT
        first | rw [if_neg (by decide)] at HR2 | rw [if_pos rfl] at HR2
        clear he
        go_wp2_with (first
          | (go_at_call 52; refine (ATOM.out _ (HP.out.drewN _)).mono ?_; rintro e w4 ⟨hb4, ⟨tv, rfl, hr4⟩, hp4⟩; obtain ⟨xa, xc, rfl, -, -, -⟩ := id hr4.form; have HP4 := Lib.hid hp4; have HB4 := Lib.hid ((HB.out.drewN _).trans hb4); have HO4 := Lib.hid ((HO.out.below RRule.steady (Fresh.below ⟨_, #[], rfl⟩)).butS RRule.steady hb4 hBw (by show ¬ w.heap.size ≤ B; omega)); have HT4 := Lib.hid (show RdTerms (New wr) w4 _ _ from hr4); have hz4 : wr.heap.size ≤ w4.heap.size := hb4.size; have HZ := Lib.hid (fun q (hq : (Value.slice ta acc.length tc).ownBlock = some q) => (HO.out.row_lt hq).2); clear hb4 hp4 hr4)
          | (go_at_call 53; refine (EAT.out _ (HP4.out.alloc (.cells #[.bool x.neg, .string x.name, .slice xa x.terms.length xc, .slice none 0 0] 91))).mono ?_; rintro e w5 ⟨rfl, hp5, hb5⟩; have HP5 := Lib.hid hp5; have HB5 := Lib.hid ((HB4.out.alloc (.cells #[.bool x.neg, .string x.name, .slice xa x.terms.length xc, .slice none 0 0] 91)).trans hb5); have HN5 := Lib.hid ((Blk.new w4 91 #[.bool x.neg, .string x.name, .slice xa x.terms.length xc, .slice none 0 0]).but hb5 (by have := HP4.out.lt; omega)); have HO5 := Lib.hid (((HO4.out.moreS RRule.steady (S' := fun q => w.heap.size ≤ q ∧ q ≠ w4.heap.size) (fun b hb hlt => ⟨hb, Nat.ne_of_lt hlt⟩)).alloc RRule.steady (.cells #[.bool x.neg, .string x.name, .slice xa x.terms.length xc, .slice none 0 0] 91)).butS RRule.steady hb5 hBw (fun h => by have := h.1; omega)); have HT5 := Lib.hid (((HT4.out.more RTerm.steady (S' := fun q => wr.heap.size ≤ q ∧ q ≠ w4.heap.size) (fun b hb hlt => ⟨hb, Nat.ne_of_lt hlt⟩)).agree RTerm.steady ((Agree.refl _ _).alloc (.cells #[.bool x.neg, .string x.name, .slice xa x.terms.length xc, .slice none 0 0] 91))).agree RTerm.steady (hb5.agree (fun h => by have := h.1; have := HB.out.size; omega))); clear hb5 hp5))
        clear HP4 HB4 HO4 HT4 ATOM EAT
        have hN1 : wr.heap.size ≤ w4.heap.size := hz4
        have hN2 : w4.heap.size < w5.heap.size := HN5.out.lt
        generalize w4.heap.size = N1 at *
        clear hz4
      · obtain ⟨b, ba, bc, HGA, HNA, HQA⟩ : ∃ (b : List PAtom) (ba : Option Addr) (bc : Nat), Hid (g = tail3 n acc x b (rest s k2)) ∧ Hid (Blk w5 N1 91 #[.bool x.neg, .string x.name, .slice xa x.terms.length xc, .slice ba b.length bc]) ∧ Hid (RdAtoms (fun q => wr.heap.size ≤ q ∧ q ≠ N1) w5 (.slice ba b.length bc) b) :=
          ⟨[], none, 0, HR2, HN5, RdSlice.nothing (Nat.zero_le _) (fun _ => rfl)⟩
        have HPA := HP5
        have HBA := HB5
        have HOA := HO5
        have HTA := HT5
        have hkA := hk2
        clear HR2 HN5 HP5 HB5 HO5 HT5 HK2 hk2
        generalize k2 = k3 at *
        generalize w5 = wA at *
        have hk4 := posF_le s (eatF [46] (rest s k3))
        have HK4 := Lib.hid (posF_eat s k3 [46])
        obtain ⟨k4, hk4'⟩ : ∃ j, posF s (eatF [46] (rest s k3)) = j := ⟨_, rfl⟩
        have MUST := Lib.hid (fun W hp => mustCalls B s k3 ⟨#[46]⟩ W hs' (by decide) hp)
        have hm : eatsF [46] (rest s k3) = true ∨ eatsF [46] (rest s k3) = false := by cases eatsF [46] (rest s k3) <;> simp
        rcases hm with hm | hm
        rotate_left
        · have HE := Lib.hid (show g = .error (2, eatF [46] (rest s k3)) by rw [HGA.out]; unfold tail3; rw [hm]; rfl)
          have MU : Hid (∀ W, Ps B s k3 W → Calls Tryz.prog 55 #[.pointer (some ⟨B, 0, none⟩), .string ⟨#[46]⟩] W fun e w' => e = .panicked (oopsV 2 (posF s (eatF [46] (rest s k3)))) ∧ But B W w') := Lib.hid fun W hp => (MUST.out W hp).mono fun e w' ⟨he, hp', hb'⟩ => ⟨by rw [he]; exact if_neg (by show ¬ eatsF [46] (rest s k3) = true; rw [hm]; simp), hb'⟩
          clear hm MUST HGA hk4' HK4
          go_wp2_with (go_at_call 55; refine (MU.out _ HPA.out).mono ?_; rintro e w9 ⟨rfl, hb9⟩; have HB9 := Lib.hid (HBA.out.trans hb9); clear hb9)
          exact ⟨rfl, Ends.mk_error HE.out HB9.out rfl⟩
        have HG4 := Lib.hid (show g = progF n (acc ++ [⟨x, b⟩]) (rest s (posF s (blankF false (rest s k4)))) by
          rw [posF_blank, progF_blank, ← hk4', HK4.out, HGA.out]; unfold tail3; rw [hm]; rfl)
        have HI4 := Lib.hid (show blankF false (rest s (posF s (blankF false (rest s k4)))) = rest s (posF s (blankF false (rest s k4))) by rw [posF_blank, blankF_idem])
        have MU : Hid (∀ W, Ps B s k3 W → Calls Tryz.prog 55 #[.pointer (some ⟨B, 0, none⟩), .string ⟨#[46]⟩] W fun e w' => e = .returned (.tuple #[]) ∧ Ps B s k4 w' ∧ But B W w') := Lib.hid fun W hp => (MUST.out W hp).mono fun e w' ⟨he, hp', hb'⟩ => ⟨by rw [he]; exact if_pos hm, by rw [← hk4']; exact hp', hb'⟩
        have hk5 := posF_le s (blankF false (rest s k4))
        have BLK : Hid (∀ W, Ps B s k4 W → Calls Tryz.prog 50 #[.pointer (some ⟨B, 0, none⟩)] W fun e w' => e = .returned (.tuple #[]) ∧ Ps B s (posF s (blankF false (rest s k4))) w' ∧ But B W w') := Lib.hid fun W hp => blankCalls B s k4 W hs' hp
        rw [hk4'] at hk4
        have HLEN := Lib.hid (show (acc ++ [(⟨x, b⟩ : PRule)]).length = acc.length + 1 by simp)
        clear hm MUST HGA HK4 hk4'
        generalize posF s (blankF false (rest s k4)) = k5 at *
        go_wp2_with (first
          | (go_at_call 55; refine (MU.out _ HPA.out).mono ?_; rintro e w7 ⟨rfl, hp7, hb7⟩; have HP7 := Lib.hid hp7; have HB7 := Lib.hid (HBA.out.trans hb7); have HN7 := Lib.hid (HNA.out.but hb7 (by have := HB.out.size; omega)); have HO7 := Lib.hid (HOA.out.butS RRule.steady hb7 hBw (fun h => by have := h.1; omega)); have HT7 := Lib.hid (HTA.out.agree RTerm.steady (hb7.agree (fun h => by have := h.1; have := HB.out.size; omega))); have HQ7 := Lib.hid (HQA.out.agree RAtom.steady (hb7.agree (fun h => by have := h.1; have := HB.out.size; omega))); have d0 : w7.cell? ⟨N1, 0, none⟩ = some (.bool x.neg) := HN7.out.cell 0; have d1 : w7.cell? ⟨N1, 1, none⟩ = some (.string x.name) := HN7.out.cell 1; have d2 : w7.cell? ⟨N1, 2, none⟩ = some (.slice xa x.terms.length xc) := HN7.out.cell 2; have d3 : w7.cell? ⟨N1, 3, none⟩ = some (.slice ba b.length bc) := HN7.out.cell 3; clear hp7 hb7)
          | (at_builtin; refine wpList_append_one (B := w.heap.size) (e := 91) (S := fun q => w.heap.size ≤ q ∧ q ≠ N1) (by rfl) _ _ 23 (by rfl) RRule.steady rowRules _ acc (by rfl) (HO7.out.alloc RRule.steady _) _ 1 #[.bool x.neg, .string x.name, .slice xa x.terms.length xc, .slice ba b.length bc] 91 (0, 0) ⟨x, b⟩ (by rfl) (heap_alloc_new _ _) rfl (by simp [Value.oneCell']) ⟨_, _, rfl, (HT7.out.agree RTerm.steady ((Agree.refl _ _).alloc _)).more RTerm.steady (fun q hq _ => ⟨⟨Nat.le_trans HB.out.size hq.1, hq.2⟩, fun e => by have := HZ.out q e.symm; have := hq.1; omega⟩), (HQ7.out.agree RAtom.steady ((Agree.refl _ _).alloc _)).more RAtom.steady (fun q hq _ => ⟨⟨Nat.le_trans HB.out.size hq.1, hq.2⟩, fun e => by have := HZ.out q e.symm; have := hq.1; omega⟩)⟩ (by omega) (by have := HB7.out.size; simp; omega) ?_; intro v8 w8 hown8 hg8 hat8; have HO8 := Lib.hid (hown8.moreS RRule.steady (S' := New w) (fun q hq _ => hq.1)); have HP8 := Lib.hid ((HP7.out.alloc (.cells #[.bool x.neg, .string x.name, .slice xa x.terms.length xc, .slice ba b.length bc] 91)).grown hg8 (fun e => by have := (HO7.out.row_lt e.symm).1; omega)); have HB8 := Lib.hid ((HB7.out.alloc (.cells #[.bool x.neg, .string x.name, .slice xa x.terms.length xc, .slice ba b.length bc] 91)).row hg8 (fun q hq => (HO7.out.row_lt hq).1)); obtain ⟨a8, c8, rfl, -, -, -⟩ := id (HO8.out.read RRule.steady).form; clear hown8 hg8 hat8)
          | (go_at_call 50; refine (BLK.out _ HP8.out).mono ?_; rintro e w9 ⟨rfl, hp9, hb9⟩; have HP9 := Lib.hid hp9; have HB9 := Lib.hid (HB8.out.trans hb9); have HO9 := Lib.hid (HO8.out.butS RRule.steady hb9 hBw (by show ¬ w.heap.size ≤ B; omega)); clear hp9 hb9))
        rw [HLEN.out] at HO9
        go_roundg (n + 1)
        case measure => omega
        case rel => exact ⟨n, acc ++ [⟨x, b⟩], k5, rfl, by have := HLEN.out; omega, hk5, HP9, HB9, HO9, HG4, HI4⟩
      · rcases hw2 : bodyF 5 [] (eatF [58, 45] (rest s k1)) with ⟨er, r'⟩ | ⟨b, r3⟩
        · have HE := Lib.hid (show g = .error (er, r') by rw [HR2.out, HK2.out, hw2])
          have HW := Lib.hid (HK2.out ▸ hw2 : bodyF 5 [] (rest s k2) = .error (er, r'))
          clear hw2
          go_wp2_with (go_at_call 54; refine (bodyCalls B s k2 _ hs HP5.out).mono ?_; rintro e w7 h7; obtain ⟨hb7, rfl⟩ := h7.error HW.out; have HB7 := Lib.hid (HB5.out.trans hb7); clear h7 hb7)
          exact ⟨rfl, Ends.mk_error HE.out HB7.out rfl⟩
        have HW := Lib.hid (show bodyF 5 [] (rest s k2) = .ok (b, r3) by rw [HK2.out]; exact hw2)
        have HK3 := Lib.hid (bodyF_posF HW.out)
        have hkA := posF_le s r3
        obtain ⟨k3, hk3'⟩ : ∃ j, posF s r3 = j := ⟨_, rfl⟩
        rw [hk3'] at HK3 hkA
        have HGA := Lib.hid (show g = tail3 n acc x b (rest s k3) by rw [HR2.out, HK2.out, hw2, HK3.out])
        have HJ3 := Lib.hid hk3'
        clear hw2 hk3' HR2
        go_wp2_with fail
        refine (bodyCalls B s k2 _ hs HP5.out).mono ?_
        rintro e w6 h6
        obtain ⟨hb6, v6, rfl, hv6, hp6⟩ := h6.ok HW.out
        rw [HJ3.out] at hp6
        have hv6' : RdAtoms (New w5) w6 v6 b := hv6
        obtain ⟨ba, bc, rfl, -, -, -⟩ := id hv6'.form
        have HPA := Lib.hid (hp6.far (p := ⟨N1, 3, none⟩) (show B ≠ N1 by have := hp6.lt; have := HP5.out.lt; have := HB.out.size; omega) (.slice ba b.length bc))
        have HN6 := Lib.hid (HN5.out.but hb6 (by have := HB.out.size; omega))
        have HNA := Lib.hid (show Blk (w6.setCell ⟨N1, 3, none⟩ (.slice ba b.length bc)) N1 91 #[.bool x.neg, .string x.name, .slice xa x.terms.length xc, .slice ba b.length bc] from HN6.out.set_ 3 _)
        have hc6 : w6.cell? ⟨N1, 3, none⟩ = some (.slice none 0 0) := HN6.out.cell 3
        have hf6 := HN6.out.frozen 3
        have HBA := Lib.hid ((HB5.out.trans hb6).setCell (p := ⟨N1, 3, none⟩) (.inr (Nat.le_trans HB.out.size hN1)) (.slice ba b.length bc))
        have HOA := Lib.hid ((HO5.out.butS RRule.steady hb6 hBw (fun h => by have := h.1; omega)).setCell RRule.steady (p := ⟨N1, 3, none⟩) (fun h => h.2 rfl) (fun e => by have := HZ.out _ e; simp at this; omega) (.slice ba b.length bc))
        have HTA := Lib.hid ((HT5.out.agree RTerm.steady (hb6.agree (fun h => by have := h.1; have := HB.out.size; omega))).agree RTerm.steady (Agree.setCell (p := ⟨N1, 3, none⟩) (fun h => h.2 rfl) (.slice ba b.length bc)))
        have HQA := Lib.hid ((hv6'.more RAtom.steady (S' := fun q => wr.heap.size ≤ q ∧ q ≠ N1) (fun q hq _ => ⟨by have hq' : w5.heap.size ≤ q := hq; omega, by have hq' : w5.heap.size ≤ q := hq; omega⟩)).agree RAtom.steady (Agree.setCell (p := ⟨N1, 3, none⟩) (fun h => h.2 rfl) (.slice ba b.length bc)))
        clear h6 hb6 hp6 hv6
        clear HP5 HB5 HN5 HO5 HT5 HK2 hk2 HW HK3 HJ3
        have hk4 := posF_le s (eatF [46] (rest s k3))
        have HK4 := Lib.hid (posF_eat s k3 [46])
        obtain ⟨k4, hk4'⟩ : ∃ j, posF s (eatF [46] (rest s k3)) = j := ⟨_, rfl⟩
        have MUST := Lib.hid (fun W hp => mustCalls B s k3 ⟨#[46]⟩ W hs' (by decide) hp)
        have hm : eatsF [46] (rest s k3) = true ∨ eatsF [46] (rest s k3) = false := by cases eatsF [46] (rest s k3) <;> simp
        rcases hm with hm | hm
        rotate_left
        · have HE := Lib.hid (show g = .error (2, eatF [46] (rest s k3)) by rw [HGA.out]; unfold tail3; rw [hm]; rfl)
          have MU : Hid (∀ W, Ps B s k3 W → Calls Tryz.prog 55 #[.pointer (some ⟨B, 0, none⟩), .string ⟨#[46]⟩] W fun e w' => e = .panicked (oopsV 2 (posF s (eatF [46] (rest s k3)))) ∧ But B W w') := Lib.hid fun W hp => (MUST.out W hp).mono fun e w' ⟨he, hp', hb'⟩ => ⟨by rw [he]; exact if_neg (by show ¬ eatsF [46] (rest s k3) = true; rw [hm]; simp), hb'⟩
          clear hm MUST HGA hk4' HK4
          go_wp2_with (go_at_call 55; refine (MU.out _ HPA.out).mono ?_; rintro e w9 ⟨rfl, hb9⟩; have HB9 := Lib.hid (HBA.out.trans hb9); clear hb9)
          exact ⟨rfl, Ends.mk_error HE.out HB9.out rfl⟩
        have HG4 := Lib.hid (show g = progF n (acc ++ [⟨x, b⟩]) (rest s (posF s (blankF false (rest s k4)))) by
          rw [posF_blank, progF_blank, ← hk4', HK4.out, HGA.out]; unfold tail3; rw [hm]; rfl)
        have HI4 := Lib.hid (show blankF false (rest s (posF s (blankF false (rest s k4)))) = rest s (posF s (blankF false (rest s k4))) by rw [posF_blank, blankF_idem])
        have MU : Hid (∀ W, Ps B s k3 W → Calls Tryz.prog 55 #[.pointer (some ⟨B, 0, none⟩), .string ⟨#[46]⟩] W fun e w' => e = .returned (.tuple #[]) ∧ Ps B s k4 w' ∧ But B W w') := Lib.hid fun W hp => (MUST.out W hp).mono fun e w' ⟨he, hp', hb'⟩ => ⟨by rw [he]; exact if_pos hm, by rw [← hk4']; exact hp', hb'⟩
        have hk5 := posF_le s (blankF false (rest s k4))
        have BLK : Hid (∀ W, Ps B s k4 W → Calls Tryz.prog 50 #[.pointer (some ⟨B, 0, none⟩)] W fun e w' => e = .returned (.tuple #[]) ∧ Ps B s (posF s (blankF false (rest s k4))) w' ∧ But B W w') := Lib.hid fun W hp => blankCalls B s k4 W hs' hp
        rw [hk4'] at hk4
        have HLEN := Lib.hid (show (acc ++ [(⟨x, b⟩ : PRule)]).length = acc.length + 1 by simp)
        clear hm MUST HGA HK4 hk4'
        generalize posF s (blankF false (rest s k4)) = k5 at *
        go_wp2_with (first
          | (go_at_call 55; refine (MU.out _ HPA.out).mono ?_; rintro e w7 ⟨rfl, hp7, hb7⟩; have HP7 := Lib.hid hp7; have HB7 := Lib.hid (HBA.out.trans hb7); have HN7 := Lib.hid (HNA.out.but hb7 (by have := HB.out.size; omega)); have HO7 := Lib.hid (HOA.out.butS RRule.steady hb7 hBw (fun h => by have := h.1; omega)); have HT7 := Lib.hid (HTA.out.agree RTerm.steady (hb7.agree (fun h => by have := h.1; have := HB.out.size; omega))); have HQ7 := Lib.hid (HQA.out.agree RAtom.steady (hb7.agree (fun h => by have := h.1; have := HB.out.size; omega))); have d0 : w7.cell? ⟨N1, 0, none⟩ = some (.bool x.neg) := HN7.out.cell 0; have d1 : w7.cell? ⟨N1, 1, none⟩ = some (.string x.name) := HN7.out.cell 1; have d2 : w7.cell? ⟨N1, 2, none⟩ = some (.slice xa x.terms.length xc) := HN7.out.cell 2; have d3 : w7.cell? ⟨N1, 3, none⟩ = some (.slice ba b.length bc) := HN7.out.cell 3; clear hp7 hb7)
          | (at_builtin; refine wpList_append_one (B := w.heap.size) (e := 91) (S := fun q => w.heap.size ≤ q ∧ q ≠ N1) (by rfl) _ _ 23 (by rfl) RRule.steady rowRules _ acc (by rfl) (HO7.out.alloc RRule.steady _) _ 1 #[.bool x.neg, .string x.name, .slice xa x.terms.length xc, .slice ba b.length bc] 91 (0, 0) ⟨x, b⟩ (by rfl) (heap_alloc_new _ _) rfl (by simp [Value.oneCell']) ⟨_, _, rfl, (HT7.out.agree RTerm.steady ((Agree.refl _ _).alloc _)).more RTerm.steady (fun q hq _ => ⟨⟨Nat.le_trans HB.out.size hq.1, hq.2⟩, fun e => by have := HZ.out q e.symm; have := hq.1; omega⟩), (HQ7.out.agree RAtom.steady ((Agree.refl _ _).alloc _)).more RAtom.steady (fun q hq _ => ⟨⟨Nat.le_trans HB.out.size hq.1, hq.2⟩, fun e => by have := HZ.out q e.symm; have := hq.1; omega⟩)⟩ (by omega) (by have := HB7.out.size; simp; omega) ?_; intro v8 w8 hown8 hg8 hat8; have HO8 := Lib.hid (hown8.moreS RRule.steady (S' := New w) (fun q hq _ => hq.1)); have HP8 := Lib.hid ((HP7.out.alloc (.cells #[.bool x.neg, .string x.name, .slice xa x.terms.length xc, .slice ba b.length bc] 91)).grown hg8 (fun e => by have := (HO7.out.row_lt e.symm).1; omega)); have HB8 := Lib.hid ((HB7.out.alloc (.cells #[.bool x.neg, .string x.name, .slice xa x.terms.length xc, .slice ba b.length bc] 91)).row hg8 (fun q hq => (HO7.out.row_lt hq).1)); obtain ⟨a8, c8, rfl, -, -, -⟩ := id (HO8.out.read RRule.steady).form; clear hown8 hg8 hat8)
          | (go_at_call 50; refine (BLK.out _ HP8.out).mono ?_; rintro e w9 ⟨rfl, hp9, hb9⟩; have HP9 := Lib.hid hp9; have HB9 := Lib.hid (HB8.out.trans hb9); have HO9 := Lib.hid (HO8.out.butS RRule.steady hb9 hBw (by show ¬ w.heap.size ≤ B; omega)); clear hp9 hb9))
        rw [HLEN.out] at HO9
        go_roundg (n + 1)
        case measure => omega
        case rel => exact ⟨n, acc ++ [⟨x, b⟩], k5, rfl, by have := HLEN.out; omega, hk5, HP9, HB9, HO9, HG4, HI4⟩
end Go.Proofs.YtoffggiaecclmaaGreat

/-
  A GUARDED APPEND, in a plain region.
-/
namespace Go.Proofs.YtoffggiaecclmaaGreat
open Go.RowKit

/-! ### A guarded append -/
theorem wpList_plain_w {P : Program} {ops : Array Oper} {Q : Exit → Act → World → Prop} {a : Act} {w : World} {rest : List Oper} {o : Oper} (hw : Region.wanted o (yielded ops a.tmps) = true)
    (h : ∀ K : Act → World → Prop, (∀ a w, wpList P ops Q rest a w → K a w) → o.wp P a w K Q) : wpList P ops Q (o :: rest) a w :=
  wpList_step fun K hK => by simp only [hw, if_true]; exact h K hK

theorem wpList_append_many_w {P : Program} {w : World} {α : Type} {k : Nat} {R : Reader α} {B : Nat} {e : TypeId} {S : Nat → Prop} {ops : Array Oper} {rest : List Oper} {o : Oper} {a : Act} {Q : Exit → Act → World → Prop} (hgd : Region.wanted o (yielded ops a.tmps) = true) (s x : Operand) (t : TypeId)
    (ho : o.op = .call { callee := .builtin .append, args := #[s, x], argTypes := #[t, t] }) (hR : Steady R) (hcell : ∀ {S w cs x}, R S w cs x → ∀ u ∈ cs, u.oneCell' = true) (T : RowT P t e k) (v : Value) (l : List α) (hs : a.eval s = v) (hown : Owned k R B e S w v l)
    (v2 : Value) (l2 : List α) (hx : a.eval x = v2) {S2 : Nat → Prop} (h2 : RdSlice k R S2 w v2 l2) (hm : ∀ cs x, R S2 w cs x → R (fun b => S b ∧ some b ≠ v.ownBlock) w cs x) (hlen : l.length + l2.length < 1099511627776) (hbase : B ≤ w.heap.size)
    (h : ∀ v' w', Owned k R B e S w' v' (l ++ l2) → w.grownBy w' v.ownBlock → (v'.ownBlock = v.ownBlock ∨ v'.ownBlock = some w.heap.size) → wpList P ops Q rest (a.put o.dst v') w') : wpList P ops Q (o :: rest) a w :=
  wpList_plain_w hgd fun K hK => by
    obtain ⟨v', w', hrun, q2, q3, q4⟩ := run_append_many (P := P) (ty := o.type) hR hcell T hown h2 hm hlen hbase
    unfold Oper.wp execOp
    simp only [ho, resolve, invoke, builtin, Sem.run_bind, Sem.run_pure, Result.andThen_ok, List.map_toArray, List.map_cons, List.map_nil, hs, hx, hrun]
    exact hK _ _ (h v' w' q2 q3 q4)

theorem RRule.one {S : Nat → Prop} {w : World} {cs : List Value} {x : PRule} (h : RRule S w cs x) : ∀ u ∈ cs, u.oneCell' = true := by
  obtain ⟨tv, bv, rfl, hr, hq⟩ := h
  obtain ⟨a, c, rfl, -⟩ := hr.form
  obtain ⟨b, d, rfl, -⟩ := hq.form
  simp [Value.oneCell']
end Go.Proofs.YtoffggiaecclmaaGreat
