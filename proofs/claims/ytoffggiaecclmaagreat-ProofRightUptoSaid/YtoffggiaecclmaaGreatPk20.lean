/-
  THE TEXTS Alive7, OpenProof, ProofQ, Ref1Less, Ref1Same, SameP, one behind the other.
-/
import Derived.Test.YtoffggiaecclmaaGreatPk2
import Derived.Test.YtoffggiaecclmaaGreatPk3
import Derived.Test.YtoffggiaecclmaaGreatPk15
import Derived.Test.YtoffggiaecclmaaGreatPk16
import Derived.Test.YtoffggiaecclmaaGreatPk19
/-
  THE WALK OF corolaw7.alive: true.
-/
namespace Go.Proofs.YtoffggiaecclmaaGreat
open Go.RowKit

def xq : Str := ⟨#[113]⟩
def a7Prog : List PRule := [⟨⟨false, xb, [⟨true, xX⟩]⟩, [⟨false, xa, [⟨true, xX⟩]⟩]⟩]
def a7Facts : List PFact := [⟨xa, [xq]⟩]
def a7Fact : PFact := ⟨xb, [xq]⟩
def a7Proof : PProof := .mk a7Fact 0 [.mk ⟨xa, [xq]⟩ (-1) []]
theorem prove_a7 : proveP [0] 0 a7Prog a7Facts a7Fact = (some a7Proof, 0) := by kernel_rfl
theorem check_a7 : checkN [0] 0 a7Prog a7Facts 62 a7Proof = 0 := by decide +kernel
theorem cnt_a7 : cntN 62 a7Proof = 2 ∧ depN 62 a7Proof = 2 := by decide +kernel
theorem wrong_a7 : wrongP a7Prog = (0, 0) := by decide +kernel
theorem small_a7 : ∀ r ∈ a7Prog, RuleSmall r := fun r hr => ruleSmall_of (List.all_eq_true.1 (show a7Prog.all ruleSmallB = true by decide +kernel) r hr)
theorem names_a7 : ∀ r ∈ a7Prog, NameSmall r := fun r hr => nameSmall_of (List.all_eq_true.1 (show a7Prog.all nameSmallB = true by decide +kernel) r hr)
theorem least_a7 : Least a7Prog (fun _ => 0) := least_plain fun r hr a ha => by
  have h := List.all_eq_true.1 (show a7Prog.all (fun r => r.body.all fun a => !a.neg) = true by decide +kernel) r hr
  simpa using List.all_eq_true.1 h a ha
theorem strata_a7 : StrataIs a7Prog [0] (0, 0) := .inr ⟨by rw [wrong_a7], .inl ⟨_, least_a7, by decide +kernel, rfl⟩⟩
theorem args_a7 : ∀ x ∈ a7Facts, x.args.length ≤ 1048576 := fun x hx => of_decide_eq_true (List.all_eq_true.1 (show a7Facts.all (fun a => decide (a.args.length ≤ 1048576)) = true by decide +kernel) x hx)
theorem small7 : smallN 62 a7Proof := ⟨by decide, by decide, fun k hk => by
  obtain rfl := List.mem_singleton.1 hk
  exact ⟨by decide, by decide, fun y hy => by simp [PProof.kids] at hy⟩⟩
theorem a7_post {w w' : World} {e : Ending} (h : ProvePost (some a7Proof, 0) w e w') : Below w.heap.size w w' ∧ ∃ aa ac ka kc, e = .returned (.tuple #[.agg #[.string xb, .slice aa 1 ac, .int .i64 0, .slice ka 1 kc], .int .i64 0]) ∧ RdStrs (New w) w' (.slice aa 1 ac) [xq] ∧ RdProofs 61 (New w) w' (.slice ka 1 kc) a7Proof.kids := h
/-- One fact, laid as the text lays it. -/
theorem a7_lit (W : World) {n : Nat} (h : W.heap.size = n) : RdFacts (fun _ => True) ((W.alloc (.cells #[.string xq] 9)).alloc (.cells #[.string xa, .slice (some ⟨n, 0, none⟩) 1 1] 27)) (.slice (some ⟨n + 1, 0, none⟩) 1 1) a7Facts :=
  RdFacts.lit [.slice (some ⟨n, 0, none⟩) 1 1] rfl (by simp [maxLen]) rfl (Blk.at_ (by simp; omega)) fun i f v hf hv => by
    rcases i with _ | i
    · obtain rfl := Option.some.inj hf
      obtain rfl := Option.some.inj hv
      exact RdStrs.lit rfl (by simp [maxLen]) ((Blk.at_ (t := 9) h).alloc _)
    · simp [a7Facts] at hf
set_option maxRecDepth 100000 in
set_option maxHeartbeats 8000000 in
theorem alive7Calls (w : World) : Calls Tryz.prog 6 #[] w fun e w' => e = .returned (.bool true) ∧ Below w.heap.size w w' := by
  have T1 := Lib.hid True.intro
  go_enter Tryz.func6, Tryz.ntmps6
  go_wp2_with (go_at_call 14; clear T1; refine (parseKnown (s := ⟨#[98, 40, 88, 41, 32, 58, 45, 32, 97, 40, 88, 41, 46]⟩) (p := a7Prog) (n := 1) (by rfl) (by decide) (by decide +kernel) _).mono ?_; rintro e w1 ⟨⟨a1, c1, rfl, hr1⟩, hb1⟩; have HR1 := Lib.hid (hr1.up ((Below.refl w1.heap.size w1).alloc (Nat.le_refl _) (.cells #[.int .i64 0, .int .i64 0] 47))); have HB1 := Lib.hid (hb1.alloc hb1.size (.cells #[.int .i64 0, .int .i64 0] 47)); clear hr1 hb1)
  have HBA := Lib.hid (show Below (w1.alloc (.cells #[.int .i64 0, .int .i64 0] 47)).heap.size (w1.alloc (.cells #[.int .i64 0, .int .i64 0] 47)) ((((w1.alloc (.cells #[.int .i64 0, .int .i64 0] 47)).alloc (.cells #[.string xq] 9)).alloc (.cells #[.string xa, .slice (some ⟨(w1.heap.size + 1), 0, none⟩) 1 1] 27)).alloc (.cells #[.string xq] 9)) from (((Below.refl _ _).alloc (Nat.le_refl _) _).alloc (by simp) _).alloc (by simp) _)
  (go_at_call 10; refine (proveCalls a7Prog _ _ [0] (0, 0) a7Facts a7Fact _ _ strata_a7 (HR1.out.up HBA.out) (RdFacts.up (a7_lit (w1.alloc (.cells #[.int .i64 0, .int .i64 0] 47)) (n := w1.heap.size + 1) (by simp)) ((Below.refl _ _).alloc (Nat.le_refl _) (.cells #[.string xq] 9))) (RdStrs.lit (l := [xq]) (n := 1) rfl (by simp [maxLen]) (Blk.at_ (t := 9) (by simp))) (by decide) small_a7 names_a7 (by decide) args_a7 (by decide)).mono ?_; rw [prove_a7]; rintro e w2 hp2; obtain ⟨hb2, aa, ac, ka, kc, rfl, hra, hrk⟩ := a7_post hp2; have HB2 := Lib.hid ((HB1.out.trans (HBA.out.mono HB1.out.size)).trans (hb2.mono (HB1.out.trans (HBA.out.mono HB1.out.size)).size)); have HB3 := Lib.hid (HB2.out.alloc HB2.out.size (.cells #[.string xb, .slice aa 1 ac, .int .i64 0, .slice ka 1 kc] 30)); have HR3 := Lib.hid (((HR1.out.up HBA.out).up hb2).up ((Below.refl w2.heap.size w2).alloc (Nat.le_refl _) (.cells #[.string xb, .slice aa 1 ac, .int .i64 0, .slice ka 1 kc] 30))); have HX3 := Lib.hid (Blk.new w2 30 #[.string xb, .slice aa 1 ac, .int .i64 0, .slice ka 1 kc]); have HRA3 := Lib.hid (RdSlice.agree RStr.steady ((Agree.refl _ _).alloc (.cells #[.string xb, .slice aa 1 ac, .int .i64 0, .slice ka 1 kc] 30)) (hra.more RStr.steady (S' := fun _ => True) (fun _ _ _ => trivial))); have HRK3 := Lib.hid (RdSlice.agree (RProofN.steady 61) ((Agree.refl _ _).alloc (.cells #[.string xb, .slice aa 1 ac, .int .i64 0, .slice ka 1 kc] 30)) (hrk.more (RProofN.steady 61) (S' := fun _ => True) (fun _ _ _ => trivial))); clear hp2 hb2 hra hrk)
  go_wp2_with (first
    | (go_at_call 7; have hh := HX4.out; clear hh; refine (checkCalls a7Prog _ _ [0] (0, 0) a7Facts 61 a7Proof (.slice aa 1 ac) (.slice ka 1 kc) _ strata_a7 (HR4.out.up (((Below.refl w4.heap.size w4).alloc (Nat.le_refl _) (.cells #[.string xq] 9)).alloc (by simp) (.cells #[.string xa, .slice (some ⟨w4.heap.size, 0, none⟩) 1 1] 27))) (a7_lit w4 rfl) (RdStrs.up HRA4.out (((Below.refl w4.heap.size w4).alloc (Nat.le_refl _) (.cells #[.string xq] 9)).alloc (by simp) (.cells #[.string xa, .slice (some ⟨w4.heap.size, 0, none⟩) 1 1] 27))) (RdSlice.agree (RProofN.steady 61) (((Agree.refl _ _).alloc _).alloc _) HRK4.out) small7 (by rw [cnt_a7.1]; decide) (by decide) small_a7 names_a7 (by decide) args_a7).mono ?_; rw [check_a7]; rintro e w5 ⟨rfl, hb5⟩; have hb5' := ((HB4.out.alloc HB4.out.size (.cells #[.string xq] 9)).alloc (HB4.out.alloc HB4.out.size (.cells #[.string xq] 9)).size (.cells #[.string xa, .slice (some ⟨w4.heap.size, 0, none⟩) 1 1] 27)); have HB5 := Lib.hid (hb5'.trans (hb5.mono hb5'.size)); clear hb5 hb5')
    | (go_at_call 15; have hh := HX3.out; clear hh; refine (sizeCalls 61 a7Proof (.string xb) (.slice aa 1 ac) (.slice ka 1 kc) 0 _ HRK3.out (by rw [cnt_a7.1]; decide)).mono ?_; rw [cnt_a7.1, cnt_a7.2]; rintro e w4 ⟨rfl, hb4⟩; have HB4 := Lib.hid (HB3.out.trans (hb4.mono HB3.out.size)); have HR4 := Lib.hid (HR3.out.up hb4); have HX4 := Lib.hid (HX3.out.below hb4 HX3.out.lt); have HRA4 := Lib.hid (RdStrs.up HRA3.out hb4); have HRK4 := Lib.hid (RdSlice.agree (RProofN.steady 61) (Below.agree hb4) HRK3.out); have k0 := HX4.out.cell 0; have k1 := HX4.out.cell 1; have k2 := HX4.out.cell 2; have k3 := HX4.out.cell 3; simp only [List.getElem?_toArray, List.getElem?_cons_zero, List.getElem?_cons_succ] at k0 k1 k2 k3; have hx5 := (HX4.out.alloc (.cells #[.string ⟨#[113]⟩] 9)).alloc (.cells #[.string ⟨#[97]⟩, .slice (some ⟨w4.heap.size, 0, none⟩) 1 1] 27); have j0 := hx5.cell 0; have j1 := hx5.cell 1; have j2 := hx5.cell 2; have j3 := hx5.cell 3; simp only [List.getElem?_toArray, List.getElem?_cons_zero, List.getElem?_cons_succ] at j0 j1 j2 j3; clear hb4 hx5))
  go_ret
  exact ⟨ret_bool (by simp), HB5.out⟩
end Go.Proofs.YtoffggiaecclmaaGreat

/-
  THE ENTRY OF A PROOF: from the row's reading of an argument of type api.Proof to RProofN.
-/
namespace Go.Proofs.YtoffggiaecclmaaGreat
open Go.RowKit Go.ChangeShapes Go.WideShapes Go.Deep

theorem slice_below {α : Type} {P : Program} {t e : TypeId} {k : Nat} {R : Reader α} {size : α → Nat} (hcells : P.cellsOf e = k) (hpos : 0 < k) (ht : P.underlying t = some (.slice e)) {H : Type} {enc : TypeId × Value → H} {w : World} {n : Nat} {cs : List Value} {x : DataW H × List MemPlace}
    (hop : ∀ (n' : Nat) (cs' : List Value) (z : DataW H × List MemPlace), SizeOf.sizeOf z.1 < SizeOf.sizeOf x.1 → DataW.trod enc P w 0 (fun _ => true) true n' e cs' = some z → ∃ y, R (fun _ => True) w cs' y ∧ size y ≤ Rows.uptoBulk z.1)
    (hx : DataW.trod enc P w 0 (fun _ => true) true n t cs = some x) : ∃ v l, cs = [v] ∧ RdSlice k R (fun _ => True) w v l ∧ sizeL size l ≤ Rows.uptoBulk x.1 := by
  rcases open_slice ht hx with ⟨rfl, rfl⟩ | ⟨a, len, cap, m, n', D, Pl, rfl, -, hl, hm, hmm, rfl, hi⟩
  · exact ⟨_, [], rfl, ⟨none, 0, rfl, Nat.le_refl _, Nat.zero_le _, fun _ => rfl, fun i x hx => by simp at hx⟩, by simp [sizeL, Rows.uptoBulk]⟩
  · simp only [if_true] at hmm
    subst hmm
    have main : ∀ j, j ≤ len → ∃ l : List α, l.length = j ∧ (∀ i y, l[i]? = some y → ∃ cs', w.cells? 0 (a.add (i * P.cellsOf e)) (P.cellsOf e) = some cs' ∧ R (fun _ => True) w cs' y) ∧ (l.map size).sum ≤ Rows.uptoBulkAll ((List.range j).map D) := by
      intro j
      induction j with
      | zero => exact fun _ => ⟨[], rfl, fun i y hy => by simp at hy, by simp⟩
      | succ j ih =>
        intro hj
        obtain ⟨l, h1, h2, h3⟩ := ih (by omega)
        obtain ⟨cs', g1, g2⟩ := hi j (by omega)
        obtain ⟨y, r1, r2⟩ := hop _ cs' (D j, Pl j) (by have h1 := List.sizeOf_lt_of_mem (List.mem_map_of_mem (f := D) (List.mem_range.2 (show j < len by omega))); simp only [DataW.slice.sizeOf_spec]; omega) g2
        refine ⟨l ++ [y], by simp [h1], fun i z hz => ?_, ?_⟩
        · by_cases hij : i < j
          · rw [List.getElem?_append_left (by omega)] at hz; exact h2 i z hz
          · rw [List.getElem?_append_right (by omega)] at hz
            have : i - l.length = 0 := by
              have := (List.getElem?_eq_some_iff.1 hz).1
              simp at this; omega
            rw [this] at hz
            obtain rfl : y = z := by simpa using hz
            obtain rfl : i = j := by omega
            exact ⟨cs', g1, r1⟩
        · rw [List.range_succ, List.map_append (f := D), bulk_append, List.map_append, List.sum_append]
          simp [Rows.uptoBulkAll]
          simp at r2
          omega
    obtain ⟨l, h1, h2, h3⟩ := main len (Nat.le_refl _)
    refine ⟨_, l, rfl, ⟨some a, m, by rw [h1], by omega, hm, (fun e => by cases e), fun i y hy => ?_⟩, by simp only [sizeL, Rows.uptoBulk]; omega⟩
    obtain ⟨cs', g1, g2⟩ := h2 i y hy
    obtain ⟨-, hlen, hget⟩ := World.cells?_some g1
    rw [hcells] at hlen hget
    have hk := hpos
    obtain ⟨b, off, spot⟩ := a
    have hspot : spot = none ∧ b < w.heap.size := by
      obtain ⟨y0, hy0⟩ : ∃ y0, l[0]? = some y0 := ⟨_, List.getElem?_eq_getElem (by have := (List.getElem?_eq_some_iff.1 hy).1; omega)⟩
      obtain ⟨cs0, g3, -⟩ := h2 0 y0 hy0
      obtain ⟨-, hlen0, hget0⟩ := World.cells?_some g3
      rw [hcells] at hlen0 hget0
      have h0 := hget0 0 hk
      rw [List.getElem?_eq_getElem (by omega)] at h0
      have := cell_spot h0
      simpa [Addr.add] using this
    obtain ⟨rfl, hb⟩ := hspot
    refine ⟨b, off, cs', rfl, trivial, hb, hlen, fun j u hu => ?_, g2⟩
    · have hj : j < k := by rw [← hlen]; exact (List.getElem?_eq_some_iff.1 hu).1
      have := hget j hj
      rw [hu] at this
      have hadd : ((⟨b, off, none⟩ : Addr).add (i * k)).add j = ⟨b, off + i * k + j, none⟩ := by
        unfold Addr.add
        split
        · split
          · simp_all
          · simp_all
        · split <;> simp_all <;> omega
      rwa [hadd] at this

/-- How much a proof is. -/
def sizeP : Nat → PProof → Nat
  | 0, _ => 0
  | n + 1, x => 1 + sizeFact x.fact + 1 + sizeL (sizeP n) x.kids
theorem RdSlice.some_ {α : Type} {k : Nat} {R : Reader α} {S : Nat → Prop} {w : World} {v : Value} {l : List α} (h : RdSlice k R S w v l) {x : α} (hx : x ∈ l) : ∃ cs, R S w cs x := by
  obtain ⟨a, cap, hv, h1, h2, h0, h3⟩ := h
  obtain ⟨i, hi⟩ := List.mem_iff_getElem?.1 hx
  obtain ⟨b, off, cs, -, -, -, -, -, hr⟩ := h3 i x hi
  exact ⟨cs, hr⟩
theorem RdSlice.mapG {α β : Type} {k : Nat} {R : Reader α} {R' : Reader β} (g : α → β) {S : Nat → Prop} {w : World} {v : Value} {l : List α} (hg : ∀ x ∈ l, ∀ cs, R S w cs x → R' S w cs (g x)) (h : RdSlice k R S w v l) : RdSlice k R' S w v (l.map g) := by
  obtain ⟨a, cap, hv, h1, h2, h0, h3⟩ := h
  refine ⟨a, cap, by rw [List.length_map]; exact hv, by rw [List.length_map]; exact h1, h2, h0, fun i y hy => ?_⟩
  rw [List.getElem?_map] at hy
  obtain ⟨x, hx, rfl⟩ := Option.map_eq_some_iff.1 hy
  obtain ⟨b, off, cs, ha, hS, hb, hk, hc, hr⟩ := h3 i x hx
  exact ⟨b, off, cs, ha, hS, hb, hk, hc, hg x (List.mem_of_getElem? hx) cs hr⟩
theorem sizeL_congr {α : Type} {f g : α → Nat} {l : List α} (h : ∀ x ∈ l, f x = g x) : sizeL f l = sizeL g l := by unfold sizeL; rw [List.map_congr_left h]
theorem sizeL_mono {α β : Type} {f : α → Nat} {g : β → Nat} {u : α → β} : ∀ {l : List α}, (∀ x ∈ l, g (u x) ≤ f x) → sizeL g (l.map u) ≤ sizeL f l
  | [], _ => Nat.le_refl _
  | x :: l, h => by
    have h1 := sizeL_mono (f := f) (g := g) (u := u) (l := l) fun y hy => h y (by simp [hy])
    have h2 := h x (by simp)
    unfold sizeL at *
    simp only [List.map_cons, List.sum_cons] at *
    omega
theorem sizeP_stable : ∀ {d e : Nat} {S : Nat → Prop} {w : World} {cs : List Value} {y : PProof}, RProofN d S w cs y → d ≤ e → sizeP e y = sizeP d y
  | 0, _, _, _, _, _, h, _ => h.elim
  | d + 1, 0, _, _, _, _, _, h => absurd h (by omega)
  | d + 1, e + 1, S, w, cs, y, ⟨av, kv, hc, hr, hk⟩, h => by
    show 1 + sizeFact y.fact + 1 + sizeL (sizeP e) y.kids = 1 + sizeFact y.fact + 1 + sizeL (sizeP d) y.kids
    rw [sizeL_congr fun k hk' => by obtain ⟨cs', h'⟩ := RdSlice.some_ hk hk'; exact sizeP_stable h' (by omega)]
theorem cnt_sizeP : ∀ (d : Nat) (y : PProof), cntN d y ≤ sizeP d y
  | 0, _ => Nat.le_refl _
  | d + 1, y => by
    have h : ∀ l : List PProof, (l.map (cntN d)).sum ≤ (l.map (sizeP d)).sum := fun l => by
      induction l with
      | nil => simp
      | cons x l ih => have := cnt_sizeP d x; simp only [List.map_cons, List.sum_cons]; omega
    have h1 := h y.kids
    show 1 + (y.kids.map (cntN d)).sum ≤ 1 + sizeFact y.fact + 1 + (1 + (y.kids.map (sizeP d)).sum)
    omega
/-- A proof, how deep and how much it is at most. -/
def RTrip : Reader (PProof × Nat × Nat) := fun S w cs y => RProofN y.2.1 S w cs y.1 ∧ sizeP y.2.1 y.1 ≤ y.2.2
theorem max_mem : ∀ {l : List (PProof × Nat × Nat)} {t : PProof × Nat × Nat}, t ∈ l → t.2.1 ≤ (l.map (·.2.1)).foldr max 0
  | x :: l, t, h => by
    rw [List.map_cons, List.foldr_cons]
    rcases List.mem_cons.1 h with rfl | h
    · exact Nat.le_max_left _ _
    · exact Nat.le_trans (max_mem h) (Nat.le_max_right _ _)
theorem open_proof : ∀ (B : Nat) {H : Type} {enc : TypeId × Value → H} {w : World} {n : Nat} {cs : List Value} {x : DataW H × List MemPlace}, SizeOf.sizeOf x.1 < B → DataW.trod enc Tryz.prog w 0 (fun _ => true) true n 30 cs = some x → ∃ y, RTrip (fun _ => True) w cs y ∧ y.2.2 ≤ Rows.uptoBulk x.1
  | 0, _, _, _, _, _, _, h, _ => absurd h (by omega)
  | B + 1, H, enc, w, n, cs, x, hB, h => by
    obtain ⟨y0, y1, y2, n, rfl, hl, h0, h1, h2⟩ := trod_struct3 Tryz.underlying30 h
    rw [show Tryz.prog.cellsOf 30 = 4 by kernel_rfl] at hl
    obtain ⟨c0, c1, c2, c3, rfl⟩ := list4 hl
    rw [show Tryz.prog.cellsOf 27 = 2 by kernel_rfl] at h0
    rw [show Tryz.prog.cellsOf 3 = 1 by kernel_rfl] at h1
    rw [show Tryz.prog.cellsOf 28 = 1 by kernel_rfl] at h2
    obtain ⟨f, ⟨av, e0, hr0⟩, b0⟩ := openFact.opn h0
    obtain ⟨rl, e1, b1⟩ := openInt.opn h1
    obtain ⟨v, l, e2, hr2, b2⟩ := slice_below (R := RTrip) (size := fun y => y.2.2) (by kernel_rfl : Tryz.prog.cellsOf 30 = 4) (by omega) Tryz.underlying28 (fun n' cs' z hz hz' => open_proof B (by simp only [DataW.agg.sizeOf_spec, List.cons.sizeOf_spec] at hB; omega) hz') h2
    obtain ⟨rfl, rfl⟩ : c0 = .string f.name ∧ c1 = av := by simpa using e0
    obtain rfl : c2 = .int .i64 rl := by simpa [RInt] using e1
    obtain rfl : c3 = v := by simpa using e2
    have hmem : ∀ t ∈ l, sizeP ((l.map (·.2.1)).foldr max 0) t.1 ≤ t.2.2 := fun t ht => by
      obtain ⟨cs', h1, h2⟩ := RdSlice.some_ hr2 ht
      rw [sizeP_stable h1 (max_mem ht)]
      exact h2
    refine ⟨(.mk f rl (l.map (·.1)), (l.map (·.2.1)).foldr max 0 + 1, Rows.uptoBulk (.agg [y0.1, y1.1, y2.1])), ⟨⟨_, _, rfl, hr0, (show RdSlice 4 (RProofN ((l.map (·.2.1)).foldr max 0)) (fun _ => True) w c3 (l.map (·.1)) from RdSlice.mapG (β := PProof) (fun t => t.1) (fun t ht cs' h' => RProofN.mono (max_mem ht) h'.1) hr2)⟩, ?_⟩, Nat.le_refl _⟩
    have h3 : sizeL (sizeP ((l.map (·.2.1)).foldr max 0)) (l.map (·.1)) ≤ sizeL (fun y => y.2.2) l := sizeL_mono fun t ht => hmem t ht
    show 1 + sizeFact f + 1 + sizeL (sizeP ((l.map (·.2.1)).foldr max 0)) (l.map (·.1)) ≤ _
    have hi : sizeInt rl = 1 := rfl
    simp only [Rows.uptoBulk, Rows.uptoBulkAll]
    omega
theorem smallN_of : ∀ {d : Nat} {S : Nat → Prop} {w : World} {cs : List Value} {y : PProof}, RProofN d S w cs y → sizeP d y ≤ 1048576 → smallN d y
  | 0, _, _, _, _, _, _ => trivial
  | d + 1, S, w, cs, y, ⟨av, kv, hc, hr, hk⟩, h => by
    have h' : 1 + sizeFact y.fact + 1 + sizeL (sizeP d) y.kids ≤ 1048576 := h
    have h1 := sizeL_le openStr.one y.fact.args
    simp only [sizeFact] at h'
    refine ⟨by omega, ?_, fun k hk' => ?_⟩
    · cases d with
      | zero => rw [RdProofs.zero hk]; simp
      | succ d =>
        have h2 := sizeL_le (size := sizeP (d + 1)) (fun x => by show 1 ≤ 1 + sizeFact x.fact + 1 + sizeL (sizeP d) x.kids; omega) y.kids
        omega
    · obtain ⟨cs', h2⟩ := RdSlice.some_ hk hk'
      have h3 := sizeL_mem (size := sizeP d) hk'
      exact smallN_of h2 (by omega)
theorem openProof : Opens Tryz.prog 30 4 RTrip (fun y => max 1 y.2.2) where
  cells := by kernel_rfl
  pos := by omega
  one _ := Nat.le_max_left _ _
  opn h := by
    obtain ⟨y, h1, h2⟩ := open_proof _ (Nat.lt_succ_self _) h
    refine ⟨y, h1, Nat.max_le.2 ⟨?_, h2⟩⟩
    obtain ⟨x, d, s⟩ := y
    obtain ⟨h3, h4⟩ := h1
    dsimp only at h2 h3 h4
    cases d with
    | zero => exact h3.elim
    | succ d =>
      have h5 : 1 + sizeFact x.fact + 1 + sizeL (sizeP d) x.kids ≤ s := h4
      omega
/-- An argument of type api.Proof. -/
theorem Opens.proofArg {P : Program} {t : TypeId} (h : Opens P t 4 RTrip (fun y => max 1 y.2.2)) {fs : Array Field} (ht : P.underlying t = some (.struct fs)) {H : Type} {enc : TypeId × Value → H} {W : World} {r : Reach} {b : Nat} {v : Value} {d : DataW H} {p : List MemPlace}
    (hv : Value.okWide P W r b t v) (hd : DataW.Trod enc P W 0 (fun _ => true) true t v d p) (hs : Rows.uptoBulk d ≤ 1048576) :
    ∃ (n : Nat) (x : PProof) (av kv : Value), v = .agg #[.string x.fact.name, av, .int .i64 x.rule, kv] ∧ RdStrs (fun _ => True) W av x.fact.args ∧ RdProofs n (fun _ => True) W kv x.kids ∧ smallN (n + 1) x ∧ cntN (n + 1) x ≤ 1048576 := by
  obtain ⟨⟨x, dd, ss⟩, cs, rfl, ⟨h1, h2⟩, h3⟩ := h.arg ht hv hd
  dsimp only at h1 h2 h3
  have h4 : sizeP dd x ≤ 1048576 := by omega
  cases dd with
  | zero => exact h1.elim
  | succ m =>
    have hsm := smallN_of h1 h4
    have hcn := Nat.le_trans (cnt_sizeP (m + 1) x) h4
    obtain ⟨av, kv, hc, hr, hk⟩ := h1
    exact ⟨m, x, av, kv, by rw [← Array.toArray_toList (xs := cs), hc], hr, hk, hsm, hcn⟩
end Go.Proofs.YtoffggiaecclmaaGreat

/-
  PLAIN: nothing is wrong with a proof that is found.
-/
namespace Go.Proofs.YtoffggiaecclmaaGreat

theorem valT_sub (s b : Binds) (t : PTerm) : valT b (subT s t) = valT (s ++ b) t := by
  unfold subT
  by_cases ht : t.var = true
  · rw [if_pos ht]
    cases hg : getB t.name s with
    | none => dsimp only; unfold valT; rw [if_pos ht, if_pos ht, getB_append, hg]; rfl
    | some n => dsimp only; unfold valT; rw [if_neg (by simp), if_pos ht, getB_append, hg]; rfl
  · rw [if_neg ht]; unfold valT; rw [if_neg ht, if_neg ht]
theorem fillArgs_sub (s b : Binds) : ∀ ts : List PTerm, fillArgs b (ts.map (subT s)) = fillArgs (s ++ b) ts
  | [] => rfl
  | t :: ts => by rw [List.map_cons, fillArgs, fillArgs, valT_sub, fillArgs_sub s b ts]
theorem fillP_sub (s b : Binds) (a : PAtom) : fillP (subA s a) b = fillP a (s ++ b) := by
  unfold fillP subA
  rw [fillArgs_sub]
theorem kidsOf_sub (s b : Binds) (l : List PAtom) : kidsOf (subBody s l) b = kidsOf l (s ++ b) := by
  unfold kidsOf subBody
  rw [List.filterMap_map]
  congr 1
  funext a
  show (if (subA s a).neg then none else fillP (subA s a) b) = _
  rw [fillP_sub]
  rfl
theorem bodyMeet_full {e : Binds} : ∀ (body : List PAtom) (b : Binds), Nd b → SubB b e → (∀ a ∈ body, a.neg = false → ∃ f, fillP a e = some f) →
    (bodyMeet body (kidsOf body e) b).2 = ([], 0) ∧ SubB (bodyMeet body (kidsOf body e) b).1 e
  | [], b, _, hs, _ => ⟨rfl, hs⟩
  | a :: l, b, hd, hs, hf => by
    rw [bodyMeet_cons]
    have ih := fun b hd hs => bodyMeet_full (e := e) l b hd hs (fun x hx => hf x (by simp [hx]))
    by_cases hn : a.neg = true
    · rw [if_pos hn]
      have hk : kidsOf (a :: l) e = kidsOf l e := by unfold kidsOf; rw [List.filterMap_cons, if_pos hn]
      rw [hk]
      exact ih b hd hs
    · rw [if_neg hn]
      obtain ⟨f, hfe⟩ := hf a (by simp) (by simpa using hn)
      have hk : kidsOf (a :: l) e = f :: kidsOf l e := by unfold kidsOf; rw [List.filterMap_cons, if_neg hn, hfe]
      rw [hk]
      dsimp only
      obtain ⟨k1, k2⟩ := fillP_name hfe
      obtain ⟨m, hm, hsm⟩ := meetL_full a.terms f.args b e k2 hs
      have hmp : meetP a f b = some m := by unfold meetP; rw [if_pos ⟨k1, fillArgs_len k2⟩]; exact hm
      rw [hmp]
      exact ih m (meetP_spec hd hmp).2.1 hsm
theorem kids_len {body : List PAtom} {e : Binds} : (kidsOf body e).length ≤ body.length := List.length_filterMap_le _ _
/-- By what a rule tells nothing is wrong with it. -/
theorem ruleG_right {age : Str → Option Int} {M : List PFact} {r : PRule} {f : PFact} {ks : List PFact} (hR : ruleBad r = 0) (h : ruleG age M r f = some ks) {x : PProof} (hx : x.fact = f) (hk : x.kids.map PProof.fact = ks) : ruleOf r M x = 0 := by
  unfold ruleG at h
  split at h
  · cases h
  · rename_i s hs
    split at h
    · cases h
    · rename_i h0
      obtain ⟨b, hf, rfl⟩ := Option.map_eq_some_iff.1 h
      have hm := List.mem_of_find?_eq_some hf
      have hso : ∀ a ∈ r.body, ∃ g, fillP a (s ++ b) = some g ∧ memF g M = !a.neg := fun a ha => by
        obtain ⟨g, h1, h2⟩ := all_so hm (a := subA s a) (List.mem_map.2 ⟨a, ha, rfl⟩)
        rw [fillP_sub] at h1
        exact ⟨g, h1, h2⟩
      obtain ⟨j1, j2, -⟩ := meetP_spec (by simp [Nd, Vs]) hs
      obtain ⟨i1, i2⟩ := bodyMeet_full (e := s ++ b) r.body s j2 SubB.append (fun a ha _ => by obtain ⟨g, hg, -⟩ := hso a ha; exact ⟨g, hg⟩)
      unfold ruleOf
      rw [hx, hs, hk, kidsOf_sub]
      dsimp only
      have e1 : (bodyMeet r.body (kidsOf r.body (s ++ b)) s).2.2 = 0 := by rw [i1]
      have e2 : (bodyMeet r.body (kidsOf r.body (s ++ b)) s).2.1 = [] := by rw [i1]
      rw [if_neg (by simp [e1]), if_neg (by simp [e2]), if_neg]
      rw [Bool.not_eq_true, List.any_eq_false]
      intro a ha
      unfold badNeg
      by_cases hn : a.neg = true
      · obtain ⟨-, i4, i5⟩ := bodyMeet_spec r.body (kidsOf r.body (s ++ b)) s j2 e1 e2
        have hsame : ∀ v ∈ varsOf a, getB v (bodyMeet r.body (kidsOf r.body (s ++ b)) s).1 = getB v (s ++ b) := fun v hv => by
          obtain ⟨a2, ha2, hn2, hv2⟩ := (mem_heldOf v r.body).1 (body_free (ruleBad_zero hR).2.2.1 ha hv)
          obtain ⟨g, -, hg⟩ := i5 a2 ha2 hn2
          have h3 := fillP_vars hg v hv2
          cases hgb : getB v (bodyMeet r.body (kidsOf r.body (s ++ b)) s).1 with
          | none => exact absurd h3 (getB_none.1 hgb)
          | some n => exact (i2 v n hgb).symm
        obtain ⟨g, hg, hgm⟩ := hso a ha
        rw [fillP_congr hsame, hg, hn]
        rw [hn] at hgm
        simpa using hgm
      · have hn' : a.neg = false := by simpa using hn
        rw [hn']
        simp
theorem pickRule_some {age : Str → Option Int} {M : List PFact} {f : PFact} : ∀ {p : List PRule} {i j : Nat} {ks : List PFact}, pickRule age M f i p = some (j, ks) → i ≤ j ∧ ∃ r, p[j - i]? = some r ∧ ruleG age M r f = some ks
  | [], i, j, ks, h => by cases h
  | r :: p, i, j, ks, h => by
    rw [pickRule] at h
    cases hr : ruleG age M r f with
    | some l =>
      rw [hr] at h
      obtain ⟨rfl, rfl⟩ : i = j ∧ l = ks := by simpa using h
      exact ⟨Nat.le_refl _, r, by simp, hr⟩
    | none =>
      rw [hr] at h
      obtain ⟨h1, r', h2, h3⟩ := pickRule_some h
      exact ⟨by omega, r', by rw [show j - i = (j - (i + 1)) + 1 by omega]; exact h2, h3⟩
/-- What is known of a proof that is found, of depth d. -/
structure Fine (p : List PRule) (told M : List PFact) (m d : Nat) (x : PProof) : Prop where
  one : oneN p told M m x = 0
  dep : depN m x + d ≤ 61
  small : smallN m x
theorem firstErr_all {f : PProof → Int} : ∀ {l : List PProof}, (∀ x ∈ l, f x = 0) → firstErr f l = 0
  | [], _ => rfl
  | x :: l, h => by rw [firstErr, if_neg (by simpa using h x (by simp))]; exact firstErr_all fun y hy => h y (by simp [hy])
theorem kids_fine {p : List PRule} {told M : List PFact} {F : Nat → PFact → Option PProof × Nat} {n d : Nat}
    (K : ∀ s k x, wrongF k = 0 → (F s k).1 = some x → x.fact = k ∧ ∀ m, n ≤ m → Fine p told M m d x ∧ (F s k).2 = s + cntN m x) :
    ∀ (ks : List PFact) (xs : List PProof) (s : Nat) (ys : List PProof), (∀ k ∈ ks, wrongF k = 0) → (kidsAcc F xs s ks).1 = some ys →
      ∃ zs, ys = xs ++ zs ∧ zs.map PProof.fact = ks ∧ ∀ m, n ≤ m → (∀ z ∈ zs, Fine p told M m d z) ∧ (kidsAcc F xs s ks).2 = s + (zs.map (cntN m)).sum
  | [], xs, s, ys, _, h => ⟨[], by obtain rfl := Option.some.inj h; simp, rfl, fun m _ => ⟨by simp, by simp [kidsAcc]⟩⟩
  | k :: ks, xs, s, ys, hw, h => by
    rw [kidsAcc] at h ⊢
    have h1 := K s k
    generalize F s k = y at *
    obtain ⟨yo, s'⟩ := y
    cases yo with
    | none => cases h
    | some x =>
      dsimp only at h h1 ⊢
      obtain ⟨e, hx⟩ := h1 x (hw k (by simp)) rfl
      obtain ⟨zs, rfl, hz, hm⟩ := kids_fine K ks _ s' ys (fun k hk => hw k (by simp [hk])) h
      refine ⟨x :: zs, by simp, by rw [List.map_cons, e, hz], fun m hnm => ⟨fun z hzm => ?_, ?_⟩⟩
      · rcases List.mem_cons.1 hzm with rfl | hzm
        · exact (hx m hnm).1
        · exact (hm m hnm).1 z hzm
      · have h2 := (hx m hnm).2
        rw [(hm m hnm).2, List.map_cons, List.sum_cons]
        omega
theorem foldMax_le {B : Nat} : ∀ (l : List Nat) (z : Nat), z ≤ B → (∀ x ∈ l, x ≤ B) → l.foldl max z ≤ B
  | [], z, hz, _ => hz
  | x :: l, z, hz, h => by rw [List.foldl_cons]; exact foldMax_le l _ (Nat.max_le.2 ⟨hz, h x (by simp)⟩) fun y hy => h y (by simp [hy])
theorem findN_fine {p : List PRule} {told M : List PFact} {age : Str → Option Int} (hR : ∀ r ∈ p, ruleBad r = 0) (hM : Good M) : ∀ (n s : Nat) (f : PFact) (d : Nat) (x : PProof), wrongF f = 0 → (findN p told M age n s f d).1 = some x →
    x.fact = f ∧ ∀ m, n ≤ m → Fine p told M m d x ∧ (findN p told M age n s f d).2 = s + cntN m x
  | 0, s, f, d, x, _, h => by cases h
  | n + 1, s, f, d, x, hf, h => by
    have hal : f.args.length ≤ 1048576 := Nat.le_trans (wrongF_zero.1 hf).2.1 (by decide)
    rw [findN] at h ⊢
    split at h
    · cases h
    · rename_i hb
      rw [if_neg hb]
      split at h
      · rename_i hm
        rw [if_pos hm]
        obtain rfl := Option.some.inj h
        refine ⟨rfl, fun m hnm => ?_⟩
        obtain ⟨m, rfl⟩ : ∃ j, m = j + 1 := ⟨m - 1, by omega⟩
        refine ⟨⟨?_, ?_, hal, Nat.zero_le _, fun k hk => by cases hk⟩, rfl⟩
        · show (if (-1 : Int) < 0 then leafBad told (.mk f (-1) []) else _) = 0
          rw [if_pos (by decide)]
          unfold leafBad
          rw [if_neg]
          rintro (h1 | h1 | h1)
          · exact h1 rfl
          · exact h1 rfl
          · have h2 : memF f told = false := h1
            rw [hm] at h2; cases h2
        · show 0 + 1 + d ≤ 61
          omega
      · rename_i hm
        rw [if_neg hm]
        cases hp : pickRule age M f 0 p with
        | none => rw [hp] at h; cases h
        | some z =>
          obtain ⟨i, ks⟩ := z
          rw [hp] at h
          dsimp only at h ⊢
          obtain ⟨-, r, hr, hg⟩ := pickRule_some hp
          rw [Nat.sub_zero] at hr
          have hrp := List.mem_of_getElem? hr
          have hgood := ruleG_good hM (body_atoms (ruleBad_zero (hR r hrp)).2.2.1) hg
          have h2 := kids_fine (p := p) (told := told) (M := M) (F := fun s k => findN p told M age n s k (d + 1)) (n := n) (d := d + 1) (fun s k x hk hx => findN_fine hR hM n s k (d + 1) x hk hx) ks [] (s + 1)
          generalize kidsAcc (fun s k => findN p told M age n s k (d + 1)) [] (s + 1) ks = T at *
          obtain ⟨To, Ts⟩ := T
          cases To with
          | none => cases h
          | some ys =>
            obtain rfl := Option.some.inj h
            obtain ⟨zs, hy, hz, hmz⟩ := h2 ys hgood.2 rfl
            rw [List.nil_append] at hy
            subst hy
            refine ⟨rfl, fun m hnm => ?_⟩
            obtain ⟨m, rfl⟩ : ∃ j, m = j + 1 := ⟨m - 1, by omega⟩
            obtain ⟨h3, h4⟩ := hmz m (by omega)
            have h4' : Ts = s + 1 + (ys.map (cntN m)).sum := h4
            have hlen : ys.length = ks.length := by rw [← hz, List.length_map]
            refine ⟨⟨?_, ?_, hal, ?_, fun k hk => (h3 k hk).small⟩, ?_⟩
            · have hi : ¬ ((i : Int) < 0) := by omega
              show (if (i : Int) < 0 then _ else match p[(i : Int).toNat]? with
                | none => 1
                | some r => if ruleOf r M (.mk f i ys) ≠ 0 then ruleOf r M (.mk f i ys) else firstErr (oneN p told M m) ys) = 0
              rw [if_neg hi, Int.toNat_natCast, hr]
              dsimp only
              rw [if_neg (by simpa using ruleG_right (hR r hrp) hg (x := .mk f i ys) rfl hz)]
              exact firstErr_all fun k hk => (h3 k hk).one
            · show (ys.map (depN m)).foldl max 0 + 1 + d ≤ 61
              have h5 := foldMax_le (B := 60 - d) (ys.map (depN m)) 0 (Nat.zero_le _) fun y hy => by
                obtain ⟨k, hk, rfl⟩ := List.mem_map.1 hy
                have := (h3 k hk).dep
                omega
              omega
            · show ys.length ≤ 1048576
              omega
            · show Ts = s + (1 + (ys.map (cntN m)).sum)
              omega
/-- What proof.Prove answers is right. -/
theorem prove_right {st : List Int} {q : Int × Int} {p : List PRule} {l : List PFact} {f : PFact} {x : PProof} (hS : StrataIs p st q) (h : (proveP st q.1 p l f).1 = some x) {m : Nat} (hm : 61 ≤ m) :
    x.fact = f ∧ checkN st q.1 p l m x = 0 ∧ cntN m x ≤ 400 ∧ smallN m x ∧ (proveP st q.1 p l f).2 = 0 := by
  unfold proveP at h ⊢
  split at h
  · cases h
  · rename_i hq
    rw [if_neg hq]
    split at h
    · cases h
    · rename_i hn
      rw [if_neg hn]
      split at h
      · cases h
      · rename_i hw
        rw [if_neg hw]
        split at h
        · cases h
        · rename_i hme
          rw [if_neg hme]
          have hn' : (naiveP st q.1 p l).2 = 0 := Classical.not_not.1 hn
          obtain ⟨hF, hset, hR⟩ := naive_follows hS hn'
          have hMG : Good (naiveP st q.1 p l).1 := good_of (by rw [hF.set])
          have h3 := findN_fine (told := l) (age := agesP st p l) hR hMG 61 0 f 1
          have h4 := findN_le (p := p) (told := l) (M := (naiveP st q.1 p l).1) (age := agesP st p l) 61 0 f 1
          generalize findN p l (naiveP st q.1 p l).1 (agesP st p l) 61 0 f 1 = y at *
          obtain ⟨yo, ys⟩ := y
          cases yo with
          | none => cases h
          | some y =>
            obtain rfl := Option.some.inj h
            obtain ⟨hx, h5⟩ := h3 y (Classical.not_not.1 hw) rfl
            obtain ⟨h6, h7⟩ := h5 m hm
            have h8 := h4 y (Nat.zero_le _) rfl
            dsimp only at h7 h8
            have hc : cntN m y ≤ 400 := by omega
            refine ⟨hx, ?_, hc, h6.small, rfl⟩
            unfold checkN
            rw [if_neg hn, if_neg (by have := h6.dep; omega)]
            exact h6.one
/-- What isn't proved, and follows, is too great. -/
theorem prove_err {st : List Int} {q : Int} {p : List PRule} {l : List PFact} {f : PFact} (hn : (naiveP st q p l).2 = 0) (hw : wrongF f = 0) (hm : memF f (naiveP st q p l).1 = true) (h : (proveP st q p l f).1 = none) : (proveP st q p l f).2 = 4 := by
  obtain rfl := (naive_zero hn).1
  rw [prove_find hn hw hm] at h ⊢
  generalize findN p l (naiveP st 0 p l).1 (agesP st p l) 61 0 f 1 = y at *
  obtain ⟨yo, ys⟩ := y
  cases yo with
  | none => rfl
  | some x => cases h
theorem prove_not {st : List Int} {q : Int} {p : List PRule} {l : List PFact} {f : PFact} (hn : (naiveP st q p l).2 = 0) (hm : memF f (naiveP st q p l).1 = false) : (proveP st q p l f).1 = none ∧ (proveP st q p l f).2 ≠ 0 := by
  obtain rfl := (naive_zero hn).1
  by_cases hw : wrongF f = 0
  · rw [prove_out hn hw hm]; exact ⟨rfl, by decide⟩
  · rw [prove_wrong hn hw]; exact ⟨rfl, hw⟩
end Go.Proofs.YtoffggiaecclmaaGreat

/-
  THE WALKS OF cororef1.Less and cororef1.Equal: ltF; are they the same?
-/
namespace Go.Proofs.YtoffggiaecclmaaGreat
open Go.RowKit

theorem ltF_name {f g : PFact} (h : f.name ≠ g.name) : ltF f g = strLt f.name g.name := by
  have h0 : cmpStr f.name g.name ≠ 0 := fun e => h ((cmpStr3.zero _ _).1 e)
  have h1 : cmpFact f g = cmpStr f.name g.name := by simp [cmpFact, orInt, h0]
  rw [Bool.eq_iff_iff]
  simp only [ltF, h1, decide_eq_true_eq]
  exact cmpStr_lt _ _
theorem ltF_len {f g : PFact} (h : f.name = g.name) (k : f.args.length ≠ g.args.length) : ltF f g = decide (f.args.length < g.args.length) := by
  have h0 : cmpStr f.name g.name = 0 := (cmpStr3.zero _ _).2 h
  have h2 : cmpInt (f.args.length : Int) g.args.length ≠ 0 := fun e => k (by have := (cmpInt3.zero _ _).1 e; omega)
  have h1 : cmpFact f g = cmpInt f.args.length g.args.length := by simp [cmpFact, orInt, h0, h2]
  rw [Bool.eq_iff_iff]
  simp only [ltF, h1, decide_eq_true_eq, cmpInt]
  split
  · constructor <;> intro <;> omega
  · split <;> constructor <;> intro <;> omega
theorem ltF_args {f g : PFact} (h : f.name = g.name) (k : f.args.length = g.args.length) : ltF f g = decide (cmpStrs f.args g.args < 0) := by
  have h0 : cmpStr f.name g.name = 0 := (cmpStr3.zero _ _).2 h
  have h2 : cmpInt (f.args.length : Int) g.args.length = 0 := (cmpInt3.zero _ _).2 (by omega)
  have h1 : cmpFact f g = cmpStrs f.args g.args := by
    simp only [cmpFact, orInt, h0, h2]
    simp
    intro e; exact e.symm
  simp only [ltF, h1]
theorem cmpStrs_same {x y : Str} {a b : List Str} (h : x = y) : cmpStrs (x :: a) (y :: b) = cmpStrs a b := by
  have h0 : cmpStr x y = 0 := (cmpStr3.zero _ _).2 h
  simp [cmpStrs, h0]
theorem cmpStrs_other {x y : Str} {a b : List Str} (h : x ≠ y) : decide (cmpStrs (x :: a) (y :: b) < 0) = strLt x y := by
  have h0 : cmpStr x y ≠ 0 := fun e => h ((cmpStr3.zero _ _).1 e)
  rw [Bool.eq_iff_iff, decide_eq_true_eq]
  simp only [cmpStrs, if_pos h0]
  exact cmpStr_lt _ _

theorem fresh_drewN {w w' : World} (h : Fresh w w') (n : Nat) : Fresh w (w'.drewN n) := h.trans ⟨n, #[], by simp⟩

attribute [local go_sem ↓] Go.wp_at_zero Go.wp_at_succ
set_option maxRecDepth 100000 in
set_option maxHeartbeats 2000000 in
theorem lessRef {S T : Nat → Prop} (f g : PFact) (av bv : Value) (w : World) (ha : RdStrs S w av f.args) (hb : RdStrs T w bv g.args) (n1 : f.args.length ≤ 1073741824) :
    Calls Tryz.prog 47 #[.agg #[.string f.name, av], .agg #[.string g.name, bv]] w fun e w' => e = .returned (.bool (ltF f g)) ∧ Fresh w w' := by
  obtain ⟨aa, ac, rfl, -, -, -⟩ := id ha.form
  obtain ⟨ba, bc, rfl, -, -, -⟩ := id hb.form
  have HF := Lib.hid (((Fresh.refl w).alloc (.cells #[.string f.name, .slice aa f.args.length ac] 27)).alloc (.cells #[.string g.name, .slice ba g.args.length bc] 27))
  by_cases hn : f.name = g.name
  · have g1 : (f.name.toList == g.name.toList) = true := by rw [hn]; exact beq_self_eq_true _
    by_cases hl : f.args.length = g.args.length
    · have HL := Lib.hid (ltF_args hn hl)
      have HA := Lib.hid (fun W (h : Agree (fun _ => True) w W) i x (hx : f.args[i]? = some x) => RdStrs.at ((ha.more RStr.steady (S' := fun _ => True) (fun _ _ _ => trivial)).agree RStr.steady h) hx)
      have HB := Lib.hid (fun W (h : Agree (fun _ => True) w W) i x (hx : g.args[i]? = some x) => RdStrs.at ((hb.more RStr.steady (S' := fun _ => True) (fun _ _ _ => trivial)).agree RStr.steady h) hx)
      have HN := Lib.hid hl
      rw [← hl]
      rw [← hl] at HF
      clear hn ha hb hl
      have c0 : ((w.alloc (.cells #[.string f.name, .slice aa f.args.length ac] 27)).alloc (.cells #[.string g.name, .slice ba f.args.length bc] 27)).cell? ⟨w.heap.size, 1, none⟩ = some (.slice aa f.args.length ac) := by
        rw [World.cell?_of_block (Below.heap_alloc _ _ _ (show w.heap.size < _ by simp))]; simp
      have c1 : ((w.alloc (.cells #[.string f.name, .slice aa f.args.length ac] 27)).alloc (.cells #[.string g.name, .slice ba f.args.length bc] 27)).cell? ⟨w.heap.size + 1, 1, none⟩ = some (.slice ba f.args.length bc) := by
        have e : w.heap.size + 1 = (w.alloc (.cells #[.string f.name, .slice aa f.args.length ac] 27)).heap.size := by simp
        rw [e]; simp
      have hsz : w.heap.size + 1 < ((w.alloc (.cells #[.string f.name, .slice aa f.args.length ac] 27)).alloc (.cells #[.string g.name, .slice ba f.args.length bc] 27)).heap.size := by simp
      go_enter Tryz.func47, Tryz.ntmps47
      go_wp2
      generalize (w.alloc (.cells #[.string f.name, .slice aa f.args.length ac] 27)).alloc (.cells #[.string g.name, .slice ba f.args.length bc] 27) = w0 at *
      go_loopw [33] (fun i wr => ∃ k : Nat, k ≤ f.args.length ∧ i = .int .i64 k ∧ Hid (ltF f g = decide (cmpStrs (f.args.drop k) (g.args.drop k) < 0)) ∧ Hid (Fresh w0 wr)) (fun i _ => f.args.length - (intOf i).toNat)
      case atStart => exact ⟨0, Nat.zero_le _, rfl, HL, Fresh.refl _⟩
      case round =>
        obtain ⟨k, hk, rfl, HR, HW⟩ := hrel
        have d0 := (cell_below HW.out.below (show w.heap.size < _ by omega) 1).trans c0
        have d1 := (cell_below HW.out.below hsz 1).trans c1
        clear c0 c1
        by_cases hlt : k < f.args.length
        · obtain ⟨x, hx⟩ : ∃ x, f.args[k]? = some x := ⟨_, List.getElem?_eq_getElem hlt⟩
          obtain ⟨y, hy⟩ : ∃ y, g.args[k]? = some y := ⟨_, List.getElem?_eq_getElem (by rw [← HN.out]; exact hlt)⟩
          have hag : Agree (fun _ => True) w wr := Below.agree (HF.out.trans HW.out).below
          obtain ⟨b1, o1, rfl, -, -, hc1⟩ := HA.out wr hag k x hx
          obtain ⟨b2, o2, rfl, -, -, hc2⟩ := HB.out wr hag k y hy
          have HX := Lib.hid hx
          have HY := Lib.hid hy
          clear hx hy hag
          have i1 : (0 : Int) ≤ (k : Int) := by omega
          have i2 : (k : Int) < (f.args.length : Int) := by omega
          by_cases hxy : x = y
          · have gz : (x.toList == y.toList) = true := by rw [hxy]; exact beq_self_eq_true _
            have HXY := Lib.hid hxy
            clear hxy
            go_wp2_with fail
            go_quiet (fail)
            go_wp2
            go_roundw
            case rel =>
              refine ⟨k + 1, by omega, by go_num, ?_, ?_⟩
              · rw [HR.out, drop_cons HX.out, drop_cons HY.out, cmpStrs_same HXY.out]; exact Lib.hid rfl
              · exact Lib.hid (fresh_drewN HW.out _)
            case measure => simp [intOf]; omega
          · have gz : (x.toList == y.toList) = false := by rw [beq_toList]; exact decide_eq_false hxy
            have HXY := Lib.hid (show ltF f g = strLt x y by rw [HR.out, drop_cons HX.out, drop_cons HY.out]; exact cmpStrs_other hxy)
            clear hxy
            obtain ⟨s, hs⟩ : ∃ s, strLt x y = s := ⟨_, rfl⟩
            rw [hs] at HXY
            have gs : Op.bytesLess x.toList y.toList = s := hs
            clear hs
            go_wp2_with fail
            go_quiet (fail)
            go_wp2_with fail
            go_quiet (fail)
            go_wp2
            go_ret
            refine ⟨ret_bool HXY.out.symm, ?_⟩
            exact fresh_drewN (fresh_drewN (HF.out.trans HW.out) _) _
        · have HE := Lib.hid (show ltF f g = false by rw [HR.out, drop_end (by omega : f.args.length ≤ k), drop_end (by rw [← HN.out]; omega : g.args.length ≤ k)]; rfl)
          go_wp2
          go_ret
          exact ⟨ret_bool HE.out.symm, HF.out.trans HW.out⟩
    · have HL := Lib.hid (ltF_len hn hl)
      have i1 : ((f.args.length : Int) == (g.args.length : Int)) = false := by simp; omega
      have i2 : ¬ ((f.args.length : Int) = (g.args.length : Int)) := by omega
      clear hn ha hb
      go_enter Tryz.func47, Tryz.ntmps47
      go_wp2
      go_ret
      exact ⟨by rw [HL.out]; simp, HF.out⟩
  · have HL := Lib.hid (ltF_name hn)
    have g1 : (f.name.toList == g.name.toList) = false := by rw [beq_toList]; exact decide_eq_false hn
    obtain ⟨s, hs⟩ : ∃ s, strLt f.name g.name = s := ⟨_, rfl⟩
    rw [hs] at HL
    have gs : Op.bytesLess f.name.toList g.name.toList = s := hs
    clear hs hn ha hb
    go_enter Tryz.func47, Tryz.ntmps47
    go_wp2
    go_ret
    exact ⟨ret_bool HL.out.symm, HF.out⟩

theorem equal_ltF (f g : PFact) : decide (f = g) = (!ltF f g && !ltF g f) := by
  rw [Bool.eq_iff_iff, decide_eq_true_eq]
  constructor
  · rintro rfl; simp [ltF_irrefl]
  · intro h
    simp only [Bool.and_eq_true, Bool.not_eq_true'] at h
    exact ltF_tri h.1 h.2

set_option maxHeartbeats 2000000 in
theorem equalRef {S T : Nat → Prop} (f g : PFact) (av bv : Value) (w : World) (ha : RdStrs S w av f.args) (hb : RdStrs T w bv g.args) (n1 : f.args.length ≤ 1073741824) (n2 : g.args.length ≤ 1073741824) :
    Calls Tryz.prog 27 #[.agg #[.string f.name, av], .agg #[.string g.name, bv]] w fun e w' => e = .returned (.bool (decide (f = g))) ∧ Fresh w w' := by
  obtain ⟨aa, ac, rfl, -, -, -⟩ := id ha.form
  obtain ⟨ba, bc, rfl, -, -, -⟩ := id hb.form
  have HF := Lib.hid (((Fresh.refl w).alloc (.cells #[.string f.name, .slice aa f.args.length ac] 27)).alloc (.cells #[.string g.name, .slice ba g.args.length bc] 27))
  have K1 := Lib.hid (fun W (h : Agree (fun _ => True) w W) => lessRef f g _ _ W ((ha.more RStr.steady (S' := fun _ => True) (fun _ _ _ => trivial)).agree RStr.steady h) ((hb.more RStr.steady (S' := fun _ => True) (fun _ _ _ => trivial)).agree RStr.steady h) n1)
  have K2 := Lib.hid (fun W (h : Agree (fun _ => True) w W) => lessRef g f _ _ W ((hb.more RStr.steady (S' := fun _ => True) (fun _ _ _ => trivial)).agree RStr.steady h) ((ha.more RStr.steady (S' := fun _ => True) (fun _ _ _ => trivial)).agree RStr.steady h) n2)
  have HE := Lib.hid (equal_ltF f g)
  clear ha hb
  cases h1 : ltF f g
  · rw [h1] at K1 HE
    clear h1
    have c0 : ((w.alloc (.cells #[.string f.name, .slice aa f.args.length ac] 27)).alloc (.cells #[.string g.name, .slice ba g.args.length bc] 27)).cell? ⟨w.heap.size, 0, none⟩ = some (.string f.name) := by
      rw [World.cell?_of_block (Below.heap_alloc _ _ _ (show w.heap.size < _ by simp))]; simp
    have c1 : ((w.alloc (.cells #[.string f.name, .slice aa f.args.length ac] 27)).alloc (.cells #[.string g.name, .slice ba g.args.length bc] 27)).cell? ⟨w.heap.size, 1, none⟩ = some (.slice aa f.args.length ac) := by
      rw [World.cell?_of_block (Below.heap_alloc _ _ _ (show w.heap.size < _ by simp))]; simp
    have e : w.heap.size + 1 = (w.alloc (.cells #[.string f.name, .slice aa f.args.length ac] 27)).heap.size := by simp
    have d0 : ((w.alloc (.cells #[.string f.name, .slice aa f.args.length ac] 27)).alloc (.cells #[.string g.name, .slice ba g.args.length bc] 27)).cell? ⟨w.heap.size + 1, 0, none⟩ = some (.string g.name) := by
      rw [e]; simp
    have d1 : ((w.alloc (.cells #[.string f.name, .slice aa f.args.length ac] 27)).alloc (.cells #[.string g.name, .slice ba g.args.length bc] 27)).cell? ⟨w.heap.size + 1, 1, none⟩ = some (.slice ba g.args.length bc) := by
      rw [e]; simp
    have hsz : w.heap.size + 1 < ((w.alloc (.cells #[.string f.name, .slice aa f.args.length ac] 27)).alloc (.cells #[.string g.name, .slice ba g.args.length bc] 27)).heap.size := by simp
    clear e
    go_enter Tryz.func27, Tryz.ntmps27
    go_wp2_with (first
      | (go_at_call 47; refine (K2.out _ (Below.agree (HF.out.trans HW1.out).below)).mono ?_; rintro e w2 ⟨rfl, hf2⟩; have HW2 := Lib.hid ((HF.out.trans HW1.out).trans hf2); clear hf2)
      | (go_at_call 47; refine (K1.out _ (Below.agree HF.out.below)).mono ?_; rintro e w1 ⟨rfl, hf1⟩; have HW1 := Lib.hid hf1; have x0 := (cell_below hf1.below (show w.heap.size < _ by omega) 0).trans c0; have x1 := (cell_below hf1.below (show w.heap.size < _ by omega) 1).trans c1; have y0 := (cell_below hf1.below hsz 0).trans d0; have y1 := (cell_below hf1.below hsz 1).trans d1; clear hf1))
    go_ret
    refine ⟨ret_bool ?_, HW2.out⟩
    rw [HE.out]; simp
  · rw [h1] at K1 HE
    clear h1
    go_enter Tryz.func27, Tryz.ntmps27
    go_wp2_with (go_at_call 47; refine (K1.out _ (Below.agree HF.out.below)).mono ?_; rintro e w1 ⟨rfl, hf1⟩)
    go_ret
    refine ⟨ret_bool ?_, HF.out.trans hf1⟩
    rw [HE.out]; simp
end Go.Proofs.YtoffggiaecclmaaGreat

/-
  THE WALKS OF cororef1.Same and cororef1.In: are two lists of facts the same? Is a fact in a list?
-/
namespace Go.Proofs.YtoffggiaecclmaaGreat
open Go.RowKit

theorem eq_of_get {a b : List PFact} (hl : a.length = b.length) (h : ∀ i x y, i < a.length → a[i]? = some x → b[i]? = some y → x = y) : a = b := by
  apply List.ext_getElem hl
  intro i h1 h2
  exact h i _ _ h1 (List.getElem?_eq_getElem h1) (List.getElem?_eq_getElem h2)

attribute [local go_sem ↓] Go.wp_at_zero Go.wp_at_succ
theorem memF_drop {f x : PFact} {l : List PFact} {k : Nat} (h : l[k]? = some x) : memF f (l.drop k) = (decide (x = f) || memF f (l.drop (k + 1))) := by
  rw [Bool.eq_iff_iff]
  simp only [Bool.or_eq_true, decide_eq_true_eq, memF_iff]
  rw [drop_cons h, List.mem_cons]
  constructor
  · rintro (h | h)
    · exact .inl h.symm
    · exact .inr h
  · rintro (h | h)
    · exact .inl h.symm
    · exact .inr h

set_option maxRecDepth 100000 in
set_option maxHeartbeats 2000000 in
theorem inRef {S T : Nat → Prop} (v : Value) (l : List PFact) (f : PFact) (av : Value) (w : World) (h : RdFacts S w v l) (hf : RdStrs T w av f.args) (n1 : l.length ≤ 1073741824) (n2 : ∀ x ∈ l, x.args.length ≤ 1073741824) (n3 : f.args.length ≤ 1073741824) :
    Calls Tryz.prog 13 #[v, .agg #[.string f.name, av]] w fun e w' => e = .returned (.bool (memF f l)) ∧ Fresh w w' := by
  obtain ⟨a, c, rfl, -, -, -⟩ := id h.form
  obtain ⟨fa, fc, rfl, -, -, -⟩ := id hf.form
  have H := Lib.hid (fun W (ha : Agree (fun _ => True) w W) i x (hx : l[i]? = some x) => RdFacts.at ((h.more RFact.steady (S' := fun _ => True) (fun _ _ _ => trivial)).agree RFact.steady ha) hx)
  have HF := Lib.hid (fun W (ha : Agree (fun _ => True) w W) => (hf.more RStr.steady (S' := fun _ => True) (fun _ _ _ => trivial)).agree RStr.steady ha)
  have N2 := Lib.hid n2
  clear h hf n2
  have c0 : (w.alloc (.cells #[.string f.name, .slice fa f.args.length fc] 27)).cell? ⟨w.heap.size, 0, none⟩ = some (.string f.name) := by simp
  have c1 : (w.alloc (.cells #[.string f.name, .slice fa f.args.length fc] 27)).cell? ⟨w.heap.size, 1, none⟩ = some (.slice fa f.args.length fc) := by simp
  have hsz : w.heap.size < (w.alloc (.cells #[.string f.name, .slice fa f.args.length fc] 27)).heap.size := by simp
  have HF0 := Lib.hid ((Fresh.refl w).alloc (.cells #[.string f.name, .slice fa f.args.length fc] 27))
  go_enter Tryz.func13, Tryz.ntmps13
  go_wp2
  generalize w.alloc (.cells #[.string f.name, .slice fa f.args.length fc] 27) = w0 at *
  go_loopw [9] (fun i wr => ∃ k : Nat, k ≤ l.length ∧ i = .int .i64 k ∧ Hid (memF f l = memF f (l.drop k)) ∧ Hid (Fresh w0 wr)) (fun i _ => l.length - (intOf i).toNat)
  case atStart => exact ⟨0, Nat.zero_le _, rfl, Lib.hid rfl, Fresh.refl _⟩
  case round =>
    obtain ⟨k, hk, rfl, HR, HW⟩ := hrel
    have d0 := (cell_below HW.out.below hsz 0).trans c0
    have d1 := (cell_below HW.out.below hsz 1).trans c1
    have hsr : w.heap.size < wr.heap.size := Nat.lt_of_lt_of_le hsz HW.out.below.size
    clear c0 c1
    by_cases hlt : k < l.length
    · obtain ⟨x, hx⟩ : ∃ x, l[k]? = some x := ⟨_, List.getElem?_eq_getElem hlt⟩
      have hag : Agree (fun _ => True) w wr := Below.agree (HF0.out.trans HW.out).below
      obtain ⟨b1, o1, av, rfl, -, hb1, e0, e1, hav⟩ := H.out wr hag k x hx
      obtain ⟨xa, xc, rfl, -, -, -⟩ := id hav.form
      have nx : x.args.length ≤ 1073741824 := N2.out x (List.mem_of_getElem? hx)
      have K := Lib.hid (equalRef x f (.slice xa x.args.length xc) (.slice fa f.args.length fc) (wr.alloc (.cells #[.string x.name, .slice xa x.args.length xc] 27)) (hav.agree RStr.steady ((Agree.refl _ _).alloc _)) ((HF.out wr hag).agree RStr.steady ((Agree.refl _ _).alloc _)) nx n3)
      have HM := Lib.hid (memF_drop (f := f) hx)
      have m0 := (World.cell?_of_block (a := ⟨w.heap.size, 0, none⟩) (Below.heap_alloc wr (.cells #[.string x.name, .slice xa x.args.length xc] 27) w.heap.size hsr)).trans d0
      have m1 := (World.cell?_of_block (a := ⟨w.heap.size, 1, none⟩) (Below.heap_alloc wr (.cells #[.string x.name, .slice xa x.args.length xc] 27) w.heap.size hsr)).trans d1
      clear hx hag hav nx
      cases hxy : decide (x = f)
      · rw [hxy] at K HM
        clear hxy
        go_wp2_with (go_at_call 27; refine (K.out).mono ?_; rintro e w1 ⟨rfl, hf1⟩; have HW2 := Lib.hid ((HW.out.alloc _).trans hf1); clear hf1)
        go_roundw
        case rel => exact ⟨k + 1, by omega, by go_num, Lib.hid (by rw [HR.out, HM.out]; simp), HW2.out⟩
        case measure => simp [intOf]; omega
      · rw [hxy] at K HM
        clear hxy
        go_wp2_with (go_at_call 27; refine (K.out).mono ?_; rintro e w1 ⟨rfl, hf1⟩; have HW2 := Lib.hid ((HW.out.alloc _).trans hf1); clear hf1)
        go_ret
        exact ⟨ret_bool (by rw [HR.out, HM.out]; simp), HF0.out.trans HW2.out⟩
    · have HE := Lib.hid (show memF f l = false by rw [HR.out, drop_end (by omega : l.length ≤ k)]; rfl)
      go_wp2
      go_ret
      exact ⟨ret_bool HE.out.symm, HF0.out.trans HW.out⟩
end Go.Proofs.YtoffggiaecclmaaGreat

/-
  THE WALK OF cororef7.Same, where both proofs are the same: true.
-/
namespace Go.Proofs.YtoffggiaecclmaaGreat
open Go.RowKit

theorem below_of_fresh {w w' : World} (h : Fresh w w') : Below w.heap.size w w' := h.below
set_option maxRecDepth 100000 in
set_option maxHeartbeats 4000000 in
theorem sameProofWalk {S T : Nat → Prop} (f : PFact) (rl : Int) (ks : List PProof) (av bv : Value) (ka kb : Option Addr) (kc kd : Nat) (w : World) (ha : RdStrs S w av f.args) (hb : RdStrs T w bv f.args)
    (K : ∀ (i : Nat) (k : PProof), ks[i]? = some k → ∃ b off a1 n1 c1 a2 n2 c2 b' off' a1' n1' c1' a2' n2' c2', ka = some ⟨b, off, none⟩ ∧ b < w.heap.size ∧ w.cell? ⟨b, off + i * 4, none⟩ = some (.string k.fact.name) ∧ w.cell? ⟨b, off + i * 4 + 1, none⟩ = some (.slice a1 n1 c1) ∧ w.cell? ⟨b, off + i * 4 + 2, none⟩ = some (.int .i64 k.rule) ∧ w.cell? ⟨b, off + i * 4 + 3, none⟩ = some (.slice a2 n2 c2) ∧
      kb = some ⟨b', off', none⟩ ∧ b' < w.heap.size ∧ w.cell? ⟨b', off' + i * 4, none⟩ = some (.string k.fact.name) ∧ w.cell? ⟨b', off' + i * 4 + 1, none⟩ = some (.slice a1' n1' c1') ∧ w.cell? ⟨b', off' + i * 4 + 2, none⟩ = some (.int .i64 k.rule) ∧ w.cell? ⟨b', off' + i * 4 + 3, none⟩ = some (.slice a2' n2' c2') ∧
      ∀ W, Below w.heap.size w W → Calls Tryz.prog 11 #[.agg #[.string k.fact.name, .slice a1 n1 c1, .int .i64 k.rule, .slice a2 n2 c2], .agg #[.string k.fact.name, .slice a1' n1' c1', .int .i64 k.rule, .slice a2' n2' c2']] W fun e w' => e = .returned (.bool true) ∧ Below W.heap.size W w')
    (hn : ks.length ≤ 1048576) (hf : f.args.length ≤ 1048576) :
    Calls Tryz.prog 11 #[.agg #[.string f.name, av, .int .i64 rl, .slice ka ks.length kc], .agg #[.string f.name, bv, .int .i64 rl, .slice kb ks.length kd]] w fun e w' => e = .returned (.bool true) ∧ Below w.heap.size w w' := by
  obtain ⟨aa, ac, rfl, -, -, -⟩ := id ha.form
  obtain ⟨ba, bc, rfl, -, -, -⟩ := id hb.form
  obtain ⟨W0, hW0⟩ : ∃ W0 : World, (w.alloc (.cells #[.string f.name, .slice aa f.args.length ac, .int .i64 rl, .slice ka ks.length kc] 30)).alloc (.cells #[.string f.name, .slice ba f.args.length bc, .int .i64 rl, .slice kb ks.length kd] 30) = W0 := ⟨_, rfl⟩
  have HB0 := Lib.hid (show Below w.heap.size w W0 by subst hW0; exact ((Below.refl _ _).alloc (Nat.le_refl _) _).alloc (by simp) _)
  have HX0 := Lib.hid (show Blk W0 w.heap.size 30 #[.string f.name, .slice aa f.args.length ac, .int .i64 rl, .slice ka ks.length kc] by subst hW0; exact (Blk.new w _ _).alloc _)
  have HY0 := Lib.hid (show Blk W0 (w.heap.size + 1) 30 #[.string f.name, .slice ba f.args.length bc, .int .i64 rl, .slice kb ks.length kd] by subst hW0; exact heap_new_at (by simp))
  have KE := Lib.hid (equalRef f f (.slice aa f.args.length ac) (.slice ba f.args.length bc) W0 (ha.up HB0.out) (hb.up HB0.out) (Nat.le_trans hf (by decide)) (Nat.le_trans hf (by decide)))
  have HK := Lib.hid K
  have k0 := HX0.out.cell 0; have k1 := HX0.out.cell 1
  have y0 := HY0.out.cell 0; have y1 := HY0.out.cell 1
  simp only [List.getElem?_toArray, List.getElem?_cons_zero, List.getElem?_cons_succ] at k0 k1 y0 y1
  clear K ha hb
  have hde : decide (f = f) = true := by simp
  rw [hde] at KE
  clear hde
  go_enter Tryz.func11, Tryz.ntmps11
  go_wp2_with (go_at_call 27; refine (KE.out).mono ?_; rintro e w1 ⟨rfl, hb1⟩; have hb1' := hb1.below; have HB1 := Lib.hid (HB0.out.trans (hb1'.mono HB0.out.size)); have HX1 := Lib.hid (HX0.out.below hb1' HX0.out.lt); have HY1 := Lib.hid (HY0.out.below hb1' HY0.out.lt); have x2 := HX1.out.cell 2; have x3 := HX1.out.cell 3; have z2 := HY1.out.cell 2; have z3 := HY1.out.cell 3; simp only [List.getElem?_toArray, List.getElem?_cons_zero, List.getElem?_cons_succ] at x2 x3 z2 z3; clear hb1 hb1')
  clear x2 x3 z2 z3 k0 k1 y0 y1
  go_loopw [31] (fun i wr => ∃ k : Nat, k ≤ ks.length ∧ i = .int .i64 k ∧ Hid (Below w.heap.size w wr) ∧ Hid (Blk wr w.heap.size 30 #[.string f.name, .slice aa f.args.length ac, .int .i64 rl, .slice ka ks.length kc]) ∧ Hid (Blk wr (w.heap.size + 1) 30 #[.string f.name, .slice ba f.args.length bc, .int .i64 rl, .slice kb ks.length kd])) (fun i _ => ks.length - (intOf i).toNat)
  case atStart => exact ⟨0, Nat.zero_le _, rfl, HB1, HX1, HY1⟩
  case round =>
    clear HB1 HX1 HY1
    obtain ⟨k, hk, rfl, HB, HX, HY⟩ := hrel
    by_cases hlt : k < ks.length
    · obtain ⟨x, hx⟩ : ∃ x, ks[k]? = some x := ⟨_, List.getElem?_eq_getElem hlt⟩
      obtain ⟨b, off, a1, n1, c1, a2, n2, c2, b', off', a1', n1', c1', a2', n2', c2', rfl, hb, d0, d1, d2, d3, rfl, hb', f0, f1, f2, f3, KC⟩ := HK.out k x hx
      have e0 := (cell_below HB.out hb _).trans d0
      have e1 := (cell_below HB.out hb _).trans d1
      have e2 := (cell_below HB.out hb _).trans d2
      have e3 := (cell_below HB.out hb _).trans d3
      have g0 := (cell_below HB.out hb' _).trans f0
      have g1 := (cell_below HB.out hb' _).trans f1
      have g2 := (cell_below HB.out hb' _).trans f2
      have g3 := (cell_below HB.out hb' _).trans f3
      have x3 := HX.out.cell 3; have y3 := HY.out.cell 3
      simp only [List.getElem?_toArray, List.getElem?_cons_zero, List.getElem?_cons_succ] at x3 y3
      have KX := Lib.hid (KC _ HB.out.drew)
      have hsz := HB.out.size
      clear d0 d1 d2 d3 f0 f1 f2 f3 KC hx
      go_wp2
      go_region_held3 (fun w' => w'.cell? ⟨w.heap.size, 3, none⟩ = some (.slice (some ⟨b, off, none⟩) ks.length kc) ∧ w'.cell? ⟨w.heap.size + 1, 3, none⟩ = some (.slice (some ⟨b', off', none⟩) ks.length kd) ∧ w'.cell? ⟨b, off + k * 4, none⟩ = some (.string x.fact.name) ∧ w'.cell? ⟨b, off + k * 4 + 1, none⟩ = some (.slice a1 n1 c1) ∧ w'.cell? ⟨b, off + k * 4 + 2, none⟩ = some (.int .i64 x.rule) ∧ w'.cell? ⟨b, off + k * 4 + 3, none⟩ = some (.slice a2 n2 c2) ∧ w'.cell? ⟨b', off' + k * 4, none⟩ = some (.string x.fact.name) ∧ w'.cell? ⟨b', off' + k * 4 + 1, none⟩ = some (.slice a1' n1' c1') ∧ w'.cell? ⟨b', off' + k * 4 + 2, none⟩ = some (.int .i64 x.rule) ∧ w'.cell? ⟨b', off' + k * 4 + 3, none⟩ = some (.slice a2' n2' c2'))
        (first | (with_reducible exact h0) | (with_reducible exact ⟨x3, y3, e0, e1, e2, e3, g0, g1, g2, g3⟩) | go_keep)
        (first | (go_at_call 11; (with_reducible refine (KX.out).mono ?_); rintro e w3 ⟨rfl, hb3⟩; have hb3' := (Below.refl wr.heap.size wr).drew.trans hb3; have HB3 := Lib.hid (HB.out.trans (hb3'.mono hsz)); have HX3 := Lib.hid (HX.out.below hb3' HX.out.lt); have HY3 := Lib.hid (HY.out.below hb3' HY.out.lt); have h3 := HX3.out.cell 3; have h4 := HY3.out.cell 3; simp only [List.getElem?_toArray, List.getElem?_cons_zero, List.getElem?_cons_succ] at h3 h4; have hbl := Nat.lt_of_lt_of_le hb hsz; have hbl' := Nat.lt_of_lt_of_le hb' hsz; have h0 := And.intro h3 (And.intro h4 (And.intro ((cell_below hb3' hbl _).trans e0) (And.intro ((cell_below hb3' hbl _).trans e1) (And.intro ((cell_below hb3' hbl _).trans e2) (And.intro ((cell_below hb3' hbl _).trans e3) (And.intro ((cell_below hb3' hbl' _).trans g0) (And.intro ((cell_below hb3' hbl' _).trans g1) (And.intro ((cell_below hb3' hbl' _).trans g2) ((cell_below hb3' hbl' _).trans g3))))))))); clear hb3 hb3' h3 h4))
      go_wp2
      go_roundw
      case rel => exact ⟨k + 1, by omega, by go_num, HB3, HX3, HY3⟩
      case measure => simp [intOf]; omega
    · go_wp2
      go_ret
      exact ⟨rfl, HB.out⟩
theorem sameProofRef : ∀ (n : Nat) {S S2 T T2 : Nat → Prop} (x : PProof) (av bv kv lv : Value) (w : World), RdStrs S w av x.fact.args → RdStrs T w bv x.fact.args → RdProofs n S2 w kv x.kids → RdProofs n T2 w lv x.kids → smallN (n + 1) x →
    Calls Tryz.prog 11 #[.agg #[.string x.fact.name, av, .int .i64 x.rule, kv], .agg #[.string x.fact.name, bv, .int .i64 x.rule, lv]] w fun e w' => e = .returned (.bool true) ∧ Below w.heap.size w w'
  | 0, S, S2, T, T2, x, av, bv, kv, lv, w, ha, hb, h, h', hs => by
    obtain ⟨ka, kc, rfl, -, -, -⟩ := id h.form
    obtain ⟨kb, kd, rfl, -, -, -⟩ := id h'.form
    have h0 := h.zero
    exact sameProofWalk x.fact x.rule x.kids av bv ka kb kc kd w ha hb (fun i k hk => by rw [h0] at hk; simp at hk) hs.2.1 hs.1
  | n + 1, S, S2, T, T2, x, av, bv, kv, lv, w, ha, hb, h, h', hs => by
    obtain ⟨ka, kc, rfl, -, -, -⟩ := id h.form
    obtain ⟨kb, kd, rfl, -, -, -⟩ := id h'.form
    refine sameProofWalk x.fact x.rule x.kids av bv ka kb kc kd w ha hb (fun i k hk => ?_) hs.2.1 hs.1
    obtain ⟨b, off, av1, kv1, e1, -, hb1, d0, d1, d2, d3, hra, hrk⟩ := RdProofs.at h hk
    obtain ⟨b', off', av2, kv2, e1', -, hb1', f0, f1, f2, f3, hra', hrk'⟩ := RdProofs.at h' hk
    obtain ⟨a1, c1, rfl, -, -, -⟩ := id hra.form
    obtain ⟨a2, c2, rfl, -, -, -⟩ := id hrk.form
    obtain ⟨a3, c3, rfl, -, -, -⟩ := id hra'.form
    obtain ⟨a4, c4, rfl, -, -, -⟩ := id hrk'.form
    have hks := hs.2.2 k (List.mem_of_getElem? hk)
    exact ⟨b, off, a1, _, c1, a2, _, c2, b', off', a3, _, c3, a4, _, c4, e1, hb1, d0, d1, d2, d3, e1', hb1', f0, f1, f2, f3, fun W hW => sameProofRef n k _ _ _ _ W (hra.up hW) (hra'.up hW) (RdSlice.agree (RProofN.steady n) (Below.agree hW) hrk) (RdSlice.agree (RProofN.steady n) (Below.agree hW) hrk') hks⟩
end Go.Proofs.YtoffggiaecclmaaGreat
