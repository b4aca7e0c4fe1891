/-
  THE TEXTS Ref1Set, WithR, StrataP, EnvL, MatchK, Entry, one behind the other.
-/
import Derived.Test.YthieomebngiabaaPk1
import Derived.Test.YthieomebngiabaaPk3
import Derived.Test.YthieomebngiabaaPk4
import Derived.Test.YthieomebngiabaaPk8
import Derived.Test.YthieomebngiabaaPk9
import Derived.Test.YthieomebngiabaaPk11
import Derived.Test.YthieomebngiabaaPk12
import Derived.Test.YthieomebngiabaaPk13
import Derived.Maps.Range
import Derived.Test.YthieomebngiabaaRows
import Derived.ProofKit
import Derived.OpenShut
import Derived.JoinedCond
import Derived.Carry
import Derived.Deep.Strs
import Derived.Deep.Slices
namespace Go.Proofs.Ythieomebngiabaa
open Go.RowKit
attribute [local go_sem ↓] Go.wp_at_zero Go.wp_at_succ
set_option maxRecDepth 100000 in
set_option maxHeartbeats 4000000 in
theorem setRef {S : Nat → Prop} (v : Value) (l : List PFact) (w : World) (h : RdFacts S w v l) (n1 : l.length ≤ 1073741824) (n2 : ∀ x ∈ l, x.args.length ≤ 1073741824) (n4 : ∀ x ∈ l, x.name.size ≤ 1099511627776 ∧ ∀ a ∈ x.args, a.size ≤ 1099511627776) :
    Calls Try.prog 22 #[v] w fun e w' => e = .returned (.agg #[.int .i64 (setF l).1, .int .i64 (setF l).2]) ∧ Below w.heap.size w w' := by
  obtain ⟨a, c, rfl, -, -, -⟩ := id h.form
  have H := Lib.hid h
  have N2 := Lib.hid n2
  have N4 := Lib.hid n4
  clear h n2 n4
  by_cases hmany : 200 < l.length
  · have hs := setF_many hmany
    obtain ⟨q, hq⟩ : ∃ q, setF l = q := ⟨_, rfl⟩
    rw [hq] at hs ⊢
    subst hs
    have i1 : (200 : Int) < (l.length : Int) := by omega
    go_enter Try.func22, Try.ntmps22
    go_wp2
    refine bodyPost_ret (v := .agg #[.int .i64 5, .int .i64 0]) (by simp [results, Try.results22, go_sem]) rfl ⟨rfl, ?_⟩
    exact (Below.refl _ _).alloc (Nat.le_refl _) _
  · have i0 : ¬ ((200 : Int) < (l.length : Int)) := by omega
    go_enter Try.func22, Try.ntmps22
    go_wp2
    have c0 : (w.alloc (.cells #[.int .i64 0, .int .i64 0] 54)).cell? ⟨w.heap.size, 0, none⟩ = some (.int .i64 0) := by simp
    have c1 : (w.alloc (.cells #[.int .i64 0, .int .i64 0] 54)).cell? ⟨w.heap.size, 1, none⟩ = some (.int .i64 0) := by simp
    have f0 : (w.alloc (.cells #[.int .i64 0, .int .i64 0] 54)).frozen? ⟨w.heap.size, 0, none⟩ = false := by simp
    have f1 : (w.alloc (.cells #[.int .i64 0, .int .i64 0] 54)).frozen? ⟨w.heap.size, 1, none⟩ = false := by simp
    have hz0 : w.heap.size < (w.alloc (.cells #[.int .i64 0, .int .i64 0] 54)).heap.size := by simp
    have HB := Lib.hid ((Below.refl w.heap.size w).alloc (Nat.le_refl _) (.cells #[.int .i64 0, .int .i64 0] 54))
    generalize w.alloc (.cells #[.int .i64 0, .int .i64 0] 54) = w0 at *
    go_loopw [12] (fun i wr => ∃ k : Nat, k ≤ l.length ∧ i = .int .i64 k ∧ Hid (Below w.heap.size w wr) ∧ w.heap.size < wr.heap.size ∧ Hid (∀ j, j < k → badAt l j = 0) ∧ wr.cell? ⟨w.heap.size, 0, none⟩ = some (.int .i64 0) ∧ wr.cell? ⟨w.heap.size, 1, none⟩ = some (.int .i64 0) ∧ wr.frozen? ⟨w.heap.size, 0, none⟩ = false ∧ wr.frozen? ⟨w.heap.size, 1, none⟩ = false) (fun i _ => l.length - (intOf i).toNat)
    case atStart => exact ⟨0, Nat.zero_le _, rfl, HB, hz0, fun j hj => by omega, c0, c1, f0, f1⟩
    case round =>
      obtain ⟨k, hk, rfl, HB, hsz, HZ, c0, c1, f0, f1⟩ := hrel
      by_cases hlt : k < l.length
      · obtain ⟨x, hx⟩ : ∃ x, l[k]? = some x := ⟨_, List.getElem?_eq_getElem hlt⟩
        have hn2 : x.args.length ≤ 1073741824 := N2.out x (List.mem_of_getElem? hx)
        obtain ⟨b1, o1, av, rfl, -, hb1, hc1, hc2, hav⟩ := RdFacts.at ((H.out.more RFact.steady (S' := fun _ => True) (fun _ _ _ => trivial)).agree RFact.steady (Below.agree HB.out)) hx
        obtain ⟨aa, ac, rfl, -, -, -⟩ := id hav.form
        have HA := Lib.hid hav
        have HX := Lib.hid hx
        have hn4 := N4.out x (List.mem_of_getElem? hx)
        have hW := wrongRef x _ (wr.alloc (.cells #[.string x.name, .slice aa x.args.length ac] 41)) (hav.agree RStr.steady ((Agree.refl _ _).alloc _)) hn4.1 (by omega) hn4.2
        clear hav hx hn4
        by_cases hz : wrongF x = 0
        · rw [hz] at hW
          have HW := Lib.hid hW
          have HZX := Lib.hid hz
          clear hW hz
          rcases k with _ | j
          · have z0 : ((0 : Nat) : Int) = 0 := rfl
            have HBZ := Lib.hid (badAt_zero HX.out HZX.out)
            have HZ1 := Lib.hid (show ∀ j, j < 1 → badAt l j = 0 from fun j hj => (show j = 0 by omega) ▸ HBZ.out)
            simp only [Nat.zero_mul, Nat.add_zero] at hc1 hc2
            rw [z0]
            go_wp2_with (go_at_call 48; refine (HW.out).mono ?_; rintro e w1 ⟨rfl, hf1⟩; have d0 := (past_cell hf1 hsz 0).trans c0; have d1 := (past_cell hf1 hsz 1).trans c1; have g0 := (past_frozen hf1 hsz 0).trans f0; have g1 := (past_frozen hf1 hsz 1).trans f1; have HB1 := Lib.hid ((HB.out.alloc (Nat.le_of_lt hsz) _).trans (hf1.mono (by simp; omega))); have hs1 : w.heap.size < w1.heap.size := (by have := hf1.size; simp at this; omega); clear hf1)
            go_quiet (fail)
            go_wp2
            go_roundw
            case rel => exact ⟨1, by omega, by go_num, Lib.hid ⟨HB1.out.os, HB1.out.tape, HB1.out.output, HB1.out.size, HB1.out.block⟩, hs1, HZ1, d0, d1, g0, g1⟩
            case measure => simp [intOf]; omega
          · obtain ⟨y, hy⟩ : ∃ y, l[j]? = some y := ⟨_, List.getElem?_eq_getElem (by omega)⟩
            have hn2y : y.args.length ≤ 1073741824 := N2.out y (List.mem_of_getElem? hy)
            obtain ⟨b2, o2, yv, e2, -, -, hd1, hd2, hyv⟩ := RdFacts.at ((H.out.more RFact.steady (S' := fun _ => True) (fun _ _ _ => trivial)).agree RFact.steady (Below.agree HB.out)) hy
            injection e2 with e2; injection e2 with e2 e2' _
            subst e2 e2'
            obtain ⟨ya, yc, rfl, -, -, -⟩ := id hyv.form
            have HY := Lib.hid hyv
            have HBS := Lib.hid (badAt_succ HX.out hy HZX.out)
            have i1 : (0 : Int) ≤ (j : Int) := by omega
            have i2 : (j : Int) + 1 < (l.length : Int) := by omega
            have i3 : (j : Int) < (l.length : Int) := by omega
            have i4 : (0 : Int) ≤ (j : Int) + 1 := by omega
            have i5 : IntKind.i64.wrap (j : Int) = j := by rw [IntKind.wrap_i64]; omega
            have i6 : (0 : Int) < (j : Int) + 1 := by omega
            have e1 : ((j + 1 : Nat) : Int) = (j : Int) + 1 := by omega
            have K := Lib.hid (fun W (ha : Agree (fun _ => True) wr W) => lessRef y x (.slice ya y.args.length yc) (.slice aa x.args.length ac) W (HY.out.agree RStr.steady ha) (HA.out.agree RStr.steady ha) hn2y)
            clear hyv hy
            rw [e1]
            rcases (show ltF y x = true ∨ ltF y x = false by cases ltF y x <;> simp) with hlt2 | hlt2
            · have HL := Lib.hid (show cmpFact y x < 0 from of_decide_eq_true hlt2)
              rw [hlt2] at K
              clear hlt2
              go_wp2_with (go_at_call 48; refine (HW.out).mono ?_; rintro e w1 ⟨rfl, hf1⟩; have d0 := (past_cell hf1 hsz 0).trans c0; have d1 := (past_cell hf1 hsz 1).trans c1; have g0 := (past_frozen hf1 hsz 0).trans f0; have g1 := (past_frozen hf1 hsz 1).trans f1; have HB1 := Lib.hid ((HB.out.alloc (Nat.le_of_lt hsz) _).trans (hf1.mono (by simp; omega))); have hs1 : w.heap.size < w1.heap.size := (by have := hf1.size; simp at this; omega); have hx0 : w1.cell? ⟨wr.heap.size, 0, none⟩ = some (.string x.name) := (cell_below hf1 (by simp) 0).trans (by simp); have hx1 : w1.cell? ⟨wr.heap.size, 1, none⟩ = some (.slice aa x.args.length ac) := (cell_below hf1 (by simp) 1).trans (by simp); have hsx : wr.heap.size < w1.heap.size := (by have := hf1.size; simp at this; omega); have hb2 : b1 < w1.heap.size := (by omega); have hy0 := (past_cell hf1 hb1 (o1 + j * 2)).trans hd1; have hy1 := (past_cell hf1 hb1 (o1 + j * 2 + 1)).trans hd2; have HAG := Lib.hid (show Agree (fun _ => True) wr w1 from ((Agree.refl _ _).alloc _).trans (Below.agree hf1)); clear hf1)
              go_region_held3 (fun w' => w'.cell? ⟨b1, o1 + j * 2, none⟩ = some (.string y.name) ∧ w'.cell? ⟨b1, o1 + j * 2 + 1, none⟩ = some (.slice ya y.args.length yc) ∧
                  w'.cell? ⟨wr.heap.size, 0, none⟩ = some (.string x.name) ∧ w'.cell? ⟨wr.heap.size, 1, none⟩ = some (.slice aa x.args.length ac))
                (first | (refine ⟨?_, ?_, ?_, ?_⟩ <;> (first | (rw [hk2 _ hb2]; assumption) | (rw [hk2 _ hsx]; assumption))) | go_keep)
                (first
                  | (go_at_call 27; refine (K.out _ HAG.out.drew).mono ?_; rintro e w2 ⟨rfl, hf2⟩; have hk2 : ∀ c, c < w1.heap.size → ∀ off, w2.cell? ⟨c, off, none⟩ = w1.cell? ⟨c, off, none⟩ := fun c hc off => cell_below (w := w1.drew) hf2.below hc off))
              have HB2 := Lib.hid (HB1.out.drew.trans (hf2.below.mono HB1.out.size))
              have m0 := (hk2 _ hs1 0).trans d0
              have m1 := (hk2 _ hs1 1).trans d1
              have m2 := (hf2.below.frozen (p := ⟨w.heap.size, 0, none⟩) hs1).trans g0
              have m3 := (hf2.below.frozen (p := ⟨w.heap.size, 1, none⟩) hs1).trans g1
              have hs2 : w.heap.size < w2.heap.size := Nat.lt_of_lt_of_le hs1 hf2.below.size
              clear hf2 hk2 hx0 hx1 hy0 hy1
              go_wp2
              go_roundw
              case rel =>
                refine ⟨j + 1 + 1, by omega, by go_num, HB2.out, hs2, fun i hi => ?_, m0, m1, m2, m3⟩
                by_cases e : i = j + 1
                · subst e; rw [HBS.out, if_pos HL.out]
                · exact HZ.out i (by omega)
              case measure => simp [intOf]; omega
            · have HL := Lib.hid (show ¬ cmpFact y x < 0 from of_decide_eq_false hlt2)
              rw [hlt2] at K
              have hs := setF_at hmany hlt HZ.out (by rw [HBS.out, if_neg HL.out]; decide)
              rw [HBS.out, if_neg HL.out] at hs
              have HS := Lib.hid hs
              clear hlt2 hs
              go_wp2_with (go_at_call 48; refine (HW.out).mono ?_; rintro e w1 ⟨rfl, hf1⟩; have d0 := (past_cell hf1 hsz 0).trans c0; have d1 := (past_cell hf1 hsz 1).trans c1; have g0 := (past_frozen hf1 hsz 0).trans f0; have g1 := (past_frozen hf1 hsz 1).trans f1; have HB1 := Lib.hid ((HB.out.alloc (Nat.le_of_lt hsz) _).trans (hf1.mono (by simp; omega))); have hs1 : w.heap.size < w1.heap.size := (by have := hf1.size; simp at this; omega); have hx0 : w1.cell? ⟨wr.heap.size, 0, none⟩ = some (.string x.name) := (cell_below hf1 (by simp) 0).trans (by simp); have hx1 : w1.cell? ⟨wr.heap.size, 1, none⟩ = some (.slice aa x.args.length ac) := (cell_below hf1 (by simp) 1).trans (by simp); have hsx : wr.heap.size < w1.heap.size := (by have := hf1.size; simp at this; omega); have hb2 : b1 < w1.heap.size := (by omega); have hy0 := (past_cell hf1 hb1 (o1 + j * 2)).trans hd1; have hy1 := (past_cell hf1 hb1 (o1 + j * 2 + 1)).trans hd2; have HAG := Lib.hid (show Agree (fun _ => True) wr w1 from ((Agree.refl _ _).alloc _).trans (Below.agree hf1)); clear hf1)
              go_region_held3 (fun w' => w'.cell? ⟨b1, o1 + j * 2, none⟩ = some (.string y.name) ∧ w'.cell? ⟨b1, o1 + j * 2 + 1, none⟩ = some (.slice ya y.args.length yc) ∧
                  w'.cell? ⟨wr.heap.size, 0, none⟩ = some (.string x.name) ∧ w'.cell? ⟨wr.heap.size, 1, none⟩ = some (.slice aa x.args.length ac))
                (first | (refine ⟨?_, ?_, ?_, ?_⟩ <;> (first | (rw [hk2 _ hb2]; assumption) | (rw [hk2 _ hsx]; assumption))) | go_keep)
                (first
                  | (go_at_call 27; refine (K.out _ HAG.out.drew).mono ?_; rintro e w2 ⟨rfl, hf2⟩; have hk2 : ∀ c, c < w1.heap.size → ∀ off, w2.cell? ⟨c, off, none⟩ = w1.cell? ⟨c, off, none⟩ := fun c hc off => cell_below (w := w1.drew) hf2.below hc off))
              have HB2 := Lib.hid (HB1.out.drew.trans (hf2.below.mono HB1.out.size))
              have m0 := (hk2 _ hs1 0).trans d0
              have m1 := (hk2 _ hs1 1).trans d1
              have m2 := (hf2.below.frozen (p := ⟨w.heap.size, 0, none⟩) hs1).trans g0
              have m3 := (hf2.below.frozen (p := ⟨w.heap.size, 1, none⟩) hs1).trans g1
              clear hf2 hk2 hx0 hx1 hy0 hy1
              go_wp2
              refine bodyPost_ret (v := .agg #[.int .i64 2, .int .i64 ((j + 1 : Nat) : Int)]) (by simp [results, Try.results22, go_sem, m0, m1]) rfl ⟨by rw [HS.out], ?_⟩
              exact (HB2.out.setCell (Nat.le_refl _) _).setCell (Nat.le_refl _) _
        · have hne : (wrongF x != 0) = true := by simpa using hz
          have hs := setF_at hmany hlt HZ.out (by rw [badAt_wrong HX.out hz]; exact hz)
          rw [badAt_wrong HX.out hz] at hs
          have HS := Lib.hid hs
          have HW := Lib.hid hW
          clear hs hW
          generalize wrongF x = q at *
          go_wp2_with (go_at_call 48; refine (HW.out).mono ?_; rintro e w1 ⟨rfl, hf1⟩; have d0 := (past_cell hf1 hsz 0).trans c0; have d1 := (past_cell hf1 hsz 1).trans c1; have g0 := (past_frozen hf1 hsz 0).trans f0; have g1 := (past_frozen hf1 hsz 1).trans f1; have HB1 := Lib.hid ((HB.out.alloc (Nat.le_of_lt hsz) _).trans (hf1.mono (by simp; omega))); clear hf1)
          refine bodyPost_ret (v := .agg #[.int .i64 q, .int .i64 k]) (by simp [results, Try.results22, go_sem, d0, d1]) rfl ⟨by rw [HS.out], ?_⟩
          exact (HB1.out.setCell (Nat.le_refl _) _).setCell (Nat.le_refl _) _
      · have HS := Lib.hid (setF_ok hmany (fun j hj => HZ.out j (by omega)))
        go_wp2
        refine bodyPost_ret (v := .agg #[.int .i64 0, .int .i64 0]) (by simp [results, Try.results22, go_sem, c0, c1]) rfl ⟨by rw [HS.out], ?_⟩
        exact (HB.out.setCell (Nat.le_refl _) _).setCell (Nat.le_refl _) _
end Go.Proofs.Ythieomebngiabaa
namespace Go.Proofs.Ythieomebngiabaa
open Go.RowKit Go.Maps
theorem mergeRef {S : Nat → Prop} (ls : List Binds) (v : Value) (w : World) (h : RdBindss S w v ls) (n1 : ls.length ≤ 1073741824) (n2 : ∀ x ∈ ls, x.length ≤ 1073741824) : Calls Try.prog 25 #[v] w (MergePost ls w) :=
  mergeRefN ls.length ls v w h (Nat.le_refl _) n1 n2
theorem envs_fine {body : List PAtom} {facts other : List PFact} {at' : Int} {ls : List Binds} (hz : bodyBad body = 0) (b1 : ∀ a ∈ body, ∀ t ∈ a.terms, t.name.size ≤ 1048576) (h : envsP body facts at' other = some ls) :
    ls.length ≤ 20000 ∧ ∀ l ∈ ls, Nd l ∧ l.length ≤ 20 ∧ ∀ y ∈ l, y.var.size ≤ maxLen := by
  unfold envsP at h
  obtain ⟨l0, hg, rfl⟩ := Option.map_eq_some_iff.1 h
  have g1 := goP_count body 0 _ _ hg (by simp)
  have g3 := notP_count (pick := pickP facts other at') body 0 l0
  have g4 := body_atoms hz
  refine ⟨by omega, fun l hl => ?_⟩
  have hl0 := ((mem_notP body 0 l0 l).1 hl).1
  have h6 := goP_short (c := 0) body 0 _ _ hg (by simp) (fun a ha => body_terms hz ha) l hl0
  obtain ⟨e, he, h7, -, h8, -⟩ := goP_sound body 0 _ _ hg (fun l hl => by obtain rfl := List.mem_singleton.1 hl; exact List.Pairwise.nil) l hl0
  obtain rfl := List.mem_singleton.1 he
  refine ⟨h7, by omega, fun y hy => ?_⟩
  rcases (h8 y.var).1 (List.mem_map.2 ⟨y, hy, rfl⟩) with h | ⟨a, ha, -, hv⟩
  · cases h
  · obtain ⟨t, ht, -, e⟩ := (mem_varsOf _ _).1 hv
    rw [← e]
    have := b1 a ha t ht
    unfold maxLen
    omega
theorem with_envs {body : List PAtom} {facts other : List PFact} {at' : Int} (hz : bodyBad body = 0) (h1 : (setF facts).1 = 0) (h2 : (setF other).1 = 0) :
    withP body facts at' other = match envsP body facts at' other with | none => ([], 4) | some ls => (ofC cmpBinds (ls.map (ofC cmpBind)), 0) := by
  unfold withP envsP
  rw [if_neg (by simpa using hz), if_neg (by simpa using h1), if_neg (by simpa using h2)]
  cases goP (pickP facts other at') 0 [[]] body <;> rfl
def WithR (r : List Binds × Int) (w : World) (e : Ending) (w' : World) : Prop :=
  (∃ a c, e = .returned (.tuple #[.slice a r.1.length c, .int .i64 r.2]) ∧ RdBindss (fun _ => True) w' (.slice a r.1.length c) r.1) ∧ Below w.heap.size w w'
theorem with_no {e : Int} {w w' : World} (hb : Below w.heap.size w w') : WithR ([], e) w (.returned (.tuple #[.slice none 0 0, .int .i64 e])) w' :=
  ⟨⟨none, 0, rfl, RdSlice.nothing (Nat.zero_le _) (fun _ => rfl)⟩, hb⟩
attribute [local go_sem ↓] Go.wp_at_zero Go.wp_at_succ
set_option maxRecDepth 100000 in
set_option maxHeartbeats 8000000 in
theorem withRef {S S2 S3 : Nat → Prop} (body : List PAtom) (bv : Value) (facts : List PFact) (fv : Value) (at' : Int) (other : List PFact) (ov : Value) (w : World) (hb : RdAtoms S w bv body) (hf : RdFacts S2 w fv facts) (ho : RdFacts S3 w ov other)
    (n0 : body.length ≤ 1048576) (b0 : ∀ a ∈ body, a.terms.length ≤ 1048576 ∧ a.name.size ≤ 1048576) (b1 : ∀ a ∈ body, ∀ t ∈ a.terms, t.name.size ≤ 1048576)
    (n1 : facts.length ≤ 1048576) (n2 : ∀ x ∈ facts, (x.args.length ≤ 1048576 ∧ ∀ a ∈ x.args, a.size ≤ 1048576) ∧ x.name.size ≤ 1048576) (m1 : other.length ≤ 1048576) (m2 : ∀ x ∈ other, (x.args.length ≤ 1048576 ∧ ∀ a ∈ x.args, a.size ≤ 1048576) ∧ x.name.size ≤ 1048576) :
    Calls Try.prog 5 #[bv, fv, .int .i64 at', ov] w (WithR (withP body facts at' other) w) := by
  obtain ⟨ba, bc, rfl, -, -, -⟩ := id hb.form
  obtain ⟨fa, fc, rfl, -, -, -⟩ := id hf.form
  obtain ⟨oa, oc, rfl, -, -, -⟩ := id ho.form
  have KW := Lib.hid (wrongBodyRef body (.slice ba body.length bc) w hb n0 (fun a ha => (b0 a ha).1) b1 (fun a ha => (b0 a ha).2))
  have KF := Lib.hid (fun W (hW : Below w.heap.size w W) => setRef (.slice fa facts.length fc) facts W (hf.up hW) (by omega) (fun x hx => by have := (n2 x hx).1.1; omega) (fun x hx => ⟨by have := (n2 x hx).2; omega, fun a ha => by have := (n2 x hx).1.2 a ha; omega⟩))
  have KO := Lib.hid (fun W (hW : Below w.heap.size w W) => setRef (.slice oa other.length oc) other W (ho.up hW) (by omega) (fun x hx => by have := (m2 x hx).1.1; omega) (fun x hx => ⟨by have := (m2 x hx).2; omega, fun a ha => by have := (m2 x hx).1.2 a ha; omega⟩))
  by_cases hz : bodyBad body = 0
  rotate_left
  · have HE := Lib.hid (show withP body facts at' other = ([], bodyBad body) by unfold withP; rw [if_pos hz])
    have g1 : (bodyBad body != 0) = true := by simpa using hz
    clear hz hb hf ho n2 m2 b1 b0 KF KO
    generalize bodyBad body = e1 at *
    go_enter Try.func5, Try.ntmps5
    go_wp2_with (go_at_call 21; refine (KW.out).mono ?_; rintro e w1 ⟨rfl, hb1⟩; have HB1 := Lib.hid hb1; clear hb1)
    go_ret2
    rw [HE.out]
    exact with_no HB1.out
  rw [hz] at KW
  by_cases hq : (setF facts).1 = 0
  rotate_left
  · have HE := Lib.hid (show withP body facts at' other = ([], (setF facts).1) by unfold withP; rw [if_neg (by simpa using hz), if_pos hq])
    have g1 : ((setF facts).1 != 0) = true := by simpa using hq
    clear hz hq hb hf ho n2 m2 b1 b0 KO
    generalize setF facts = r1 at *
    obtain ⟨e1, a1⟩ := r1
    dsimp only at *
    go_enter Try.func5, Try.ntmps5
    go_wp2_with (first
      | (go_at_call 22; have hh := HB1.out; clear hh; refine (KF.out _ HB1.out).mono ?_; rintro e w2 ⟨rfl, hb2⟩
         obtain ⟨X3, hX3⟩ : ∃ X : World, w2.alloc (.cells #[.int .i64 e1, .int .i64 a1] 54) = X := ⟨_, rfl⟩
         have HB3 := Lib.hid (show Below w.heap.size w X3 by subst hX3; exact (HB1.out.trans (hb2.mono HB1.out.size)).alloc (HB1.out.trans (hb2.mono HB1.out.size)).size _)
         have HFc := Lib.hid (show Blk X3 w2.heap.size 54 #[.int .i64 e1, .int .i64 a1] by subst hX3; exact Blk.new w2 _ _)
         have c0 := HFc.out.cell 0; have c1 := HFc.out.cell 1; simp only [List.getElem?_toArray, List.getElem?_cons_zero, List.getElem?_cons_succ] at c0 c1
         clear hb2)
      | (go_at_call 21; refine (KW.out).mono ?_; rintro e w1 ⟨rfl, hb1⟩; have HB1 := Lib.hid hb1; clear hb1))
    go_quiet (fail)
    go_wp2
    go_ret2
    rw [HE.out]
    exact with_no (let h := HB3.out; ⟨h.os, h.tape, h.output, h.size, h.block⟩)
  rw [hq] at KF
  generalize (setF facts).2 = a1 at KF
  by_cases hq2 : (setF other).1 = 0
  rotate_left
  · have HE := Lib.hid (show withP body facts at' other = ([], (setF other).1) by unfold withP; rw [if_neg (by simpa using hz), if_neg (by simpa using hq), if_pos hq2])
    have g1 : ((setF other).1 != 0) = true := by simpa using hq2
    clear hz hq hq2 hb hf ho n2 m2 b1 b0
    generalize setF other = r2 at *
    obtain ⟨e2, a2⟩ := r2
    dsimp only at *
    go_enter Try.func5, Try.ntmps5
    go_wp2_with (first
      | (go_at_call 22; have hh := HB3.out; clear hh; refine (KO.out _ HB3.out).mono ?_; rintro e w4 ⟨rfl, hb2⟩
         obtain ⟨X5, hX5⟩ : ∃ X : World, w4.alloc (.cells #[.int .i64 e2, .int .i64 a2] 54) = X := ⟨_, rfl⟩
         have HB5 := Lib.hid (show Below w.heap.size w X5 by subst hX5; exact (HB3.out.trans (hb2.mono HB3.out.size)).alloc (HB3.out.trans (hb2.mono HB3.out.size)).size _)
         have HFd := Lib.hid (show Blk X5 w4.heap.size 54 #[.int .i64 e2, .int .i64 a2] by subst hX5; exact Blk.new w4 _ _)
         have d0 := HFd.out.cell 0; have d1 := HFd.out.cell 1; simp only [List.getElem?_toArray, List.getElem?_cons_zero, List.getElem?_cons_succ] at d0 d1
         clear hb2)
      | (go_at_call 22; have hh := HB1.out; clear hh; refine (KF.out _ HB1.out).mono ?_; rintro e w2 ⟨rfl, hb2⟩
         obtain ⟨X3, hX3⟩ : ∃ X : World, w2.alloc (.cells #[.int .i64 0, .int .i64 a1] 54) = X := ⟨_, rfl⟩
         have HB3 := Lib.hid (show Below w.heap.size w X3 by subst hX3; exact (HB1.out.trans (hb2.mono HB1.out.size)).alloc (HB1.out.trans (hb2.mono HB1.out.size)).size _)
         have HFc := Lib.hid (show Blk X3 w2.heap.size 54 #[.int .i64 0, .int .i64 a1] by subst hX3; exact Blk.new w2 _ _)
         have c0 := HFc.out.cell 0; have c1 := HFc.out.cell 1; simp only [List.getElem?_toArray, List.getElem?_cons_zero, List.getElem?_cons_succ] at c0 c1
         clear hb2)
      | (go_at_call 21; refine (KW.out).mono ?_; rintro e w1 ⟨rfl, hb1⟩; have HB1 := Lib.hid hb1; clear hb1))
    go_quiet (fail)
    go_wp2
    go_ret2
    rw [HE.out]
    exact with_no (let h := HB5.out; ⟨h.os, h.tape, h.output, h.size, h.block⟩)
  rw [hq2] at KO
  generalize (setF other).2 = a2 at KO
  have HE := Lib.hid (with_envs (at' := at') hz hq hq2)
  have KE := Lib.hid (fun W (hW : Below w.heap.size w W) => envsRef body (.slice ba body.length bc) facts (.slice fa facts.length fc) at' other (.slice oa other.length oc) W (hb.up hW) (hf.up hW) (ho.up hW) hz b1 n1 (fun x hx => (n2 x hx).1) m1 (fun x hx => (m2 x hx).1))
  have HFI := Lib.hid (fun ls h => envs_fine (ls := ls) (facts := facts) (other := other) (at' := at') hz b1 h)
  clear hz hq hq2 hb hf ho n2 m2 b1 b0
  cases hen : envsP body facts at' other with
  | none =>
    rw [hen] at KE HE
    have HE2 := Lib.hid HE.out
    clear HE HFI hen
    go_enter Try.func5, Try.ntmps5
    go_wp2_with (first
      | (go_at_call 23; have hh := HB5.out; clear hh; refine (KE.out _ HB5.out).mono ?_; rintro e w6 ⟨hb6, rfl⟩; have HB6 := Lib.hid (HB5.out.trans (hb6.mono HB5.out.size)); clear hb6)
      | (go_at_call 22; have hh := HB3.out; clear hh; refine (KO.out _ HB3.out).mono ?_; rintro e w4 ⟨rfl, hb2⟩
         obtain ⟨X5, hX5⟩ : ∃ X : World, w4.alloc (.cells #[.int .i64 0, .int .i64 a2] 54) = X := ⟨_, rfl⟩
         have HB5 := Lib.hid (show Below w.heap.size w X5 by subst hX5; exact (HB3.out.trans (hb2.mono HB3.out.size)).alloc (HB3.out.trans (hb2.mono HB3.out.size)).size _)
         have HFd := Lib.hid (show Blk X5 w4.heap.size 54 #[.int .i64 0, .int .i64 a2] by subst hX5; exact Blk.new w4 _ _)
         have d0 := HFd.out.cell 0; have d1 := HFd.out.cell 1; simp only [List.getElem?_toArray, List.getElem?_cons_zero, List.getElem?_cons_succ] at d0 d1
         clear hb2)
      | (go_at_call 22; have hh := HB1.out; clear hh; refine (KF.out _ HB1.out).mono ?_; rintro e w2 ⟨rfl, hb2⟩
         obtain ⟨X3, hX3⟩ : ∃ X : World, w2.alloc (.cells #[.int .i64 0, .int .i64 a1] 54) = X := ⟨_, rfl⟩
         have HB3 := Lib.hid (show Below w.heap.size w X3 by subst hX3; exact (HB1.out.trans (hb2.mono HB1.out.size)).alloc (HB1.out.trans (hb2.mono HB1.out.size)).size _)
         have HFc := Lib.hid (show Blk X3 w2.heap.size 54 #[.int .i64 0, .int .i64 a1] by subst hX3; exact Blk.new w2 _ _)
         have c0 := HFc.out.cell 0; have c1 := HFc.out.cell 1; simp only [List.getElem?_toArray, List.getElem?_cons_zero, List.getElem?_cons_succ] at c0 c1
         clear hb2)
      | (go_at_call 21; refine (KW.out).mono ?_; rintro e w1 ⟨rfl, hb1⟩; have HB1 := Lib.hid hb1; clear hb1))
    go_ret2
    rw [HE2.out]
    exact with_no HB6.out
  | some ls =>
    rw [hen] at KE HE
    obtain ⟨hll, hlf⟩ := HFI.out ls hen
    have HLF := Lib.hid hlf
    have HE2 := Lib.hid HE.out
    clear HE HFI hen hlf
    go_enter Try.func5, Try.ntmps5
    go_wp2_with (first
      | (go_at_call 23; have hh := HB5.out; clear hh; refine (KE.out _ HB5.out).mono ?_; rintro e w6 ⟨hb6, la, lc, rfl, hr6⟩; have HB6 := Lib.hid (HB5.out.trans (hb6.mono HB5.out.size)); have HR6 := Lib.hid hr6; clear hb6 hr6)
      | (go_at_call 22; have hh := HB3.out; clear hh; refine (KO.out _ HB3.out).mono ?_; rintro e w4 ⟨rfl, hb2⟩
         obtain ⟨X5, hX5⟩ : ∃ X : World, w4.alloc (.cells #[.int .i64 0, .int .i64 a2] 54) = X := ⟨_, rfl⟩
         have HB5 := Lib.hid (show Below w.heap.size w X5 by subst hX5; exact (HB3.out.trans (hb2.mono HB3.out.size)).alloc (HB3.out.trans (hb2.mono HB3.out.size)).size _)
         have HFd := Lib.hid (show Blk X5 w4.heap.size 54 #[.int .i64 0, .int .i64 a2] by subst hX5; exact Blk.new w4 _ _)
         have d0 := HFd.out.cell 0; have d1 := HFd.out.cell 1; simp only [List.getElem?_toArray, List.getElem?_cons_zero, List.getElem?_cons_succ] at d0 d1
         clear hb2)
      | (go_at_call 22; have hh := HB1.out; clear hh; refine (KF.out _ HB1.out).mono ?_; rintro e w2 ⟨rfl, hb2⟩
         obtain ⟨X3, hX3⟩ : ∃ X : World, w2.alloc (.cells #[.int .i64 0, .int .i64 a1] 54) = X := ⟨_, rfl⟩
         have HB3 := Lib.hid (show Below w.heap.size w X3 by subst hX3; exact (HB1.out.trans (hb2.mono HB1.out.size)).alloc (HB1.out.trans (hb2.mono HB1.out.size)).size _)
         have HFc := Lib.hid (show Blk X3 w2.heap.size 54 #[.int .i64 0, .int .i64 a1] by subst hX3; exact Blk.new w2 _ _)
         have c0 := HFc.out.cell 0; have c1 := HFc.out.cell 1; simp only [List.getElem?_toArray, List.getElem?_cons_zero, List.getElem?_cons_succ] at c0 c1
         clear hb2)
      | (go_at_call 21; refine (KW.out).mono ?_; rintro e w1 ⟨rfl, hb1⟩; have HB1 := Lib.hid hb1; clear hb1))
    clear KW KF KO KE HB1 HB3 HB5 HFc HFd c0 c1 d0 d1 hX3 hX5
    go_loopw [50, 15] (fun i v wr => ∃ k : Nat, k ≤ ls.length ∧ i = .int .i64 k ∧ Hid (Below w6.heap.size w6 wr) ∧ Hid (Owned 1 RBinds w6.heap.size 24 (fun _ => True) wr v ((ls.take k).map (ofC cmpBind)))) (fun i _ _ => ls.length - (intOf i).toNat)
    case atStart => exact ⟨0, Nat.zero_le _, rfl, Lib.hid (Below.refl _ _), Lib.hid Owned.nil⟩
    case round =>
      obtain ⟨k, hk, rfl, HB, HO⟩ := hrel
      obtain ⟨ga, gc, rfl, -, -, -⟩ := id (HO.out.read RBinds.steady).form
      by_cases hlt : k < ls.length
      · obtain ⟨x, hx⟩ : ∃ x, ls[k]? = some x := ⟨_, List.getElem?_eq_getElem hlt⟩
        obtain ⟨hx1, hx2, hx3⟩ := HLF.out x (List.mem_of_getElem? hx)
        have HSN := Lib.hid (show (ls.take (k + 1)).map (ofC cmpBind) = (ls.take k).map (ofC cmpBind) ++ [ofC cmpBind x] by rw [List.take_add_one, hx]; simp)
        have hgl : ((ls.take k).map (ofC cmpBind)).length < 1099511627776 := by rw [List.length_map, List.length_take]; omega
        obtain ⟨b1, o1, m, rfl, -, hb1, d0, hm0, hm⟩ := RdEnvs.at (RdSlice.agree (REnv.steady 20) (Below.agree HB.out) (HR6.out.more (REnv.steady 20) (S' := fun _ => True) (fun _ _ _ => trivial))) hx
        have KBI := Lib.hid (bindsRef x m 20 wr hm hx1 hx3 (by omega))
        have HRW := Lib.hid (fun q (hq : (Value.slice ga ((ls.take k).map (ofC cmpBind)).length gc).ownBlock = some q) => HO.out.row_lt hq)
        clear hx hx1 hx3 hm hm0
        generalize (ls.take k).map (ofC cmpBind) = gl at *
        generalize ofC cmpBind x = y at *
        go_wp2_with (first
          | (at_builtin
             have hh := HB7.out
             clear hh
             refine wpList_append_one (B := w6.heap.size) (e := 24) (S := fun _ => True) (by rfl) _ _ 25 (by rfl) RBinds.steady rowBindss _ gl (by rfl) (HO7.out.alloc RBinds.steady _) w7.heap.size 1 #[.slice ya y.length yc] 24 (0, 0) y (by rfl) (heap_alloc_new _ _) rfl (by simp [Value.oneCell']) ⟨_, rfl, (HY7.out.agree RBind.steady ((Agree.refl _ _).alloc _)).more RBind.steady (fun q hq _ => ⟨trivial, fun e => by have h1 := (HRW.out q e.symm).2; have h2 : wr.heap.size ≤ q := hq; omega⟩)⟩ hgl (by have := HB7.out.size; simp; omega) ?_
             intro v8 w8 ho8 hg8 hat8
             have HO8 := Lib.hid ho8
             have HB8 := Lib.hid ((HB7.out.alloc HB7.out.size (.cells #[.slice ya y.length yc] 24)).grown hg8 (by have := HB7.out.size; simp; omega) (fun q hq => (HRW.out q hq).1))
             clear ho8 hg8 hat8)
          | (go_at_call 24; refine (KBI.out).mono ?_; rintro e w7 ⟨⟨yv, rfl, hy7⟩, hb7⟩; obtain ⟨ya, yc, rfl, -, -, -⟩ := id hy7.form; have HY7 := Lib.hid hy7; have HB7 := Lib.hid (HB.out.trans (hb7.mono HB.out.size)); have HO7 := Lib.hid (HO.out.below RBinds.steady hb7); clear hy7 hb7))
        go_roundw
        case rel => exact ⟨k + 1, by omega, by go_num, HB8, Lib.hid (by rw [HSN.out]; exact HO8.out)⟩
        case measure => simp [intOf]; omega
      · have hkn : k = ls.length := by omega
        subst hkn
        rw [List.take_length] at HO
        rw [List.take_length]
        have HRD := Lib.hid (HO.out.read RBinds.steady)
        have KM := Lib.hid (mergeRef (ls.map (ofC cmpBind)) _ wr HRD.out (by rw [List.length_map]; omega) (fun y hy => by
          obtain ⟨l, hl, rfl⟩ := List.mem_map.1 hy
          have h1 := ofC_len cmpBind l
          have h2 := (HLF.out l hl).2.1
          omega))
        have HBW := Lib.hid (HB6.out.trans (HB.out.mono HB6.out.size))
        clear HO HRD
        generalize ls.map (ofC cmpBind) = ml at *
        go_wp2_with (go_at_call 25; refine (KM.out).mono ?_; rintro e w9 ⟨⟨ra, rc, rfl, hr9⟩, hb9⟩; have HR9 := Lib.hid hr9; have HB9 := Lib.hid (HBW.out.trans (hb9.mono HBW.out.size)); clear hr9 hb9)
        go_ret2
        rw [HE2.out]
        exact ⟨⟨ra, rc, rfl, HR9.out⟩, HB9.out⟩
end Go.Proofs.Ythieomebngiabaa
namespace Go.Proofs.Ythieomebngiabaa
instance decMemS (s : Str) (l : List Str) : Decidable (s ∈ l) := decidable_of_iff _ (memS_iff s l)
def headsOf (p : List PRule) : List Str := p.map fun r => r.head.name
def dl (p : List PRule) (a : PAtom) : Nat := if a.neg = true ∧ a.name ∈ headsOf p then 1 else 0
structure Sol (p : List PRule) (M : Str → Nat) : Prop where
  out : ∀ s, s ∉ headsOf p → M s = 0
  up : ∀ r ∈ p, ∀ a ∈ r.body, M a.name + dl p a ≤ M r.head.name
structure Least (p : List PRule) (L : Str → Nat) : Prop where
  sol : Sol p L
  least : ∀ M, Sol p M → ∀ s, L s ≤ M s
theorem nodup_le {α : Type} [DecidableEq α] : ∀ {l m : List α}, l.Nodup → (∀ x ∈ l, x ∈ m) → l.length ≤ m.length
  | [], _, _, _ => Nat.zero_le _
  | x :: l, m, hn, hs => by
    have hx : x ∈ m := hs x (by simp)
    have hn' := List.nodup_cons.1 hn
    have h1 : ∀ y ∈ l, y ∈ m.erase x := fun y hy => (List.mem_erase_of_ne (fun e => hn'.1 (by rw [← e]; exact hy))).2 (hs y (by simp [hy]))
    have h2 := nodup_le hn'.2 h1
    rw [List.length_erase_of_mem hx] at h2
    have h3 := List.length_pos_of_mem hx
    simp only [List.length_cons]
    omega
theorem Sol.take {p : List PRule} {M : Str → Nat} (h : Sol p M) (n : Nat) : Sol (p.take n) (fun s => if s ∈ headsOf (p.take n) then M s else 0) := by
  have hsub : ∀ s, s ∈ headsOf (p.take n) → s ∈ headsOf p := fun s hs => by
    obtain ⟨r, hr, e⟩ := List.mem_map.1 hs
    exact List.mem_map.2 ⟨r, List.mem_of_mem_take hr, e⟩
  refine ⟨fun s hs => if_neg hs, fun r hr a ha => ?_⟩
  have hr' : r.head.name ∈ headsOf (p.take n) := List.mem_map.2 ⟨r, hr, rfl⟩
  have h1 := h.up r (List.mem_of_mem_take hr) a ha
  show (if a.name ∈ headsOf (p.take n) then M a.name else 0) + dl (p.take n) a ≤ (if r.head.name ∈ headsOf (p.take n) then M r.head.name else 0)
  rw [if_pos hr']
  by_cases ha' : a.name ∈ headsOf (p.take n)
  · rw [if_pos ha']
    have : dl (p.take n) a ≤ dl p a := by
      unfold dl
      split
      · rename_i h2; rw [if_pos ⟨h2.1, hsub _ h2.2⟩]; exact Nat.le_refl _
      · exact Nat.zero_le _
    omega
  · rw [if_neg ha']
    have : dl (p.take n) a = 0 := by unfold dl; rw [if_neg (fun hh => ha' hh.2)]
    omega
theorem Least.take {p : List PRule} {L K : Str → Nat} (h : Least p L) {n : Nat} (hk : Least (p.take n) K) (s : Str) : K s ≤ L s := by
  have := hk.least _ (h.sol.take n) s
  refine Nat.le_trans this ?_
  show (if s ∈ headsOf (p.take n) then L s else 0) ≤ L s
  split <;> omega
end Go.Proofs.Ythieomebngiabaa
namespace Go.Proofs.Ythieomebngiabaa
open Go.RowKit Go.Maps
theorem MapE.len {w : World} {b n : Nat} {m : Binds} (h : MapE w b n (fun v => getB v m)) (hd : Nd m) (hs : ∀ y ∈ m, y.var.size ≤ maxLen) (ty : TypeId) : (Builtin.len_ #[32] ty #[.map (some b)]).run Try.prog w = .ok (.int .i64 (m.length : Int)) w := by
  obtain ⟨D, h1, h2⟩ := h
  have hrun := World.ownsMap.len h1 Try.underlying32 ty
  suffices hz : Maps.size D = m.length by rw [hrun, hz]
  obtain ⟨es, clock, hb, F, -, rfl⟩ := h1
  have hk := fit_keys F
  have ha := fit_apart lawStr F
  generalize hl : es.toList.map (WideElems.rg Try.prog 9 (plainElem Try.prog 9)) = l at *
  have hsz : Maps.size (DataW.map (l.foldr DataW.insert [])) = l.length := by simp [Maps.size, length_sorted]
  rw [hsz]
  have hhas : ∀ k, Maps.has (DataW.map (l.foldr DataW.insert [])) k = true ↔ ∃ p ∈ l, p.1.sameKey k = true := fun k => by
    rw [has_eq, List.any_eq_true]
    exact ⟨fun ⟨p, hp, h⟩ => ⟨p, mem_sorted.1 hp, h⟩, fun ⟨p, hp, h⟩ => ⟨p, mem_sorted.2 hp, h⟩⟩
  have n1 : (l.map Prod.fst).Nodup := by
    rw [List.nodup_iff_pairwise_ne, List.pairwise_map]
    exact ha
  have n2 : ((Vs m).map keyL).Nodup := by
    rw [List.nodup_iff_pairwise_ne, List.pairwise_map]
    exact (List.nodup_iff_pairwise_ne.1 hd).imp fun hne e => hne (keyL_inj e)
  have e1 : l.length = (l.map Prod.fst).length := by rw [List.length_map]
  have e2 : m.length = ((Vs m).map keyL).length := by rw [List.length_map]; unfold Vs; rw [List.length_map]
  rw [e1, e2]
  classical
  refine Nat.le_antisymm (nodup_le n1 fun k hkm => ?_) (nodup_le n2 fun k hkm => ?_)
  · obtain ⟨p, hp, rfl⟩ := List.mem_map.1 hkm
    obtain ⟨v, hv⟩ := hk p hp
    obtain ⟨s, -, e, hss⟩ := keyOf_string_inv hv
    have h3 := (hhas (keyL s)).2 ⟨p, hp, by rw [e]; simp [keyL, Lit.sameKey]⟩
    rw [(h2 s hss).1] at h3
    rw [e]
    refine List.mem_map.2 ⟨s, ?_, rfl⟩
    apply Classical.byContradiction
    intro hn
    dsimp only at h3
    rw [getB_none.2 hn] at h3
    cases h3
  · obtain ⟨s, hsm, rfl⟩ := List.mem_map.1 hkm
    obtain ⟨y, hy, rfl⟩ := List.mem_map.1 hsm
    have h3 := (h2 y.var (hs y hy)).1
    dsimp only at h3
    rw [getB_of_mem hd (v := y.var) (n := y.name) hy] at h3
    obtain ⟨p, hp, hk2⟩ := (hhas (keyL y.var)).1 h3
    exact List.mem_map.2 ⟨p, hp, WideAt.sameKey_eq hk2⟩
end Go.Proofs.Ythieomebngiabaa
namespace Go.Proofs.Ythieomebngiabaa
open Go.RowKit
theorem allReads {S S2 : Nat → Prop} (bv : Value) (body : List PAtom) (fv : Value) (facts : List PFact) (w : World) (hb : RdAtoms S w bv body) (hf : RdFacts S2 w fv facts)
    (n1 : body.length ≤ 1048576) (n2 : ∀ a ∈ body, a.terms.length ≤ 1048576) (n3 : ∀ a ∈ body, ∀ t ∈ a.terms, t.name.size ≤ 1048576) (n4 : facts.length ≤ 1048576) (n5 : ∀ x ∈ facts, x.args.length ≤ 1048576) :
    Calls Try.prog 7 #[bv, fv] w fun e w' => (∃ a c, e = .returned (.tuple #[.slice a (allP body facts).1.length c, .int .i64 (allP body facts).2]) ∧ RdBindss (fun b => w.heap.size ≤ b) w' (.slice a (allP body facts).1.length c) (allP body facts).1) ∧ Below w.heap.size w w' := by
  refine (allCalls bv body fv facts w hb hf n1 n2 n3 n4 n5).mono fun e w' ⟨h1, v, zs, he, hn, hm⟩ => ⟨?_, h1⟩
  have hr := (hn.reads.read RBinds.steady).more RBinds.steady (S' := fun b => w.heap.size ≤ b) (fun b hb _ => hb.elim id id)
  rw [hm] at hr
  obtain ⟨a, c, rfl, -, -, -⟩ := id hr.form
  exact ⟨a, c, he, hr⟩
end Go.Proofs.Ythieomebngiabaa
namespace Go.Proofs.Ythieomebngiabaa
open Go.RowKit Go.ChangeShapes Go.WideShapes Go.Deep
theorem bulk_append {H : Type} (l r : List (DataW H)) : Rows.uptoBulkAll (l ++ r) = Rows.uptoBulkAll l + Rows.uptoBulkAll r := by
  induction l with
  | nil => simp [Rows.uptoBulkAll]
  | cons x l ih => simp only [List.cons_append, Rows.uptoBulkAll, ih]; omega
theorem cell_spot {w : World} {a : Addr} {v : Value} (h : w.cell? a = some v) : a.spot = none ∧ a.block < w.heap.size := by
  unfold World.cell? at h
  split at h
  · rename_i c t f hc
    refine ⟨?_, (Array.getElem?_eq_some_iff.1 hc).1⟩
    cases hs : a.spot with
    | none => rfl
    | some s => rw [hs] at h; simp at h
  · cases h
def sizeL {α : Type} (size : α → Nat) (l : List α) : Nat := 1 + (l.map size).sum
theorem sizeL_le {α : Type} {size : α → Nat} (hp : ∀ x, 1 ≤ size x) (l : List α) : l.length + 1 ≤ sizeL size l := by
  unfold sizeL
  induction l with
  | nil => simp
  | cons x l ih => have := hp x; simp only [List.map_cons, List.sum_cons, List.length_cons]; omega
theorem sizeL_mem {α : Type} {size : α → Nat} {l : List α} {x : α} (h : x ∈ l) : size x ≤ sizeL size l := by
  unfold sizeL
  induction l with
  | nil => cases h
  | cons y l ih =>
    simp only [List.map_cons, List.sum_cons]
    rcases List.mem_cons.1 h with rfl | h
    · omega
    · have := ih h; omega
structure Opens {α : Type} (P : Program) (t : TypeId) (k : Nat) (R : Reader α) (size : α → Nat) : Prop where
  cells : P.cellsOf t = k
  pos : 0 < k
  one : ∀ x, 1 ≤ size x
  opn : ∀ {H : Type} {enc : TypeId × Value → H} {w : World} {n : Nat} {cs : List Value} {x : DataW H × List MemPlace}, DataW.trod enc P w 0 (fun _ => true) true n t cs = some x → ∃ y, R (fun _ => True) w cs y ∧ size y ≤ Rows.uptoBulk x.1
theorem Opens.slice {α : Type} {P : Program} {t e : TypeId} {k : Nat} {R : Reader α} {size : α → Nat} (h : Opens P e k R size) (ht : P.underlying t = some (.slice e)) {H : Type} {enc : TypeId × Value → H} {w : World} {n : Nat} {cs : List Value} {x : DataW H × List MemPlace}
    (hx : DataW.trod enc P w 0 (fun _ => true) true n t cs = some x) : ∃ v l, cs = [v] ∧ RdSlice k R (fun _ => True) w v l ∧ sizeL size l ≤ Rows.uptoBulk x.1 := by
  rcases open_slice ht hx with ⟨rfl, rfl⟩ | ⟨a, len, cap, m, n', D, Pl, rfl, -, hl, hm, hmm, rfl, hi⟩
  · exact ⟨_, [], rfl, ⟨none, 0, rfl, Nat.le_refl _, Nat.zero_le _, fun _ => rfl, fun i x hx => by simp at hx⟩, by simp [sizeL, Rows.uptoBulk]⟩
  · simp only [if_true] at hmm
    subst hmm
    have main : ∀ j, j ≤ len → ∃ l : List α, l.length = j ∧ (∀ i y, l[i]? = some y → ∃ cs', w.cells? 0 (a.add (i * P.cellsOf e)) (P.cellsOf e) = some cs' ∧ R (fun _ => True) w cs' y) ∧ (l.map size).sum ≤ Rows.uptoBulkAll ((List.range j).map D) := by
      intro j
      induction j with
      | zero => exact fun _ => ⟨[], rfl, fun i y hy => by simp at hy, by simp⟩
      | succ j ih =>
        intro hj
        obtain ⟨l, h1, h2, h3⟩ := ih (by omega)
        obtain ⟨cs', g1, g2⟩ := hi j (by omega)
        obtain ⟨y, r1, r2⟩ := h.opn g2
        refine ⟨l ++ [y], by simp [h1], fun i z hz => ?_, ?_⟩
        · by_cases hij : i < j
          · rw [List.getElem?_append_left (by omega)] at hz; exact h2 i z hz
          · rw [List.getElem?_append_right (by omega)] at hz
            have : i - l.length = 0 := by
              have := (List.getElem?_eq_some_iff.1 hz).1
              simp at this; omega
            rw [this] at hz
            obtain rfl : y = z := by simpa using hz
            obtain rfl : i = j := by omega
            exact ⟨cs', g1, r1⟩
        · rw [List.range_succ, List.map_append (f := D), bulk_append, List.map_append, List.sum_append]
          simp [Rows.uptoBulkAll]
          simp at r2
          omega
    obtain ⟨l, h1, h2, h3⟩ := main len (Nat.le_refl _)
    refine ⟨_, l, rfl, ⟨some a, m, by rw [h1], by omega, hm, (fun e => by cases e), fun i y hy => ?_⟩, by simp only [sizeL, Rows.uptoBulk]; omega⟩
    obtain ⟨cs', g1, g2⟩ := h2 i y hy
    obtain ⟨-, hlen, hget⟩ := World.cells?_some g1
    rw [h.cells] at hlen hget
    have hk := h.pos
    obtain ⟨b, off, spot⟩ := a
    have hspot : spot = none ∧ b < w.heap.size := by
      obtain ⟨y0, hy0⟩ : ∃ y0, l[0]? = some y0 := ⟨_, List.getElem?_eq_getElem (by have := (List.getElem?_eq_some_iff.1 hy).1; omega)⟩
      obtain ⟨cs0, g3, -⟩ := h2 0 y0 hy0
      obtain ⟨-, hlen0, hget0⟩ := World.cells?_some g3
      rw [h.cells] at hlen0 hget0
      have h0 := hget0 0 hk
      rw [List.getElem?_eq_getElem (by omega)] at h0
      have := cell_spot h0
      simpa [Addr.add] using this
    obtain ⟨rfl, hb⟩ := hspot
    refine ⟨b, off, cs', rfl, trivial, hb, hlen, fun j u hu => ?_, g2⟩
    · have hj : j < k := by rw [← hlen]; exact (List.getElem?_eq_some_iff.1 hu).1
      have := hget j hj
      rw [hu] at this
      have hadd : ((⟨b, off, none⟩ : Addr).add (i * k)).add j = ⟨b, off + i * k + j, none⟩ := by
        unfold Addr.add
        split
        · split
          · simp_all
          · simp_all
        · split <;> simp_all <;> omega
      rwa [hadd] at this
theorem Opens.sliceArg {α : Type} {P : Program} {t e : TypeId} {k : Nat} {R : Reader α} {size : α → Nat} (h : Opens P e k R size) (ht : P.underlying t = some (.slice e)) {H : Type} {enc : TypeId × Value → H} {W : World} {r : Reach} {b : Nat} {v : Value} {d : DataW H} {p : List MemPlace}
    (hv : Value.okWide P W r b t v) (hd : DataW.Trod enc P W 0 (fun _ => true) true t v d p) : ∃ l, RdSlice k R (fun _ => True) W v l ∧ sizeL size l ≤ Rows.uptoBulk d := by
  obtain ⟨a, len, cap, rfl⟩ := okWide_slice ht hv
  obtain ⟨n, hn⟩ := hd
  obtain ⟨v', l, e1, hr, hb⟩ := h.slice ht hn
  have e2 : [Value.slice a len cap] = [v'] := e1
  obtain rfl : Value.slice a len cap = v' := by simpa using e2
  exact ⟨l, hr, hb⟩
theorem Opens.intArg {P : Program} {t : TypeId} (h : Opens P t 1 RInt (fun _ => 1)) (ht : P.underlying t = some (.int .i64)) {H : Type} {enc : TypeId × Value → H} {W : World} {r : Reach} {b : Nat} {v : Value} {d : DataW H} {p : List MemPlace}
    (hv : Value.okWide P W r b t v) (hd : DataW.Trod enc P W 0 (fun _ => true) true t v d p) : ∃ n : Int, v = .int .i64 n ∧ 1 ≤ Rows.uptoBulk d := by
  obtain ⟨s, rfl⟩ := okWide_int ht hv
  obtain ⟨n, hn⟩ := hd
  obtain ⟨y, e, hb⟩ := h.opn hn
  exact ⟨_, rfl, hb⟩
theorem list2 {l : List Value} (h : l.length = 2) : ∃ a b, l = [a, b] := match l, h with | [a, b], _ => ⟨a, b, rfl⟩
theorem list3 {l : List Value} (h : l.length = 3) : ∃ a b c, l = [a, b, c] := match l, h with | [a, b, c], _ => ⟨a, b, c, rfl⟩
def sizeStr (s : Str) : Nat := s.size + 1
def sizeInt (_ : Int) : Nat := 1
def sizeFact (f : PFact) : Nat := 1 + sizeStr f.name + sizeL sizeStr f.args
def sizeTerm (f : PTerm) : Nat := 2 + sizeStr f.name
def sizeAtom (f : PAtom) : Nat := 2 + sizeStr f.name + sizeL sizeTerm f.terms
def sizeBind (f : PBind) : Nat := 1 + sizeStr f.var + sizeStr f.name
theorem openStr : Opens Try.prog 9 1 RStr sizeStr where
  cells := by kernel_rfl
  pos := by omega
  one _ := by simp only [sizeStr]; omega
  opn h := by
    obtain ⟨s, rfl, rfl, -⟩ := DataW.trod_string Try.underlying9 h
    refine ⟨s, rfl, ?_⟩
    have : s.data.toList.length = s.size := by rw [Array.length_toList]; rfl
    simp only [sizeStr, Rows.uptoBulk]; omega
theorem openInt : Opens Try.prog 3 1 RInt sizeInt where
  cells := by kernel_rfl
  pos := by omega
  one _ := by simp [sizeInt]
  opn h := by
    obtain ⟨s, rfl, rfl, -⟩ := DataW.trod_int Try.underlying3 h
    exact ⟨s, rfl, by simp [sizeInt, Rows.uptoBulk]⟩
theorem openFact : Opens Try.prog 41 2 RFact sizeFact where
  cells := by kernel_rfl
  pos := by omega
  one _ := by simp only [sizeFact]; omega
  opn {H enc w n cs x} h := by
    obtain ⟨y0, y1, n, rfl, hl, h0, h1⟩ := trod_struct2 Try.underlying41 h
    rw [show Try.prog.cellsOf 41 = 2 by kernel_rfl] at hl
    obtain ⟨c0, c1, rfl⟩ := list2 hl
    rw [show Try.prog.cellsOf 9 = 1 by kernel_rfl] at h0
    rw [show Try.prog.cellsOf 39 = 1 by kernel_rfl] at h1
    obtain ⟨s, e0, b0⟩ := openStr.opn h0
    obtain ⟨v, l, e1, hr, b1⟩ := openStr.slice Try.underlying39 h1
    obtain rfl : c0 = .string s := by simpa [RStr] using e0
    obtain rfl : c1 = v := by simpa using e1
    exact ⟨⟨s, l⟩, ⟨_, rfl, hr⟩, by simp only [sizeFact, Rows.uptoBulk, Rows.uptoBulkAll]; omega⟩
theorem openTerm : Opens Try.prog 67 2 RTerm sizeTerm where
  cells := by kernel_rfl
  pos := by omega
  one _ := by simp only [sizeTerm]; omega
  opn {H enc w n cs x} h := by
    obtain ⟨y0, y1, n, rfl, hl, h0, h1⟩ := trod_struct2 Try.underlying67 h
    rw [show Try.prog.cellsOf 67 = 2 by kernel_rfl] at hl
    obtain ⟨c0, c1, rfl⟩ := list2 hl
    rw [show Try.prog.cellsOf 4 = 1 by kernel_rfl] at h0
    rw [show Try.prog.cellsOf 9 = 1 by kernel_rfl] at h1
    obtain ⟨b, e0, rfl⟩ := DataW.trod_bool Try.underlying4 h0
    obtain ⟨s, e1, b1⟩ := openStr.opn h1
    obtain rfl : c0 = .bool b := by simpa using e0
    obtain rfl : c1 = .string s := by simpa [RStr] using e1
    exact ⟨⟨b, s⟩, rfl, by simp only [sizeTerm, Rows.uptoBulk, Rows.uptoBulkAll]; omega⟩
theorem openAtom : Opens Try.prog 38 3 RAtom sizeAtom where
  cells := by kernel_rfl
  pos := by omega
  one _ := by simp only [sizeAtom]; omega
  opn {H enc w n cs x} h := by
    obtain ⟨y0, y1, y2, n, rfl, hl, h0, h1, h2⟩ := trod_struct3 Try.underlying38 h
    rw [show Try.prog.cellsOf 38 = 3 by kernel_rfl] at hl
    obtain ⟨c0, c1, c2, rfl⟩ := list3 hl
    rw [show Try.prog.cellsOf 4 = 1 by kernel_rfl] at h0
    rw [show Try.prog.cellsOf 9 = 1 by kernel_rfl] at h1
    rw [show Try.prog.cellsOf 36 = 1 by kernel_rfl] at h2
    obtain ⟨b, e0, rfl⟩ := DataW.trod_bool Try.underlying4 h0
    obtain ⟨s, e1, b1⟩ := openStr.opn h1
    obtain ⟨v, l, e2, hr, b2⟩ := openTerm.slice Try.underlying36 h2
    obtain rfl : c0 = .bool b := by simpa using e0
    obtain rfl : c1 = .string s := by simpa [RStr] using e1
    obtain rfl : c2 = v := by simpa using e2
    exact ⟨⟨b, s, l⟩, ⟨_, rfl, hr⟩, by simp only [sizeAtom, Rows.uptoBulk, Rows.uptoBulkAll]; omega⟩
theorem openBind : Opens Try.prog 34 2 RBind sizeBind where
  cells := by kernel_rfl
  pos := by omega
  one _ := by simp only [sizeBind]; omega
  opn {H enc w n cs x} h := by
    obtain ⟨y0, y1, n, rfl, hl, h0, h1⟩ := trod_struct2 Try.underlying34 h
    rw [show Try.prog.cellsOf 34 = 2 by kernel_rfl] at hl
    obtain ⟨c0, c1, rfl⟩ := list2 hl
    rw [show Try.prog.cellsOf 9 = 1 by kernel_rfl] at h0 h1
    obtain ⟨s, e0, b0⟩ := openStr.opn h0
    obtain ⟨s', e1, b1⟩ := openStr.opn h1
    obtain rfl : c0 = .string s := by simpa [RStr] using e0
    obtain rfl : c1 = .string s' := by simpa [RStr] using e1
    exact ⟨⟨s, s'⟩, rfl, by simp only [sizeBind, Rows.uptoBulk, Rows.uptoBulkAll]; omega⟩
theorem trodAll_carry {H : Type} {enc : TypeId × Value → H} {P : Program} (hl : laidOutB P = true) {W W' : World} (hb : Below W.heap.size W W') {sp : Nat → Bool} :
    ∀ {ts : List TypeId} {vs : List Value} {ds : List (DataW H)} {ps : List MemPlace}, ts.all (fun t => P.readableRec t && decide (t < P.types.size)) = true → (∀ x ∈ ps, x.block < W.heap.size) → (∀ x ∈ ps, sp x.block = true) →
      DataW.TrodAll enc P W 0 (fun _ => true) true ts vs ds ps → DataW.TrodAll enc P W' 0 sp true ts vs ds ps
  | [], _, _, _, _, _, _, h => by
    obtain ⟨rfl, rfl, rfl⟩ := trodAll_nil h
    exact trodAll_mk0
  | t :: ts, _, _, _, ht, hlt, hsp, h => by
    obtain ⟨v, vs1, d, ds1, a, b, rfl, rfl, rfl, h1, h2⟩ := trodAll_cons h
    simp only [List.all_cons, Bool.and_eq_true, decide_eq_true_eq] at ht
    exact ⟨a, b, WideElems.Trod_stays hl ht.1.1 ht.1.2 h1 (fun x hx => hb.same (hlt x (by simp [hx]))) (fun x hx => hsp x (by simp [hx])),
      trodAll_carry hl hb (by simpa using ht.2) (fun x hx => hlt x (by simp [hx])) (fun x hx => hsp x (by simp [hx])) h2, rfl⟩
theorem law_post {H : Type} {enc : TypeId × Value → H} {P : Program} {f : Func} {s : ChangeSpec} {fresh handsOn again : Bool} {W W' : World} {args : Array Value} {ds gs : List (DataW H)} {before : List MemPlace} {tb : TypeId}
    (hW : DataW.Whole enc P f.params.toList s.vars false W args.toList ds gs before) (hv : s.vars = []) (hfn : s.fn H ds = { results := [.lit (.bool true)], args := ds }) (hrt : f.resultTypes = #[tb]) (htb : P.underlying tb = some .bool)
    (hl : laidOutB P = true) (hread : f.params.toList.all (fun t => P.readableRec t && decide (t < P.types.size)) = true) (hb : Below W.heap.size W W') : s.post enc P f false fresh handsOn again W args (.bool true) W' := by
  have hlt := hW.lt
  have hold : ∀ p ∈ before, (fun b => decide (b < W.heap.size)) p.block = true := fun p hp => by simpa using hlt p hp
  have hW' := hW
  obtain ⟨p, q, hA, hV, rfl, hz, hn⟩ := hW
  rw [hv] at hV
  obtain ⟨rfl, rfl⟩ := trodVars_none hV
  have hds : ds ++ ([] : List (DataW H)) = ds := List.append_nil _
  have hargs : ∀ sp : Nat → Bool, (∀ x ∈ p, sp x.block = true) → DataW.TrodAll enc P W' 0 sp true f.params.toList args.toList (s.fn H (ds ++ [])).args p := fun sp hsp => by
    rw [hds, hfn]
    exact trodAll_carry hl hb hread (fun x hx => hlt x (by simp [hx])) hsp hA
  have hres : ∀ (b : Nat) (sp : Nat → Bool) (hd : Bool), DataW.TrodAll enc P W' b sp hd f.resultTypes.toList ((Value.bool true).resultList f.resultTypes.size) (s.fn H (ds ++ [])).results [] := fun b sp hd => by
    rw [hds, hfn, hrt]
    exact trodAll_cons_mk (shut_bool htb _) trodAll_mk0
  have hvars : ∀ sp : Nat → Bool, DataW.TrodVars enc P W' sp s.vars (s.fn H (ds ++ [])).vars [] := fun sp => by
    rw [hds, hfn, hv]; rfl
  refine ⟨ds, [], p ++ [], [], p, [], hW', hres _ _ _, hargs _ (fun x hx => hold x (by simp [hx])), hvars _, World.keptBut_mono (fun x hx => ⟨hx, Or.inr (by simpa using hx)⟩) (hb.frame (· ∈ p ++ [])), fun _ => ?_⟩
  refine ⟨ok_one hrt rfl (okWide_bool_mk htb _), _, _, ([] ++ p) ++ [], ⟨[] ++ p, [], trodAll_append (hargs _ (fun _ _ => rfl)) (hres _ _ _), hvars _, rfl, ?_, ?_⟩, ?_⟩
  · intro b off hp
    have hb' : b < W.heap.size := hlt (.cell b off) (by simpa using hp)
    rw [hb.frozen (p := ⟨b, off, none⟩) hb']
    exact hz b off (by simpa using hp)
  · intro ha; cases ha
  · intro x hx _
    simpa using hx
end Go.Proofs.Ythieomebngiabaa
