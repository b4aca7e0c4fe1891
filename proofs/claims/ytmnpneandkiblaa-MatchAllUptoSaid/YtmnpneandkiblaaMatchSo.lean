/-
  corolaw4.MatchSo ALWAYS ANSWERS TRUE: what match.All tells is so of the facts, and its lists rise. For any arguments of ordinary size; without conditions.
-/
import Derived.Test.YtmnpneandkiblaaAtomsIn
import Derived.Test.YtmnpneandkiblaaAlive4
import Derived.Test.YtmnpneandkiblaaRefB
import Derived.Test.YtmnpneandkiblaaAllS
import Derived.Test.YtmnpneandkiblaaChecked
namespace Go.Proofs.Ytmnpneandkiblaa
open Go.RowKit Go.ChangeShapes Go.WideShapes Go.Deep

/-- match.Fill of an atom that is filled. -/
theorem fillKnown {S S2 : Nat → Prop} {a : PAtom} {tv lv : Value} {l : Binds} {w : World} {f : PFact} (hfl : fillP a l = some f) (ht : RdTerms S w tv a.terms) (hl : RdBinds S2 w lv l) (n1 : a.terms.length ≤ 1048576) (n2 : l.length ≤ 1073741824) :
    Calls Try.prog 11 #[.agg #[.bool a.neg, .string a.name, tv], lv] w fun e w' => (∃ av ac, e = .returned (.tuple #[.agg #[.string f.name, .slice av f.args.length ac], .bool true]) ∧ RdStrs (New w) w' (.slice av f.args.length ac) f.args) ∧ Below w.heap.size w w' :=
  (fillCalls a tv lv l w ht hl n1 n2).mono fun e w' ⟨h1, h2⟩ => by
    rw [hfl] at h2
    obtain ⟨v, he, hr⟩ := h2
    obtain ⟨av, ac, rfl, -, -, -⟩ := id hr.form
    exact ⟨⟨av, ac, he, hr⟩, h1⟩
theorem fill_args {a : PAtom} {l : Binds} {f : PFact} (h : fillP a l = some f) : f.args.length = a.terms.length := (fillArgs_len (fillP_name h).2).symm

attribute [local go_sem ↓] Go.wp_at_zero Go.wp_at_succ
set_option maxRecDepth 100000 in
set_option maxHeartbeats 8000000 in
theorem matchSoCalls {S S2 : Nat → Prop} (bv : Value) (body : List PAtom) (fv : Value) (facts : List PFact) (w : World) (hb : RdAtoms S w bv body) (hf : RdFacts S2 w fv facts) (hs : BodySmall body) (n4 : facts.length ≤ 1048576) (n5 : ∀ x ∈ facts, x.args.length ≤ 1048576) :
    Calls Try.prog 4 #[bv, fv] w fun e w' => e = .returned (.bool true) ∧ Below w.heap.size w w' := by
  obtain ⟨ba, bc, rfl, -, -, -⟩ := id hb.form
  obtain ⟨fa, fc, rfl, -, -, -⟩ := id hf.form
  have HBD := Lib.hid hb
  have HFA := Lib.hid hf
  have N5 := Lib.hid n5
  have HSM := Lib.hid hs
  have n1 := hs.b0
  clear hb hf n5 hs
  have KA := Lib.hid (alive4Calls w)
  have K1 := Lib.hid (fun W (hW : Below w.heap.size w W) => allReads (.slice ba body.length bc) body (.slice fa facts.length fc) facts W (HBD.out.up hW) (HFA.out.up hW) n1 HSM.out.b1 HSM.out.b2 n4 N5.out)
  have HSA := Lib.hid (all_short body facts)
  have HCS := Lib.hid (allP_cases body facts)
  have HSO := Lib.hid (fun m (hm : m ∈ (allP body facts).1) a (ha : a ∈ body) => all_so hm ha)
  have HRI := Lib.hid (fun i x y (hx : (allP body facts).1[i]? = some x) (hy : (allP body facts).1[i + 1]? = some y) => all_rise hx hy)
  generalize allP body facts = r at *
  obtain ⟨ls, q⟩ := r
  dsimp only at *
  by_cases hq : q = 0
  case neg =>
    have hle : ls = [] := by
      rcases HCS.out with ⟨-, h⟩ | ⟨h, -⟩
      · exact h
      · exact absurd h hq
    subst hle
    have g1 : (q != 0) = true := by simpa using hq
    clear hq HCS
    go_enter Try.func4, Try.ntmps4
    go_wp2_with (first
      | (go_at_call 17; refine (KA.out).mono ?_; rintro e w1 ⟨rfl, hb1⟩; have HB1 := Lib.hid hb1; clear hb1)
      | (go_at_call 10; refine (K1.out _ HB1.out).mono ?_; rintro e w2 ⟨⟨a2, c2, rfl, hr2⟩, hb2⟩; have HB2 := Lib.hid (HB1.out.trans (hb2.mono (Below.size HB1.out))); clear hr2 hb2))
    go_ret
    exact ⟨rfl, HB2.out⟩
  subst hq
  obtain ⟨hbz, hsf⟩ : bodyBad body = 0 ∧ (setF facts).1 = 0 := by
    rcases HCS.out with ⟨h, -⟩ | ⟨-, h1, h2, -⟩
    · exact absurd rfl h
    · exact ⟨h1, h2⟩
  have HFS := Lib.hid (setF_set hsf).2.1
  have hll : ls.length ≤ 20000 := HSA.out.1
  clear hbz hsf HCS
  go_enter Try.func4, Try.ntmps4
  go_wp2_with (first
    | (go_at_call 17; refine (KA.out).mono ?_; rintro e w1 ⟨rfl, hb1⟩; have HB1 := Lib.hid hb1; clear hb1)
    | (go_at_call 10; refine (K1.out _ HB1.out).mono ?_; rintro e w2 ⟨⟨a2, c2, rfl, hr2⟩, hb2⟩; have HR2 := Lib.hid hr2; have HB2 := Lib.hid (HB1.out.trans (hb2.mono (Below.size HB1.out))); clear hr2 hb2))
  clear KA K1 HB1
  go_loopw [28] (fun i wr => ∃ k : Nat, k ≤ ls.length ∧ i = .int .i64 k ∧ Hid (Below w2.heap.size w2 wr)) (fun i _ => ls.length - (intOf i).toNat)
  case atStart => exact ⟨0, Nat.zero_le _, rfl, Lib.hid (Below.refl _ _)⟩
  case round =>
    obtain ⟨k, hk, rfl, HB⟩ := hrel
    by_cases hlt : k < ls.length
    · obtain ⟨l, hx⟩ : ∃ l, ls[k]? = some l := ⟨_, List.getElem?_eq_getElem hlt⟩
      obtain ⟨b1, o1, lv, efa, -, hl1, d0, hlv⟩ := RdBindss.at HR2.out hx
      obtain ⟨xa, xc, rfl, -, -, -⟩ := id hlv.form
      have HLV := Lib.hid hlv
      have HX := Lib.hid hx
      have nl : l.length ≤ 20 := HSA.out.2 l (List.mem_of_getElem? hx)
      have d1 := (cell_below HB.out hl1 (o1 + k)).trans d0
      have HL1 := Lib.hid hl1
      subst efa
      clear hlv hx d0 hl1
      go_wp2
      obtain ⟨wo, hwo⟩ : ∃ wo : World, wo = wr := ⟨_, rfl⟩
      subst hwo
      have HBO : Hid (Below w2.heap.size w2 wo) := HB
      go_loopw [35] (fun i wr => ∃ j : Nat, j ≤ body.length ∧ i = .int .i64 j ∧ Hid (Below w2.heap.size w2 wr)) (fun i _ => body.length - (intOf i).toNat)
      case atStart => exact ⟨0, Nat.zero_le _, rfl, HBO⟩
      case round =>
        clear HB HBO d1
        obtain ⟨j, hj, rfl, HB⟩ := hrel
        have HBW := Lib.hid (HB2.out.trans (HB.out.mono (Below.size HB2.out)))
        by_cases hlt2 : j < body.length
        · obtain ⟨a, ha⟩ : ∃ a, body[j]? = some a := ⟨_, List.getElem?_eq_getElem hlt2⟩
          obtain ⟨b2, o2, tv, rfl, -, -, e0, e1, e2, htv⟩ := RdAtoms.at (HBD.out.up HBW.out) ha
          obtain ⟨ta, tc, rfl, -, -, -⟩ := id htv.form
          have ham := List.mem_of_getElem? ha
          obtain ⟨f, hfl, hmem⟩ := HSO.out l (List.mem_of_getElem? HX.out) a ham
          have na := HSM.out.b1 a ham
          have HFL := Lib.hid (show f.args.length ≤ 1048576 by rw [fill_args hfl]; exact na)
          obtain ⟨W1, hW1⟩ : ∃ W1 : World, wr.alloc (.cells #[.bool a.neg, .string a.name, .slice ta a.terms.length tc] 38) = W1 := ⟨_, rfl⟩
          have hs1 : W1.heap.size = wr.heap.size + 1 := by subst hW1; simp
          have hbx : Below wr.heap.size wr W1 := by subst hW1; exact (Below.refl _ _).alloc (Nat.le_refl _) _
          have HB1 := Lib.hid (HB.out.trans (hbx.mono (Below.size HB.out)))
          have HA1 := Lib.hid (show Blk W1 wr.heap.size 38 #[.bool a.neg, .string a.name, .slice ta a.terms.length tc] by subst hW1; exact Blk.new wr _ _)
          have KF := Lib.hid (fillKnown hfl (htv.up hbx) (HLV.out.up HB1.out) na (by omega))
          have KI := Lib.hid (fun W (hW : Below w2.heap.size w2 W) av (hr : RdStrs (fun _ => True) W av f.args) => inFact (.slice fa facts.length fc) facts f av W (HFA.out.up (HB2.out.trans (hW.mono (Below.size HB2.out)))) hr HFS.out (by omega) (fun x hx => by have := N5.out x hx; omega))
          rw [hmem] at KI
          have q0 : W1.cell? ⟨wr.heap.size, 0, none⟩ = some (.bool a.neg) := HA1.out.cell 0
          have q1 : W1.cell? ⟨wr.heap.size, 1, none⟩ = some (.string a.name) := HA1.out.cell 1
          have q2 : W1.cell? ⟨wr.heap.size, 2, none⟩ = some (.slice ta a.terms.length tc) := HA1.out.cell 2
          have hne : (!a.neg == a.neg) = false := by cases a.neg <;> rfl
          clear ha ham hfl hmem hbx htv
          go_wp2_with (go_at_call 11; refine (KF.out).mono ?_; rintro e w3 ⟨⟨av, ac, rfl, hr3⟩, hb3⟩; have HB3 := Lib.hid (HB1.out.trans (hb3.mono (Below.size HB1.out))); have HR3 := Lib.hid hr3; have HA3 := Lib.hid (HA1.out.below hb3 HA1.out.lt); have hs3 : W1.heap.size ≤ w3.heap.size := hb3.size; clear hr3 hb3)
          obtain ⟨W4, hW4⟩ : ∃ W4 : World, w3.alloc (.cells #[.string f.name, .slice av f.args.length ac] 41) = W4 := ⟨_, rfl⟩
          have hs4 : W4.heap.size = w3.heap.size + 1 := by subst hW4; simp
          have hby : Below w3.heap.size w3 W4 := by subst hW4; exact (Below.refl _ _).alloc (Nat.le_refl _) _
          have HB4 := Lib.hid (HB3.out.trans (hby.mono (Below.size HB3.out)))
          have HR4 := Lib.hid (RdStrs.up HR3.out hby)
          have c0 : W4.cell? ⟨w3.heap.size, 0, none⟩ = some (.string f.name) := by subst hW4; simp
          have c1 : W4.cell? ⟨w3.heap.size, 1, none⟩ = some (.slice av f.args.length ac) := by subst hW4; simp
          have c2 : W4.cell? ⟨wr.heap.size, 0, none⟩ = some (.bool a.neg) := (HA3.out.below hby HA3.out.lt).cell 0
          have hz1 : w3.heap.size < W4.heap.size := by omega
          have hz2 : wr.heap.size < W4.heap.size := by omega
          rw [hW4]
          clear hby hW4 q0 q1 q2 e0 e1 e2 hs4 HR3 HA3 HA1 hW1
          go_region_held3 (fun w' => w'.cell? ⟨w3.heap.size, 0, none⟩ = some (.string f.name) ∧ w'.cell? ⟨w3.heap.size, 1, none⟩ = some (.slice av f.args.length ac) ∧ w'.cell? ⟨wr.heap.size, 0, none⟩ = some (.bool a.neg))
            (first | (refine ⟨?_, ?_, ?_⟩ <;> (first | (rw [hk2 _ hz1]; assumption) | (rw [hk2 _ hz2]; assumption))) | go_keep)
            (first
              | (go_at_call 18; refine (KI.out _ HB4.out.drew _ (RdSlice.agree RStr.steady (Agree.refl _ _).drew HR4.out)).mono ?_; rintro e w5 ⟨rfl, hf5⟩; have hk2 : ∀ c, c < W4.heap.size → ∀ off, w5.cell? ⟨c, off, none⟩ = W4.cell? ⟨c, off, none⟩ := fun c hc off => cell_below (w := W4.drew) hf5.below hc off))
          have hsz4 := Below.size HB4.out
          have HB5 := Lib.hid (show Below w2.heap.size w2 w5 from HB4.out.drew.trans (hf5.below.mono hsz4))
          clear hf5 hk2 c0 c1 c2
          go_wp2
          go_roundw
          case rel => exact ⟨j + 1, by omega, by go_num, HB5⟩
          case measure => simp [intOf]; omega
        · rcases k with _ | m
          · go_wp2
            go_roundw
            case rel => exact ⟨1, by omega, by simp, HB⟩
            case measure => simp [intOf]; omega
          · obtain ⟨l0, hx0⟩ : ∃ l0, ls[m]? = some l0 := ⟨_, List.getElem?_eq_getElem (by omega)⟩
            obtain ⟨b3, o3, lv0, efa, -, hl3, d3, hlv0⟩ := RdBindss.at HR2.out hx0
            injection efa with efa
            injection efa with e3 e4 _
            subst e3 e4
            obtain ⟨ya, yc, rfl, -, -, -⟩ := id hlv0.form
            have f3 := (cell_below HB.out hl3 _).trans d3
            have nl0 : l0.length ≤ 20 := HSA.out.2 l0 (List.mem_of_getElem? hx0)
            have hlt0 : decide (cmpBinds l0 l < 0) = true := decide_eq_true (HRI.out m l0 l hx0 HX.out)
            have KL := Lib.hid (lessBindsRef (.slice ya l0.length yc) (.slice xa l.length xc) l0 l wr (hlv0.up HB.out) (HLV.out.up HB.out) (by omega) (by omega))
            rw [hlt0] at KL
            have i1 : (0 : Int) ≤ (m : Int) := by omega
            have i2 : (m : Int) < (ls.length : Int) := by omega
            clear hx0 hlt0 hlv0 d3
            go_wp2_with (go_at_call 19; refine (KL.out).mono ?_; rintro e w5 ⟨rfl, hf5⟩; have HB5 := Lib.hid (HB.out.trans (hf5.below.mono (Below.size HB.out))); clear hf5)
            go_roundw
            case rel => exact ⟨m + 1 + 1, by omega, by go_num, HB5⟩
            case measure => simp [intOf]; omega
    · go_wp2
      go_ret
      exact ⟨rfl, HB2.out.trans (HB.out.mono (Below.size HB2.out))⟩
namespace matchSo
theorem own : ownKnob Try.prog.godebug = none := by kernel_rfl

set_option maxRecDepth 100000 in
theorem contract (H : Type) (enc : TypeId × Value → H) (W : World) (base : Nat) (args : Array Value) (ds gs : List (DataW H)) (before : List MemPlace)
    (hval : ∀ (j : Nat) t v, Try.f4.params[j]? = some t → args[j]? = some v → Value.okWide Try.prog W .any base t v)
    (hW : DataW.Whole enc Try.prog Try.f4.params.toList Rows.matchSoSpec.vars false W args.toList ds gs before) (hk : Rows.uptoSmall H (ds ++ gs) = true) :
    Calls Try.prog 4 args W fun e W' => ∃ v, e = .returned v ∧ Rows.matchSoSpec.post enc Try.prog Try.f4 false true false false W args v W' := by
  have hW' := hW
  obtain ⟨p, q, hA0, hV, rfl, hfz, hnd⟩ := hW
  have hA : DataW.TrodAll enc Try.prog W 0 (fun _ => true) true Try.f4.params.toList args.toList ds p := hA0
  rw [Try.params4] at hA hval
  obtain ⟨v0, v1, d0, d1, p0, p1, rfl, rfl, rfl, h0, h1⟩ := trodAll_two hA
  obtain ⟨rfl, rfl⟩ := trodVars_none hV
  obtain ⟨x0, r0, s0⟩ := openAtom.sliceArg Try.underlying22 (hval 0 22 v0 rfl rfl) h0
  obtain ⟨x1, r1, s1⟩ := openFact.sliceArg Try.underlying23 (hval 1 23 v1 rfl rfl) h1
  rw [List.append_nil] at hk
  have hb : Rows.uptoBulkAll [d0, d1] ≤ 1048576 := of_decide_eq_true hk
  simp only [Rows.uptoBulkAll] at hb
  have l0 := body_small (l := x0) (by omega)
  have l1 := sizeL_le openFact.one x1
  have m1 : ∀ z ∈ x1, z.args.length ≤ 1048576 := fun z hz => by have h1 := sizeL_mem (size := sizeFact) hz; have h2 := sizeL_le openStr.one z.args; simp only [sizeFact] at h1; omega
  refine (matchSoCalls v0 x0 v1 x1 W r0 r1 l0 (by omega) m1).mono fun e W' ⟨he, hb'⟩ => ?_
  subst he
  exact ⟨_, rfl, law_post (tb := 4) hW' rfl rfl (by kernel_rfl) Try.underlying4 (by kernel_rfl) (by kernel_rfl) hb'⟩

set_option maxRecDepth 100000 in
theorem lifted (os : Os) (started : os.Started) (H : Type) (enc : TypeId × Value → H) (F : Stop.Interp) :
    ReturnsInHanded {} Try.checked os 4 .any ((Rows.OpenSpec.upto Rows.matchSoSpec).pre6 enc Try.prog Try.f4 Rows.matchSoUptoRow.domain false) (((Rows.OpenSpec.upto Rows.matchSoSpec).at F).post enc Try.prog Try.f4 false true false false) := by
  refine returnsInHanded_of_cond (C := Try.checked) (s := Rows.OpenSpec.upto Rows.matchSoSpec) (k := Rows.uptoSmall) rfl own started (by kernel_rfl) Try.func4
    (OpenSpec.witness (enc := enc) (C := Try.checked) (s := Rows.OpenSpec.upto Rows.matchSoSpec) (k := Rows.uptoSmall) rfl false ⟨#[], #[.slice none 0 0, .slice none 0 0], []⟩ 8 (by kernel_rfl) (by kernel_rfl) (by kernel_rfl)
      (x := ([.nil, .nil], [], [])) (by kernel_rfl) rfl (by kernel_rfl)) ?_
  intro W base args ds gs before hval hW _ hk _
  exact contract H enc W base args ds gs before hval hW hk

theorem proved : Rows.MatchSoUptoSaid :=
  OpenClaim.holds_of_cond 4 Try.f4 rfl rfl rfl rfl rfl rfl rfl ⟨rfl, rfl, rfl, rfl, rfl⟩ rfl rfl rfl rfl rfl (by kernel_rfl) Try.func4 (by kernel_rfl)
    (of_decide_eq_true (by kernel_rfl)) (by unfold Func.isWrapper; first | (rw [if_pos (by decide +kernel)]; kernel_rfl) | (rw [if_neg (by decide +kernel)]; exact ⟨rfl, rfl⟩))
    (fun os started H enc _ F => lifted os started H enc F)
end matchSo


end Go.Proofs.Ytmnpneandkiblaa
