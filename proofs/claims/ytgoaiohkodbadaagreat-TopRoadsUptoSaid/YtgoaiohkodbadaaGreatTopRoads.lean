/-
  corotop.TopRoads ALWAYS ANSWERS TRUE: there is a way just where roads lead, and two towns are cut off just where there is none. For any arguments of ordinary size; without conditions.
-/
import Derived.Test.YtgoaiohkodbadaaGreatPk14
import Derived.Test.YtgoaiohkodbadaaGreatPk16
import Derived.Test.YtgoaiohkodbadaaGreatPk17
import Derived.Test.YtgoaiohkodbadaaGreatPk19
import Derived.Test.YtgoaiohkodbadaaGreatChecked
namespace Go.Proofs.YtgoaiohkodbadaaGreat
open Go.RowKit Go.ChangeShapes Go.WideShapes Go.Deep

theorem netU_args {n N : Nat} {ps : List (Nat × Nat)} (h : NetOk n N ps) {l : List PFact} (hl : InU (netU n N ps) l) : ∀ x ∈ l, x.args.length ≤ 4 := fun x hx => (wrongF_zero.1 (netU_fine h x (hl.2 x hx))).2.1
theorem netU_size {n N : Nat} {ps : List (Nat × Nat)} (h : NetOk n N ps) {l : List PFact} (hl : InU (netU n N ps) l) : l.length ≤ 140 :=
  Nat.le_trans (nodup_le (nodup_rising hl.1) fun x hx => hl.2 x hx) (netU_len h)

attribute [local go_sem ↓] Go.wp_at_zero Go.wp_at_succ
set_option maxRecDepth 100000 in
set_option maxHeartbeats 8000000 in
theorem topRoadsCalls {S S2 : Nat → Prop} (n : Int) (fv tv : Value) (frm tow : List Int) (w : World) (hf : RdInts S w fv frm) (ht : RdInts S2 w tv tow) (n1 : frm.length ≤ 1048576) (n2 : tow.length ≤ 1048576) :
    Calls Tryz.prog 10 #[.int .i64 n, fv, tv] w fun e w' => e = .returned (.bool true) ∧ Below w.heap.size w w' := by
  obtain ⟨fa, fc, rfl, -, -, -⟩ := id hf.form
  obtain ⟨ta, tc, rfl, -, -, -⟩ := id ht.form
  have KA := Lib.hid (aliveTop w)
  by_cases hb : n < 1 ∨ 6 < n ∨ 12 < frm.length
  · have hcs : n < 1 ∨ ¬ n < 1 ∧ (6 : Int) < n ∨ ¬ n < 1 ∧ ¬ (6 : Int) < n ∧ (12 : Int) < (frm.length : Int) := by omega
    clear hb hf ht
    rcases hcs with h1 | ⟨h1, h2⟩ | ⟨h1, h2, h3⟩
    all_goals
      go_enter Tryz.func10, Tryz.ntmps10
      go_wp2_with (go_at_call 40; refine (KA.out).mono ?_; rintro e w1 ⟨rfl, hb1⟩; have HB1 := Lib.hid hb1; clear hb1)
      go_ret
      exact ⟨rfl, HB1.out⟩
  obtain ⟨m, rfl⟩ : ∃ m : Nat, n = m := ⟨n.toNat, by omega⟩
  have g0 : 1 ≤ m := by omega
  have g6 : m ≤ 6 := by omega
  have gf : frm.length ≤ 12 := by omega
  have h1 : ¬ (m : Int) < 1 := by omega
  have h2 : ¬ (6 : Int) < m := by omega
  have h3 : ¬ (12 : Int) < (frm.length : Int) := by omega
  clear hb
  have hok : NetOk m m (pairsP m frm tow) := ⟨g6, Nat.le_refl _, by omega, pairs_in g0, Nat.le_trans pairs_len (by omega)⟩
  obtain ⟨-, hin⟩ := net_naive hok
  have hNL := netL_len hok
  have HML := Lib.hid (netU_size hok hin)
  have HNA := Lib.hid (fun (x : PFact) hx => Nat.le_trans (netU_args hok (l := netL m (pairsP m frm tow)) net_in x hx) (show 4 ≤ 1048576 by decide))
  have HMA := Lib.hid (fun (x : PFact) hx => Nat.le_trans (netU_args hok hin x hx) (show 4 ≤ 1073741824 by decide))
  have HMR := Lib.hid hin.1
  have HALL := Lib.hid (net_rounds hok)
  have HTB := Lib.hid (fun (a c : Nat) (ha : a < m) (hc : c < m) => table_is (n := m) (by omega) (pairs_in (frm := frm) (tow := tow) g0) ha hc)
  have HTL := Lib.hid (closeN_len (n := m) (by omega) (pairs_in (frm := frm) (tow := tow) g0) m)
  have HWY := Lib.hid (fun (a c : Nat) (ha : a < m) (hc : c < m) => net_way hok ha hc)
  have HCT := Lib.hid (fun (a c : Nat) (ha : a < m) (hc : c < m) => net_cut hok ha hc)
  have HF := Lib.hid hf
  have HT := Lib.hid ht
  have KN := Lib.hid (fun W (hb : Below w.heap.size w W) => netsCalls m (.slice fa frm.length fc) (.slice ta tow.length tc) frm tow W g0 g6 (hf.up hb) (ht.up hb) gf n2)
  clear hf ht hin hok HF HT
  generalize pairsP m frm tow = ps at *
  generalize hnl : netL m ps = nl at *
  generalize netM m ps = nm at *
  generalize htb : closeN m m (tableE ps) = tb at *
  have hct := cellsOf_size tb
  rw [HTL.out] at hct
  go_enter Tryz.func10, Tryz.ntmps10
  go_wp2_with (first
    | (go_at_call 41; have hh := HB1.out; clear hh; refine (KN.out _ HB1.out).mono ?_; rintro e w2 ⟨na, nc, rfl, hr2, hb2⟩; rw [hnl] at hr2; have HN2 := Lib.hid hr2; have HB2 := Lib.hid (HB1.out.trans (hb2.mono HB1.out.size)); clear hr2 hb2)
    | (go_at_call 40; refine (KA.out).mono ?_; rintro e w1 ⟨rfl, hb1⟩; have HB1 := Lib.hid hb1; clear hb1))
  rw [store_table (P := Tryz.prog) (Blk.new w2 90 #[.bool false, .bool false, .bool false, .bool false, .bool false, .bool false, .bool false, .bool false, .bool false, .bool false, .bool false, .bool false, .bool false, .bool false, .bool false, .bool false, .bool false, .bool false, .bool false, .bool false, .bool false, .bool false, .bool false, .bool false, .bool false, .bool false, .bool false, .bool false, .bool false, .bool false, .bool false, .bool false, .bool false, .bool false, .bool false, .bool false, .bool false, .bool false, .bool false, .bool false, .bool false, .bool false, .bool false, .bool false, .bool false, .bool false, .bool false, .bool false, .bool false, .bool false, .bool false, .bool false, .bool false, .bool false, .bool false, .bool false, .bool false, .bool false, .bool false, .bool false, .bool false, .bool false, .bool false, .bool false]) hct rfl (cellsOf_one tb), World.setRow_alloc_new]
  have HB3 := Lib.hid (HB2.out.alloc HB2.out.size (.cells (cellsOf tb) 90))
  have HN3 := Lib.hid (HN2.out.up ((Below.refl _ _).alloc (Nat.le_refl _) (.cells (cellsOf tb) 90)))
  have HK3 := Lib.hid (Blk.new w2 90 (cellsOf tb))
  clear HN2 HB2
  generalize w2.alloc (.cells (cellsOf tb) 90) = W3 at *
  generalize w2.heap.size = X at *
  have T3 := Lib.hid True.intro
  have KR := Lib.hid (fun W (T T2 : Nat → Prop) rv fv (hr : RdRules T W rv roadsP) (hf : RdFacts T2 W fv nl) => (show Calls Tryz.prog 38 #[rv, fv] W (FactsEPost (nm, 0) W) from by
    rw [← HALL.out]
    exact allRunCalls roadsP _ _ [0, 0, 1] (0, 0) nl _ strata_roads hr hf (by decide) small_roads names_roads (Nat.le_trans hNL (by decide)) HNA.out))
  go_wp2_with (first
    | (go_at_call 38; have hh := HR5.out; clear hh; refine (KR.out _ _ _ _ _ HR5.out HN5.out).mono ?_; rintro e w6 ⟨hb6, ma, mc, rfl, hr6⟩; have HM6 := Lib.hid hr6; have HB6 := Lib.hid (HB5.out.trans (hb6.mono HB5.out.size)); have HK6 := Lib.hid (HK5.out.below hb6 HK5.out.lt); clear hb6 hr6)
    | (go_at_call 42; clear T3; refine (parseKnown (s := roadsText) (n := 3) (by rfl) (by decide) parse_roads _).mono ?_; rintro e w4 ⟨⟨pa, pc, rfl, hr4⟩, hb4⟩; have HR5 := Lib.hid (RdRules.up hr4 ((Below.refl _ _).alloc (Nat.le_refl _) (.cells #[.int .i64 0, .int .i64 0] 65))); have HB5 := Lib.hid ((HB3.out.trans (hb4.mono HB3.out.size)).alloc (HB3.out.trans (hb4.mono HB3.out.size)).size (.cells #[.int .i64 0, .int .i64 0] 65)); have HN5 := Lib.hid (RdFacts.up (HN3.out.up hb4) ((Below.refl _ _).alloc (Nat.le_refl _) (.cells #[.int .i64 0, .int .i64 0] 65))); have HK5 := Lib.hid ((HK3.out.below hb4 HK3.out.lt).alloc (.cells #[.int .i64 0, .int .i64 0] 65)); clear hr4 hb4))
  have KW := Lib.hid (fun (a c : Nat) (ha : a < m) (hc : c < m) W => (show Calls Tryz.prog 44 #[.int .i64 (a : Int), .int .i64 (c : Int)] W (TwoPost xway a c W) from wayCalls a c (by omega) (by omega) W))
  have hm2 : 2 ≤ maxLen := by simp [maxLen]
  have KI := Lib.hid (fun W (g : PFact) av (h : RdFacts (fun _ => True) W (.slice ma nm.length mc) nm) (hg : RdStrs (fun _ => True) W av g.args) => (show Calls Tryz.prog 33 #[.slice ma nm.length mc, .agg #[.string g.name, av]] W fun e w' => e = .returned (.bool (memF g nm)) ∧ Below W.heap.size W w' from
        (inFact (.slice ma nm.length mc) nm g av W h hg HMR.out (Nat.le_trans HML.out (by decide)) HMA.out).mono fun e w' ⟨he, hf⟩ => ⟨he, hf.below⟩))
  clear HB3 HN3 HK3 HR5 HB5 HN5 HK5 KR HALL HNA HMA HMR HML KA KN HB1
  go_loopw [49] (fun i wr => ∃ a : Nat, a ≤ m ∧ i = .int .i64 a ∧ Hid (Below w.heap.size w wr) ∧ Hid (Blk wr X 90 (cellsOf tb)) ∧ Hid (RdFacts (fun _ => True) wr (.slice ma nm.length mc) nm)) (fun i _ => m - (intOf i).toNat)
  case atStart => exact ⟨0, Nat.zero_le _, rfl, HB6, HK6, HM6⟩
  case round =>
    clear HB6 HK6 HM6
    obtain ⟨a, ha, rfl, HB6, HK6, HM6⟩ := hrel
    by_cases ham : a < m
    · have ham' : (a : Int) < (m : Int) := by omega
      go_wp2
      go_loopw [53] (fun i wr => ∃ c : Nat, c ≤ m ∧ i = .int .i64 c ∧ Hid (Below w.heap.size w wr) ∧ Hid (Blk wr X 90 (cellsOf tb)) ∧ Hid (RdFacts (fun _ => True) wr (.slice ma nm.length mc) nm)) (fun i _ => m - (intOf i).toNat)
      case atStart => exact ⟨0, Nat.zero_le _, rfl, HB6, HK6, HM6⟩
      case round =>
        clear HB6 HK6 HM6
        obtain ⟨c, hc, rfl, HB6, HK6, HM6⟩ := hrel
        by_cases hcm : c < m
        · have hcm' : (c : Int) < (m : Int) := by omega
          have hcut := HCT.out a c ham hcm
          have hway := HWY.out a c ham hcm
          have htab := HTB.out a c ham hcm
          rw [← htab] at hcut hway
          have HXV := Lib.hid (cellsOf_get (m := tb) (i := a * 8 + c) (by rw [HTL.out]; omega))
          unfold cellG at hcut hway
          generalize tb.getD (a * 8 + c) false = v at *
          have ha8 : a < 8 := by omega
          have hc8 : c < 8 := by omega
          have ai0 : (0 : Int) ≤ (a : Int) := by omega
          have ai8 : (a : Int) < 8 := by omega
          have ci0 : (0 : Int) ≤ (c : Int) := by omega
          have ci8 : (c : Int) < 8 := by omega
          have KW1 := Lib.hid (KW.out a c ham hcm)
          have HCU := Lib.hid hcut
          have HWA := Lib.hid hway
          have KIW := Lib.hid (fun W av (h : RdFacts (fun _ => True) W (.slice ma nm.length mc) nm) (hg : RdStrs (fun _ => True) W av [tn a, tn c]) => (show Calls Tryz.prog 33 #[.slice ma nm.length mc, .agg #[.string xway, av]] W fun e w' => e = .returned (.bool v) ∧ Below W.heap.size W w' from by
            have := KI.out W (wayF a c) av h hg
            rwa [HWA.out] at this))
          clear htab hcut hway
          have T5 := Lib.hid True.intro
          go_wp2_with (first
            | (go_at_call 33; have hh := HB8.out; clear hh; refine (KI.out _ (cutF a c) _ HM9.out HS9.out).mono ?_; rw [HCU.out]; rintro e w10 ⟨rfl, hb10⟩; have HB10 := Lib.hid (HB9.out.trans (hb10.mono HB9.out.size)); have HK10 := Lib.hid (HK9.out.below hb10 HK9.out.lt); have HM10 := Lib.hid (HM9.out.up hb10); clear hb10)
            | (go_at_call 43; have hh := HB7.out; clear hh; refine (townCalls c (by omega) _).mono ?_; rintro e w8 ⟨rfl, hb8⟩; have HB8 := Lib.hid (HB7.out.trans (hb8.mono HB7.out.size)); have HK8 := Lib.hid (HK7.out.below hb8 HK7.out.lt); have HM8 := Lib.hid (HM7.out.up hb8); have HB9 := Lib.hid (HB8.out.alloc HB8.out.size (.cells #[.string (tn a), .string (tn c)] 9)); have HK9 := Lib.hid (HK8.out.alloc (.cells #[.string (tn a), .string (tn c)] 9)); have HM9 := Lib.hid (HM8.out.up ((Below.refl _ _).alloc (Nat.le_refl _) (.cells #[.string (tn a), .string (tn c)] 9))); have HS9 := Lib.hid (RdStrs.litS (S := fun _ => True) (l := [tn a, tn c]) (n := 2) rfl hm2 trivial (Blk.new w8 9 #[.string (tn a), .string (tn c)])); clear hb8)
            | (go_at_call 43; clear T5; refine (townCalls a (by omega) _).mono ?_; rintro e w7 ⟨rfl, hb7⟩; have HB7 := Lib.hid (HB6.out.trans (hb7.mono HB6.out.size)); have HK7 := Lib.hid (HK6.out.below hb7 HK6.out.lt); have HM7 := Lib.hid (HM6.out.up hb7); clear hb7))
          clear HB6 HK6 HM6 HB7 HK7 HM7 HB8 HK8 HM8 HB9 HK9 HM9 HS9
          have HB11 := Lib.hid HB10.out.drew
          have HK11 := Lib.hid HK10.out.drew
          have HM11 := Lib.hid (HM10.out.up (Below.refl _ _).drew)
          have x0 := HK11.out.cell (a * 8 + c)
          rw [HXV.out] at x0
          clear HB10 HK10 HM10
          have T6 := Lib.hid True.intro
          cases v
          · go_region_held3 (fun w' => w'.cell? ⟨X, a * 8 + c, none⟩ = some (.bool false))
              (first | (with_reducible exact y0) | (with_reducible exact z0) | (with_reducible exact x0) | go_keep)
              (first
                | (go_at_call 33; have hh := HS12.out; clear hh; (with_reducible refine (KIW.out _ _ HM12.out HS12.out).mono ?_); rintro e w13 ⟨rfl, hb13⟩; have HB13 := Lib.hid (HB12.out.trans (hb13.mono HB12.out.size)); have HK13 := Lib.hid (HK12.out.below hb13 HK12.out.lt); have HM13 := Lib.hid (HM12.out.up hb13); have y0 := HK13.out.cell (a * 8 + c); rw [HXV.out] at y0; clear hb13)
                | (go_at_call 44; clear T6; (with_reducible refine (KW1.out _).mono ?_); rintro e w12 ⟨b12, rfl, -, hk12, hb12⟩; have HB12 := Lib.hid (HB11.out.trans (hb12.mono HB11.out.size)); have HK12 := Lib.hid (HK11.out.below hb12 HK11.out.lt); have HM12 := Lib.hid (HM11.out.up hb12); have z0 := HK12.out.cell (a * 8 + c); rw [HXV.out] at z0; have HS12 := Lib.hid (RdStrs.litS (S := fun _ => True) (l := [tn a, tn c]) (n := 2) rfl hm2 trivial hk12); clear hk12 hb12))
            go_wp2
            go_roundw
            case rel => exact ⟨c + 1, by omega, by go_num, HB13, HK13, HM13⟩
            case measure => simp [intOf]; omega
          · go_region_held3 (fun w' => w'.cell? ⟨X, a * 8 + c, none⟩ = some (.bool true))
              (first | (with_reducible exact y0) | (with_reducible exact z0) | (with_reducible exact x0) | go_keep)
              (first
                | (go_at_call 33; have hh := HS12.out; clear hh; (with_reducible refine (KIW.out _ _ HM12.out HS12.out).mono ?_); rintro e w13 ⟨rfl, hb13⟩; have HB13 := Lib.hid (HB12.out.trans (hb13.mono HB12.out.size)); have HK13 := Lib.hid (HK12.out.below hb13 HK12.out.lt); have HM13 := Lib.hid (HM12.out.up hb13); have y0 := HK13.out.cell (a * 8 + c); rw [HXV.out] at y0; clear hb13)
                | (go_at_call 44; clear T6; (with_reducible refine (KW1.out _).mono ?_); rintro e w12 ⟨b12, rfl, -, hk12, hb12⟩; have HB12 := Lib.hid (HB11.out.trans (hb12.mono HB11.out.size)); have HK12 := Lib.hid (HK11.out.below hb12 HK11.out.lt); have HM12 := Lib.hid (HM11.out.up hb12); have z0 := HK12.out.cell (a * 8 + c); rw [HXV.out] at z0; have HS12 := Lib.hid (RdStrs.litS (S := fun _ => True) (l := [tn a, tn c]) (n := 2) rfl hm2 trivial hk12); clear hk12 hb12))
            go_wp2
            go_roundw
            case rel => exact ⟨c + 1, by omega, by go_num, HB13, HK13, HM13⟩
            case measure => simp [intOf]; omega
        · have hcm' : ¬ (c : Int) < (m : Int) := by omega
          go_wp2
          go_roundw
          case rel => exact ⟨a + 1, by omega, by go_num, HB6, HK6, HM6⟩
          case measure => simp [intOf]; omega
    · have ham' : ¬ (a : Int) < (m : Int) := by omega
      go_wp2
      go_ret
      exact ⟨rfl, HB6.out⟩
namespace topRoads
theorem own : ownKnob Tryz.prog.godebug = none := by kernel_rfl

set_option maxRecDepth 100000 in
theorem contract (H : Type) (enc : TypeId × Value → H) (W : World) (base : Nat) (args : Array Value) (ds gs : List (DataW H)) (before : List MemPlace)
    (hval : ∀ (j : Nat) t v, Tryz.f10.params[j]? = some t → args[j]? = some v → Value.okWide Tryz.prog W .any base t v)
    (hW : DataW.Whole enc Tryz.prog Tryz.f10.params.toList Rows.topRoadsSpec.vars false W args.toList ds gs before) (hk : Rows.uptoSmall H (ds ++ gs) = true) :
    Calls Tryz.prog 10 args W fun e W' => ∃ v, e = .returned v ∧ Rows.topRoadsSpec.post enc Tryz.prog Tryz.f10 false true false false W args v W' := by
  have hW' := hW
  obtain ⟨p, q, hA0, hV, rfl, hfz, hnd⟩ := hW
  have hA : DataW.TrodAll enc Tryz.prog W 0 (fun _ => true) true Tryz.f10.params.toList args.toList ds p := hA0
  rw [Tryz.params10] at hA hval
  obtain ⟨v0, v1, v2, d0, d1, d2, p0, p1, p2, rfl, rfl, rfl, h0, h1, h2⟩ := trodAll_three hA
  obtain ⟨rfl, rfl⟩ := trodVars_none hV
  obtain ⟨x0, rfl, s0⟩ := openInt.intArg Tryz.underlying3 (hval 0 3 v0 rfl rfl) h0
  obtain ⟨x1, r1, s1⟩ := openInt.sliceArg Tryz.underlying88 (hval 1 88 v1 rfl rfl) h1
  obtain ⟨x2, r2, s2⟩ := openInt.sliceArg Tryz.underlying88 (hval 2 88 v2 rfl rfl) h2
  rw [List.append_nil] at hk
  have hb : Rows.uptoBulkAll [d0, d1, d2] ≤ 1048576 := of_decide_eq_true hk
  simp only [Rows.uptoBulkAll] at hb
  have l1 := sizeL_le openInt.one x1
  have l2 := sizeL_le openInt.one x2
  refine (topRoadsCalls x0 v1 v2 x1 x2 W r1 r2 (by omega) (by omega)).mono fun e W' ⟨he, hb'⟩ => ?_
  subst he
  exact ⟨_, rfl, law_post (tb := 4) hW' rfl rfl (by kernel_rfl) Tryz.underlying4 (by kernel_rfl) (by kernel_rfl) hb'⟩

set_option maxRecDepth 100000 in
theorem lifted (os : Os) (started : os.Started) (H : Type) (enc : TypeId × Value → H) (F : Stop.Interp) :
    ReturnsInHanded {} Tryz.checked os 10 .any ((Rows.OpenSpec.upto Rows.topRoadsSpec).pre6 enc Tryz.prog Tryz.f10 Rows.topRoadsUptoRow.domain false) (((Rows.OpenSpec.upto Rows.topRoadsSpec).at F).post enc Tryz.prog Tryz.f10 false true false false) := by
  refine returnsInHanded_of_cond (C := Tryz.checked) (s := Rows.OpenSpec.upto Rows.topRoadsSpec) (k := Rows.uptoSmall) rfl own started (by kernel_rfl) Tryz.func10
    (OpenSpec.witness (enc := enc) (C := Tryz.checked) (s := Rows.OpenSpec.upto Rows.topRoadsSpec) (k := Rows.uptoSmall) rfl false ⟨#[], #[.int .i64 0, .slice none 0 0, .slice none 0 0], []⟩ 8 (by kernel_rfl) (by kernel_rfl) (by kernel_rfl)
      (x := ([.lit (.int .i64 0), .nil, .nil], [], [])) (by kernel_rfl) rfl (by kernel_rfl)) ?_
  intro W base args ds gs before hval hW _ hk _
  exact contract H enc W base args ds gs before hval hW hk

theorem proved : Rows.TopRoadsUptoSaid :=
  OpenClaim.holds_of_cond 10 Tryz.f10 rfl rfl rfl rfl rfl rfl rfl ⟨rfl, rfl, rfl, rfl, rfl⟩ rfl rfl rfl rfl rfl (by kernel_rfl) Tryz.func10 (by kernel_rfl)
    (of_decide_eq_true (by kernel_rfl)) (by unfold Func.isWrapper; first | (rw [if_pos (by decide +kernel)]; kernel_rfl) | (rw [if_neg (by decide +kernel)]; exact ⟨rfl, rfl⟩))
    (fun os started H enc _ F => lifted os started H enc F)
end topRoads

end Go.Proofs.YtgoaiohkodbadaaGreat
