/-
  corolaw5.NaiveHeads ALWAYS ANSWERS TRUE: what a rule makes it makes of something: each fact is its head, its body being so. For any arguments of ordinary size; without conditions.
-/
import Derived.Test.YtbbiapgkcekabaaGreatPk15
namespace Go.Proofs.YtbbiapgkcekabaaGreat
open Go.RowKit Go.ChangeShapes Go.WideShapes Go.Deep

/-- What has been made by the first k lists. -/
def someMade (h : PAtom) (f : PFact) (ls : List Binds) : Bool := ls.any fun b => decide (fillP h b = some f)
theorem someMade_snoc {h : PAtom} {f : PFact} {ls : List Binds} {k : Nat} {b : Binds} (hb : ls[k]? = some b) : someMade h f (ls.take (k + 1)) = (someMade h f (ls.take k) || decide (fillP h b = some f)) := by
  unfold someMade; rw [List.take_add_one, hb, List.any_append]; simp
theorem someMade_all {h : PAtom} {f : PFact} {ls : List Binds} : memF f (ofF (ls.filterMap fun b => fillP h b)) = someMade h f ls := by
  rw [Bool.eq_iff_iff, memF_iff, mem_ofF, List.mem_filterMap]
  unfold someMade
  rw [List.any_eq_true]
  exact exists_congr fun b => and_congr_right fun _ => by simp

attribute [local go_sem ↓] Go.wp_at_zero Go.wp_at_succ
set_option maxRecDepth 100000 in
set_option maxHeartbeats 8000000 in
theorem naiveHeadsCalls {S S2 S3 S4 : Nat → Prop} (x : PRule) (tv bv : Value) (l : List PFact) (fv : Value) (f : PFact) (av : Value) (w : World) (ht : RdTerms S w tv x.head.terms) (hb : RdAtoms S4 w bv x.body) (hf : RdFacts S2 w fv l) (ha : RdStrs S3 w av f.args)
    (hs : RuleSmall x) (n4 : l.length ≤ 1048576) (n5 : ∀ x ∈ l, x.args.length ≤ 1048576) (n6 : f.args.length ≤ 1048576) :
    Calls Tryz.prog 7 #[.agg #[.bool x.head.neg, .string x.head.name, tv, bv], fv, .agg #[.string f.name, av]] w fun e w' => e = .returned (.bool true) ∧ Below w.heap.size w w' := by
  obtain ⟨ta, tc, rfl, -, -, -⟩ := id ht.form
  obtain ⟨ba, bc, rfl, -, -, -⟩ := id hb.form
  obtain ⟨fa, fc, rfl, -, -, -⟩ := id hf.form
  obtain ⟨xa, xc, rfl, -, -, -⟩ := id ha.form
  obtain ⟨W0, hW0⟩ : ∃ W0 : World, (w.alloc (.cells #[.bool x.head.neg, .string x.head.name, .slice ta x.head.terms.length tc, .slice ba x.body.length bc] 43)).alloc (.cells #[.string f.name, .slice xa f.args.length xc] 61) = W0 := ⟨_, rfl⟩
  have hb0 : Below w.heap.size w W0 := by subst hW0; exact ((Below.refl _ _).alloc (Nat.le_refl _) _).alloc (by simp) _
  have hk0 : Blk W0 w.heap.size 43 #[.bool x.head.neg, .string x.head.name, .slice ta x.head.terms.length tc, .slice ba x.body.length bc] := by subst hW0; exact (Blk.new w _ _).alloc _
  have hj0 : Blk W0 (w.heap.size + 1) 61 #[.string f.name, .slice xa f.args.length xc] := by subst hW0; exact heap_new_at (by simp)
  have HB0 := Lib.hid hb0
  have HK0 := Lib.hid hk0
  have HJ0 := Lib.hid hj0
  have HS := Lib.hid hs
  have HT := Lib.hid ht
  have HBD := Lib.hid hb
  have HFA := Lib.hid hf
  have HAV := Lib.hid ha
  have N5 := Lib.hid n5
  have hn1 := hs.h1
  have KA := Lib.hid (alive5Calls W0)
  have KH := Lib.hid (fun W (hW : Below w.heap.size w W) => headsReads x (.slice ta x.head.terms.length tc) (.slice ba x.body.length bc) (.slice fa l.length fc) l W (HT.out.up hW) (HBD.out.up hW) (HFA.out.up hW) HS.out n4 N5.out)
  have KL := Lib.hid (fun W (hW : Below w.heap.size w W) => allReads (.slice ba x.body.length bc) x.body (.slice fa l.length fc) l W (HBD.out.up hW) (HFA.out.up hW) HS.out.b0 HS.out.b1 HS.out.b2 n4 N5.out)
  have HSH := Lib.hid (all_short x.body l)
  have HHP := Lib.hid (show headsP x l = if (allP x.body l).2 ≠ 0 then ([], (allP x.body l).2) else (ofF ((allP x.body l).1.filterMap fun b => fillP x.head b), 0) from rfl)
  have HHL := Lib.hid (heads_len x l)
  have HHA := Lib.hid (show ∀ y ∈ (headsP x l).1, y.args.length ≤ 1048576 from fun y hy => by rw [heads_args hy]; exact HS.out.h1)
  have HRI := Lib.hid (heads_rising x l)
  clear ht hb hf ha hs n5 hb0 hk0 hj0
  generalize headsP x l = r at *
  generalize allP x.body l = r2 at *
  obtain ⟨hl, e1⟩ := r
  obtain ⟨ls, e2⟩ := r2
  dsimp only at *
  by_cases hq : e2 = 0
  case neg =>
    have hh := HHP.out
    rw [if_pos hq] at hh
    injection hh with h1 h2
    subst h1 h2
    have g1 : (e1 != 0) = true := by simpa using hq
    clear hq HHP
    go_enter Tryz.func7, Tryz.ntmps7
    go_wp2_with (first
      | (go_at_call 36; refine (KA.out).mono ?_; rintro e w1 ⟨rfl, hb1⟩; have HB1 := Lib.hid (HB0.out.trans (hb1.mono (Below.size HB0.out))); have HK1 := Lib.hid (HK0.out.below hb1 HK0.out.lt); clear hb1; have c0 := HK1.out.cell 0; have c1 := HK1.out.cell 1; have c2 := HK1.out.cell 2; have c3 := HK1.out.cell 3; simp only [List.getElem?_toArray, List.getElem?_cons_zero, List.getElem?_cons_succ] at c0 c1 c2 c3)
      | (go_at_call 25; refine (KH.out _ HB1.out).mono ?_; rintro e w2 ⟨⟨a2, c2', rfl, hr2⟩, hb2⟩; have HB2 := Lib.hid (HB1.out.trans (hb2.mono (Below.size HB1.out))); have HK2 := Lib.hid (HK1.out.below hb2 HK1.out.lt); clear hr2 hb2 c0 c1 c2 c3; have d3 := HK2.out.cell 3; simp only [List.getElem?_toArray, List.getElem?_cons_zero, List.getElem?_cons_succ] at d3)
      | (go_at_call 40; refine (KL.out _ HB2.out).mono ?_; rintro e w3 ⟨⟨a3, c3, rfl, hr3⟩, hb3⟩; have HB3 := Lib.hid (HB2.out.trans (hb3.mono (Below.size HB2.out))); clear hr3 hb3))
    go_ret
    exact ⟨ret_bool (by simp), HB3.out⟩
  subst hq
  have hh := HHP.out
  rw [if_neg (by simp)] at hh
  injection hh with h1 h2
  subst h2
  have HHL2 := Lib.hid (show hl = ofF (ls.filterMap fun b => fillP x.head b) from h1)
  have HME := Lib.hid (show memF f hl = someMade x.head f ls by rw [h1]; exact someMade_all)
  have HIN := Lib.hid (show ∀ b ∈ ls, ∀ g, fillP x.head b = some g → memF g hl = true from fun b hb g hg => (memF_iff _ _).2 (by rw [h1, mem_ofF]; exact List.mem_filterMap.2 ⟨b, hb, hg⟩))
  have hll : ls.length ≤ 20000 := HSH.out.1
  clear h1 HHP
  go_enter Tryz.func7, Tryz.ntmps7
  go_wp2_with (first
    | (go_at_call 36; refine (KA.out).mono ?_; rintro e w1 ⟨rfl, hb1⟩; have HB1 := Lib.hid (HB0.out.trans (hb1.mono (Below.size HB0.out))); have HK1 := Lib.hid (HK0.out.below hb1 HK0.out.lt); have HJ1 := Lib.hid (HJ0.out.below hb1 HJ0.out.lt); clear hb1; have c0 := HK1.out.cell 0; have c1 := HK1.out.cell 1; have c2 := HK1.out.cell 2; have c3 := HK1.out.cell 3; simp only [List.getElem?_toArray, List.getElem?_cons_zero, List.getElem?_cons_succ] at c0 c1 c2 c3)
    | (go_at_call 25; refine (KH.out _ HB1.out).mono ?_; rintro e w2 ⟨⟨a2, c2', rfl, hr2⟩, hb2⟩; have HB2 := Lib.hid (HB1.out.trans (hb2.mono (Below.size HB1.out))); have HK2 := Lib.hid (HK1.out.below hb2 HK1.out.lt); have HJ2 := Lib.hid (HJ1.out.below hb2 HJ1.out.lt); have HH2 := Lib.hid hr2; clear hr2 hb2 c0 c1 c2 c3; have d3 := HK2.out.cell 3; simp only [List.getElem?_toArray, List.getElem?_cons_zero, List.getElem?_cons_succ] at d3)
    | (go_at_call 40; refine (KL.out _ HB2.out).mono ?_; rintro e w3 ⟨⟨a3, c3, rfl, hr3⟩, hb3⟩; have HB3 := Lib.hid (HB2.out.trans (hb3.mono (Below.size HB2.out))); have HK3 := Lib.hid (HK2.out.below hb3 HK2.out.lt); have HJ3 := Lib.hid (HJ2.out.below hb3 HJ2.out.lt); have HH3 := Lib.hid (RdFacts.up HH2.out hb3); have HL3 := Lib.hid hr3; clear hr3 hb3 d3))
  clear HB0 HK0 HJ0 HB1 HK1 HJ1 HB2 HK2 HJ2 HH2 KA KH KL hW0
  obtain ⟨wo, hwo⟩ : ∃ wo : World, wo = w3 := ⟨_, rfl⟩
  subst hwo
  have HBO := Lib.hid (Below.refl wo.heap.size wo)
  have hlh : hl.length ≤ 20000 := HHL.out
  go_loopw [42, 11] (fun i v wr => ∃ (k : Nat) (mk : Bool), k ≤ ls.length ∧ i = .int .i64 k ∧ v = .bool mk ∧ Hid (mk = someMade x.head f (ls.take k)) ∧ Hid (Below wo.heap.size wo wr)) (fun i _ _ => ls.length - (intOf i).toNat)
  case atStart => exact ⟨0, false, Nat.zero_le _, rfl, rfl, Lib.hid rfl, HBO⟩
  case round =>
    clear HBO
    obtain ⟨k, mk, hk, rfl, rfl, HM, HB⟩ := hrel
    have HBW := Lib.hid (HB3.out.trans (HB.out.mono (Below.size HB3.out)))
    have HKW := Lib.hid (HK3.out.below HB.out HK3.out.lt)
    have HJW := Lib.hid (HJ3.out.below HB.out HJ3.out.lt)
    have hjl := HJW.out.lt
    by_cases hlt : k < ls.length
    · obtain ⟨b, hx⟩ : ∃ b, ls[k]? = some b := ⟨_, List.getElem?_eq_getElem hlt⟩
      obtain ⟨b1, o1, lv, efa, -, hbl, d1, hlv⟩ := RdBindss.at' HL3.out hx
      subst efa
      have f1 := (cell_below HB.out hbl _).trans d1
      have hnl : b.length ≤ 1073741824 := by have := HSH.out.2 b (List.mem_of_getElem? hx); omega
      have e0 : wr.cell? ⟨w.heap.size, 0, none⟩ = some (.bool x.head.neg) := HKW.out.cell 0
      have e1' : wr.cell? ⟨w.heap.size, 1, none⟩ = some (.string x.head.name) := HKW.out.cell 1
      have e2 : wr.cell? ⟨w.heap.size, 2, none⟩ = some (.slice ta x.head.terms.length tc) := HKW.out.cell 2
      have HSN := Lib.hid (show someMade x.head f (ls.take (k + 1)) = (mk || decide (fillP x.head b = some f)) by rw [someMade_snoc hx, ← HM.out])
      have hsz := HB.out.size
      have HIB := Lib.hid (HIN.out b (List.mem_of_getElem? hx))
      clear d1 hx
      cases hfl : fillP x.head b with
      | none =>
        have KF := Lib.hid (fillNone hfl (HT.out.up HBW.out) (hlv.up HB.out) hn1 hnl)
        have HM1 := Lib.hid (show mk = someMade x.head f (ls.take (k + 1)) by rw [HSN.out, hfl]; simp)
        clear hfl hlv HSN HIB
        cases mk
        all_goals
          go_wp2_with (go_at_call 41; refine (KF.out).mono ?_; rintro e w5 ⟨rfl, hb5⟩; have HB5 := Lib.hid ((HB.out.trans (hb5.mono hsz)).alloc (Nat.le_trans hsz hb5.size) (.cells #[.string ⟨#[]⟩, .slice none 0 0] 61)); clear hb5)
          go_roundw
          case rel => exact ⟨k + 1, _, by omega, by go_num, rfl, HM1, HB5⟩
          case measure => simp [intOf]; omega
      | some g =>
        have KF := Lib.hid (fillKnown hfl (HT.out.up HBW.out) (hlv.up HB.out) hn1 hnl)
        have hgn : g.args.length ≤ 1048576 := by rw [fill_args hfl]; exact hn1
        have hmg := HIB.out g hfl
        have KI := Lib.hid (fun W gv (h1 : Below wo.heap.size wo W) (h2 : RdStrs (fun _ => True) W gv g.args) => inFact _ hl g gv W (HH3.out.up h1) h2 HRI.out (by omega) (fun x hx => by have := HHA.out x hx; omega))
        rw [hmg] at KI
        have KC := Lib.hid (fun W gv (h1 : Below w.heap.size w W) (h2 : RdStrs (fun _ => True) W gv g.args) => compareFact f g (.slice xa f.args.length xc) gv W (RdStrs.up HAV.out h1) h2 (by omega))
        clear hmg hlv HIB
        have HSN2 := Lib.hid (show someMade x.head f (ls.take (k + 1)) = (mk || decide (g = f)) by rw [HSN.out, hfl]; simp)
        clear hfl HSN
        cases mk
        case true =>
          have HM1 := Lib.hid (show true = someMade x.head f (ls.take (k + 1)) by rw [HSN2.out]; rfl)
          go_wp2_with (first
            | (go_at_call 41; refine (KF.out).mono ?_; rintro e w5 ⟨⟨av5, ac5, rfl, hr5⟩, hb5⟩; have HB5 := Lib.hid ((HB.out.trans (hb5.mono hsz)).alloc (Nat.le_trans hsz hb5.size) (.cells #[.string g.name, .slice av5 g.args.length ac5] 61)); have HR5 := Lib.hid (RdStrs.up hr5 ((Below.refl _ _).alloc (Nat.le_refl _) (.cells #[.string g.name, .slice av5 g.args.length ac5] 61))); clear hr5 hb5)
            | (go_at_call 43; refine (KI.out _ _ HB5.out HR5.out).mono ?_; rintro e w6 ⟨rfl, hf6⟩; have HB6 := Lib.hid (HB5.out.trans (hf6.below.mono (Below.size HB5.out))); clear hf6))
          go_roundw
          case rel => exact ⟨k + 1, true, by omega, by go_num, rfl, HM1, HB6⟩
          case measure => simp [intOf]; omega
        case false =>
          by_cases hgf : f = g
          · have hcz : cmpFact f g = 0 := (cmpFact3.zero f g).2 hgf
            have HM1 := Lib.hid (show true = someMade x.head f (ls.take (k + 1)) by rw [HSN2.out, hgf]; simp)
            rw [hcz] at KC
            clear hcz hgf
            go_wp2_with (first
              | (go_at_call 41; refine (KF.out).mono ?_; rintro e w5 ⟨⟨av5, ac5, rfl, hr5⟩, hb5⟩; have HB5 := Lib.hid ((HB.out.trans (hb5.mono hsz)).alloc (Nat.le_trans hsz hb5.size) (.cells #[.string g.name, .slice av5 g.args.length ac5] 61)); have HR5 := Lib.hid (RdStrs.up hr5 ((Below.refl _ _).alloc (Nat.le_refl _) (.cells #[.string g.name, .slice av5 g.args.length ac5] 61))); have HJ5 := Lib.hid ((HJW.out.below hb5 hjl).alloc (.cells #[.string g.name, .slice av5 g.args.length ac5] 61)); have j0 := HJ5.out.cell 0; have j1 := HJ5.out.cell 1; simp only [List.getElem?_toArray, List.getElem?_cons_zero, List.getElem?_cons_succ] at j0 j1; clear hr5 hb5)
              | (go_at_call 42; refine (KC.out _ _ (HB3.out.trans (HB5.out.mono (Below.size HB3.out))) HR5.out).mono ?_; rintro e w6 ⟨rfl, hf6⟩; have HB6 := Lib.hid (HB5.out.trans (hf6.below.mono (Below.size HB5.out))); have HR6 := Lib.hid (RdStrs.up HR5.out hf6.below); have k0 := (cell_below hf6.below (show w5.heap.size < (w5.alloc (.cells #[.string g.name, .slice av5 g.args.length ac5] 61)).heap.size by simp) 0).trans (by simp : _ = some (.string g.name)); have k1 := (cell_below hf6.below (show w5.heap.size < (w5.alloc (.cells #[.string g.name, .slice av5 g.args.length ac5] 61)).heap.size by simp) 1).trans (by simp : _ = some (.slice av5 g.args.length ac5)); clear hf6 j0 j1)
              | (go_at_call 43; refine (KI.out _ _ HB6.out HR6.out).mono ?_; rintro e w7 ⟨rfl, hf7⟩; have HB7 := Lib.hid (HB6.out.trans (hf7.below.mono (Below.size HB6.out))); clear hf7))
            go_roundw
            case rel => exact ⟨k + 1, true, by omega, by go_num, rfl, HM1, HB7⟩
            case measure => simp [intOf]; omega
          · have hcz : (cmpFact f g == 0) = false := beq_eq_false_iff_ne.2 (cmpFact3.ne_zero hgf)
            have HM1 := Lib.hid (show false = someMade x.head f (ls.take (k + 1)) by rw [HSN2.out, decide_eq_false (Ne.symm hgf)]; rfl)
            clear hgf
            go_wp2_with (first
              | (go_at_call 41; refine (KF.out).mono ?_; rintro e w5 ⟨⟨av5, ac5, rfl, hr5⟩, hb5⟩; have HB5 := Lib.hid ((HB.out.trans (hb5.mono hsz)).alloc (Nat.le_trans hsz hb5.size) (.cells #[.string g.name, .slice av5 g.args.length ac5] 61)); have HR5 := Lib.hid (RdStrs.up hr5 ((Below.refl _ _).alloc (Nat.le_refl _) (.cells #[.string g.name, .slice av5 g.args.length ac5] 61))); have HJ5 := Lib.hid ((HJW.out.below hb5 hjl).alloc (.cells #[.string g.name, .slice av5 g.args.length ac5] 61)); have j0 := HJ5.out.cell 0; have j1 := HJ5.out.cell 1; simp only [List.getElem?_toArray, List.getElem?_cons_zero, List.getElem?_cons_succ] at j0 j1; clear hr5 hb5)
              | (go_at_call 42; refine (KC.out _ _ (HB3.out.trans (HB5.out.mono (Below.size HB3.out))) HR5.out).mono ?_; rintro e w6 ⟨rfl, hf6⟩; have HB6 := Lib.hid (HB5.out.trans (hf6.below.mono (Below.size HB5.out))); have HR6 := Lib.hid (RdStrs.up HR5.out hf6.below); have k0 := (cell_below hf6.below (show w5.heap.size < (w5.alloc (.cells #[.string g.name, .slice av5 g.args.length ac5] 61)).heap.size by simp) 0).trans (by simp : _ = some (.string g.name)); have k1 := (cell_below hf6.below (show w5.heap.size < (w5.alloc (.cells #[.string g.name, .slice av5 g.args.length ac5] 61)).heap.size by simp) 1).trans (by simp : _ = some (.slice av5 g.args.length ac5)); clear hf6 j0 j1)
              | (go_at_call 43; refine (KI.out _ _ HB6.out HR6.out).mono ?_; rintro e w7 ⟨rfl, hf7⟩; have HB7 := Lib.hid (HB6.out.trans (hf7.below.mono (Below.size HB6.out))); clear hf7))
            go_roundw
            case rel => exact ⟨k + 1, false, by omega, by go_num, rfl, HM1, HB7⟩
            case measure => simp [intOf]; omega
    · have HMM := Lib.hid (show memF f hl = mk by rw [HME.out, HM.out, List.take_of_length_le (by omega)])
      have KI := Lib.hid (inFact _ hl f (.slice xa f.args.length xc) wr (HH3.out.up HB.out) (RdStrs.up HAV.out HBW.out) HRI.out (by omega) (fun x hx => by have := HHA.out x hx; omega))
      rw [HMM.out] at KI
      have j0 := HJW.out.cell 0
      have j1 := HJW.out.cell 1
      simp only [List.getElem?_toArray, List.getElem?_cons_zero, List.getElem?_cons_succ] at j0 j1
      go_wp2_with (go_at_call 43; refine (KI.out).mono ?_; rintro e w5 ⟨rfl, hf5⟩; have HB5 := Lib.hid (HBW.out.trans (hf5.below.mono (Below.size HBW.out))); clear hf5)
      go_ret
      exact ⟨ret_bool (by simp), HB5.out⟩
namespace naiveHeads
theorem own : ownKnob Tryz.prog.godebug = none := by kernel_rfl

set_option maxRecDepth 100000 in
theorem contract (H : Type) (enc : TypeId × Value → H) (W : World) (base : Nat) (args : Array Value) (ds gs : List (DataW H)) (before : List MemPlace)
    (hval : ∀ (j : Nat) t v, Tryz.f7.params[j]? = some t → args[j]? = some v → Value.okWide Tryz.prog W .any base t v)
    (hW : DataW.Whole enc Tryz.prog Tryz.f7.params.toList Rows.naiveHeadsSpec.vars false W args.toList ds gs before) (hk : Rows.uptoSmall H (ds ++ gs) = true) :
    Calls Tryz.prog 7 args W fun e W' => ∃ v, e = .returned v ∧ Rows.naiveHeadsSpec.post enc Tryz.prog Tryz.f7 false true false false W args v W' := by
  have hW' := hW
  obtain ⟨p, q, hA0, hV, rfl, hfz, hnd⟩ := hW
  have hA : DataW.TrodAll enc Tryz.prog W 0 (fun _ => true) true Tryz.f7.params.toList args.toList ds p := hA0
  rw [Tryz.params7] at hA hval
  obtain ⟨v0, v1, v2, d0, d1, d2, p0, p1, p2, rfl, rfl, rfl, h0, h1, h2⟩ := trodAll_three hA
  obtain ⟨rfl, rfl⟩ := trodVars_none hV
  obtain ⟨x0, t0, b0, rfl, r0, q0, s0⟩ := openRule.ruleArg Tryz.underlying43 (hval 0 43 v0 rfl rfl) h0
  obtain ⟨x1, r1, s1⟩ := openFact.sliceArg Tryz.underlying24 (hval 1 24 v1 rfl rfl) h1
  obtain ⟨x2, a2, rfl, r2, s2⟩ := openFact.factArg Tryz.underlying61 (hval 2 61 v2 rfl rfl) h2
  rw [List.append_nil] at hk
  have hb : Rows.uptoBulkAll [d0, d1, d2] ≤ 1048576 := of_decide_eq_true hk
  simp only [Rows.uptoBulkAll] at hb
  have l0 := rule_small (r := x0) (by omega)
  have l1 := sizeL_le openFact.one x1
  have m1 : ∀ z ∈ x1, z.args.length ≤ 1048576 := fun z hz => by have h1 := sizeL_mem (size := sizeFact) hz; have h2 := sizeL_le openStr.one z.args; simp only [sizeFact] at h1; omega
  have l2 := sizeL_le openStr.one x2.args
  simp only [sizeFact] at s2
  refine (naiveHeadsCalls x0 t0 b0 x1 v1 x2 a2 W r0 q0 r1 r2 l0 (by omega) m1 (by omega)).mono fun e W' ⟨he, hb'⟩ => ?_
  subst he
  exact ⟨_, rfl, law_post (tb := 4) hW' rfl rfl (by kernel_rfl) Tryz.underlying4 (by kernel_rfl) (by kernel_rfl) hb'⟩

set_option maxRecDepth 100000 in
theorem lifted (os : Os) (started : os.Started) (H : Type) (enc : TypeId × Value → H) (F : Stop.Interp) :
    ReturnsInHanded {} Tryz.checked os 7 .any ((Rows.OpenSpec.upto Rows.naiveHeadsSpec).pre6 enc Tryz.prog Tryz.f7 Rows.naiveHeadsUptoRow.domain false) (((Rows.OpenSpec.upto Rows.naiveHeadsSpec).at F).post enc Tryz.prog Tryz.f7 false true false false) := by
  refine returnsInHanded_of_cond (C := Tryz.checked) (s := Rows.OpenSpec.upto Rows.naiveHeadsSpec) (k := Rows.uptoSmall) rfl own started (by kernel_rfl) Tryz.func7
    (OpenSpec.witness (enc := enc) (C := Tryz.checked) (s := Rows.OpenSpec.upto Rows.naiveHeadsSpec) (k := Rows.uptoSmall) rfl false ⟨#[], #[.agg #[.bool false, .string .empty, .slice none 0 0, .slice none 0 0], .slice none 0 0, .agg #[.string .empty, .slice none 0 0]], []⟩ 8 (by kernel_rfl) (by kernel_rfl) (by kernel_rfl)
      (x := ([.agg [.agg [.lit (.bool false), .lit (.string []), .nil], .nil], .nil, .agg [.lit (.string []), .nil]], [], [])) (by kernel_rfl) rfl (by kernel_rfl)) ?_
  intro W base args ds gs before hval hW _ hk _
  exact contract H enc W base args ds gs before hval hW hk

theorem proved : Rows.NaiveHeadsUptoSaid :=
  OpenClaim.holds_of_cond 7 Tryz.f7 rfl rfl rfl rfl rfl rfl rfl ⟨rfl, rfl, rfl, rfl, rfl⟩ rfl rfl rfl rfl rfl (by kernel_rfl) Tryz.func7 (by kernel_rfl)
    (of_decide_eq_true (by kernel_rfl)) (by unfold Func.isWrapper; first | (rw [if_pos (by decide +kernel)]; kernel_rfl) | (rw [if_neg (by decide +kernel)]; exact ⟨rfl, rfl⟩))
    (fun os started H enc _ F => lifted os started H enc F)
end naiveHeads

end Go.Proofs.YtbbiapgkcekabaaGreat
