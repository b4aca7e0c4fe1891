/-
  DeskRefused holds: what is refused changes nothing. No conditions besides those of the row.
-/
import Derived.Test.YtiiicochdidolaaGreatPk33
import Derived.Test.YtiiicochdidolaaGreatPk35
namespace Go.Proofs.YtiiicochdidolaaGreat
open Go.RowKit Go.ChangeShapes Go.WideShapes Go.ChangeAt

theorem exists_sp : ∃ sp : StrataFn, ∀ p, StrataIs p (sp p).1 (sp p).2 := ⟨fun p => ((exists_strata p).choose, (exists_strata p).choose_spec.choose), fun p => (exists_strata p).choose_spec.choose_spec⟩
theorem alive8True (w : World) : Calls Tryz.prog 7 #[] w fun e w' => e = .returned (.bool true) ∧ Below w.heap.size w w' := by
  obtain ⟨sp, hsp⟩ := exists_sp
  exact alive8Calls hsp w
theorem RDo.one {S : Nat → Prop} {w : World} {cs : List Value} {x : PDo} (h : RDo S w cs x) : ∀ u ∈ cs, u.oneCell' = true := by
  obtain ⟨av, rfl, hr⟩ := h
  obtain ⟨a, c, rfl, -⟩ := hr.form
  simp [Value.oneCell']
theorem rowDos : RowT Tryz.prog 22 40 5 := RowT.mk' (b := 72) (z := .agg #[.int .i64 0, .int .i64 0, .string ⟨#[]⟩, .slice none 0 0, .string ⟨#[]⟩]) Tryz.underlying22 (by kernel_rfl) (by omega) rfl (by omega)
theorem goods_snoc (z : PDesk) : ∀ (l : List PDo) (m : List PAns) (k : Nat) {x : PDo} {a : PAns}, l[k]? = some x → m[k]? = some a → goodsP z (l.take (k + 1)) (m.take (k + 1)) = goodsP z (l.take k) (m.take k) ++ (if goodDo x a then [x] else [])
  | [], _, k, _, _, h, _ => by simp at h
  | y :: l, [], k, _, _, _, h => by simp at h
  | y :: l, b :: m, 0, x, a, h1, h2 => by
    obtain rfl : y = x := by simpa using h1
    obtain rfl : b = a := by simpa using h2
    simp [goodsP]
  | y :: l, b :: m, k + 1, x, a, h1, h2 => by
    have ih := goods_snoc z l m k (x := x) (a := a) (by simpa using h1) (by simpa using h2)
    rw [List.take_succ_cons, List.take_succ_cons, List.take_succ_cons, List.take_succ_cons, goodsP, goodsP, ih]
    split <;> simp
theorem goods_mem (z : PDesk) : ∀ (l : List PDo) (m : List PAns), ∀ x ∈ goodsP z l m, x ∈ l
  | [], _, x, h => by simp [goodsP] at h
  | y :: l, [], x, h => by simp [goodsP] at h
  | y :: l, b :: m, x, h => by
    rw [goodsP] at h
    split at h
    · rcases List.mem_cons.1 h with rfl | h
      · exact List.mem_cons_self ..
      · exact List.mem_cons_of_mem _ (goods_mem z l m x h)
    · exact List.mem_cons_of_mem _ (goods_mem z l m x h)
theorem play_goods {sp : StrataFn} {l : List PDo} (h : l.length ≤ 60) : ∃ d a b, playP sp l = (d, a, 0) ∧ a.length = l.length ∧ d = (playL sp zeroDesk l).1 ∧ playP sp (goodsP zeroDesk l a) = (d, b, 0) ∧ (∀ x ∈ b, x.err = 0) ∧ b.length ≤ 60 := by
  obtain ⟨h1, h2⟩ := refused (sp := sp) (z := zeroDesk) l zeroDesk
  have h3 := goods_len zeroDesk l (playL sp zeroDesk l).2
  refine ⟨(playL sp zeroDesk l).1, (playL sp zeroDesk l).2, (playL sp zeroDesk (goodsP zeroDesk l (playL sp zeroDesk l).2)).2, by unfold playP; rw [if_neg (by omega)], playL_len _ _, rfl, ?_, h2, by rw [playL_len]; omega⟩
  unfold playP
  rw [if_neg (by omega), h1]
set_option maxRecDepth 100000 in
set_option maxHeartbeats 8000000 in
theorem deskRefusedCalls {S : Nat → Prop} (l : List PDo) (lv : Value) (w : World) (h : RdDos S w lv l) (n1 : l.length ≤ 1048576) (n2 : ∀ x ∈ l, DoSmall x) :
    Calls Tryz.prog 5 #[lv] w fun e w' => e = .returned (.bool true) ∧ Below w.heap.size w w' := by
  obtain ⟨la, lc, rfl, -, -, -⟩ := id h.form
  obtain ⟨sp, hsp⟩ := exists_sp
  have HL := Lib.hid (h.old RDo.steady (Below.refl _ _))
  have KA := Lib.hid (alive8True w)
  have HN2 := Lib.hid n2
  have KP := Lib.hid (fun (m : List PDo) (mv : Value) (W : World) (hm : RdDos (fun _ => True) W mv m) (g1 : m.length ≤ 1048576) (g2 : ∀ x ∈ m, DoSmall x) => playCalls hsp m mv W hm g1 g2)
  have K1 := Lib.hid (fun W (hm : RdDos (fun _ => True) W (.slice la l.length lc) l) => KP.out l _ W hm n1 HN2.out)
  clear h n2
  by_cases h60 : 60 < l.length
  · have he : playP sp l = (zeroDesk, [], 5) := by unfold playP; rw [if_pos h60]
    rw [he] at K1
    clear h60 he KP
    go_enter Tryz.func5, Tryz.ntmps5
    go_wp2_with (first
      | (go_at_call 8; have hh := HB1.out; clear hh; refine (K1.out _ ((HL.out.agree RDo.steady (Below.agree' HB1.out)).more RDo.steady (fun _ _ _ => trivial))).mono ?_; rintro e w2 ⟨hb2, ta, tc, ra, rc, ka, kc, na, nc, sa, sn, sc, oa, oc, rfl, hrd2, han2⟩; have HB2 := Lib.hid (HB1.out.trans (hb2.mono HB1.out.size)); clear hb2 hrd2 han2)
      | (go_at_call 7; refine (KA.out).mono ?_; rintro e w1 ⟨rfl, hb1⟩; have HB1 := Lib.hid hb1; clear hb1))
    go_ret
    exact ⟨rfl, HB2.out.alloc HB2.out.size _⟩
  have h1 : ¬ (60 : Int) < (l.length : Int) := by omega
  obtain ⟨d, aa, bb, hp1, hal, hd, hp2, hbb, hbl⟩ := play_goods (sp := sp) (l := l) (by omega)
  have hok := play_ok hsp l (zero_ok hsp)
  have hro := play_rules (sp := sp) l zero_rules
  rw [← hd] at hok hro
  have HOK := Lib.hid hok
  have HRO := Lib.hid hro
  have HBB := Lib.hid hbb
  have HAL := Lib.hid hal
  have K2 := Lib.hid (fun mv W (hm : RdDos (fun _ => True) W mv (goodsP zeroDesk l aa)) => KP.out _ mv W hm (by have := goods_len zeroDesk l aa; omega) (fun x hx => HN2.out x (goods_mem zeroDesk l aa x hx)))
  rw [hp1] at K1
  rw [hp2] at K2
  clear hp1 hp2 hd hok hro hbb KP HN2 h60 hal
  go_enter Tryz.func5, Tryz.ntmps5
  go_wp2_with (first
    | (go_at_call 8; have hh := HB1.out; clear hh; refine (K1.out _ ((HL.out.agree RDo.steady (Below.agree' HB1.out)).more RDo.steady (fun _ _ _ => trivial))).mono ?_; rintro e w2 ⟨hb2, ta, tc, ra, rc, ka, kc, na, nc, sa, sn, sc, oa, oc, rfl, hrd2, han2⟩; obtain ⟨X3, hX3⟩ : ∃ X : World, w2.alloc (.cells #[.slice ta d.told.length tc, .slice ra d.rules.length rc, .bool d.running, .slice ka d.run.known.length kc, .slice na d.run.new.length nc, .int .i64 d.run.stratum, .int .i64 d.run.rounds, .bool d.run.done, .slice sa sn sc] 31) = X := ⟨_, rfl⟩; have HB3 := Lib.hid (show Below w.heap.size w X3 by subst hX3; exact (HB1.out.trans (hb2.mono HB1.out.size)).alloc (HB1.out.trans (hb2.mono HB1.out.size)).size _); have HD3 := Lib.hid (show Blk X3 w2.heap.size 31 #[.slice ta d.told.length tc, .slice ra d.rules.length rc, .bool d.running, .slice ka d.run.known.length kc, .slice na d.run.new.length nc, .int .i64 d.run.stratum, .int .i64 d.run.rounds, .bool d.run.done, .slice sa sn sc] by subst hX3; exact Blk.new w2 _ _); have HR3 := Lib.hid (show DkRd d (.slice ta d.told.length tc) (.slice ra d.rules.length rc) (.slice ka d.run.known.length kc) (.slice na d.run.new.length nc) (.slice sa sn sc) X3 by subst hX3; exact hrd2.agree ((Agree.refl _ _).alloc _)); have HA3 := Lib.hid (show RdAnss (fun _ => True) X3 (.slice oa aa.length oc) aa by subst hX3; exact RdSlice.agree RAns.steady ((Agree.refl _ _).alloc _) han2); clear hb2 hrd2 han2)
    | (go_at_call 7; refine (KA.out).mono ?_; rintro e w1 ⟨rfl, hb1⟩; have HB1 := Lib.hid hb1; clear hb1))
  clear hX3 KA K1
  have HL3 := Lib.hid (HL.out.agree RDo.steady (Below.agree' HB3.out))
  have hx3 := HB3.out.size
  go_loopw [28, 6] (fun i o wr => ∃ k : Nat, k ≤ l.length ∧ i = .int .i64 k ∧ Hid (Below X3.heap.size X3 wr) ∧ Hid (Owned 5 RDo X3.heap.size 40 (fun q => q < w.heap.size) wr o (goodsP zeroDesk (l.take k) (aa.take k)))) (fun i _ _ => l.length - (intOf i).toNat)
  case atStart => exact ⟨0, Nat.zero_le _, rfl, Lib.hid (Below.refl _ _), Lib.hid Owned.nil⟩
  case round =>
    obtain ⟨k, hk, rfl, HB, HO⟩ := hrel
    obtain ⟨ga, gc, rfl, -, -, -⟩ := id (HO.out.read RDo.steady).form
    by_cases hlt : k < l.length
    · obtain ⟨x, hx⟩ : ∃ x, l[k]? = some x := ⟨_, List.getElem?_eq_getElem hlt⟩
      obtain ⟨an, hn⟩ : ∃ a, aa[k]? = some a := ⟨_, List.getElem?_eq_getElem (by have := HAL.out; omega)⟩
      have HSN := Lib.hid (goods_snoc zeroDesk l aa k hx hn)
      obtain ⟨a', c', hv, -, -, -, h3⟩ := HL3.out.agree RDo.steady (Below.agree HB.out)
      obtain ⟨b, off, cs, ha, hSb, hb, -, hc, av, rfl, hq⟩ := h3 k x hx
      injection hv with q1 q2 q3
      subst q1
      subst ha
      obtain ⟨fa, fc, rfl, -, -, -⟩ := id hq.form
      have d0 := hc 0 _ rfl; have d1 := hc 1 _ rfl; have d2 := hc 2 _ rfl; have d3 := hc 3 _ rfl; have d4 := hc 4 _ rfl
      rw [Nat.add_zero] at d0
      obtain ⟨a2, c2', hv2, -, -, -, g3⟩ := RdSlice.agree RAns.steady (Below.agree HB.out) HA3.out
      obtain ⟨ob, oo, cs2, ha2, -, hob, -, hc2, xb, xc, s0, y1, y2, y3, y4, y5, y6, y7, rfl, -⟩ := g3 k an hn
      injection hv2 with q1 q2 q3
      subst q1
      subst ha2
      have n0 := hc2 0 _ rfl
      rw [Nat.add_zero] at n0
      have hkl : (k : Int) < (aa.length : Int) := by have := HAL.out; omega
      have n1' := (cell_below ((Below.refl wr.heap.size wr).alloc (Nat.le_refl _) (.cells #[.int .i64 x.kind, .int .i64 x.n, .string x.fact.name, .slice fa x.fact.args.length fc, .string x.text] 40)) hob _).trans n0
      have HZ := Lib.hid (Blk.new wr 40 #[.int .i64 x.kind, .int .i64 x.n, .string x.fact.name, .slice fa x.fact.args.length fc, .string x.text])
      have z0 := HZ.out.cell 0; have z1 := HZ.out.cell 1; have z2 := HZ.out.cell 2; have z3 := HZ.out.cell 3; have z4 := HZ.out.cell 4
      simp only [List.getElem?_toArray, List.getElem?_cons_zero, List.getElem?_cons_succ] at z0 z1 z2 z3 z4
      have HBA := Lib.hid (HB.out.alloc HB.out.size (.cells #[.int .i64 x.kind, .int .i64 x.n, .string x.fact.name, .slice fa x.fact.args.length fc, .string x.text] 40))
      have HOA := Lib.hid (HO.out.alloc RDo.steady (.cells #[.int .i64 x.kind, .int .i64 x.n, .string x.fact.name, .slice fa x.fact.args.length fc, .string x.text] 40))
      have HQ := Lib.hid hq
      have hgl : (goodsP zeroDesk (l.take k) (aa.take k)).length < 1099511627776 := by have := goods_len zeroDesk (l.take k) (aa.take k); rw [List.length_take] at this; omega
      have HRW := Lib.hid (fun q (hq : (Value.slice ga (goodsP zeroDesk (l.take k) (aa.take k)).length gc).ownBlock = some q) => HO.out.row_lt hq)
      clear hx hn hq h3 g3 hc hc2
      generalize goodsP zeroDesk (l.take k) (aa.take k) = gl at *
      have hcs : (goodDo x an = false ∧ (an.err == 0) = false) ∨ (goodDo x an = false ∧ (an.err == 0) = true ∧ (x.kind != 5) = false) ∨ (goodDo x an = false ∧ (an.err == 0) = true ∧ (x.kind != 5) = true ∧ (x.kind != 6) = false) ∨ (goodDo x an = true ∧ (an.err == 0) = true ∧ (x.kind != 5) = true ∧ (x.kind != 6) = true) := by
        unfold goodDo
        by_cases e1 : an.err = 0 <;> by_cases e2 : x.kind = 5 <;> by_cases e3 : x.kind = 6 <;> simp [e1, e2, e3]
      rcases hcs with ⟨hg, e1⟩ | ⟨hg, e1, e2⟩ | ⟨hg, e1, e2, e3⟩ | ⟨hg, e1, e2, e3⟩
      rotate_left 3
      · rw [hg, if_pos rfl] at HSN
        clear hg
        go_wp2_with (at_builtin; (refine wpList_append_one (B := X3.heap.size) (e := 40) (S := fun q => q < w.heap.size) (by rfl) _ _ 22 (by rfl) RDo.steady rowDos _ gl (by rfl) (HOA.out.alloc RDo.steady _) (wr.heap.size + 1) 1 #[.int .i64 x.kind, .int .i64 x.n, .string x.fact.name, .slice fa x.fact.args.length fc, .string x.text] 40 (0, 0) x (by rfl) (heap_new_at (by simp)) rfl (by simp [Value.oneCell']) ⟨_, rfl, ((HQ.out.agree RStr.steady ((Agree.refl _ _).alloc _)).agree RStr.steady ((Agree.refl _ _).alloc _)).more RStr.steady (fun q hq _ => ⟨hq, fun e => by have h1 := (HRW.out q e.symm).1; have h2 : q < w.heap.size := hq; omega⟩)⟩ hgl (by have := HBA.out.size; simp at this ⊢; omega) ?_; intro v5 w5 ho5 hg5 hat5; have HO5 := Lib.hid ho5; have HB5 := Lib.hid ((HBA.out.alloc HBA.out.size (.cells #[.int .i64 x.kind, .int .i64 x.n, .string x.fact.name, .slice fa x.fact.args.length fc, .string x.text] 40)).grown hg5 (by have := HBA.out.size; simp at this ⊢; omega) (fun q hq => (HRW.out q hq).1)); clear ho5 hg5 hat5))
        rw [← HSN.out] at HO5
        refine ⟨⟨_, _, _, .int .i64 ((k : Int) + 1), ⟨k + 1, by omega, by go_num, HO5⟩, rfl, rfl, rfl, rfl⟩, ?_⟩
        simp [intOf]; omega
      all_goals
        rw [hg, if_neg Bool.false_ne_true, List.append_nil] at HSN
        clear hg
        go_wp2
        refine ⟨?rel, ?measure⟩
        case rel => exact ⟨k + 1, by omega, by go_num, HBA, Lib.hid (by rw [HSN.out]; exact HOA.out)⟩
        case measure => simp [intOf]; omega
    · have hkn : k = l.length := by omega
      subst hkn
      have hta : aa.take l.length = aa := by rw [← HAL.out, List.take_length]
      rw [List.take_length, hta] at HO
      rw [List.take_length, hta]
      clear hta
      have HRD := Lib.hid ((HO.out.read RDo.steady).more RDo.steady (S' := fun _ => True) (fun _ _ _ => trivial))
      have HB6 := Lib.hid (HB3.out.trans (HB.out.mono hx3))
      have HD6 := Lib.hid (HD3.out.below HB.out HD3.out.lt)
      have HR6 := Lib.hid (HR3.out.agree (Below.agree HB.out))
      clear HO
      go_wp2_with (go_at_call 8; refine (K2.out _ _ HRD.out).mono ?_; rintro e w6 ⟨hb6, pta, ptc, pra, prc, pka, pkc, pna, pnc, psa, psn, psc, qa, qc, rfl, hrd6, han6⟩; obtain ⟨X7, hX7⟩ : ∃ X : World, w6.alloc (.cells #[.slice pta d.told.length ptc, .slice pra d.rules.length prc, .bool d.running, .slice pka d.run.known.length pkc, .slice pna d.run.new.length pnc, .int .i64 d.run.stratum, .int .i64 d.run.rounds, .bool d.run.done, .slice psa psn psc] 31) = X := ⟨_, rfl⟩; have HB7 := Lib.hid (show Below w.heap.size w X7 by subst hX7; exact (HB6.out.trans (hb6.mono HB6.out.size)).alloc (HB6.out.trans (hb6.mono HB6.out.size)).size _); have HD7 := Lib.hid (show Blk X7 w2.heap.size 31 #[.slice ta d.told.length tc, .slice ra d.rules.length rc, .bool d.running, .slice ka d.run.known.length kc, .slice na d.run.new.length nc, .int .i64 d.run.stratum, .int .i64 d.run.rounds, .bool d.run.done, .slice sa sn sc] by subst hX7; exact (HD6.out.below hb6 HD6.out.lt).alloc _); have HP7 := Lib.hid (show Blk X7 w6.heap.size 31 #[.slice pta d.told.length ptc, .slice pra d.rules.length prc, .bool d.running, .slice pka d.run.known.length pkc, .slice pna d.run.new.length pnc, .int .i64 d.run.stratum, .int .i64 d.run.rounds, .bool d.run.done, .slice psa psn psc] by subst hX7; exact Blk.new w6 _ _); have HR7 := Lib.hid (show DkRd d (.slice ta d.told.length tc) (.slice ra d.rules.length rc) (.slice ka d.run.known.length kc) (.slice na d.run.new.length nc) (.slice sa sn sc) X7 by subst hX7; exact (HR6.out.agree (Below.agree hb6)).agree ((Agree.refl _ _).alloc _)); have HQ7 := Lib.hid (show DkRd d (.slice pta d.told.length ptc) (.slice pra d.rules.length prc) (.slice pka d.run.known.length pkc) (.slice pna d.run.new.length pnc) (.slice psa psn psc) X7 by subst hX7; exact hrd6.agree ((Agree.refl _ _).alloc _)); have HA7 := Lib.hid (show RdAnss (fun _ => True) X7 (.slice qa bb.length qc) bb by subst hX7; exact RdSlice.agree RAns.steady ((Agree.refl _ _).alloc _) han6); clear hb6 hrd6 han6)
      clear hX7
      have hx7 := HB7.out.size
      go_loopw [62] (fun i wr => ∃ j : Nat, j ≤ bb.length ∧ i = .int .i64 j ∧ Hid (Below X7.heap.size X7 wr)) (fun i _ => bb.length - (intOf i).toNat)
      case atStart => exact ⟨0, Nat.zero_le _, rfl, Lib.hid (Below.refl _ _)⟩
      case round =>
        obtain ⟨j, hj, rfl, HBJ⟩ := hrel
        by_cases hjl : j < bb.length
        · obtain ⟨y, hy⟩ : ∃ y, bb[j]? = some y := ⟨_, List.getElem?_eq_getElem hjl⟩
          have hye := HBB.out y (List.mem_of_getElem? hy)
          obtain ⟨a', c', hv, -, -, -, h3⟩ := RdSlice.agree RAns.steady (Below.agree HBJ.out) HA7.out
          obtain ⟨g, o, cs, ha, -, hg, -, hc, xb, xc, s0, y1, y2, y3, y4, y5, y6, y7, rfl, -⟩ := h3 j y hy
          injection hv with q1 q2 q3
          subst q1
          subst ha
          rw [hye] at hc
          have c0 := hc 0 _ rfl; have c1 := hc 1 _ rfl; have c2 := hc 2 _ rfl; have c3 := hc 3 _ rfl; have c4 := hc 4 _ rfl; have c5 := hc 5 _ rfl; have c6 := hc 6 _ rfl; have c7 := hc 7 _ rfl
          rw [Nat.add_zero] at c0
          have HN := Lib.hid (Blk.new wr 46 #[.int .i64 0, .int .i64 y.at', .int .i64 y.n, .slice xb y.binds.length xc, .string s0, .slice y1 y2 y3, .int .i64 y4, .slice y5 y6 y7])
          have m0 := HN.out.cell 0
          simp only [List.getElem?_toArray, List.getElem?_cons_zero] at m0
          clear hye hy h3 hc
          go_wp2
          go_roundw
          case rel => exact ⟨j + 1, by omega, by go_num, Lib.hid (HBJ.out.alloc HBJ.out.size _)⟩
          case measure => simp [intOf]; omega
        · have hjn : j = bb.length := by omega
          subst hjn
          have HD8 := Lib.hid (HD7.out.below HBJ.out HD7.out.lt)
          have HP8 := Lib.hid (HP7.out.below HBJ.out HP7.out.lt)
          have t0 := HD8.out.cell 0; have t1 := HD8.out.cell 1; have t2 := HD8.out.cell 2; have t3 := HD8.out.cell 3; have t4 := HD8.out.cell 4; have t5 := HD8.out.cell 5; have t6 := HD8.out.cell 6; have t7 := HD8.out.cell 7; have t8 := HD8.out.cell 8; simp only [List.getElem?_toArray, List.getElem?_cons_zero, List.getElem?_cons_succ] at t0 t1 t2 t3 t4 t5 t6 t7 t8
          have u0 := HP8.out.cell 0; have u1 := HP8.out.cell 1; have u2 := HP8.out.cell 2; have u3 := HP8.out.cell 3; have u4 := HP8.out.cell 4; have u5 := HP8.out.cell 5; have u6 := HP8.out.cell 6; have u7 := HP8.out.cell 7; have u8 := HP8.out.cell 8; simp only [List.getElem?_toArray, List.getElem?_cons_zero, List.getElem?_cons_succ] at u0 u1 u2 u3 u4 u5 u6 u7 u8
          go_wp2_with (go_at_call 15; refine (sameDeskRefl d ta tc ra rc ka kc na nc sa sn sc pta ptc pra prc pka pkc pna pnc psa psn psc _ (HR7.out.agree (Below.agree HBJ.out)) (HQ7.out.agree (Below.agree HBJ.out)) (by have := HOK.out.told.len; omega) (fun x hx => by have := (wrongF_zero.1 (HOK.out.told.fine x hx)).2.1; omega) HRO.out (run_small HOK.out) (by have := HOK.out.few; omega)).mono ?_; rintro e w9 ⟨rfl, hb9⟩; have HB9 := Lib.hid ((HB7.out.trans (HBJ.out.mono hx7)).trans (hb9.mono (HB7.out.trans (HBJ.out.mono hx7)).size)); clear hb9)
          go_ret
          exact ⟨rfl, HB9.out⟩
namespace deskRefused
theorem own : ownKnob Tryz.prog.godebug = none := by kernel_rfl

set_option maxRecDepth 100000 in
theorem contract (H : Type) (enc : TypeId × Value → H) (W : World) (base : Nat) (args : Array Value) (ds gs : List (DataW H)) (before : List MemPlace)
    (hval : ∀ (j : Nat) t v, Tryz.f5.params[j]? = some t → args[j]? = some v → Value.okWide Tryz.prog W .any base t v)
    (hW : DataW.Whole enc Tryz.prog Tryz.f5.params.toList Rows.deskRefusedSpec.vars false W args.toList ds gs before) (hk : Rows.uptoSmall H (ds ++ gs) = true) :
    Calls Tryz.prog 5 args W fun e W' => ∃ v, e = .returned v ∧ Rows.deskRefusedSpec.post enc Tryz.prog Tryz.f5 false true false false W args v W' := by
  have hW' := hW
  obtain ⟨p, q, hA0, hV, rfl, hfz, hnd⟩ := hW
  have hA : DataW.TrodAll enc Tryz.prog W 0 (fun _ => true) true Tryz.f5.params.toList args.toList ds p := hA0
  rw [Tryz.params5] at hA hval
  obtain ⟨v0, d0, rfl, rfl, h0⟩ := trodAll_one hA
  obtain ⟨rfl, rfl⟩ := trodVars_none hV
  obtain ⟨x0, r0, s0⟩ := openDo.sliceArg Tryz.underlying22 (hval 0 22 v0 rfl rfl) h0
  rw [List.append_nil] at hk
  have hb : Rows.uptoBulkAll [d0] ≤ 1048576 := of_decide_eq_true hk
  simp only [Rows.uptoBulkAll] at hb
  have l0 := dos_small (l := x0) (by omega)
  refine (deskRefusedCalls x0 v0 W r0 l0.1 l0.2).mono fun e W' ⟨he, hb'⟩ => ?_
  subst he
  exact ⟨_, rfl, law_post (tb := 4) hW' rfl rfl (by kernel_rfl) Tryz.underlying4 (by kernel_rfl) (by kernel_rfl) hb'⟩

set_option maxRecDepth 100000 in
theorem lifted (os : Os) (started : os.Started) (H : Type) (enc : TypeId × Value → H) (F : Stop.Interp) :
    ReturnsInHanded {} Tryz.checked os 5 .any ((Rows.OpenSpec.upto Rows.deskRefusedSpec).pre6 enc Tryz.prog Tryz.f5 Rows.deskRefusedUptoRow.domain false) (((Rows.OpenSpec.upto Rows.deskRefusedSpec).at F).post enc Tryz.prog Tryz.f5 false true false false) := by
  refine returnsInHanded_of_cond (C := Tryz.checked) (s := Rows.OpenSpec.upto Rows.deskRefusedSpec) (k := Rows.uptoSmall) rfl own started (by kernel_rfl) Tryz.func5
    (OpenSpec.witness (enc := enc) (C := Tryz.checked) (s := Rows.OpenSpec.upto Rows.deskRefusedSpec) (k := Rows.uptoSmall) rfl false ⟨#[], #[.slice none 0 0], []⟩ 8 (by kernel_rfl) (by kernel_rfl) (by kernel_rfl)
      (x := ([.nil], [], [])) (by kernel_rfl) rfl (by kernel_rfl)) ?_
  intro W base args ds gs before hval hW _ hk _
  exact contract H enc W base args ds gs before hval hW hk

theorem proved : Rows.DeskRefusedUptoSaid :=
  OpenClaim.holds_of_cond 5 Tryz.f5 rfl rfl rfl rfl rfl rfl rfl ⟨rfl, rfl, rfl, rfl, rfl⟩ rfl rfl rfl rfl rfl (by kernel_rfl) Tryz.func5 (by kernel_rfl)
    (of_decide_eq_true (by kernel_rfl)) (by unfold Func.isWrapper; first | (rw [if_pos (by decide +kernel)]; kernel_rfl) | (rw [if_neg (by decide +kernel)]; exact ⟨rfl, rfl⟩))
    (fun os started H enc _ F => lifted os started H enc F)
end deskRefused

end Go.Proofs.YtiiicochdidolaaGreat
