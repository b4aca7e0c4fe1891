/-
  corotop.TopDesk ALWAYS ANSWERS TRUE: what is asked of a run that was saved, other facts told, and brought back, is ans it was ahead of that. For any arguments of ordinary size; without conditions.
-/
import Derived.Test.YtiiicochdidolaaGreatTk18
import Derived.Test.YtiiicochdidolaaGreatTk23
import Derived.Test.YtiiicochdidolaaGreatTk34
namespace Go.Proofs.YtiiicochdidolaaGreat
open Go.RowKit Go.ChangeShapes Go.WideShapes Go.Deep

theorem exists_sp : ∃ sp : StrataFn, ∀ p, StrataIs p (sp p).1 (sp p).2 := ⟨fun p => ((exists_strata p).choose, (exists_strata p).choose_spec.choose), fun p => (exists_strata p).choose_spec.choose_spec⟩
theorem RDo.one {S : Nat → Prop} {w : World} {cs : List Value} {x : PDo} (h : RDo S w cs x) : ∀ u ∈ cs, u.oneCell' = true := by
  obtain ⟨av, rfl, hr⟩ := h
  obtain ⟨a, c, rfl, -⟩ := hr.form
  simp [Value.oneCell']
theorem rowDos : RowT Tryz.prog 22 40 5 := RowT.mk' (b := 72) (z := .agg #[.int .i64 0, .int .i64 0, .string ⟨#[]⟩, .slice none 0 0, .string ⟨#[]⟩]) Tryz.underlying22 (by kernel_rfl) (by omega) rfl (by omega)
/-- How many pairs there are ahead of a row; and in a row. -/
def cntA (p : Nat × Nat → Bool) (N a : Nat) : Nat := (((List.range a).flatMap fun a => (List.range N).map fun b => (a, b)).filter p).length
def cntR (p : Nat × Nat → Bool) (a c : Nat) : Nat := (((List.range c).map fun b => (a, b)).filter p).length
theorem cntA_succ (p : Nat × Nat → Bool) (N a : Nat) : cntA p N (a + 1) = cntA p N a + cntR p a N := by
  unfold cntA cntR
  rw [List.range_succ, List.flatMap_append, List.filter_append, List.length_append]
  simp
theorem cntR_succ (p : Nat × Nat → Bool) (a c : Nat) : cntR p a (c + 1) = cntR p a c + (if p (a, c) then 1 else 0) := by
  unfold cntR
  rw [List.range_succ, List.map_append, List.filter_append, List.length_append]
  by_cases h : p (a, c) = true <;> simp [h]
theorem cntR_le (p : Nat × Nat → Bool) (a c : Nat) : cntR p a c ≤ c := by
  unfold cntR
  refine Nat.le_trans (List.length_filter_le _ _) ?_
  simp
theorem cntA_le (p : Nat × Nat → Bool) (N a : Nat) : cntA p N a ≤ a * N := by
  induction a with
  | zero => simp [cntA]
  | succ a ih => rw [cntA_succ, Nat.add_mul, Nat.one_mul]; have := cntR_le p a N; omega
theorem rText_eq : roadsText = rText := by decide +kernel
theorem desk_says {sp : StrataFn} (hsp : ∀ p, StrataIs p (sp p).1 (sp p).2) {n : Nat} {ps : List (Nat × Nat)} (h : NetOk n n ps) (hn : n ≤ 5) (hf : ps.length ≤ 12) {at' : Int} (a0 : 0 ≤ at') (a1 : at' ≤ 20) :
    ∃ D ans x y, playP sp (topDo n ps at') = (D, ans, 0) ∧ ans.length = (netL n ps).length + 11 ∧ ans[(netL n ps).length + 10]? = some x ∧ ans[(netL n ps).length + 7]? = some y ∧ x.err = 0 ∧ x.n = ((cntA (fun q => reachK ps n n q.1 q.2) n n : Nat) : Int) ∧ y.n = ((cntA (fun q => reachK ps n n q.1 q.2) n n + 1 : Nat) : Int) := by
  obtain ⟨x, y, h1, h2, h3, h4, h5⟩ := top_desk hsp h hn hf a0 a1
  have hl := topDo_len n ps at'
  have hq := netL_len h
  exact ⟨_, _, x, y, by unfold playP; rw [if_neg (by omega)], by rw [playL_len, hl], h1, h2, h3, h4, h5⟩
attribute [local go_sem ↓] Go.wp_at_zero Go.wp_at_succ
set_option maxRecDepth 100000 in
set_option maxHeartbeats 8000000 in
theorem topDeskCalls {S S2 : Nat → Prop} (n : Int) (fv tv : Value) (frm tow : List Int) (at' : Int) (w : World) (hf : RdInts S w fv frm) (ht : RdInts S2 w tv tow) (n1 : frm.length ≤ 1048576) (n2 : tow.length ≤ 1048576) :
    Calls Tryz.prog 6 #[.int .i64 n, fv, tv, .int .i64 at'] w fun e w' => e = .returned (.bool true) ∧ Below w.heap.size w w' := by
  obtain ⟨fa, fc, rfl, -, -, -⟩ := id hf.form
  obtain ⟨ta, tc, rfl, -, -, -⟩ := id ht.form
  have KA := Lib.hid (aliveTop w)
  by_cases hb : n < 1 ∨ 5 < n ∨ 8 < frm.length ∨ at' < 0 ∨ 20 < at'
  · have hcs : n < 1 ∨ ¬ n < 1 ∧ (5 : Int) < n ∨ ¬ n < 1 ∧ ¬ (5 : Int) < n ∧ (8 : Int) < (frm.length : Int) ∨ ¬ n < 1 ∧ ¬ (5 : Int) < n ∧ ¬ (8 : Int) < (frm.length : Int) ∧ at' < 0 ∨ ¬ n < 1 ∧ ¬ (5 : Int) < n ∧ ¬ (8 : Int) < (frm.length : Int) ∧ ¬ at' < 0 ∧ (20 : Int) < at' := by omega
    clear hb hf ht
    rcases hcs with h1 | ⟨h1, h2⟩ | ⟨h1, h2, h3⟩ | ⟨h1, h2, h3, h4⟩ | ⟨h1, h2, h3, h4, h5⟩
    all_goals
      go_enter Tryz.func6, Tryz.ntmps6
      go_wp2_with (go_at_call 16; refine (KA.out).mono ?_; rintro e w1 ⟨rfl, hb1⟩; have HB1 := Lib.hid hb1; clear hb1)
      go_ret
      exact ⟨rfl, HB1.out⟩
  obtain ⟨m, rfl⟩ : ∃ m : Nat, n = m := ⟨n.toNat, by omega⟩
  have g0 : 1 ≤ m := by omega
  have g6 : m ≤ 5 := by omega
  have gf : frm.length ≤ 8 := by omega
  have h1 : ¬ (m : Int) < 1 := by omega
  have h2 : ¬ (5 : Int) < m := by omega
  have h3 : ¬ (8 : Int) < (frm.length : Int) := by omega
  have h4 : ¬ at' < 0 := by omega
  have h5 : ¬ (20 : Int) < at' := by omega
  clear hb
  obtain ⟨sp, hsp⟩ := exists_sp
  have hpl : (pairsP m frm tow).length ≤ 8 := Nat.le_trans pairs_len gf
  have hok : NetOk m m (pairsP m frm tow) := ⟨by omega, Nat.le_refl _, by omega, pairs_in g0, by omega⟩
  obtain ⟨D, ans, xa, ya, hp, hal, hxa, hya, hxe, hxn, hyn⟩ := desk_says hsp hok g6 (by omega) (show 0 ≤ at' by omega) (show at' ≤ 20 by omega)
  have hNL := netL_len hok
  have HTB := Lib.hid (fun (a c : Nat) (ha : a < m) (hc : c < m) => table_is (n := m) (by omega) (pairs_in (frm := frm) (tow := tow) g0) ha hc)
  have HTL := Lib.hid (closeN_len (n := m) (by omega) (pairs_in (frm := frm) (tow := tow) g0) m)
  have HSM := Lib.hid (show ∀ x ∈ netL m (pairsP m frm tow), x.args.length ≤ 1048576 from fun x hx => by have := (wrongF_zero.1 (netU_fine hok x (by unfold netU; exact List.mem_append_left _ hx))).2.1; omega)
  have KP := Lib.hid (fun lv W (hr : RdDos (fun _ => True) W lv (topDo m (pairsP m frm tow) at')) => playCalls hsp _ lv W hr (by rw [topDo_len]; omega) (fun x hx => by
    unfold topDo at hx
    rcases List.mem_append.1 hx with hx | hx
    · obtain ⟨f, hf, rfl⟩ := List.mem_map.1 hx
      exact ⟨HSM.out f hf, Nat.zero_le _⟩
    · simp only [tailDo, List.mem_cons, List.not_mem_nil, or_false] at hx
      rcases hx with rfl | rfl | rfl | rfl | rfl | rfl | rfl | rfl | rfl | rfl | rfl <;> exact ⟨Nat.le_of_ble_eq_true rfl, Nat.le_of_ble_eq_true rfl⟩))
  rw [hp] at KP
  have htd : topDo m (pairsP m frm tow) at' = (netL m (pairsP m frm tow)).map tellDo ++ tailDo at' := rfl
  rw [htd] at KP
  have HF := Lib.hid hf
  have HT := Lib.hid ht
  have KN := Lib.hid (fun W (hb : Below w.heap.size w W) => netsCalls m (.slice fa frm.length fc) (.slice ta tow.length tc) frm tow W g0 (by omega) (hf.up hb) (ht.up hb) (by omega) n2)
  clear hf ht hok HF HT hp htd hsp hpl HSM
  generalize pairsP m frm tow = ps at *
  generalize hnl : netL m ps = nl at *
  generalize htb : closeN m m (tableE ps) = tb at *
  have hct := cellsOf_size tb
  rw [HTL.out] at hct
  go_enter Tryz.func6, Tryz.ntmps6
  go_wp2_with (first
    | (go_at_call 17; have hh := HB1.out; clear hh; refine (KN.out _ HB1.out).mono ?_; rintro e w2 ⟨na, nc, rfl, hr2, hb2⟩; rw [hnl] at hr2; have HN2 := Lib.hid hr2; have HB2 := Lib.hid (HB1.out.trans (hb2.mono HB1.out.size)); clear hr2 hb2)
    | (go_at_call 16; refine (KA.out).mono ?_; rintro e w1 ⟨rfl, hb1⟩; have HB1 := Lib.hid hb1; clear hb1))
  rw [store_table (P := Tryz.prog) (Blk.new w2 70 #[.bool false, .bool false, .bool false, .bool false, .bool false, .bool false, .bool false, .bool false, .bool false, .bool false, .bool false, .bool false, .bool false, .bool false, .bool false, .bool false, .bool false, .bool false, .bool false, .bool false, .bool false, .bool false, .bool false, .bool false, .bool false, .bool false, .bool false, .bool false, .bool false, .bool false, .bool false, .bool false, .bool false, .bool false, .bool false, .bool false, .bool false, .bool false, .bool false, .bool false, .bool false, .bool false, .bool false, .bool false, .bool false, .bool false, .bool false, .bool false, .bool false, .bool false, .bool false, .bool false, .bool false, .bool false, .bool false, .bool false, .bool false, .bool false, .bool false, .bool false, .bool false, .bool false, .bool false, .bool false]) hct rfl (cellsOf_one tb), World.setRow_alloc_new]
  have HB3 := Lib.hid (HB2.out.alloc HB2.out.size (.cells (cellsOf tb) 70))
  have HN3 := Lib.hid (HN2.out.up ((Below.refl _ _).alloc (Nat.le_refl _) (.cells (cellsOf tb) 70)))
  have HK3 := Lib.hid (Blk.new w2 70 (cellsOf tb))
  clear HN2 HB2 HB1
  generalize w2.alloc (.cells (cellsOf tb) 70) = W3 at *
  generalize w2.heap.size = X at *
  have HNO := Lib.hid (HN3.out.old RFact.steady (Below.refl _ _))
  go_wp2
  go_loopw [51, 11] (fun i v wr => ∃ k : Nat, k ≤ nl.length ∧ i = .int .i64 k ∧ Hid (Below W3.heap.size W3 wr) ∧ Hid (Owned 5 RDo W3.heap.size 40 (fun q => q < W3.heap.size) wr v ((nl.take k).map tellDo))) (fun i _ _ => nl.length - (intOf i).toNat)
  case atStart => exact ⟨0, Nat.zero_le _, rfl, Lib.hid (Below.refl _ _), Lib.hid Owned.nil⟩
  case round =>
    obtain ⟨k, hk, rfl, HB, HO⟩ := hrel
    obtain ⟨ga, gc, rfl, -, -, -⟩ := id (HO.out.read RDo.steady).form
    by_cases hlt : k < nl.length
    · obtain ⟨x, hx⟩ : ∃ x, nl[k]? = some x := ⟨_, List.getElem?_eq_getElem hlt⟩
      have HSN := Lib.hid (show (nl.take (k + 1)).map tellDo = (nl.take k).map tellDo ++ [tellDo x] by rw [List.take_add_one, hx]; simp)
      have hgl : ((nl.take k).map tellDo).length < 1099511627776 := by rw [List.length_map, List.length_take]; omega
      obtain ⟨b1, o1, av, rfl, -, hb1, c1, c2, hav⟩ := RdFacts.at (HNO.out.agree RFact.steady (Below.agree HB.out)) hx
      obtain ⟨fa, fc, rfl, -, -, -⟩ := id hav.form
      obtain ⟨X4, hX4⟩ : ∃ X : World, wr.alloc (.cells #[.string x.name, .slice fa x.args.length fc] 38) = X := ⟨_, rfl⟩
      have hg4 : Below wr.heap.size wr X4 := by subst hX4; exact (Below.refl _ _).alloc (Nat.le_refl _) _
      have HB4 := Lib.hid (HB.out.trans (hg4.mono HB.out.size))
      have HZ4 := Lib.hid (show Blk X4 wr.heap.size 38 #[.string x.name, .slice fa x.args.length fc] by subst hX4; exact Blk.new wr _ _)
      have HAO := Lib.hid (hav.agree RStr.steady (Below.agree hg4))
      have HO4 := Lib.hid (show Owned 5 RDo W3.heap.size 40 (fun q => q < W3.heap.size) X4 _ _ by subst hX4; exact HO.out.alloc RDo.steady (.cells #[.string x.name, .slice fa x.args.length fc] 38))
      have HRW := Lib.hid (fun q (hq : (Value.slice ga ((nl.take k).map tellDo).length gc).ownBlock = some q) => HO.out.row_lt hq)
      have z0 := HZ4.out.cell 0; have z1 := HZ4.out.cell 1; simp only [List.getElem?_toArray, List.getElem?_cons_zero, List.getElem?_cons_succ] at z0 z1
      clear hav hx hg4 HO
      generalize (nl.take k).map tellDo = dl at *
      go_wp2_with (at_builtin; (
          refine wpList_append_one (B := W3.heap.size) (e := 40) (S := fun q => q < W3.heap.size) (by rfl) _ _ 22 (by rfl) RDo.steady rowDos _ dl (by rfl) (HO4.out.alloc RDo.steady _) X4.heap.size 1 #[.int .i64 1, .int .i64 0, .string x.name, .slice fa x.args.length fc, .string ⟨#[]⟩] 40 (0, 0) (tellDo x) (by rfl) (heap_alloc_new _ _) rfl (by simp [Value.oneCell']) ⟨_, rfl, (HAO.out.agree RStr.steady ((Agree.refl _ _).alloc _)).more RStr.steady (fun q hq _ => ⟨hq, fun e => by have h1 := (HRW.out q e.symm).1; have h2 : q < W3.heap.size := hq; omega⟩)⟩ hgl (by have := HB4.out.size; simp at this ⊢; omega) ?_
          intro v6 w6 ho6 hg6 hat6
          have HO6 := Lib.hid ho6
          have HB6 := Lib.hid ((HB4.out.alloc HB4.out.size (.cells #[.int .i64 1, .int .i64 0, .string x.name, .slice fa x.args.length fc, .string ⟨#[]⟩] 40)).grown hg6 (by have := HB4.out.size; simp at this ⊢; omega) (fun q hq => (HRW.out q hq).1))
          clear ho6 hg6 hat6))
      go_roundw
      case rel => exact ⟨k + 1, by omega, by go_num, HB6, Lib.hid (by rw [HSN.out]; exact HO6.out)⟩
      case measure => simp [intOf]; omega
    · have hkn : k = nl.length := by omega
      subst hkn
      rw [List.take_length] at HO
      rw [List.take_length]
      clear hk
      obtain ⟨W5, hW5⟩ : ∃ W : World, W = wr := ⟨_, rfl⟩
      subst hW5
      have HB5 := Lib.hid (HB3.out.trans (HB.out.mono HB3.out.size))
      have hs03 := HB3.out.size
      have hs35 := HB.out.size
      have HK5 := Lib.hid (HK3.out.below HB.out HK3.out.lt)
      have HO5 := Lib.hid (HO.out.moreS RDo.steady (S' := fun _ => True) (fun _ _ _ => trivial))
      rw [List.length_map] at HO5
      clear HB HO HB3 HN3 HNO HK3
      obtain ⟨pr, hpr⟩ : ∃ p : Nat × Nat → Bool, p = fun q => reachK ps m m q.1 q.2 := ⟨_, rfl⟩
      rw [← hpr] at hxn hyn
      have HCE := Lib.hid (fun (a c : Nat) (ha : a < m) (hc : c < m) => (show cellG tb a c = pr (a, c) by rw [hpr]; exact HTB.out a c ha hc))
      have HXN := Lib.hid hxn
      have HYN := Lib.hid hyn
      clear hpr HTB hxn hyn
      go_wp2
      go_loopw [62, 14] (fun i v wr => ∃ a : Nat, a ≤ m ∧ i = .int .i64 a ∧ v = .int .i64 ((cntA pr m a : Nat) : Int) ∧ W5 = wr) (fun i _ _ => m - (intOf i).toNat)
      case atStart => exact ⟨0, Nat.zero_le _, rfl, rfl, rfl⟩
      case round =>
        obtain ⟨a, ha, rfl, rfl, rfl⟩ := hrel
        by_cases ham : a < m
        · have ham' : (a : Int) < (m : Int) := by omega
          go_wp2
          go_loopw [66, 14] (fun i v wr => ∃ c : Nat, c ≤ m ∧ i = .int .i64 c ∧ v = .int .i64 ((cntA pr m a + cntR pr a c : Nat) : Int) ∧ W5 = wr) (fun i _ _ => m - (intOf i).toNat)
          case atStart => exact ⟨0, Nat.zero_le _, rfl, by simp [cntR], rfl⟩
          case round =>
            obtain ⟨c, hc, rfl, rfl, rfl⟩ := hrel
            by_cases hcm : c < m
            · have hcm' : (c : Int) < (m : Int) := by omega
              have HCE1 := Lib.hid (HCE.out a c ham hcm)
              have HXV := Lib.hid (cellsOf_get (m := tb) (i := a * 8 + c) (by rw [HTL.out]; omega))
              have hnm : a * m ≤ 5 * 5 := Nat.mul_le_mul (by omega) g6
              have hq : cntA pr m a + cntR pr a c ≤ 60 := by have h1 := cntA_le pr m a; have h2 := cntR_le pr a c; omega
              have HQ := Lib.hid (show cntA pr m a + cntR pr a (c + 1) = cntA pr m a + cntR pr a c + (if tb.getD (a * 8 + c) false then 1 else 0) by
                have h := HCE1.out
                unfold cellG at h
                rw [cntR_succ, h, Nat.add_assoc])
              have x0 := HK5.out.cell (a * 8 + c)
              rw [HXV.out] at x0
              clear HXV HCE1 hnm
              generalize tb.getD (a * 8 + c) false = v at *
              generalize cntA pr m a + cntR pr a c = q at *
              have ha8 : a < 8 := by omega
              have hc8 : c < 8 := by omega
              have ai0 : (0 : Int) ≤ (a : Int) := by omega
              have ai8 : (a : Int) < 8 := by omega
              have ci0 : (0 : Int) ≤ (c : Int) := by omega
              have ci8 : (c : Int) < 8 := by omega
              cases v
              · go_wp2
                go_roundw
                case rel => exact ⟨c + 1, by omega, by go_num, by rw [HQ.out]; rfl, trivial⟩
                case measure => simp [intOf]; omega
              · go_wp2
                go_roundw
                case rel => exact ⟨c + 1, by omega, by go_num, by rw [HQ.out]; go_num, trivial⟩
                case measure => simp [intOf]; omega
            · have hcm' : ¬ (c : Int) < (m : Int) := by omega
              obtain rfl : m = c := by omega
              go_wp2
              go_roundw
              case rel => exact ⟨a + 1, by omega, by go_num, by rw [cntA_succ], trivial⟩
              case measure => simp [intOf]; omega
        · have ham' : ¬ (a : Int) < (m : Int) := by omega
          obtain rfl : m = a := by omega
          have hnm : m * m ≤ 5 * 5 := Nat.mul_le_mul g6 g6
          have hq : cntA pr m m ≤ 25 := Nat.le_trans (cntA_le pr m m) hnm
          generalize cntA pr m m = q at *
          obtain ⟨M, hM⟩ : ∃ M : Nat, M = nl.length + 11 := ⟨_, rfl⟩
          have HM := Lib.hid hM
          have hlen : (nl.map tellDo ++ tailDo at').length = M := by rw [List.length_append, List.length_map, hM]; rfl
          have HLEN := Lib.hid hlen
          have HAL := Lib.hid (show ans.length = M by rw [hal, hM])
          have HXA := Lib.hid hxa
          have HYA := Lib.hid hya
          have HXE := Lib.hid hxe
          have KRD := Lib.hid (fun W => (show Calls Tryz.prog 18 #[.int .i64 6, .int .i64 7] W (TwoPost xroad 6 7 W) from roadCalls 6 7 (by omega) (by omega) W))
          have HRW := Lib.hid (fun q (hq : (Value.slice ga nl.length gc).ownBlock = some q) => HO5.out.row_lt hq)
          clear hM hlen hal hxa hya hxe hnm KN KA HTL HCE htb hnl HK5
          obtain ⟨M1, hM1⟩ : ∃ x : Nat, x = nl.length + 10 := ⟨_, rfl⟩
          obtain ⟨M4, hM4⟩ : ∃ x : Nat, x = nl.length + 7 := ⟨_, rfl⟩
          have hM := HM.out
          have hw1 : wrap64 ((M : Int) - 1) = (M1 : Int) := by unfold wrap64; omega
          have hw4 : wrap64 ((M : Int) - 4) = (M4 : Int) := by unfold wrap64; omega
          have hw0 : wrap64 ((q : Int) + 1) = (q : Int) + 1 := by unfold wrap64; omega
          have i1 : (0 : Int) ≤ (M1 : Int) := by omega
          have i2 : (M1 : Int) < (M : Int) := by omega
          have i3 : (0 : Int) ≤ (M4 : Int) := by omega
          have i4 : (M4 : Int) < (M : Int) := by omega
          have HM1 := Lib.hid hM1
          have HM4 := Lib.hid hM4
          clear hM hM1 hM4
          go_wp2_with (first
            | (go_at_call 8; have hh := HR7.out; clear hh
               (
                 refine (KP.out _ _ HR7.out).mono ?_
                 rintro e w8 ⟨hb8, pta, ptc, pra, prc, pka, pkc, pna, pnc, psa, psn, psc, oa, oc, he, -, han⟩
                 dsimp only at he han
                 rw [HAL.out] at he
                 subst he
                 obtain ⟨a', c', hv, -, -, -, h3⟩ := han
                 obtain ⟨g, o, cs, ha, -, hg, -, hc, xb, xc, s0, y1, y2, y3, y4, y5, y6, y7, rfl, -⟩ := h3 (nl.length + 10) xa HXA.out
                 obtain ⟨g', o', cs', ha', -, hg', -, hc', xb', xc', s0', y1', y2', y3', y4', y5', y6', y7', rfl, -⟩ := h3 (nl.length + 7) ya HYA.out
                 rw [ha] at ha'
                 injection ha' with ha'
                 injection ha' with q1 q2 q3
                 subst q1 q2
                 injection hv with q1 q2 q3
                 subst q1
                 subst ha
                 obtain ⟨X9, hX9⟩ : ∃ X : World, w8.alloc (.cells #[.slice pta D.told.length ptc, .slice pra D.rules.length prc, .bool D.running, .slice pka D.run.known.length pkc, .slice pna D.run.new.length pnc, .int .i64 D.run.stratum, .int .i64 D.run.rounds, .bool D.run.done, .slice psa psn psc] 31) = X := ⟨_, rfl⟩
                 have hg9 : Below w8.heap.size w8 X9 := by subst hX9; exact (Below.refl _ _).alloc (Nat.le_refl _) _
                 have hbt := hb8.trans (hg9.mono hb8.size)
                 have HB9 := Lib.hid (HB7.out.trans (hbt.mono HB7.out.size))
                 have v0 := (cell_below hg9 hg _).trans (hc 0 _ rfl)
                 have v2 := (cell_below hg9 hg _).trans (hc 2 _ rfl)
                 have z2 := (cell_below hg9 hg _).trans (hc' 2 _ rfl)
                 rw [HXE.out, ← HM1.out, Nat.add_zero] at v0
                 rw [HXN.out, ← HM1.out] at v2
                 rw [HYN.out, ← HM4.out] at z2
                 clear hb8 h3 hc hc' hg9 hbt))
            | (at_builtin; have hh := HB6.out; clear hh
               (
                 refine wpList_append_many (B := W3.heap.size) (e := 40) (S := fun _ => True) (by rfl) _ _ 22 (by rfl) RDo.steady RDo.one rowDos _ (nl.map tellDo) (by rfl) (HO6.out.alloc RDo.steady _) _ (tailDo at') (by rfl) (S2 := fun q => W5.heap.size ≤ q) (RdDos.lit (n := 11) [.slice none 0 0, .slice none 0 0, .slice none 0 0, .slice none 0 0, .slice (some ⟨rb, 0, none⟩) 2 2, .slice none 0 0, .slice none 0 0, .slice none 0 0, .slice none 0 0, .slice none 0 0, .slice none 0 0] rfl (by simp [maxLen]) rfl (Blk.new w6 40 _) HB6.out.size (fun i f v hf hv => ?_)) (fun cs x h => RDo.steady.more (fun q hq _ => ⟨trivial, fun e => by have h1 := (HRW.out q e.symm).2; have h2 : W5.heap.size ≤ q := hq; omega⟩) h) (by rw [List.length_map]; simp [tailDo]; omega) (by have := HB6.out.size; simp; omega) ?_
                 · match i, hf, hv with
                   | 4, hf, hv =>
                     obtain rfl := Option.some.inj hf
                     obtain rfl := Option.some.inj hv
                     exact RdStrs.litS (S := fun q => W5.heap.size ≤ q) (l := [tn 6, tn 7]) (n := 2) rfl (by simp [maxLen]) HRB.out (HK6.out.alloc _)
                   | 0, hf, hv | 1, hf, hv | 2, hf, hv | 3, hf, hv | 5, hf, hv | 6, hf, hv | 7, hf, hv | 8, hf, hv | 9, hf, hv | 10, hf, hv =>
                     obtain rfl := Option.some.inj hf
                     obtain rfl := Option.some.inj hv
                     exact RdStrs.nil
                   | i + 11, hf, hv => exact absurd hf (by simp [tailDo])
                 intro v7 w7 ho7 hg7 hat7
                 obtain ⟨a7, c7, hv7, -, -, -⟩ := id (ho7.read RDo.steady).form
                 rw [HLEN.out] at hv7
                 subst hv7
                 have HR7 := Lib.hid ((ho7.read RDo.steady).more RDo.steady (S' := fun _ => True) (fun _ _ _ => trivial))
                 have HB7 := Lib.hid (((HB5.out.trans (HB6.out.mono HB5.out.size)).alloc (HB5.out.trans (HB6.out.mono HB5.out.size)).size _).grown hg7 (by have := HB6.out.size; simp; omega) (fun q hq => by have := (HRW.out q hq).1; omega))
                 clear ho7 hg7 hat7))
            | (go_at_call 18; refine (KRD.out _).mono ?_; rintro e w6 ⟨rb, rfl, hrb, hk6, hb6⟩; have HB6 := Lib.hid hb6; have HRB := Lib.hid hrb; have HK6 := Lib.hid hk6; have HO6 := Lib.hid (HO5.out.below RDo.steady hb6); clear hb6 hrb hk6))
          go_ret
          exact ⟨ret_bool (by simp), HB9.out⟩
namespace topDesk
theorem own : ownKnob Tryz.prog.godebug = none := by kernel_rfl

set_option maxRecDepth 100000 in
theorem contract (H : Type) (enc : TypeId × Value → H) (W : World) (base : Nat) (args : Array Value) (ds gs : List (DataW H)) (before : List MemPlace)
    (hval : ∀ (j : Nat) t v, Tryz.f6.params[j]? = some t → args[j]? = some v → Value.okWide Tryz.prog W .any base t v)
    (hW : DataW.Whole enc Tryz.prog Tryz.f6.params.toList Rows.topDeskSpec.vars false W args.toList ds gs before) (hk : Rows.uptoSmall H (ds ++ gs) = true) :
    Calls Tryz.prog 6 args W fun e W' => ∃ v, e = .returned v ∧ Rows.topDeskSpec.post enc Tryz.prog Tryz.f6 false true false false W args v W' := by
  have hW' := hW
  obtain ⟨p, q, hA0, hV, rfl, hfz, hnd⟩ := hW
  have hA : DataW.TrodAll enc Tryz.prog W 0 (fun _ => true) true Tryz.f6.params.toList args.toList ds p := hA0
  rw [Tryz.params6] at hA hval
  obtain ⟨v0, v1, v2, v3, d0, d1, d2, d3, p0, p1, p2, p3, rfl, rfl, rfl, h0, h1, h2, h3⟩ := trodAll_four hA
  obtain ⟨rfl, rfl⟩ := trodVars_none hV
  obtain ⟨x0, rfl, s0⟩ := openInt.intArg Tryz.underlying3 (hval 0 3 v0 rfl rfl) h0
  obtain ⟨x1, r1, s1⟩ := openInt.sliceArg Tryz.underlying68 (hval 1 68 v1 rfl rfl) h1
  obtain ⟨x2, r2, s2⟩ := openInt.sliceArg Tryz.underlying68 (hval 2 68 v2 rfl rfl) h2
  obtain ⟨x3, rfl, s3⟩ := openInt.intArg Tryz.underlying3 (hval 3 3 v3 rfl rfl) h3
  rw [List.append_nil] at hk
  have hb : Rows.uptoBulkAll [d0, d1, d2, d3] ≤ 1048576 := of_decide_eq_true hk
  simp only [Rows.uptoBulkAll] at hb
  have l1 := sizeL_le openInt.one x1
  have l2 := sizeL_le openInt.one x2
  refine (topDeskCalls x0 v1 v2 x1 x2 x3 W r1 r2 (by omega) (by omega)).mono fun e W' ⟨he, hb'⟩ => ?_
  subst he
  exact ⟨_, rfl, law_post (tb := 4) hW' rfl rfl (by kernel_rfl) Tryz.underlying4 (by kernel_rfl) (by kernel_rfl) hb'⟩

set_option maxRecDepth 100000 in
theorem lifted (os : Os) (started : os.Started) (H : Type) (enc : TypeId × Value → H) (F : Stop.Interp) :
    ReturnsInHanded {} Tryz.checked os 6 .any ((Rows.OpenSpec.upto Rows.topDeskSpec).pre6 enc Tryz.prog Tryz.f6 Rows.topDeskUptoRow.domain false) (((Rows.OpenSpec.upto Rows.topDeskSpec).at F).post enc Tryz.prog Tryz.f6 false true false false) := by
  refine returnsInHanded_of_cond (C := Tryz.checked) (s := Rows.OpenSpec.upto Rows.topDeskSpec) (k := Rows.uptoSmall) rfl own started (by kernel_rfl) Tryz.func6
    (OpenSpec.witness (enc := enc) (C := Tryz.checked) (s := Rows.OpenSpec.upto Rows.topDeskSpec) (k := Rows.uptoSmall) rfl false ⟨#[], #[.int .i64 0, .slice none 0 0, .slice none 0 0, .int .i64 0], []⟩ 8 (by kernel_rfl) (by kernel_rfl) (by kernel_rfl)
      (x := ([.lit (.int .i64 0), .nil, .nil, .lit (.int .i64 0)], [], [])) (by kernel_rfl) rfl (by kernel_rfl)) ?_
  intro W base args ds gs before hval hW _ hk _
  exact contract H enc W base args ds gs before hval hW hk

theorem proved : Rows.TopDeskUptoSaid :=
  OpenClaim.holds_of_cond 6 Tryz.f6 rfl rfl rfl rfl rfl rfl rfl ⟨rfl, rfl, rfl, rfl, rfl⟩ rfl rfl rfl rfl rfl (by kernel_rfl) Tryz.func6 (by kernel_rfl)
    (of_decide_eq_true (by kernel_rfl)) (by unfold Func.isWrapper; first | (rw [if_pos (by decide +kernel)]; kernel_rfl) | (rw [if_neg (by decide +kernel)]; exact ⟨rfl, rfl⟩))
    (fun os started H enc _ F => lifted os started H enc F)
end topDesk


end Go.Proofs.YtiiicochdidolaaGreat
