/-
  DeskDone holds: of what a run knows that is done no rule makes anything more; what no rule makes was told. No conditions besides those of the row.
-/
import Derived.Test.YtiiicochdidolaaGreatPk4
import Derived.Test.YtiiicochdidolaaGreatPk33
namespace Go.Proofs.YtiiicochdidolaaGreat
open Go.RowKit Go.ChangeShapes Go.WideShapes Go.ChangeAt Go.Maps

theorem exists_sp : ∃ sp : StrataFn, ∀ p, StrataIs p (sp p).1 (sp p).2 := ⟨fun p => ((exists_strata p).choose, (exists_strata p).choose_spec.choose), fun p => (exists_strata p).choose_spec.choose_spec⟩
theorem alive8True (w : World) : Calls Tryz.prog 7 #[] w fun e w' => e = .returned (.bool true) ∧ Below w.heap.size w w' := by
  obtain ⟨sp, hsp⟩ := exists_sp
  exact alive8Calls hsp w
/-- What was told of what is known. -/
def begunP (k t : List PFact) : List PFact := k.filter fun f => memF f t
theorem begun_snoc {k t : List PFact} {i : Nat} {x : PFact} (h : k[i]? = some x) : begunP (k.take (i + 1)) t = begunP (k.take i) t ++ (if memF x t then [x] else []) := by
  unfold begunP
  rw [List.take_add_one, h, List.filter_append]
  by_cases e : memF x t = true <;> simp [e]
theorem begun_len (k t : List PFact) : (begunP k t).length ≤ k.length := List.length_filter_le _ _
theorem lessNil {S T : Nat → Prop} {va vb : Value} {l m : List PFact} {w : World} (e0 : lessF l m = []) (h : RdFacts S w va l) (hm : RdFacts T w vb m) (hs : Rising m) (n1 : l.length ≤ 1048576) (n2 : ∀ x ∈ l, x.args.length ≤ 1048576) (n3 : m.length ≤ 1048576) (n4 : ∀ x ∈ m, x.args.length ≤ 1048576) :
    Calls Tryz.prog 14 #[va, vb] w fun e w' => (∃ a c, e = .returned (.slice a 0 c)) ∧ Below w.heap.size w w' :=
  (lessCalls va vb l m w h hm hs (by omega) (fun x hx => by have := n2 x hx; omega) (by omega) (fun x hx => by have := n4 x hx; omega)).mono fun e w' ⟨⟨v', he, ho⟩, hb⟩ => by
    have h' := ho.read RFact.steady
    rw [e0] at h'
    obtain ⟨a, c, rfl, -, -, -⟩ := id h'.form
    exact ⟨⟨a, c, he⟩, hb⟩
set_option maxRecDepth 100000 in
set_option maxHeartbeats 8000000 in
theorem deskDoneCalls {S : Nat → Prop} (l : List PDo) (lv : Value) (w : World) (h : RdDos S w lv l) (n1 : l.length ≤ 1048576) (n2 : ∀ x ∈ l, DoSmall x) :
    Calls Tryz.prog 4 #[lv] w fun e w' => e = .returned (.bool true) ∧ Below w.heap.size w w' := by
  obtain ⟨la, lc, rfl, -, -, -⟩ := id h.form
  obtain ⟨sp, hsp⟩ := exists_sp
  have HL := Lib.hid (h.old RDo.steady (Below.refl _ _))
  have KA := Lib.hid (alive8True w)
  have HN2 := Lib.hid n2
  have K1 := Lib.hid (fun W (hm : RdDos (fun _ => True) W (.slice la l.length lc) l) => playCalls hsp l _ W hm n1 HN2.out)
  clear h n2
  by_cases h60 : 60 < l.length
  · have he : playP sp l = (zeroDesk, [], 5) := by unfold playP; rw [if_pos h60]
    rw [he] at K1
    clear h60 he
    go_enter Tryz.func4, Tryz.ntmps4
    go_wp2_with (first
      | (go_at_call 8; have hh := HB1.out; clear hh; refine (K1.out _ ((HL.out.agree RDo.steady (Below.agree' HB1.out)).more RDo.steady (fun _ _ _ => trivial))).mono ?_; rintro e w2 ⟨hb2, ta, tc, ra, rc, ka, kc, na, nc, sa, sn, sc, oa, oc, rfl, hrd2, han2⟩; have HB2 := Lib.hid (HB1.out.trans (hb2.mono HB1.out.size)); clear hb2 hrd2 han2)
      | (go_at_call 7; refine (KA.out).mono ?_; rintro e w1 ⟨rfl, hb1⟩; have HB1 := Lib.hid hb1; clear hb1))
    go_ret
    exact ⟨rfl, HB2.out.alloc HB2.out.size _⟩
  obtain ⟨d, aa, hp, hd⟩ : ∃ d aa, playP sp l = (d, aa, 0) ∧ d = (playL sp zeroDesk l).1 := ⟨_, (playL sp zeroDesk l).2, by unfold playP; rw [if_neg h60], rfl⟩
  have hok := play_ok hsp l (zero_ok hsp)
  have hro := play_rules (sp := sp) l zero_rules
  rw [← hd] at hok hro
  rw [hp] at K1
  clear hp hd h60
  cases hr : d.running
  · have HR := Lib.hid hr
    clear hr hok hro
    go_enter Tryz.func4, Tryz.ntmps4
    go_wp2_with (first
      | (go_at_call 8; have hh := HB1.out; clear hh; refine (K1.out _ ((HL.out.agree RDo.steady (Below.agree' HB1.out)).more RDo.steady (fun _ _ _ => trivial))).mono ?_; rintro e w2 ⟨hb2, ta, tc, ra, rc, ka, kc, na, nc, sa, sn, sc, oa, oc, rfl, hrd2, -⟩
         obtain ⟨X3, hX3⟩ : ∃ X : World, w2.alloc (.cells #[.slice ta d.told.length tc, .slice ra d.rules.length rc, .bool d.running, .slice ka d.run.known.length kc, .slice na d.run.new.length nc, .int .i64 d.run.stratum, .int .i64 d.run.rounds, .bool d.run.done, .slice sa sn sc] 31) = X := ⟨_, rfl⟩
         have HB3 := Lib.hid (show Below w.heap.size w X3 by subst hX3; exact (HB1.out.trans (hb2.mono HB1.out.size)).alloc (HB1.out.trans (hb2.mono HB1.out.size)).size _)
         have HD3 := Lib.hid (show Blk X3 w2.heap.size 31 #[.slice ta d.told.length tc, .slice ra d.rules.length rc, .bool d.running, .slice ka d.run.known.length kc, .slice na d.run.new.length nc, .int .i64 d.run.stratum, .int .i64 d.run.rounds, .bool d.run.done, .slice sa sn sc] by subst hX3; exact Blk.new w2 _ _)
         have t2 := HD3.out.cell 2; simp only [List.getElem?_toArray, List.getElem?_cons_zero, List.getElem?_cons_succ] at t2; rw [HR.out] at t2
         clear hb2 hrd2)
      | (go_at_call 7; refine (KA.out).mono ?_; rintro e w1 ⟨rfl, hb1⟩; have HB1 := Lib.hid hb1; clear hb1))
    go_ret
    exact ⟨rfl, HB3.out⟩
  cases hdn : d.run.done
  · have HR := Lib.hid hr
    have HDN := Lib.hid hdn
    clear hr hdn hok hro
    go_enter Tryz.func4, Tryz.ntmps4
    go_wp2_with (first
      | (go_at_call 8; have hh := HB1.out; clear hh; refine (K1.out _ ((HL.out.agree RDo.steady (Below.agree' HB1.out)).more RDo.steady (fun _ _ _ => trivial))).mono ?_; rintro e w2 ⟨hb2, ta, tc, ra, rc, ka, kc, na, nc, sa, sn, sc, oa, oc, rfl, hrd2, -⟩
         obtain ⟨X3, hX3⟩ : ∃ X : World, w2.alloc (.cells #[.slice ta d.told.length tc, .slice ra d.rules.length rc, .bool d.running, .slice ka d.run.known.length kc, .slice na d.run.new.length nc, .int .i64 d.run.stratum, .int .i64 d.run.rounds, .bool d.run.done, .slice sa sn sc] 31) = X := ⟨_, rfl⟩
         have HB3 := Lib.hid (show Below w.heap.size w X3 by subst hX3; exact (HB1.out.trans (hb2.mono HB1.out.size)).alloc (HB1.out.trans (hb2.mono HB1.out.size)).size _)
         have HD3 := Lib.hid (show Blk X3 w2.heap.size 31 #[.slice ta d.told.length tc, .slice ra d.rules.length rc, .bool d.running, .slice ka d.run.known.length kc, .slice na d.run.new.length nc, .int .i64 d.run.stratum, .int .i64 d.run.rounds, .bool d.run.done, .slice sa sn sc] by subst hX3; exact Blk.new w2 _ _)
         have t2 := HD3.out.cell 2; have t7 := HD3.out.cell 7; simp only [List.getElem?_toArray, List.getElem?_cons_zero, List.getElem?_cons_succ] at t2 t7; rw [HR.out] at t2; rw [HDN.out] at t7
         clear hb2 hrd2)
      | (go_at_call 7; refine (KA.out).mono ?_; rintro e w1 ⟨rfl, hb1⟩; have HB1 := Lib.hid hb1; clear hb1))
    go_ret
    exact ⟨rfl, HB3.out⟩
  have HTO := Lib.hid (fun x hx hh => done_told hsp hok hr (x := x) hx hh)
  have HNO := Lib.hid (fun x0 hx0 he => done_heads hsp hok hr hdn (x0 := x0) hx0 he)
  have HGK := Lib.hid (hok.run hr).ok.known
  have HGT := Lib.hid hok.told
  have hfew := hok.few
  have HRO := Lib.hid hro
  have HR := Lib.hid hr
  have HDN := Lib.hid hdn
  have HAK := Lib.hid (show ∀ x ∈ d.run.known, x.args.length ≤ 1048576 ∧ x.name.size ≤ 1048576 from fun x hx => by have h := wrongF_zero.1 (HGK.out.fine x hx); exact ⟨by have := h.2.1; omega, by have := named_size h.1; omega⟩)
  have HAT := Lib.hid (show ∀ x ∈ d.told, x.args.length ≤ 1073741824 from fun x hx => by have h := (wrongF_zero.1 (HGT.out.fine x hx)).2.1; omega)
  have hkl : d.run.known.length ≤ 200 := HGK.out.len
  have htl : d.told.length ≤ 200 := HGT.out.len
  clear hr hdn hok hro
  go_enter Tryz.func4, Tryz.ntmps4
  go_wp2_with (first
    | (go_at_call 8; have hh := HB1.out; clear hh; refine (K1.out _ ((HL.out.agree RDo.steady (Below.agree' HB1.out)).more RDo.steady (fun _ _ _ => trivial))).mono ?_; rintro e w2 ⟨hb2, ta, tc, ra, rc, ka, kc, na, nc, sa, sn, sc, oa, oc, rfl, hrd2, -⟩
       obtain ⟨X3, hX3⟩ : ∃ X : World, w2.alloc (.cells #[.slice ta d.told.length tc, .slice ra d.rules.length rc, .bool d.running, .slice ka d.run.known.length kc, .slice na d.run.new.length nc, .int .i64 d.run.stratum, .int .i64 d.run.rounds, .bool d.run.done, .slice sa sn sc] 31) = X := ⟨_, rfl⟩
       have HB3 := Lib.hid (show Below w.heap.size w X3 by subst hX3; exact (HB1.out.trans (hb2.mono HB1.out.size)).alloc (HB1.out.trans (hb2.mono HB1.out.size)).size _)
       have HD3 := Lib.hid (show Blk X3 w2.heap.size 31 #[.slice ta d.told.length tc, .slice ra d.rules.length rc, .bool d.running, .slice ka d.run.known.length kc, .slice na d.run.new.length nc, .int .i64 d.run.stratum, .int .i64 d.run.rounds, .bool d.run.done, .slice sa sn sc] by subst hX3; exact Blk.new w2 _ _)
       have t2 := HD3.out.cell 2; have t7 := HD3.out.cell 7; have t3 := HD3.out.cell 3; simp only [List.getElem?_toArray, List.getElem?_cons_zero, List.getElem?_cons_succ] at t2 t3 t7; rw [HR.out] at t2; rw [HDN.out] at t7; have HRD := Lib.hid (show DkRd d (.slice ta d.told.length tc) (.slice ra d.rules.length rc) (.slice ka d.run.known.length kc) (.slice na d.run.new.length nc) (.slice sa sn sc) X3 by subst hX3; exact hrd2.agree ((Agree.refl _ _).alloc _))
       clear hb2 hrd2)
    | (go_at_call 7; refine (KA.out).mono ?_; rintro e w1 ⟨rfl, hb1⟩; have HB1 := Lib.hid hb1; clear hb1))
  have hx3 : w2.heap.size < X3.heap.size := HD3.out.lt
  have HT3 := Lib.hid HRD.out.told
  have HK3 := Lib.hid HRD.out.known
  have HS3 := Lib.hid HRD.out.rules
  have HKO := Lib.hid (HRD.out.known.old RFact.steady (Below.refl _ _))
  clear HRD hX3 KA K1 HL HN2 t2 t3 t7
  go_loopw [43, 6] (fun i v wr => ∃ k : Nat, k ≤ d.run.known.length ∧ i = .int .i64 k ∧ Hid (Below X3.heap.size X3 wr) ∧ Hid (Owned 2 RFact X3.heap.size 38 (fun q => q < X3.heap.size) wr v (begunP (d.run.known.take k) d.told))) (fun i _ _ => d.run.known.length - (intOf i).toNat)
  case atStart => exact ⟨0, Nat.zero_le _, rfl, Lib.hid (Below.refl _ _), Lib.hid Owned.nil⟩
  case round =>
    obtain ⟨k, hk, rfl, HB, HO⟩ := hrel
    obtain ⟨ga, gc, rfl, -, -, -⟩ := id (HO.out.read RFact.steady).form
    by_cases hlt : k < d.run.known.length
    · obtain ⟨x, hx⟩ : ∃ x, d.run.known[k]? = some x := ⟨_, List.getElem?_eq_getElem hlt⟩
      have HSN := Lib.hid (begun_snoc (t := d.told) hx)
      have hgl : (begunP (d.run.known.take k) d.told).length < 1099511627776 := by have := begun_len (d.run.known.take k) d.told; rw [List.length_take] at this; omega
      obtain ⟨b1, o1, av, rfl, -, hb1, c1, c2, hav⟩ := RdFacts.at (HKO.out.agree RFact.steady (Below.agree HB.out)) hx
      obtain ⟨fa, fc, rfl, -, -, -⟩ := id hav.form
      obtain ⟨X4, hX4⟩ : ∃ X : World, wr.alloc (.cells #[.string x.name, .slice fa x.args.length fc] 38) = X := ⟨_, rfl⟩
      have hg4 : Below wr.heap.size wr X4 := by subst hX4; exact (Below.refl _ _).alloc (Nat.le_refl _) _
      have HB4 := Lib.hid (HB.out.trans (hg4.mono HB.out.size))
      have HZ4 := Lib.hid (show Blk X4 wr.heap.size 38 #[.string x.name, .slice fa x.args.length fc] by subst hX4; exact Blk.new wr _ _)
      have HA4 := Lib.hid (RdSlice.agree RStr.steady (Below.agree hg4) (hav.more RStr.steady (S' := fun _ => True) (fun _ _ _ => trivial)))
      have HAO := Lib.hid (hav.agree RStr.steady (Below.agree hg4))
      have HT4 := Lib.hid (HT3.out.agree (Below.agree HB4.out))
      have HO4 := Lib.hid (show Owned 2 RFact X3.heap.size 38 (fun q => q < X3.heap.size) X4 _ _ by subst hX4; exact HO.out.alloc RFact.steady (.cells #[.string x.name, .slice fa x.args.length fc] 38))
      have HRW := Lib.hid (fun q (hq : (Value.slice ga (begunP (d.run.known.take k) d.told).length gc).ownBlock = some q) => HO.out.row_lt hq)
      have HD4 := Lib.hid (HD3.out.below HB4.out hx3)
      have t0 := HD4.out.cell 0; simp only [List.getElem?_toArray, List.getElem?_cons_zero] at t0
      have z0 := HZ4.out.cell 0; have z1 := HZ4.out.cell 1; simp only [List.getElem?_toArray, List.getElem?_cons_zero, List.getElem?_cons_succ] at z0 z1
      clear hav hx hg4 HO
      generalize begunP (d.run.known.take k) d.told = gl at *
      cases hm : memF x d.told
      · rw [hm, if_neg Bool.false_ne_true, List.append_nil] at HSN
        have HM := Lib.hid hm
        clear hm
        go_wp2_with (go_at_call 12; refine (inFact _ d.told x _ X4 HT4.out HA4.out HGT.out.rise (by omega) HAT.out).mono ?_; rintro e w5 ⟨rfl, hf5⟩; rw [HM.out]; have HB5 := Lib.hid (HB4.out.trans (hf5.below.mono HB4.out.size)); have HO5 := Lib.hid (HO4.out.below RFact.steady hf5.below); clear hf5)
        have HO5 := Lib.hid (show Owned 2 RFact X3.heap.size 38 (fun q => q < X3.heap.size) w5 (.slice ga gl.length gc) (begunP (d.run.known.take (k + 1)) d.told) by rw [HSN.out]; exact HO5.out)
        go_roundw
        case rel => exact ⟨k + 1, by omega, by go_num, HB5, HO5⟩
        case measure => simp [intOf]; omega
      · rw [hm, if_pos rfl] at HSN
        have HM := Lib.hid hm
        clear hm
        go_wp2_with (first
          | (at_builtin; have hh := HB5.out; clear hh
             refine wpList_append_one (B := X3.heap.size) (e := 38) (S := fun q => q < X3.heap.size) (by rfl) _ _ 24 (by rfl) RFact.steady rowFacts _ gl (by rfl) (HO5.out.alloc RFact.steady _) w5.heap.size 1 #[.string x.name, .slice fa x.args.length fc] 38 (0, 0) x (by rfl) (heap_alloc_new _ _) rfl (by simp [Value.oneCell']) ⟨_, rfl, (HA5.out.agree RStr.steady ((Agree.refl _ _).alloc _)).more RStr.steady (fun q hq _ => ⟨hq, fun e => by have h1 := (HRW.out q e.symm).1; have h2 : q < X3.heap.size := hq; omega⟩)⟩ hgl (by have := HB5.out.size; simp at this ⊢; omega) ?_
             intro v6 w6 ho6 hg6 hat6
             have HO6 := Lib.hid ho6
             have HB6 := Lib.hid ((HB5.out.alloc HB5.out.size (.cells #[.string x.name, .slice fa x.args.length fc] 38)).grown hg6 (by have := HB5.out.size; simp at this ⊢; omega) (fun q hq => (HRW.out q hq).1))
             clear ho6 hg6 hat6)
          | (go_at_call 12; refine (inFact _ d.told x _ X4 HT4.out HA4.out HGT.out.rise (by omega) HAT.out).mono ?_; rintro e w5 ⟨rfl, hf5⟩; rw [HM.out]; have HB5 := Lib.hid (HB4.out.trans (hf5.below.mono HB4.out.size)); have HO5 := Lib.hid (HO4.out.below RFact.steady hf5.below); have HZ5 := Lib.hid (HZ4.out.below hf5.below HZ4.out.lt); have HA5 := Lib.hid (HAO.out.agree RStr.steady (Below.agree hf5.below)); have y0 := HZ5.out.cell 0; have y1 := HZ5.out.cell 1; simp only [List.getElem?_toArray, List.getElem?_cons_zero, List.getElem?_cons_succ] at y0 y1; clear hf5))
        rw [← HSN.out] at HO6
        go_roundw
        case rel => exact ⟨k + 1, by omega, by go_num, HB6, HO6⟩
        case measure => simp [intOf]; omega
    · have hkn : k = d.run.known.length := by omega
      subst hkn
      rw [List.take_length] at HO
      rw [List.take_length]
      have HGR := Lib.hid ((HO.out.read RFact.steady).more RFact.steady (S' := fun _ => True) (fun _ _ _ => trivial))
      have hgl : (begunP d.run.known d.told).length ≤ 200 := Nat.le_trans (begun_len _ _) hkl
      have HBR := Lib.hid (show Rising (begunP d.run.known d.told) from List.Pairwise.filter _ HGK.out.rise)
      have HBM := Lib.hid (show ∀ x ∈ d.run.known, memS x.name (headsOf d.rules) = false → memF x (begunP d.run.known d.told) = true from fun x hx hs => (memF_iff _ _).2 (List.mem_filter.2 ⟨hx, (memF_iff _ _).2 (HTO.out x hx (fun h => by rw [(memS_iff _ _).2 h] at hs; cases hs))⟩))
      have HBA := Lib.hid (show ∀ x ∈ begunP d.run.known d.told, x.args.length ≤ 1073741824 from fun x hx => by have := (HAK.out x (List.mem_filter.1 hx).1).1; omega)
      clear hk HO HTO
      obtain ⟨W1, hW1⟩ : ∃ W : World, W = wr := ⟨_, rfl⟩
      subst hW1
      generalize begunP d.run.known d.told = bl at *
      obtain ⟨Y0, hY0⟩ : ∃ Y : World, W1.alloc (.map #[] 0) = Y := ⟨_, rfl⟩
      have HB0 := Lib.hid (show Below W1.heap.size W1 Y0 by subst hY0; exact (Below.refl _ _).alloc (Nat.le_refl _) _)
      have HM0 := Lib.hid (show MapB Y0 W1.heap.size (headsOf (d.rules.take 0)) by subst hY0; exact MapB.made W1)
      have HBW := Lib.hid HB.out
      have hwr := HB.out.size
      have HDW := Lib.hid (HD3.out.below HB.out hx3)
      have HDY := Lib.hid (HDW.out.below HB0.out HDW.out.lt)
      have t1 := HDY.out.cell 1; simp only [List.getElem?_toArray, List.getElem?_cons_zero, List.getElem?_cons_succ] at t1
      have hmm := @run_makeMap Tryz.prog
      have HSW := Lib.hid (RdSlice.agree RRule.steady (Below.agree HB.out) HS3.out)
      go_wp2
      clear t1 hmm
      go_loopw [60] (fun i wr => ∃ k : Nat, k ≤ d.rules.length ∧ i = .int .i64 k ∧ Hid (Below W1.heap.size W1 wr) ∧ Hid (MapB wr W1.heap.size (headsOf (d.rules.take k)))) (fun i _ => d.rules.length - (intOf i).toNat)
      case atStart => exact ⟨0, Nat.zero_le _, rfl, HB0, HM0⟩
      case round =>
        obtain ⟨k, hk, rfl, HB, HM⟩ := hrel
        have hwm := HM.out.lt
        by_cases hlt : k < d.rules.length
        · obtain ⟨x, hx⟩ : ∃ x, d.rules[k]? = some x := ⟨_, List.getElem?_eq_getElem hlt⟩
          obtain ⟨b1, o1, tv, bv, rfl, -, hb1, d0, d1, d2, d3, htv, hbv⟩ := RdRules.at (RdSlice.agree RRule.steady (Below.agree HB.out) HSW.out) hx
          have hnx := (ruleOk_names (HRO.out x (List.mem_of_getElem? hx))).h
          obtain ⟨w3, hput, hw3, hg3⟩ := (HM.out.alloc (.cells #[.bool x.head.neg, .string x.head.name, tv, bv] 62)).put (by simp [headsOf]; unfold maxLen; omega) (s := x.head.name) (by unfold maxLen; omega)
          have HB3' := Lib.hid ((HB.out.alloc HB.out.size (.cells #[.bool x.head.neg, .string x.head.name, tv, bv] 62)).grown hg3 (by have := HB.out.size; simp at this ⊢; omega) (fun q hq => by cases hq; exact Nat.le_refl _))
          have HM3 := Lib.hid (show MapB w3 W1.heap.size (headsOf (d.rules.take (k + 1))) by
            have e : headsOf (d.rules.take (k + 1)) = headsOf (d.rules.take k) ++ [x.head.name] := by rw [List.take_add_one, hx]; simp [headsOf]
            rw [e]; exact hw3)
          clear hw3 hg3 hx
          obtain ⟨va, vc, rfl, -, -, -⟩ := id htv.form
          obtain ⟨ba, bc, rfl, -, -, -⟩ := id hbv.form
          clear htv hbv
          go_wp2
          go_roundw
          case rel => exact ⟨k + 1, by omega, by go_num, HB3', HM3⟩
          case measure => simp [intOf]; omega
        · have hkn : k = d.rules.length := by omega
          rw [hkn, List.take_length] at HM
          clear hkn hk HB0 HM0 HDY hY0
          obtain ⟨Y, hY⟩ : ∃ Y : World, Y = wr := ⟨_, rfl⟩
          subst hY
          have HBY := Lib.hid ((HB3.out.trans (HBW.out.mono HB3.out.size)).trans (HB.out.mono (HB3.out.trans (HBW.out.mono HB3.out.size)).size))
          have HDY := Lib.hid (HDW.out.below HB.out HDW.out.lt)
          have HKY := Lib.hid ((HK3.out.agree (Below.agree HBW.out)).agree (Below.agree HB.out))
          have HSY := Lib.hid (RdSlice.agree RRule.steady (Below.agree HB.out) HSW.out)
          have HGY := Lib.hid (HGR.out.agree RFact.steady (Below.agree HB.out))
          clear HB HDW HSW HGR HK3 HS3 HT3 HKO HD3 HBW
          generalize W1.heap.size = MB at *
          have t3 := HDY.out.cell 3; simp only [List.getElem?_toArray, List.getElem?_cons_zero, List.getElem?_cons_succ] at t3
          go_wp2
          clear t3
          go_loopw [73] (fun i wr => ∃ k : Nat, k ≤ d.run.known.length ∧ i = .int .i64 k ∧ Hid (Below Y.heap.size Y wr)) (fun i _ => d.run.known.length - (intOf i).toNat)
          case atStart => exact ⟨0, Nat.zero_le _, rfl, Lib.hid (Below.refl _ _)⟩
          case round =>
            obtain ⟨k, hk, rfl, HB⟩ := hrel
            by_cases hlt : k < d.run.known.length
            · obtain ⟨x, hx⟩ : ∃ x, d.run.known[k]? = some x := ⟨_, List.getElem?_eq_getElem hlt⟩
              have hxm := List.mem_of_getElem? hx
              obtain ⟨b1, o1, av, rfl, -, hb1, c1, c2, hav⟩ := RdFacts.at (HKY.out.agree (Below.agree HB.out)) hx
              obtain ⟨fa, fc, rfl, -, -, -⟩ := id hav.form
              obtain ⟨X4, hX4⟩ : ∃ X : World, wr.alloc (.cells #[.string x.name, .slice fa x.args.length fc] 38) = X := ⟨_, rfl⟩
              have hg4 : Below wr.heap.size wr X4 := by subst hX4; exact (Below.refl _ _).alloc (Nat.le_refl _) _
              have HB4 := Lib.hid (HB.out.trans (hg4.mono HB.out.size))
              have HZ4 := Lib.hid (show Blk X4 wr.heap.size 38 #[.string x.name, .slice fa x.args.length fc] by subst hX4; exact Blk.new wr _ _)
              have HA4 := Lib.hid (RdSlice.agree RStr.steady (Below.agree hg4) hav)
              have HG4 := Lib.hid (HGY.out.agree RFact.steady (Below.agree HB4.out))
              have HM4 := Lib.hid (HM.out.below HB4.out HM.out.lt)
              have hget := HM4.out.get (s := x.name) (by have := (HAK.out x hxm).2; unfold maxLen; omega)
              have HBMx := Lib.hid (HBM.out x hxm)
              have z0 := HZ4.out.cell 0; have z1 := HZ4.out.cell 1; simp only [List.getElem?_toArray, List.getElem?_cons_zero, List.getElem?_cons_succ] at z0 z1
              clear hav hx hxm hg4
              cases hm : memS x.name (headsOf d.rules)
              · rw [hm] at hget
                have HIN := Lib.hid (HBMx.out hm)
                clear hm HBMx
                go_wp2_with (go_at_call 12; refine (inFact _ bl x _ X4 HG4.out HA4.out HBR.out (by omega) HBA.out).mono ?_; rintro e w5 ⟨rfl, hf5⟩; rw [HIN.out]; have HB5 := Lib.hid (HB4.out.trans (hf5.below.mono HB4.out.size)); clear hf5)
                go_roundw
                case rel => exact ⟨k + 1, by omega, by go_num, HB5⟩
                case measure => simp [intOf]; omega
              · rw [hm] at hget
                clear hm HBMx
                go_wp2
                go_roundw
                case rel => exact ⟨k + 1, by omega, by go_num, HB4⟩
                case measure => simp [intOf]; omega
            · clear HM HGY HBM HBA HBR
              have HDK := Lib.hid (HDY.out.below HB.out HDY.out.lt)
              have t1 := HDK.out.cell 1; simp only [List.getElem?_toArray, List.getElem?_cons_zero, List.getElem?_cons_succ] at t1
              go_wp2
              clear t1 HDK
              go_loopw [92] (fun i wr => ∃ k : Nat, k ≤ d.rules.length ∧ i = .int .i64 k ∧ Hid (Below Y.heap.size Y wr)) (fun i _ => d.rules.length - (intOf i).toNat)
              case atStart => exact ⟨0, Nat.zero_le _, rfl, HB⟩
              case round =>
                clear HB hk hlt
                obtain ⟨k, hk, rfl, HB⟩ := hrel
                by_cases hlt : k < d.rules.length
                · obtain ⟨x, hx⟩ : ∃ x, d.rules[k]? = some x := ⟨_, List.getElem?_eq_getElem hlt⟩
                  have hxm := List.mem_of_getElem? hx
                  obtain ⟨b1, o1, va, vc, ba, bc, rfl, hra⟩ := RdRules.pick (RdSlice.agree RRule.steady (Below.agree HB.out) HSY.out) hx
                  obtain ⟨-, d0, d1, d2, d3, hrt, hrb⟩ := id hra
                  obtain ⟨X4, hX4⟩ : ∃ X : World, wr.alloc (.cells #[.bool x.head.neg, .string x.head.name, .slice va x.head.terms.length vc, .slice ba x.body.length bc] 62) = X := ⟨_, rfl⟩
                  have hg4 : Below wr.heap.size wr X4 := by subst hX4; exact (Below.refl _ _).alloc (Nat.le_refl _) _
                  have HB4 := Lib.hid (HB.out.trans (hg4.mono HB.out.size))
                  have HZ4 := Lib.hid (show Blk X4 wr.heap.size 62 #[.bool x.head.neg, .string x.head.name, .slice va x.head.terms.length vc, .slice ba x.body.length bc] by subst hX4; exact Blk.new wr _ _)
                  have HKZ := Lib.hid (HKY.out.agree (Below.agree HB4.out))
                  have KH := Lib.hid (headsReads x _ _ _ d.run.known X4 (RdSlice.agree RTerm.steady (Below.agree hg4) hrt) (RdSlice.agree RAtom.steady (Below.agree hg4) hrb) HKZ.out (ruleOk_small (HRO.out x hxm)) (by omega) (fun y hy => (HAK.out y hy).1))
                  have HN0 := Lib.hid (HNO.out x hxm)
                  have HHL := Lib.hid (heads_len x d.run.known)
                  have HHA := Lib.hid (show ∀ y ∈ (headsP x d.run.known).1, y.args.length ≤ 1048576 from fun y hy => by rw [heads_args hy]; exact (ruleOk_small (HRO.out x hxm)).h1)
                  have HD4 := Lib.hid (HDY.out.below HB4.out HDY.out.lt)
                  have t3 := HD4.out.cell 3; simp only [List.getElem?_toArray, List.getElem?_cons_zero, List.getElem?_cons_succ] at t3
                  have z0 := HZ4.out.cell 0; have z1 := HZ4.out.cell 1; have z2 := HZ4.out.cell 2; have z3 := HZ4.out.cell 3; simp only [List.getElem?_toArray, List.getElem?_cons_zero, List.getElem?_cons_succ] at z0 z1 z2 z3
                  clear hx hxm hra hrt hrb hg4
                  generalize headsP x d.run.known = r at *
                  obtain ⟨hl, e1⟩ := r
                  dsimp only at *
                  by_cases he : e1 = 0
                  case neg =>
                    have g1 : (e1 == 0) = false := by simpa using he
                    clear he
                    go_wp2_with (go_at_call 13; refine (KH.out).mono ?_; rintro e w5 ⟨⟨a5, c5, rfl, hr5⟩, hb5⟩; have HB5 := Lib.hid (HB4.out.trans (hb5.mono HB4.out.size)); clear hr5 hb5)
                    go_roundw
                    case rel => exact ⟨k + 1, by omega, by go_num, HB5⟩
                    case measure => simp [intOf]; omega
                  subst he
                  have HNL := Lib.hid (HN0.out rfl)
                  clear HN0
                  go_wp2_with (first
                    | (go_at_call 13; refine (KH.out).mono ?_; rintro e w5 ⟨⟨a5, c5, rfl, hr5⟩, hb5⟩; have HH5 := Lib.hid hr5; have HB5 := Lib.hid (HB4.out.trans (hb5.mono HB4.out.size)); have HK5 := Lib.hid (HKZ.out.agree (Below.agree hb5)); have HD5 := Lib.hid (HD4.out.below hb5 HD4.out.lt); have u3 := HD5.out.cell 3; simp only [List.getElem?_toArray, List.getElem?_cons_zero, List.getElem?_cons_succ] at u3; clear hr5 hb5)
                    | (go_at_call 14; refine (lessNil HNL.out HH5.out HK5.out HGK.out.rise (by have := HHL.out; omega) HHA.out (by omega) (fun y hy => (HAK.out y hy).1)).mono ?_; rintro e w6 ⟨⟨a6, c6, rfl⟩, hb6⟩; have HB6 := Lib.hid (HB5.out.trans (hb6.mono HB5.out.size)); clear hb6))
                  go_roundw
                  case rel => exact ⟨k + 1, by omega, by go_num, HB6⟩
                  case measure => simp [intOf]; omega
                · go_wp2
                  go_ret
                  exact ⟨rfl, HBY.out.trans (HB.out.mono HBY.out.size)⟩
namespace deskDone
theorem own : ownKnob Tryz.prog.godebug = none := by kernel_rfl

set_option maxRecDepth 100000 in
theorem contract (H : Type) (enc : TypeId × Value → H) (W : World) (base : Nat) (args : Array Value) (ds gs : List (DataW H)) (before : List MemPlace)
    (hval : ∀ (j : Nat) t v, Tryz.f4.params[j]? = some t → args[j]? = some v → Value.okWide Tryz.prog W .any base t v)
    (hW : DataW.Whole enc Tryz.prog Tryz.f4.params.toList Rows.deskDoneSpec.vars false W args.toList ds gs before) (hk : Rows.uptoSmall H (ds ++ gs) = true) :
    Calls Tryz.prog 4 args W fun e W' => ∃ v, e = .returned v ∧ Rows.deskDoneSpec.post enc Tryz.prog Tryz.f4 false true false false W args v W' := by
  have hW' := hW
  obtain ⟨p, q, hA0, hV, rfl, hfz, hnd⟩ := hW
  have hA : DataW.TrodAll enc Tryz.prog W 0 (fun _ => true) true Tryz.f4.params.toList args.toList ds p := hA0
  rw [Tryz.params4] at hA hval
  obtain ⟨v0, d0, rfl, rfl, h0⟩ := trodAll_one hA
  obtain ⟨rfl, rfl⟩ := trodVars_none hV
  obtain ⟨x0, r0, s0⟩ := openDo.sliceArg Tryz.underlying22 (hval 0 22 v0 rfl rfl) h0
  rw [List.append_nil] at hk
  have hb : Rows.uptoBulkAll [d0] ≤ 1048576 := of_decide_eq_true hk
  simp only [Rows.uptoBulkAll] at hb
  have l0 := dos_small (l := x0) (by omega)
  refine (deskDoneCalls x0 v0 W r0 l0.1 l0.2).mono fun e W' ⟨he, hb'⟩ => ?_
  subst he
  exact ⟨_, rfl, law_post (tb := 4) hW' rfl rfl (by kernel_rfl) Tryz.underlying4 (by kernel_rfl) (by kernel_rfl) hb'⟩

set_option maxRecDepth 100000 in
theorem lifted (os : Os) (started : os.Started) (H : Type) (enc : TypeId × Value → H) (F : Stop.Interp) :
    ReturnsInHanded {} Tryz.checked os 4 .any ((Rows.OpenSpec.upto Rows.deskDoneSpec).pre6 enc Tryz.prog Tryz.f4 Rows.deskDoneUptoRow.domain false) (((Rows.OpenSpec.upto Rows.deskDoneSpec).at F).post enc Tryz.prog Tryz.f4 false true false false) := by
  refine returnsInHanded_of_cond (C := Tryz.checked) (s := Rows.OpenSpec.upto Rows.deskDoneSpec) (k := Rows.uptoSmall) rfl own started (by kernel_rfl) Tryz.func4
    (OpenSpec.witness (enc := enc) (C := Tryz.checked) (s := Rows.OpenSpec.upto Rows.deskDoneSpec) (k := Rows.uptoSmall) rfl false ⟨#[], #[.slice none 0 0], []⟩ 8 (by kernel_rfl) (by kernel_rfl) (by kernel_rfl)
      (x := ([.nil], [], [])) (by kernel_rfl) rfl (by kernel_rfl)) ?_
  intro W base args ds gs before hval hW _ hk _
  exact contract H enc W base args ds gs before hval hW hk

theorem proved : Rows.DeskDoneUptoSaid :=
  OpenClaim.holds_of_cond 4 Tryz.f4 rfl rfl rfl rfl rfl rfl rfl ⟨rfl, rfl, rfl, rfl, rfl⟩ rfl rfl rfl rfl rfl (by kernel_rfl) Tryz.func4 (by kernel_rfl)
    (of_decide_eq_true (by kernel_rfl)) (by unfold Func.isWrapper; first | (rw [if_pos (by decide +kernel)]; kernel_rfl) | (rw [if_neg (by decide +kernel)]; exact ⟨rfl, rfl⟩))
    (fun os started H enc _ F => lifted os started H enc F)
end deskDone


end Go.Proofs.YtiiicochdidolaaGreat
