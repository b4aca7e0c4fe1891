/-
  THE TEXTS Ref1Var, CheckR1, CheckR2, CheckR3, one behind the other.
-/
import Derived.Test.YtbbiapgkcekabaaGreatPr8
import Derived.Test.YtbbiapgkcekabaaGreatPr9
import Derived.Test.YtbbiapgkcekabaaGreatPr14
/-
  THE WALK OF cororef1.Variable.
-/
namespace Go.Proofs.YtbbiapgkcekabaaGreat
open Go.RowKit

theorem variable_word (s : Str) : variableS s = (s.data.toList.all signB && (decide (0 < s.size) && decide (s.size ≤ 12)) && (match s.data.toList with | [] => false | c :: _ => upperB c)) := by
  have e : s.data.toList.length = s.size := by rw [Array.length_toList]; rfl
  unfold variableS varL
  rw [← e]
  cases s.data.toList with
  | nil => simp
  | cons c cs =>
    simp only [List.all_cons, List.length_cons]
    cases hu : upperB c
    · simp
    · have : signB c = true := by simp [signB, hu]
      rw [this]
      have h0 : decide (0 < cs.length + 1) = true := by simp
      rw [h0]
      cases cs.all signB <;> simp
set_option maxHeartbeats 2000000 in
theorem variableRef (s : Str) (w : World) (hsz : s.size ≤ 1099511627776) : Calls Tryz.prog 82 #[.string s] w fun e w' => e = .returned (.bool (variableS s)) ∧ Below w.heap.size w w' := by
  have K := Lib.hid (wordRef s w hsz)
  have HN := Lib.hid (variable_word s)
  have e : s.data.toList.length = s.size := by rw [Array.length_toList]; rfl
  obtain ⟨r, hr⟩ : ∃ r, (s.data.toList.all signB && (decide (0 < s.size) && decide (s.size ≤ 12))) = r := ⟨_, rfl⟩
  rw [hr] at K HN
  cases hr1 : r
  · subst hr1
    clear hr
    go_enter Tryz.func82, Tryz.ntmps82
    go_wp2_with (go_at_call 110; refine (K.out).mono ?_; rintro e w' ⟨rfl, hb⟩)
    go_ret
    exact ⟨ret_bool (by rw [HN.out]; rfl), hb⟩
  · subst hr1
    have h0 : 0 < s.size := by
      simp only [Bool.and_eq_true, decide_eq_true_eq] at hr
      exact hr.2.1
    have HL := Lib.hid (show variableS s = upperB s[0] by
      rw [HN.out]
      have := drop_bytes s 0 h0
      rw [List.drop_zero] at this
      rw [this]; rfl)
    clear hr e
    have h0' : (0 : Int) < (s.size : Int) := by omega
    by_cases h1 : 65 ≤ s[0].toNat
    · have i1 : (65 : Int) ≤ (s[0].toNat : Int) := by omega
      by_cases h2 : s[0].toNat ≤ 90
      · have i2 : (s[0].toNat : Int) ≤ 90 := by omega
        have HU := Lib.hid (show upperB s[0] = true from decide_eq_true ⟨h1, h2⟩)
        clear h1 h2
        go_enter Tryz.func82, Tryz.ntmps82
        go_wp2_with (go_at_call 110; refine (K.out).mono ?_; rintro e w' ⟨rfl, hb⟩; have HB := Lib.hid hb; clear hb)
        go_ret
        exact ⟨ret_bool (by rw [HL.out, HU.out] <;> first | rfl | exact decide_eq_true i2 | exact decide_eq_false (by omega)), HB.out⟩
      · have i2 : ¬ ((s[0].toNat : Int) ≤ 90) := by omega
        have HU := Lib.hid (show upperB s[0] = false from decide_eq_false (fun h => h2 h.2))
        clear h1 h2
        go_enter Tryz.func82, Tryz.ntmps82
        go_wp2_with (go_at_call 110; refine (K.out).mono ?_; rintro e w' ⟨rfl, hb⟩; have HB := Lib.hid hb; clear hb)
        go_ret
        exact ⟨ret_bool (by rw [HL.out, HU.out] <;> first | rfl | exact decide_eq_true i2 | exact decide_eq_false (by omega)), HB.out⟩
    · have i1 : ¬ ((65 : Int) ≤ (s[0].toNat : Int)) := by omega
      have HU := Lib.hid (show upperB s[0] = false from decide_eq_false (fun h => h1 h.1))
      clear h1
      go_enter Tryz.func82, Tryz.ntmps82
      go_wp2_with (go_at_call 110; refine (K.out).mono ?_; rintro e w' ⟨rfl, hb⟩; have HB := Lib.hid hb; clear hb)
      go_ret
      exact ⟨ret_bool (by rw [HL.out, HU.out]), HB.out⟩
end Go.Proofs.YtbbiapgkcekabaaGreat

/-
  THE WALKS OF cororef1.Vars and WrongAtom.
-/
namespace Go.Proofs.YtbbiapgkcekabaaGreat
open Go.RowKit Go.Maps

theorem Owned.apart {k B m : Nat} {R : (Nat → Prop) → World → List Value → Str → Prop} {e : TypeId} {w w' : World} {v : Value} {l : List Str} (hR : Steady R) (h : Owned k R B e (fun _ => False) w v l) (hg : w.grownBy w' (some m)) (hne : ∀ q, v.ownBlock = some q → q ≠ m) : Owned k R B e (fun _ => False) w' v l :=
  h.keep hR ⟨hg.size, fun _ hb _ => hb.elim⟩ fun g hgg => hg.block g (h.row_lt hgg).2 (fun e => hne g hgg (Option.some.inj e))

set_option maxRecDepth 100000 in
set_option maxHeartbeats 4000000 in
theorem varsRef {S : Nat → Prop} (x : PAtom) (tv : Value) (w : World) (h : RdTerms S w tv x.terms) (n1 : x.terms.length ≤ 1048576) (n2 : ∀ t ∈ x.terms, t.name.size ≤ 1048576) :
    Calls Tryz.prog 83 #[.agg #[.bool x.neg, .string x.name, tv]] w fun e w' => (∃ v, e = .returned v ∧ Owned 1 RStr w.heap.size 9 (fun _ => False) w' v (varsOf x)) ∧ Below w.heap.size w w' := by
  obtain ⟨a, c, rfl, -, -, -⟩ := id h.form
  have H := Lib.hid h
  have N2 := Lib.hid n2
  clear h n2
  have hmm := @run_makeMap Tryz.prog
  obtain ⟨W0, hW0⟩ : ∃ W0, w.alloc (.cells #[.bool x.neg, .string x.name, .slice a x.terms.length c] 40) = W0 := ⟨_, rfl⟩
  have HB0 := Lib.hid (show Below w.heap.size w W0 from by rw [← hW0]; exact (Below.refl _ _).alloc (Nat.le_refl _) _)
  have HA0 := Lib.hid (show Blk W0 w.heap.size 40 #[.bool x.neg, .string x.name, .slice a x.terms.length c] from by rw [← hW0]; exact Blk.new w _ _)
  have HB1 := Lib.hid (HB0.out.alloc HB0.out.size (.map #[] 0))
  have HM1 := Lib.hid (MapB.made W0)
  have c2 := (HA0.out.alloc (.map #[] 0)).cell 2
  simp only [List.getElem?_toArray, List.getElem?_cons_zero, List.getElem?_cons_succ] at c2
  have hms : w.heap.size < W0.heap.size := HA0.out.lt
  go_enter Tryz.func83, Tryz.ntmps83
  go_wp2
  generalize HMB : W0.heap.size = mb at *
  clear HMB
  go_loopw [11, 3] (fun i v wr => ∃ k : Nat, k ≤ x.terms.length ∧ i = .int .i64 k ∧ Hid (Owned 1 RStr w.heap.size 9 (fun _ => False) wr v (varsF [] (x.terms.take k))) ∧ Hid (Below w.heap.size w wr) ∧ Hid (MapB wr mb (varsF [] (x.terms.take k))) ∧ Hid (∀ q, v.ownBlock = some q → q ≠ mb)) (fun i _ _ => x.terms.length - (intOf i).toNat)
  case atStart => exact ⟨0, Nat.zero_le _, rfl, Lib.hid Owned.nil, HB1, HM1, Lib.hid (fun q h => by cases h)⟩
  case round =>
    clear HB0 HB1 HM1 HA0 c2 hW0
    obtain ⟨k, hk, rfl, HO, HB, HM, HQ⟩ := hrel
    by_cases hlt : k < x.terms.length
    · obtain ⟨t, ht⟩ : ∃ t, x.terms[k]? = some t := ⟨_, List.getElem?_eq_getElem hlt⟩
      obtain ⟨b1, o1, rfl, -, -, d0, d1⟩ := RdTerms.at (H.out.up HB.out) ht
      have hsz := HB.out.size
      have hts := N2.out t (List.mem_of_getElem? ht)
      have HT := Lib.hid (show varsF [] (x.terms.take (k + 1)) = if t.var && !memS t.name (varsF [] (x.terms.take k)) then varsF [] (x.terms.take k) ++ [t.name] else varsF [] (x.terms.take k) by rw [List.take_add_one, ht]; exact varsF_snoc t _ _)
      have HLL := Lib.hid (show (varsF [] (x.terms.take k)).length ≤ x.terms.length by have := varsF_length (x.terms.take k) []; rw [List.length_take] at this; simp at this; omega)
      generalize varsF [] (x.terms.take k) = vs at *
      obtain ⟨va, vc, rfl, -, -, -⟩ := id (HO.out.read RStr.steady).form
      have HB1 := Lib.hid (HB.out.alloc hsz (.cells #[.bool t.var, .string t.name] 104))
      have HO1 := Lib.hid (HO.out.alloc RStr.steady (.cells #[.bool t.var, .string t.name] 104))
      have HM1 := Lib.hid (HM.out.alloc (.cells #[.bool t.var, .string t.name] 104))
      have hget := HM1.out.get (s := t.name) (by unfold maxLen; omega)
      have hmlt := HM.out.lt
      clear ht
      cases hv : t.var
      · rw [hv] at HT HB1 HO1 HM1 d0
        have HO2 := Lib.hid (show Owned 1 RStr w.heap.size 9 (fun _ => False) _ _ (varsF [] (x.terms.take (k + 1))) by rw [HT.out, if_neg (by simp)]; exact HO1.out)
        have HM2 := Lib.hid (show MapB _ mb (varsF [] (x.terms.take (k + 1))) by rw [HT.out, if_neg (by simp)]; exact HM1.out)
        clear hv
        go_wp2
        go_roundw
        case rel => exact ⟨k + 1, by omega, by go_num, HO2, HB1, HM2, HQ⟩
        case measure => simp [intOf]; omega
      · rw [hv] at HT HB1 HO1 HM1 d0 hget
        clear hv
        have hm : memS t.name vs = true ∨ memS t.name vs = false := by cases memS t.name vs <;> simp
        rcases hm with hm | hm
        · rw [hm] at HT hget
          have HO2 := Lib.hid (show Owned 1 RStr w.heap.size 9 (fun _ => False) _ _ (varsF [] (x.terms.take (k + 1))) by rw [HT.out, if_neg (by simp)]; exact HO1.out)
          have HM2 := Lib.hid (show MapB _ mb (varsF [] (x.terms.take (k + 1))) by rw [HT.out, if_neg (by simp)]; exact HM1.out)
          clear hm
          go_wp2
          go_roundw
          case rel => exact ⟨k + 1, by omega, by go_num, HO2, HB1, HM2, HQ⟩
          case measure => simp [intOf]; omega
        · rw [hm, if_pos (by rfl)] at HT
          rw [hm] at hget
          obtain ⟨w5, hput, hm5, hg5⟩ := HM1.out.put (by have := HLL.out; unfold maxLen; omega) (s := t.name) (by unfold maxLen; omega)
          have HM5 := Lib.hid hm5
          have HB5 := Lib.hid (HB1.out.grown hg5 (by simp; omega) (fun q hq => by injection hq with e; omega))
          have HO5 := Lib.hid (HO1.out.apart RStr.steady hg5 HQ.out)
          have HA5 := Lib.hid ((Blk.new wr 104 #[.bool true, .string t.name]).grown hg5 (fun e => by injection e with e; omega))
          have e1 := HA5.out.cell 1
          simp only [List.getElem?_toArray, List.getElem?_cons_zero, List.getElem?_cons_succ] at e1
          have hm5l := HM5.out.lt
          have hwl : (wr.alloc (.cells #[.bool true, .string t.name] 104)).heap.size ≤ w5.heap.size := hg5.size
          clear hm hm5 hg5
          go_wp2_with (at_builtin; refine wpList_append_one (B := w.heap.size) (e := 9) (S := fun _ => False) (by rfl) _ _ 59 (by rfl) RStr.steady rowStrs _ vs (by rfl) (HO5.out.alloc RStr.steady _) w5.heap.size 1 #[.string t.name] 9 (0, 0) t.name (by rfl) (heap_alloc_new _ _) rfl (by simp [Value.oneCell']) rfl (by have := HLL.out; omega) (by simp; omega) ?_; intro v2 w2 hown2 hg2 hat2; have HO2 := Lib.hid (show Owned 1 RStr w.heap.size 9 (fun _ => False) w2 v2 (varsF [] (x.terms.take (k + 1))) by rw [HT.out]; exact hown2); have HB2 := Lib.hid ((HB5.out.alloc HB5.out.size _).grown hg2 (by simp; have := HB5.out.size; omega) (fun q hq => (HO5.out.row_lt hq).1)); have HM2 := Lib.hid (show MapB w2 mb (varsF [] (x.terms.take (k + 1))) by rw [HT.out]; exact (HM5.out.alloc _).kept hg2 (fun e => HQ.out mb e.symm rfl)); have HQ2 := Lib.hid (show ∀ q, v2.ownBlock = some q → q ≠ mb from fun q hq => by rcases hat2 with h2 | h2 <;> rw [h2] at hq; (exact HQ.out q hq); (injection hq with e; simp at e; omega)); clear hown2 hg2 hat2)
          go_wp2
          go_roundw
          case rel => exact ⟨k + 1, by omega, by go_num, HO2, HB2, HM2, HQ2⟩
          case measure => simp [intOf]; omega
    · have htk : x.terms.take k = x.terms := List.take_of_length_le (by omega)
      rw [htk] at HO
      clear htk
      go_wp2
      go_ret
      exact ⟨⟨_, rfl, HO.out⟩, HB.out⟩

set_option maxRecDepth 100000 in
set_option maxHeartbeats 4000000 in
theorem wrongAtomRef {S : Nat → Prop} (x : PAtom) (tv : Value) (w : World) (h : RdTerms S w tv x.terms)
    (n0 : x.name.size ≤ 1099511627776) (n1 : x.terms.length ≤ 1073741824) (n2 : ∀ t ∈ x.terms, t.name.size ≤ 1099511627776) :
    Calls Tryz.prog 49 #[.agg #[.bool x.neg, .string x.name, tv]] w fun e w' => e = .returned (.int .i64 (atomBad x)) ∧ Below w.heap.size w w' := by
  obtain ⟨a, c, rfl, -, -, -⟩ := id h.form
  have H := Lib.hid h
  have N2 := Lib.hid n2
  clear h n2
  have KN := Lib.hid (fun W => namedRef x.name W n0)
  obtain ⟨W0, hW0⟩ : ∃ W0, w.alloc (.cells #[.bool x.neg, .string x.name, .slice a x.terms.length c] 40) = W0 := ⟨_, rfl⟩
  have HB0 := Lib.hid (show Below w.heap.size w W0 from by rw [← hW0]; exact (Below.refl _ _).alloc (Nat.le_refl _) _)
  have HA0 := Lib.hid (show Blk W0 w.heap.size 40 #[.bool x.neg, .string x.name, .slice a x.terms.length c] from by rw [← hW0]; exact Blk.new w _ _)
  have c1 := HA0.out.cell 1
  have c2 := HA0.out.cell 2
  simp only [List.getElem?_toArray, List.getElem?_cons_zero, List.getElem?_cons_succ] at c1 c2
  cases hn : named x.name
  · rw [hn] at KN
    have HE := Lib.hid (show atomBad x = 7 by unfold atomBad; rw [hn]; rfl)
    clear hn
    go_enter Tryz.func49, Tryz.ntmps49
    go_wp2_with (go_at_call 81; refine (KN.out _).mono ?_; rintro e w' ⟨rfl, hb⟩; have HBF := Lib.hid (HB0.out.trans (hb.mono HB0.out.size)); clear hb)
    go_ret
    exact ⟨ret_int HE.out.symm, HBF.out⟩
  rw [hn] at KN
  have HN := Lib.hid hn
  clear hn
  by_cases h4 : 4 < x.terms.length
  · have i4 : (4 : Int) < (x.terms.length : Int) := by omega
    have HE := Lib.hid (show atomBad x = 5 by unfold atomBad; rw [HN.out, if_neg (by simp), if_pos h4])
    go_enter Tryz.func49, Tryz.ntmps49
    go_wp2_with (go_at_call 81; refine (KN.out _).mono ?_; rintro e w' ⟨rfl, hb⟩; have HBF := Lib.hid (HB0.out.trans (hb.mono HB0.out.size)); have HAF := Lib.hid (HA0.out.below hb HA0.out.lt); clear hb; have d2 := HAF.out.cell 2; simp only [List.getElem?_toArray, List.getElem?_cons_zero, List.getElem?_cons_succ] at d2)
    go_ret
    exact ⟨ret_int HE.out.symm, HBF.out⟩
  have i4 : ¬ (4 : Int) < (x.terms.length : Int) := by omega
  go_enter Tryz.func49, Tryz.ntmps49
  go_wp2_with (go_at_call 81; refine (KN.out _).mono ?_; rintro e w' ⟨rfl, hb⟩; have HBF := Lib.hid (HB0.out.trans (hb.mono HB0.out.size)); have HAF := Lib.hid (HA0.out.below hb HA0.out.lt); clear hb; have d2 := HAF.out.cell 2; simp only [List.getElem?_toArray, List.getElem?_cons_zero, List.getElem?_cons_succ] at d2)
  go_loopw [16] (fun i wr => ∃ k : Nat, k ≤ x.terms.length ∧ i = .int .i64 k ∧ Hid (∀ t ∈ x.terms.take k, termOk t = true) ∧ Hid (Below w.heap.size w wr)) (fun i _ => x.terms.length - (intOf i).toNat)
  case atStart => exact ⟨0, Nat.zero_le _, rfl, Lib.hid (by simp), HBF⟩
  case round =>
    clear HBF HAF d2 c1 c2 HB0 HA0
    obtain ⟨k, hk, rfl, HO, HB⟩ := hrel
    by_cases hlt : k < x.terms.length
    · obtain ⟨t, ht⟩ : ∃ t, x.terms[k]? = some t := ⟨_, List.getElem?_eq_getElem hlt⟩
      obtain ⟨b1, o1, rfl, -, -, d0, d1⟩ := RdTerms.at (H.out.up HB.out) ht
      have hsz := HB.out.size
      have hbb := HB.out.alloc hsz (.cells #[.bool t.var, .string t.name] 104)
      have HB1 := Lib.hid hbb
      have HT1 := Lib.hid (Blk.new wr 104 #[.bool t.var, .string t.name])
      have HS1 := Lib.hid (show termOk t = true → ∀ y ∈ x.terms.take (k + 1), termOk y = true from fun hy y hm => by
        rw [List.take_add_one, ht] at hm
        rcases List.mem_append.1 hm with hm | hm
        · exact HO.out y hm
        · obtain rfl : y = t := by simpa using hm
          exact hy)
      have HBD := Lib.hid (show termOk t = false → atomBad x = 7 from fun hy => atomBad_term HN.out h4 (List.mem_of_getElem? ht) hy)
      have KV := Lib.hid (fun W => variableRef t.name W (N2.out t (List.mem_of_getElem? ht)))
      have KM := Lib.hid (fun W => namedRef t.name W (N2.out t (List.mem_of_getElem? ht)))
      clear ht hbb
      have hto : termOk t = if t.var then variableS t.name else named t.name := rfl
      rw [hto] at HS1 HBD
      clear hto
      cases hv : t.var
      all_goals
        rw [hv] at HS1 HBD d0 HB1 HT1
        clear hv
      · have hm : named t.name = true ∨ named t.name = false := by cases named t.name <;> simp
        rcases hm with hm | hm
        · rw [hm] at KM
          have HO1 := Lib.hid (HS1.out (by simpa using hm))
          clear hm HS1 HBD
          go_wp2_with (go_at_call 81; refine (KM.out _).mono ?_; rintro e w' ⟨rfl, hb⟩; have HBF := Lib.hid (HB1.out.trans (hb.mono HB1.out.size)); clear hb)
          go_roundw
          case rel => exact ⟨k + 1, by omega, by go_num, HO1, HBF⟩
          case measure => simp [intOf]; omega
        · rw [hm] at KM
          have HE := Lib.hid (HBD.out (by simpa using hm))
          clear hm HS1 HBD
          go_wp2_with (go_at_call 81; refine (KM.out _).mono ?_; rintro e w' ⟨rfl, hb⟩; have HBF := Lib.hid (HB1.out.trans (hb.mono HB1.out.size)); clear hb)
          go_ret
          exact ⟨ret_int HE.out.symm, HBF.out⟩
      · have hm : variableS t.name = true ∨ variableS t.name = false := by cases variableS t.name <;> simp
        rcases hm with hm | hm
        · rw [hm] at KV
          have HO1 := Lib.hid (HS1.out (by simpa using hm))
          clear hm HS1 HBD
          go_wp2_with (go_at_call 82; refine (KV.out _).mono ?_; rintro e w' ⟨rfl, hb⟩; have HBF := Lib.hid (HB1.out.trans (hb.mono HB1.out.size)); have HTF := Lib.hid (HT1.out.below hb HT1.out.lt); clear hb; have e0 := HTF.out.cell 0; have e1 := HTF.out.cell 1; simp only [List.getElem?_toArray, List.getElem?_cons_zero, List.getElem?_cons_succ] at e0 e1)
          go_roundw
          case rel => exact ⟨k + 1, by omega, by go_num, HO1, HBF⟩
          case measure => simp [intOf]; omega
        · rw [hm] at KV
          have HE := Lib.hid (HBD.out (by simpa using hm))
          clear hm HS1 HBD
          go_wp2_with (go_at_call 82; refine (KV.out _).mono ?_; rintro e w' ⟨rfl, hb⟩; have HBF := Lib.hid (HB1.out.trans (hb.mono HB1.out.size)); have HTF := Lib.hid (HT1.out.below hb HT1.out.lt); clear hb; have e0 := HTF.out.cell 0; have e1 := HTF.out.cell 1; simp only [List.getElem?_toArray, List.getElem?_cons_zero, List.getElem?_cons_succ] at e0 e1)
          go_ret
          exact ⟨ret_int HE.out.symm, HBF.out⟩
    · have HE := Lib.hid (show atomBad x = 0 from atomBad_ok HN.out h4 (by have := HO.out; rwa [List.take_of_length_le (by omega)] at this))
      go_wp2
      go_ret
      exact ⟨ret_int HE.out.symm, HB.out⟩
end Go.Proofs.YtbbiapgkcekabaaGreat

/-
  THE WALKS OF cororef1.Bound and WrongBody.
-/
namespace Go.Proofs.YtbbiapgkcekabaaGreat
open Go.RowKit Go.Maps

theorem memS_append (v : Str) : ∀ l m : List Str, memS v (l ++ m) = (memS v l || memS v m)
  | [], m => by simp [memS]
  | x :: l, m => by rw [List.cons_append, memS, memS, memS_append v l m, Bool.or_assoc]
theorem memS_snoc (v u : Str) (l : List Str) : memS v (l ++ [u]) = (memS v l || decide (v = u)) := by rw [memS_append]; simp [memS]
theorem memS_held (v : Str) (l : List PAtom) (a : PAtom) : memS v (heldOf (l ++ [a])) = (memS v (heldOf l) || (!a.neg && memS v (varsOf a))) := by
  rw [heldOf_snoc]
  cases a.neg
  · simp [memS_append]
  · simp
def boundIn (held : List Str) (vs : List Str) : Bool := vs.all fun v => memS v held

set_option maxRecDepth 100000 in
set_option maxHeartbeats 8000000 in
theorem boundRef {S T : Nat → Prop} (x : PAtom) (tv : Value) (l : List PAtom) (lv : Value) (w : World) (h : RdTerms S w tv x.terms) (hl : RdAtoms T w lv l)
    (n1 : x.terms.length ≤ 1048576) (n2 : ∀ t ∈ x.terms, t.name.size ≤ 1048576) (m0 : l.length ≤ 1048576) (m1 : ∀ a ∈ l, a.terms.length ≤ 1048576) (m2 : ∀ a ∈ l, ∀ t ∈ a.terms, t.name.size ≤ 1048576) :
    Calls Tryz.prog 51 #[.agg #[.bool x.neg, .string x.name, tv], lv] w fun e w' => e = .returned (.bool (boundIn (heldOf l) (varsOf x))) ∧ Below w.heap.size w w' := by
  obtain ⟨a, c, rfl, -, -, -⟩ := id h.form
  obtain ⟨la, lc, rfl, -, -, -⟩ := id hl.form
  have H := Lib.hid h
  have HL := Lib.hid hl
  have M1 := Lib.hid m1
  have M2 := Lib.hid m2
  obtain ⟨W0, hW0⟩ : ∃ W0, w.alloc (.cells #[.bool x.neg, .string x.name, .slice a x.terms.length c] 40) = W0 := ⟨_, rfl⟩
  have HB0 := Lib.hid (show Below w.heap.size w W0 from by rw [← hW0]; exact (Below.refl _ _).alloc (Nat.le_refl _) _)
  have HA0 := Lib.hid (show Blk W0 w.heap.size 40 #[.bool x.neg, .string x.name, .slice a x.terms.length c] from by rw [← hW0]; exact Blk.new w _ _)
  have c0 := HA0.out.cell 0
  have c1 := HA0.out.cell 1
  have c2 := HA0.out.cell 2
  simp only [List.getElem?_toArray, List.getElem?_cons_zero, List.getElem?_cons_succ] at c0 c1 c2
  have KV := Lib.hid (varsRef x _ W0 (h.up HB0.out) n1 n2)
  have hvl : (varsOf x).length ≤ 1048576 := by have := varsF_length x.terms []; simp at this; show (varsF [] x.terms).length ≤ _; omega
  clear h hl n2 m1 m2
  generalize varsOf x = vs at *
  go_enter Tryz.func51, Tryz.ntmps51
  go_wp2_with (go_at_call 83; refine (KV.out).mono ?_; rintro e w2 ⟨⟨v2, rfl, hv2⟩, hb2⟩; have HBF := Lib.hid (HB0.out.trans (hb2.mono HB0.out.size)); have HV := Lib.hid ((hv2.read RStr.steady).more (S' := fun _ => True) RStr.steady (fun _ _ _ => trivial)); obtain ⟨va, vc, rfl, -, -, -⟩ := id (hv2.read RStr.steady).form; clear hb2 hv2)
  clear KV HB0 HA0 c0 c1 c2
  have HE0 := Lib.hid (show (∀ v ∈ vs.take 0, memS v (heldOf l) = true) from by simp)
  go_loopw [15] (fun i wr => ∃ k : Nat, k ≤ vs.length ∧ i = .int .i64 k ∧ Hid (∀ v ∈ vs.take k, memS v (heldOf l) = true) ∧ Hid (Below w.heap.size w wr) ∧ Hid (RdStrs (fun _ => True) wr (.slice va vs.length vc) vs)) (fun i _ => vs.length - (intOf i).toNat)
  case atStart => exact ⟨0, Nat.zero_le _, rfl, HE0, HBF, HV⟩
  case round =>
    clear HE0 HBF HV
    obtain ⟨k, hk, rfl, HE, HB, HV⟩ := hrel
    by_cases hlt : k < vs.length
    · obtain ⟨v, hv⟩ : ∃ v, vs[k]? = some v := ⟨_, List.getElem?_eq_getElem hlt⟩
      obtain ⟨b1, o1, rfl, -, -, d0⟩ := RdStrs.at HV.out hv
      have HVV := Lib.hid hv
      clear hv
      have HM0 := Lib.hid (show memS v (heldOf (l.take 0)) = false from rfl)
      go_wp2
      clear d0
      go_loopw [21, 7] (fun i b wr => ∃ (j : Nat) (q : Bool), j ≤ l.length ∧ i = .int .i64 j ∧ b = .bool q ∧ Hid (memS v (heldOf (l.take j)) = q) ∧ Hid (Below w.heap.size w wr) ∧ Hid (RdStrs (fun _ => True) wr (.slice (some ⟨b1, o1, none⟩) vs.length vc) vs)) (fun i _ _ => l.length - (intOf i).toNat)
      case atStart => exact ⟨0, false, Nat.zero_le _, rfl, rfl, HM0, HB, HV⟩
      case round =>
        clear HM0 HB HV
        obtain ⟨j, q, hj, rfl, rfl, HM, HB, HV⟩ := hrel
        by_cases hlj : j < l.length
        · obtain ⟨y, hy⟩ : ∃ y, l[j]? = some y := ⟨_, List.getElem?_eq_getElem hlj⟩
          have hym := List.mem_of_getElem? hy
          obtain ⟨b4, o4, yv, rfl, -, hb4, e0, e1, e2, hyv⟩ := RdAtoms.at (HL.out.up HB.out) hy
          obtain ⟨ya, yc, rfl, -, -, -⟩ := id hyv.form
          have HMS := Lib.hid (show memS v (heldOf (l.take (j + 1))) = (q || (!y.neg && memS v (varsOf y))) by rw [List.take_add_one, hy]; show memS v (heldOf (l.take j ++ [y])) = _; rw [memS_held, HM.out])
          obtain ⟨W1, hW1⟩ : ∃ W1, wr.alloc (.cells #[.bool y.neg, .string y.name, .slice ya y.terms.length yc] 40) = W1 := ⟨_, rfl⟩
          have HBA := Lib.hid (show Below wr.heap.size wr W1 from by rw [← hW1]; exact (Below.refl _ _).alloc (Nat.le_refl _) _)
          have HA1 := Lib.hid (show Blk W1 wr.heap.size 40 #[.bool y.neg, .string y.name, .slice ya y.terms.length yc] from by rw [← hW1]; exact Blk.new wr _ _)
          have HB1 := Lib.hid (HB.out.trans (HBA.out.mono HB.out.size))
          have HV1 := Lib.hid (HV.out.agree RStr.steady (Below.agree HBA.out))
          have a0 := HA1.out.cell 0
          have a1 := HA1.out.cell 1
          have a2 := HA1.out.cell 2
          simp only [List.getElem?_toArray, List.getElem?_cons_zero, List.getElem?_cons_succ] at a0 a1 a2
          have KV := Lib.hid (varsRef y _ W1 (hyv.up HBA.out) (M1.out y hym) (M2.out y hym))
          have hul : (varsOf y).length ≤ 1048576 := by have := varsF_length y.terms []; have := M1.out y hym; simp at *; show (varsF [] y.terms).length ≤ _; omega
          clear hy hym hyv HM
          generalize varsOf y = us at *
          go_wp2_with (go_at_call 83; refine (KV.out).mono ?_; rintro e w3 ⟨⟨v3, rfl, hv3⟩, hb3⟩; have HB3 := Lib.hid (HB1.out.trans (hb3.mono HB1.out.size)); have HA3 := Lib.hid (HA1.out.below hb3 HA1.out.lt); have HV3 := Lib.hid (HV1.out.agree RStr.steady (Below.agree hb3)); have HU := Lib.hid ((hv3.read RStr.steady).more (S' := fun _ => True) RStr.steady (fun _ _ _ => trivial)); obtain ⟨ua, uc, rfl, -, -, -⟩ := id (hv3.read RStr.steady).form; clear hb3 hv3)
          clear KV HBA HA1 HB1 HV1 a0 a1 a2
          have HM0 := Lib.hid (show (q || (!y.neg && memS v (us.take 0))) = q from by simp [memS])
          generalize HNB : wr.heap.size = nb at *
          clear HNB
          go_loopw [28, 7] (fun i b wr => ∃ (m : Nat) (r : Bool), m ≤ us.length ∧ i = .int .i64 m ∧ b = .bool r ∧ Hid ((q || (!y.neg && memS v (us.take m))) = r) ∧ Hid (Below w.heap.size w wr) ∧ Hid (RdStrs (fun _ => True) wr (.slice (some ⟨b1, o1, none⟩) vs.length vc) vs) ∧ Hid (RdStrs (fun _ => True) wr (.slice ua us.length uc) us) ∧ Hid (Blk wr nb 40 #[.bool y.neg, .string y.name, .slice ya y.terms.length yc])) (fun i _ _ => us.length - (intOf i).toNat)
          case atStart => exact ⟨0, q, Nat.zero_le _, rfl, rfl, HM0, HB3, HV3, HU, HA3⟩
          case round =>
            clear HM0 HB3 HV3 HU HA3
            obtain ⟨m, r, hm, rfl, rfl, HR, HB, HV, HU, HA⟩ := hrel
            by_cases hlm : m < us.length
            · obtain ⟨u, hu⟩ : ∃ u, us[m]? = some u := ⟨_, List.getElem?_eq_getElem hlm⟩
              obtain ⟨b5, o5, rfl, -, -, g0⟩ := RdStrs.at HU.out hu
              have HRS := Lib.hid (show (q || (!y.neg && memS v (us.take (m + 1)))) = (r || (!y.neg && decide (u = v))) by
                rw [List.take_add_one, hu]
                show (q || (!y.neg && memS v (us.take m ++ [u]))) = _
                rw [memS_snoc, ← HR.out, show decide (v = u) = decide (u = v) from decide_eq_decide.2 ⟨Eq.symm, Eq.symm⟩]
                cases q <;> cases y.neg <;> simp)
              have a0 := HA.out.cell 0
              simp only [List.getElem?_toArray, List.getElem?_cons_zero, List.getElem?_cons_succ] at a0
              obtain ⟨be, hbe⟩ : ∃ be, decide (u = v) = be := ⟨_, rfl⟩
              rw [hbe] at HRS
              have hbe2 : (u.toList == v.toList) = be := by rw [beq_toList]; exact hbe
              clear hu HR hbe
              cases hn : y.neg <;> rw [hn] at HRS HA a0 <;> cases r <;> cases be
              all_goals
                have HRS2 := Lib.hid (HRS.out.trans (show _ = _ from rfl))
                clear HRS
                go_wp2
                go_roundw
                case rel => exact ⟨m + 1, _, by omega, by go_num, rfl, by first | exact HRS2 | (rw [hn]; exact HRS2), HB, HV, HU, by first | exact HA | (rw [hn]; exact HA)⟩
                case measure => simp [intOf]; omega
            · have HR2 := Lib.hid (show memS v (heldOf (l.take (j + 1))) = r from by
                rw [HMS.out, ← HR.out, List.take_of_length_le (by omega)])
              clear HR HMS
              go_wp2
              go_roundw
              case rel => exact ⟨j + 1, r, by omega, by go_num, rfl, HR2, HB, HV⟩
              case measure => simp [intOf]; omega
        · rw [List.take_of_length_le (show l.length ≤ j by omega)] at HM
          cases q
          · have HF := Lib.hid (show boundIn (heldOf l) vs = false from by
              unfold boundIn
              rw [List.all_eq_false]
              exact ⟨v, List.mem_of_getElem? HVV.out, by rw [HM.out]; simp⟩)
            go_wp2
            go_ret
            exact ⟨ret_bool HF.out.symm, HB.out⟩
          · have HE2 := Lib.hid (show ∀ z ∈ vs.take (k + 1), memS z (heldOf l) = true from fun z hz => by
              rw [List.take_add_one, HVV.out] at hz
              rcases List.mem_append.1 hz with hz | hz
              · exact HE.out z hz
              · obtain rfl : z = v := by simpa using hz
                exact HM.out)
            go_wp2
            go_roundw
            case rel => exact ⟨k + 1, by omega, by go_num, HE2, HB, HV⟩
            case measure => simp [intOf]; omega
    · have HF := Lib.hid (show boundIn (heldOf l) vs = true from by
        unfold boundIn
        rw [List.all_eq_true]
        intro z hz
        exact HE.out z (by rwa [List.take_of_length_le (by omega)]))
      go_wp2
      go_ret
      exact ⟨ret_bool HF.out.symm, HB.out⟩

set_option maxRecDepth 100000 in
set_option maxHeartbeats 8000000 in
theorem wrongBodyRef {T : Nat → Prop} (l : List PAtom) (lv : Value) (w : World) (hl : RdAtoms T w lv l)
    (m0 : l.length ≤ 1048576) (m1 : ∀ a ∈ l, a.terms.length ≤ 1048576) (m2 : ∀ a ∈ l, ∀ t ∈ a.terms, t.name.size ≤ 1048576) (m3 : ∀ a ∈ l, a.name.size ≤ 1048576) :
    Calls Tryz.prog 50 #[lv] w fun e w' => e = .returned (.int .i64 (bodyBad l)) ∧ Below w.heap.size w w' := by
  obtain ⟨la, lc, rfl, -, -, -⟩ := id hl.form
  have HL := Lib.hid hl
  have M1 := Lib.hid m1
  have M2 := Lib.hid m2
  have M3 := Lib.hid m3
  clear hl m1 m2 m3
  by_cases h5 : 5 < l.length
  · have i5 : (5 : Int) < (l.length : Int) := by omega
    have HE := Lib.hid (bodyBad_many h5)
    go_enter Tryz.func50, Tryz.ntmps50
    go_wp2
    go_ret
    exact ⟨ret_int HE.out.symm, Below.refl _ _⟩
  have i5 : ¬ (5 : Int) < (l.length : Int) := by omega
  go_enter Tryz.func50, Tryz.ntmps50
  go_wp2
  go_loopw [13] (fun i wr => ∃ k : Nat, k ≤ l.length ∧ i = .int .i64 k ∧ Hid (Below w.heap.size w wr) ∧ Hid (∀ i a, i < k → l[i]? = some a → atomBad a = 0)) (fun i _ => l.length - (intOf i).toNat)
  case atStart => exact ⟨0, Nat.zero_le _, rfl, Lib.hid (Below.refl _ _), Lib.hid (fun i a hi _ => by omega)⟩
  case round =>
    obtain ⟨k, hk, rfl, HB, HZ⟩ := hrel
    by_cases hlt : k < l.length
    · obtain ⟨y, hy⟩ : ∃ y, l[k]? = some y := ⟨_, List.getElem?_eq_getElem hlt⟩
      have hym := List.mem_of_getElem? hy
      obtain ⟨b4, o4, yv, rfl, -, hb4, e0, e1, e2, hyv⟩ := RdAtoms.at (HL.out.up HB.out) hy
      obtain ⟨ya, yc, rfl, -, -, -⟩ := id hyv.form
      obtain ⟨W1, hW1⟩ : ∃ W1, wr.alloc (.cells #[.bool y.neg, .string y.name, .slice ya y.terms.length yc] 40) = W1 := ⟨_, rfl⟩
      have HBA := Lib.hid (show Below wr.heap.size wr W1 from by rw [← hW1]; exact (Below.refl _ _).alloc (Nat.le_refl _) _)
      have HA1 := Lib.hid (show Blk W1 wr.heap.size 40 #[.bool y.neg, .string y.name, .slice ya y.terms.length yc] from by rw [← hW1]; exact Blk.new wr _ _)
      have HB1 := Lib.hid (HB.out.trans (HBA.out.mono HB.out.size))
      have a0 := HA1.out.cell 0
      have a1 := HA1.out.cell 1
      have a2 := HA1.out.cell 2
      simp only [List.getElem?_toArray, List.getElem?_cons_zero, List.getElem?_cons_succ] at a0 a1 a2
      have KA := Lib.hid (wrongAtomRef y _ W1 (hyv.up HBA.out) (by have := M3.out y hym; omega) (by have := M1.out y hym; omega) (fun t ht => by have := M2.out y hym t ht; omega))
      have HX := Lib.hid hy
      clear hy hym hyv
      by_cases hz : atomBad y = 0
      · rw [hz] at KA
        have HZ1 := Lib.hid (show ∀ i a, i < k + 1 → l[i]? = some a → atomBad a = 0 from fun i a hi ha => by
          by_cases e : i = k
          · subst e
            rw [HX.out] at ha
            rw [← Option.some.inj ha]; exact hz
          · exact HZ.out i a (by omega) ha)
        clear hz
        go_wp2_with (go_at_call 49; refine (KA.out).mono ?_; rintro e w3 ⟨rfl, hb3⟩; have HB3 := Lib.hid (HB1.out.trans (hb3.mono HB1.out.size)); clear hb3)
        go_roundw
        case rel => exact ⟨k + 1, by omega, by go_num, HB3, HZ1⟩
        case measure => simp [intOf]; omega
      · have HE := Lib.hid (bodyBad_at h5 HZ.out HX.out hz)
        have hne : (atomBad y != 0) = true := by simpa using hz
        clear hz
        generalize atomBad y = q at *
        go_wp2_with (go_at_call 49; refine (KA.out).mono ?_; rintro e w3 ⟨rfl, hb3⟩; have HB3 := Lib.hid (HB1.out.trans (hb3.mono HB1.out.size)); clear hb3)
        go_ret
        exact ⟨ret_int HE.out.symm, HB3.out⟩
    · have HZL := Lib.hid (show ∀ i a, i < l.length → l[i]? = some a → atomBad a = 0 from fun i a hi ha => HZ.out i a (by omega) ha)
      clear HZ
      go_wp2
      have HF0 := Lib.hid (show ∀ a ∈ l.take 0, boundIn (heldOf l) (varsOf a) = true from by simp)
      go_loopw [25] (fun i wr => ∃ k : Nat, k ≤ l.length ∧ i = .int .i64 k ∧ Hid (Below w.heap.size w wr) ∧ Hid (∀ a ∈ l.take k, boundIn (heldOf l) (varsOf a) = true)) (fun i _ => l.length - (intOf i).toNat)
      case atStart => exact ⟨0, Nat.zero_le _, rfl, HB, HF0⟩
      case round =>
        clear HB HF0
        obtain ⟨k, hk, rfl, HB, HF⟩ := hrel
        by_cases hlt : k < l.length
        · obtain ⟨y, hy⟩ : ∃ y, l[k]? = some y := ⟨_, List.getElem?_eq_getElem hlt⟩
          have hym := List.mem_of_getElem? hy
          obtain ⟨b4, o4, yv, rfl, -, hb4, e0, e1, e2, hyv⟩ := RdAtoms.at (HL.out.up HB.out) hy
          obtain ⟨ya, yc, rfl, -, -, -⟩ := id hyv.form
          obtain ⟨W1, hW1⟩ : ∃ W1, wr.alloc (.cells #[.bool y.neg, .string y.name, .slice ya y.terms.length yc] 40) = W1 := ⟨_, rfl⟩
          have HBA := Lib.hid (show Below wr.heap.size wr W1 from by rw [← hW1]; exact (Below.refl _ _).alloc (Nat.le_refl _) _)
          have HA1 := Lib.hid (show Blk W1 wr.heap.size 40 #[.bool y.neg, .string y.name, .slice ya y.terms.length yc] from by rw [← hW1]; exact Blk.new wr _ _)
          have HB1 := Lib.hid (HB.out.trans (HBA.out.mono HB.out.size))
          have a0 := HA1.out.cell 0
          have a1 := HA1.out.cell 1
          have a2 := HA1.out.cell 2
          simp only [List.getElem?_toArray, List.getElem?_cons_zero, List.getElem?_cons_succ] at a0 a1 a2
          have KA := Lib.hid (boundRef y _ l _ W1 (hyv.up HBA.out) (HL.out.up HB1.out) (M1.out y hym) (M2.out y hym) m0 M1.out M2.out)
          have HY := Lib.hid hym
          have HX := Lib.hid hy
          clear hy hym hyv
          obtain ⟨q, hq⟩ : ∃ q, boundIn (heldOf l) (varsOf y) = q := ⟨_, rfl⟩
          rw [hq] at KA
          cases q
          · have HE := Lib.hid (show bodyBad l = 9 from by
              unfold boundIn at hq
              rw [List.all_eq_false] at hq
              obtain ⟨v, hv, hb⟩ := hq
              exact bodyBad_free h5 HZL.out HY.out hv (by simpa using hb))
            clear hq
            go_wp2_with (go_at_call 51; refine (KA.out).mono ?_; rintro e w3 ⟨rfl, hb3⟩; have HB3 := Lib.hid (HB1.out.trans (hb3.mono HB1.out.size)); clear hb3)
            go_ret
            exact ⟨ret_int HE.out.symm, HB3.out⟩
          · have HF1 := Lib.hid (show ∀ a ∈ l.take (k + 1), boundIn (heldOf l) (varsOf a) = true from fun z hz => by
              rw [List.take_add_one, HX.out] at hz
              rcases List.mem_append.1 hz with hz | hz
              · exact HF.out z hz
              · obtain rfl : z = y := by simpa using hz
                exact hq)
            clear hq
            go_wp2_with (go_at_call 51; refine (KA.out).mono ?_; rintro e w3 ⟨rfl, hb3⟩; have HB3 := Lib.hid (HB1.out.trans (hb3.mono HB1.out.size)); clear hb3)
            go_roundw
            case rel => exact ⟨k + 1, by omega, by go_num, HB3, HF1⟩
            case measure => simp [intOf]; omega
        · have HE := Lib.hid (show bodyBad l = 0 from bodyBad_ok h5 HZL.out (fun a ha v hv => by
            have := HF.out a (by rwa [List.take_of_length_le (by omega)])
            unfold boundIn at this
            exact List.all_eq_true.1 this v hv))
          go_wp2
          go_ret
          exact ⟨ret_int HE.out.symm, HB.out⟩
end Go.Proofs.YtbbiapgkcekabaaGreat

/-
  THE WALK OF cororef1.WrongProgram: what check.Wrong tells.
-/
namespace Go.Proofs.YtbbiapgkcekabaaGreat
open Go.RowKit Go.Maps

/-! ### Plain -/
def up1 (m : Known) : Known := fun s => (m s).map (· + 1)
theorem up1_learn {m : Known} {y : PAtom} (h : fits m y = true) : (fun t => if t = y.name then some ((y.terms.length : Int) + 1) else up1 m t) = up1 (learn m y) := by
  funext t
  unfold fits at h
  unfold up1 learn
  cases hm : m y.name with
  | none =>
    simp only [Option.isSome, Bool.false_eq_true, if_false]
    by_cases e : t = y.name
    · rw [if_pos e, if_pos e]; rfl
    · rw [if_neg e, if_neg e]
  | some n =>
    rw [hm] at h
    simp only [Option.isSome, if_true]
    by_cases e : t = y.name
    · rw [if_pos e, e, hm]
      have : n = (y.terms.length : Int) := by simpa using h
      rw [this]; rfl
    · rw [if_neg e]
theorem mem_allVars {v : Str} {l : List PAtom} : v ∈ allVars l ↔ ∃ a ∈ l, v ∈ varsOf a := by unfold allVars; rw [List.mem_flatMap]
theorem mem_heldR {v : Str} {l : List PAtom} : v ∈ heldOf l ↔ ∃ a ∈ l, a.neg = false ∧ v ∈ varsOf a := by
  unfold heldOf
  rw [List.mem_flatMap]
  constructor
  · rintro ⟨a, ha, hv⟩
    cases hn : a.neg <;> rw [hn] at hv
    · exact ⟨a, ha, hn, by simpa using hv⟩
    · simp at hv
  · rintro ⟨a, ha, hn, hv⟩
    exact ⟨a, ha, by rw [hn]; simpa using hv⟩
theorem bound_all {l : List PAtom} (h : bodyBad l = 0) (vs : List Str) : boundIn (heldOf l) vs = vs.all fun v => memS v (allVars l) := by
  have hf : freeIn (heldOf l) l = true := by
    unfold bodyBad at h
    split at h
    · cases h
    · split at h
      · rename_i h1; exact absurd h h1
      · split at h
        · assumption
        · cases h
  have e : ∀ v, memS v (heldOf l) = memS v (allVars l) := fun v => by
    rw [Bool.eq_iff_iff, memS_iff, memS_iff]
    constructor
    · intro hv
      obtain ⟨a, ha, -, hv⟩ := mem_heldR.1 hv
      exact mem_allVars.2 ⟨a, ha, hv⟩
    · intro hv
      obtain ⟨a, ha, hv⟩ := mem_allVars.1 hv
      exact (memS_iff _ _).1 (List.all_eq_true.1 (List.all_eq_true.1 hf a ha) v hv)
  unfold boundIn
  congr 1
  funext v
  exact e v
theorem ruleBad_head {r : PRule} (h : atomBad r.head ≠ 0) : ruleBad r = atomBad r.head := by unfold ruleBad; rw [if_pos h]
theorem ruleBad_neg {r : PRule} (h : atomBad r.head = 0) (hn : r.head.neg = true) : ruleBad r = 2 := by unfold ruleBad; rw [if_neg (by simpa using h), if_pos hn]
theorem ruleBad_bad {r : PRule} (h : atomBad r.head = 0) (hn : r.head.neg = false) (hb : bodyBad r.body ≠ 0) : ruleBad r = bodyBad r.body := by unfold ruleBad; rw [if_neg (by simpa using h), if_neg (by simp [hn]), if_pos hb]
theorem ruleBad_last {r : PRule} (h : atomBad r.head = 0) (hn : r.head.neg = false) (hb : bodyBad r.body = 0) : ruleBad r = if boundIn (heldOf r.body) (varsOf r.head) then 0 else 9 := by
  unfold ruleBad; rw [if_neg (by simpa using h), if_neg (by simp [hn]), if_neg (by simpa using hb), bound_all hb]

/-! ### The closure -/
set_option maxRecDepth 100000 in
set_option maxHeartbeats 4000000 in
theorem badRef (e k : Int) (C : Nat) (w : World) (h : Blk w C 3 #[.int .i64 k]) :
    Calls Tryz.prog 48 #[.int .i64 e, .pointer (some ⟨C, 0, none⟩)] w fun en w' => en = .returned (.agg #[.int .i64 e, .int .i64 k]) ∧ Below w.heap.size w w' := by
  have HC := Lib.hid (h.alloc (.cells #[.int .i64 0, .int .i64 0] 27))
  have c0 := HC.out.cell 0
  simp only [List.getElem?_toArray, List.getElem?_cons_zero] at c0
  clear h
  go_enter Tryz.func48, Tryz.ntmps48
  go_wp2
  refine bodyPost_ret (v := .agg #[.int .i64 e, .int .i64 k]) (by simp [results, Tryz.results48, go_sem]) rfl ⟨rfl, ?_⟩
  exact (Below.refl _ _).alloc (Nat.le_refl _) _

/-- The worlds of WrongProgram. -/
structure PgW (w W : World) (n : Nat) (m : Known) : Prop where
  below : Below w.heap.size w W
  out : Blk W w.heap.size 27 #[.int .i64 0, .int .i64 0]
  map : MapI W (w.heap.size + 1) n (up1 m)
section
variable {w W W' : World} {n : Nat} {m : Known}
theorem PgW.next (h : PgW w W n m) (hb : Below W.heap.size W W') : PgW w W' n m := ⟨h.below.trans (hb.mono h.below.size), h.out.below hb h.out.lt, h.map.below hb h.map.lt⟩
theorem PgW.alloc (h : PgW w W n m) (o : Obj) : PgW w (W.alloc o) n m := h.next ((Below.refl _ _).alloc (Nat.le_refl _) o)
theorem PgW.lt (h : PgW w W n m) : w.heap.size + 1 < W.heap.size := h.map.lt
end
theorem PgW.grow {w W W' : World} {n : Nat} {m : Known} {row : Option Nat} (h : PgW w W n m) (hg : W.grownBy W' row) (hr : ∀ q, row = some q → w.heap.size + 1 < q) : PgW w W' n m :=
  ⟨h.below.grown hg h.below.size (fun q hq => by have := hr q hq; omega), h.out.grown hg (fun e => by have := hr _ e.symm; omega), h.map.kept hg (fun e => by have := hr _ e.symm; omega)⟩
theorem PgW.put {w W W' : World} {n n' : Nat} {m m' : Known} (h : PgW w W n m) (hg : W.grownBy W' (some (w.heap.size + 1))) (hm : MapI W' (w.heap.size + 1) n' (up1 m')) : PgW w W' n' m' :=
  ⟨h.below.grown hg h.below.size (fun q hq => by injection hq with e; omega), h.out.grown hg (fun e => by injection e with e; omega), hm⟩
/-- A round's own cells. -/
structure PgR (W : World) (C R k : Nat) (x : PRule) (tv bv : Value) : Prop where
  ic : Blk W C 3 #[.int .i64 k]
  rc : Blk W R 43 #[.bool x.head.neg, .string x.head.name, tv, bv]
theorem PgR.next {W W' : World} {C R k : Nat} {x : PRule} {tv bv : Value} (h : PgR W C R k x tv bv) (hb : Below W.heap.size W W') : PgR W' C R k x tv bv := ⟨h.ic.below hb h.ic.lt, h.rc.below hb h.rc.lt⟩
theorem PgR.grow {W W' : World} {C R k : Nat} {x : PRule} {tv bv : Value} {row : Option Nat} (h : PgR W C R k x tv bv) (hg : W.grownBy W' row) (hr : ∀ q, row = some q → C ≠ q ∧ R ≠ q) : PgR W' C R k x tv bv :=
  ⟨h.ic.grown hg (fun e => (hr _ e.symm).1 rfl), h.rc.grown hg (fun e => (hr _ e.symm).2 rfl)⟩

set_option maxRecDepth 100000 in
set_option maxHeartbeats 8000000 in
theorem wrongRefP {S : Nat → Prop} (p : List PRule) (v : Value) (w : World) (h : RdRules S w v p) (n1 : p.length ≤ 1048576) (n2 : ∀ r ∈ p, RuleSmall r) (n3 : ∀ r ∈ p, NameSmall r) :
    Calls Tryz.prog 14 #[v] w fun e w' => e = .returned (.agg #[.int .i64 (wrongP p).1, .int .i64 (wrongP p).2]) ∧ Below w.heap.size w w' := by
  obtain ⟨a, c, rfl, -, -, -⟩ := id h.form
  have H := Lib.hid h
  have N2 := Lib.hid n2
  have N3 := Lib.hid n3
  clear h n2 n3
  by_cases hmany : 16 < p.length
  · have hs : wrongP p = (5, 0) := by unfold wrongP; rw [if_pos hmany]
    have HS := Lib.hid hs
    have i1 : (16 : Int) < (p.length : Int) := by omega
    clear hs
    go_enter Tryz.func14, Tryz.ntmps14
    go_wp2
    refine bodyPost_ret (v := .agg #[.int .i64 5, .int .i64 0]) (by simp [results, Tryz.results14, go_sem]) rfl ⟨by rw [HS.out], ?_⟩
    exact (Below.refl _ _).alloc (Nat.le_refl _) _
  have hP0 : wrongP p = wrongFrom (fun _ => none) ((0 : Nat) : Int) (p.drop 0) := by unfold wrongP; rw [if_neg hmany]; rfl
  have HP0 := Lib.hid hP0
  clear hP0
  have i0 : ¬ ((16 : Int) < (p.length : Int)) := by omega
  have hmm := @run_makeMap Tryz.prog
  have hmf : ∀ (fn : Fn) (first cap : Array Value) (w : World), (Instr.makeFunc fn first cap).run Tryz.prog w = .ok (.func fn first cap) w := fun _ _ _ _ => rfl
  have HW0 := Lib.hid (show PgW w ((w.alloc (.cells #[.int .i64 0, .int .i64 0] 27)).alloc (.map #[] 0)) 0 (fun _ => none) from
    ⟨((Below.refl w.heap.size w).alloc (Nat.le_refl _) (.cells #[.int .i64 0, .int .i64 0] 27)).alloc (by simp) (.map #[] 0), (Blk.new w 27 #[.int .i64 0, .int .i64 0]).alloc (.map #[] 0), by
      have hms : (w.alloc (.cells #[.int .i64 0, .int .i64 0] 27)).heap.size = w.heap.size + 1 := by simp
      have HM := MapI.made (w.alloc (.cells #[.int .i64 0, .int .i64 0] 27))
      rw [hms] at HM
      exact HM⟩)
  go_enter Tryz.func14, Tryz.ntmps14
  go_wp2
  go_loopw [20] (fun i wr => ∃ (k : Nat) (n : Nat) (m : Known), k ≤ p.length ∧ i = .int .i64 k ∧ n ≤ k * 6 ∧ Hid (PgW w wr n m) ∧ Hid (wrongP p = wrongFrom m (k : Int) (p.drop k))) (fun i _ => p.length - (intOf i).toNat)
  case atStart => exact ⟨0, 0, _, Nat.zero_le _, rfl, Nat.zero_le _, HW0, HP0⟩
  case round =>
    clear HW0 HP0
    obtain ⟨k, n, m, hk, rfl, hn, HW, HP⟩ := hrel
    by_cases hlt : k < p.length
    · obtain ⟨x, hx⟩ : ∃ x, p[k]? = some x := ⟨_, List.getElem?_eq_getElem hlt⟩
      have hmem := List.mem_of_getElem? hx
      obtain ⟨b1, o1, tv, bv, rfl, -, hb1, d0, d1, d2, d3, htv, hbv⟩ := RdRules.at H.out hx
      obtain ⟨ta, tc, rfl, -, -, -⟩ := id htv.form
      obtain ⟨ba, bc, rfl, -, -, -⟩ := id hbv.form
      have HRA := Lib.hid (show RuleAt S w b1 (o1 + k * 4) x (.slice ta x.head.terms.length tc) (.slice ba x.body.length bc) from ⟨hb1, d0, d1, d2, d3, htv, hbv⟩)
      have HS := Lib.hid (N2.out x hmem)
      have HN := Lib.hid (N3.out x hmem)
      clear d0 d1 d2 d3
      obtain ⟨-, d0, d1, d2, d3, -, -⟩ := HRA.out.up HW.out.below
      rw [at_drop hx] at HP
      have HW1 := Lib.hid (HW.out.alloc (.cells #[.int .i64 k] 3))
      have HW2 := Lib.hid (HW1.out.alloc (.cells #[.bool x.head.neg, .string x.head.name, .slice ta x.head.terms.length tc, .slice ba x.body.length bc] 43))
      have HR2 := Lib.hid (show PgR ((wr.alloc (.cells #[.int .i64 k] 3)).alloc (.cells #[.bool x.head.neg, .string x.head.name, .slice ta x.head.terms.length tc, .slice ba x.body.length bc] 43)) wr.heap.size (wr.heap.size + 1) k x (.slice ta x.head.terms.length tc) (.slice ba x.body.length bc) from
        ⟨(Blk.new wr _ _).alloc _, by have := Blk.new (wr.alloc (.cells #[.int .i64 k] 3)) 43 #[.bool x.head.neg, .string x.head.name, .slice ta x.head.terms.length tc, .slice ba x.body.length bc]; simpa using this⟩)
      have KA : Hid (∀ W, Below w.heap.size w W → Calls Tryz.prog 49 #[.agg #[.bool x.head.neg, .string x.head.name, .slice ta x.head.terms.length tc]] W fun e w' => e = .returned (.int .i64 (atomBad x.head)) ∧ Below W.heap.size W w') :=
        Lib.hid fun W hW => wrongAtomRef x.head _ W (HRA.out.up hW).t (by have := HN.out.h; omega) (by have := HS.out.h1; omega) (fun t ht => by have := HS.out.h2 t ht; omega)
      have KB : Hid (∀ W, Below w.heap.size w W → Calls Tryz.prog 50 #[.slice ba x.body.length bc] W fun e w' => e = .returned (.int .i64 (bodyBad x.body)) ∧ Below W.heap.size W w') :=
        Lib.hid fun W hW => wrongBodyRef x.body _ W (HRA.out.up hW).b HS.out.b0 HS.out.b1 HS.out.b2 HN.out.b
      have KC : Hid (∀ W, Below w.heap.size w W → Calls Tryz.prog 51 #[.agg #[.bool x.head.neg, .string x.head.name, .slice ta x.head.terms.length tc], .slice ba x.body.length bc] W fun e w' => e = .returned (.bool (boundIn (heldOf x.body) (varsOf x.head))) ∧ Below W.heap.size W w') :=
        Lib.hid fun W hW => boundRef x.head _ x.body _ W (HRA.out.up hW).t (HRA.out.up hW).b HS.out.h1 HS.out.h2 HS.out.b0 HS.out.b1 HS.out.b2
      have HX := Lib.hid hx
      clear hx hmem htv hbv
      by_cases hz : atomBad x.head = 0
      rotate_left
      · have HE := Lib.hid (HP.out.trans (wrongFrom_bad (by rw [ruleBad_head hz]; exact hz)))
        rw [ruleBad_head hz] at HE
        have hne : (atomBad x.head != 0) = true := by simpa using hz
        clear hz
        generalize atomBad x.head = q at *
        go_wp2_with (first
          | (go_at_call 48; have hh := HW3.out; clear hh; refine (badRef q k _ _ HR3.out.ic).mono ?_; rintro e w9 ⟨rfl, hb9⟩; have HW9 := Lib.hid (HW3.out.next hb9); clear hb9; have c0 := HW9.out.out.cell 0; have c1 := HW9.out.out.cell 1; have f0 := HW9.out.out.frozen 0; have f1 := HW9.out.out.frozen 1; simp at c0 c1)
          | (go_at_call 49; refine (KA.out _ HW2.out.below).mono ?_; rintro e w3 ⟨rfl, hb3⟩; have HW3 := Lib.hid (HW2.out.next hb3); have HR3 := Lib.hid (HR2.out.next hb3); clear hb3; have r0 := HR3.out.rc.cell 0; have r1 := HR3.out.rc.cell 1; have r2 := HR3.out.rc.cell 2; have r3 := HR3.out.rc.cell 3; simp only [List.getElem?_toArray, List.getElem?_cons_zero, List.getElem?_cons_succ] at r0 r1 r2 r3))
        go_wp2
        refine bodyPost_ret (v := .agg #[.int .i64 q, .int .i64 k]) (by simp [results, Tryz.results14, go_sem, c0, c1]) rfl ⟨by rw [HE.out], ?_⟩
        exact (HW9.out.below.setCell (Nat.le_refl _) _).setCell (Nat.le_refl _) _
      rw [hz] at KA
      cases hn2 : x.head.neg
      rotate_left
      · have HE := Lib.hid (HP.out.trans (wrongFrom_bad (by rw [ruleBad_neg hz hn2]; decide)))
        rw [ruleBad_neg hz hn2] at HE
        rw [hn2] at KA HW2 HR2 d0
        clear hz KB KC
        go_wp2_with (first
          | (go_at_call 48; have hh := HW3.out; clear hh; refine (badRef 2 k _ _ HR3.out.ic).mono ?_; rintro e w9 ⟨rfl, hb9⟩; have HW9 := Lib.hid (HW3.out.next hb9); clear hb9; have c0 := HW9.out.out.cell 0; have c1 := HW9.out.out.cell 1; have f0 := HW9.out.out.frozen 0; have f1 := HW9.out.out.frozen 1; simp at c0 c1)
          | (go_at_call 49; refine (KA.out _ HW2.out.below).mono ?_; rintro e w3 ⟨rfl, hb3⟩; have HW3 := Lib.hid (HW2.out.next hb3); have HR3 := Lib.hid (HR2.out.next hb3); clear hb3; have r0 := HR3.out.rc.cell 0; have r1 := HR3.out.rc.cell 1; have r2 := HR3.out.rc.cell 2; have r3 := HR3.out.rc.cell 3; simp only [List.getElem?_toArray, List.getElem?_cons_zero, List.getElem?_cons_succ] at r0 r1 r2 r3))
        go_wp2
        refine bodyPost_ret (v := .agg #[.int .i64 2, .int .i64 k]) (by simp [results, Tryz.results14, go_sem, c0, c1]) rfl ⟨by rw [HE.out], ?_⟩
        exact (HW9.out.below.setCell (Nat.le_refl _) _).setCell (Nat.le_refl _) _
      by_cases hbz : bodyBad x.body = 0
      rotate_left
      · have HE := Lib.hid (HP.out.trans (wrongFrom_bad (by rw [ruleBad_bad hz hn2 hbz]; exact hbz)))
        rw [ruleBad_bad hz hn2 hbz] at HE
        rw [hn2] at KA HW2 HR2 d0
        have hne : (bodyBad x.body != 0) = true := by simpa using hbz
        clear hz hbz KC
        generalize bodyBad x.body = q at *
        go_wp2_with (first
          | (go_at_call 48; have hh := HW4.out; clear hh; refine (badRef q k _ _ HR4.out.ic).mono ?_; rintro e w9 ⟨rfl, hb9⟩; have HW9 := Lib.hid (HW4.out.next hb9); clear hb9; have c0 := HW9.out.out.cell 0; have c1 := HW9.out.out.cell 1; have f0 := HW9.out.out.frozen 0; have f1 := HW9.out.out.frozen 1; simp at c0 c1)
          | (go_at_call 50; refine (KB.out _ HW3.out.below).mono ?_; rintro e w4 ⟨rfl, hb4⟩; have HW4 := Lib.hid (HW3.out.next hb4); have HR4 := Lib.hid (HR3.out.next hb4); clear hb4 r0 r1 r2 r3; have r0 := HR4.out.rc.cell 0; have r1 := HR4.out.rc.cell 1; have r2 := HR4.out.rc.cell 2; have r3 := HR4.out.rc.cell 3; simp only [List.getElem?_toArray, List.getElem?_cons_zero, List.getElem?_cons_succ] at r0 r1 r2 r3)
          | (go_at_call 49; refine (KA.out _ HW2.out.below).mono ?_; rintro e w3 ⟨rfl, hb3⟩; have HW3 := Lib.hid (HW2.out.next hb3); have HR3 := Lib.hid (HR2.out.next hb3); clear hb3; have r0 := HR3.out.rc.cell 0; have r1 := HR3.out.rc.cell 1; have r2 := HR3.out.rc.cell 2; have r3 := HR3.out.rc.cell 3; simp only [List.getElem?_toArray, List.getElem?_cons_zero, List.getElem?_cons_succ] at r0 r1 r2 r3))
        go_wp2
        refine bodyPost_ret (v := .agg #[.int .i64 q, .int .i64 k]) (by simp [results, Tryz.results14, go_sem, c0, c1]) rfl ⟨by rw [HE.out], ?_⟩
        exact (HW9.out.below.setCell (Nat.le_refl _) _).setCell (Nat.le_refl _) _
      rw [hbz] at KB
      have hb5 : x.body.length ≤ 5 := by
        unfold bodyBad at hbz
        split at hbz
        · cases hbz
        · omega
      cases hbd : boundIn (heldOf x.body) (varsOf x.head)
      · have hrb : ruleBad x = 9 := by rw [ruleBad_last hz hn2 hbz, hbd]; rfl
        have HE := Lib.hid (HP.out.trans (wrongFrom_bad (by rw [hrb]; decide)))
        rw [hrb] at HE
        rw [hbd] at KC
        rw [hn2] at KA HW2 HR2 d0 KC
        clear hz hbz hbd hrb
        go_wp2_with (first
          | (go_at_call 48; have hh := HW5.out; clear hh; refine (badRef 9 k _ _ HR5.out.ic).mono ?_; rintro e w9 ⟨rfl, hb9⟩; have HW9 := Lib.hid (HW5.out.next hb9); clear hb9; have c0 := HW9.out.out.cell 0; have c1 := HW9.out.out.cell 1; have f0 := HW9.out.out.frozen 0; have f1 := HW9.out.out.frozen 1; simp at c0 c1)
          | (go_at_call 51; refine (KC.out _ HW4.out.below).mono ?_; rintro e w5 ⟨rfl, hb5⟩; have HW5 := Lib.hid (HW4.out.next hb5); have HR5 := Lib.hid (HR4.out.next hb5); clear hb5 r0 r1 r2 r3; have r0 := HR5.out.rc.cell 0; have r1 := HR5.out.rc.cell 1; have r2 := HR5.out.rc.cell 2; have r3 := HR5.out.rc.cell 3; simp only [List.getElem?_toArray, List.getElem?_cons_zero, List.getElem?_cons_succ] at r0 r1 r2 r3)
          | (go_at_call 50; refine (KB.out _ HW3.out.below).mono ?_; rintro e w4 ⟨rfl, hb4⟩; have HW4 := Lib.hid (HW3.out.next hb4); have HR4 := Lib.hid (HR3.out.next hb4); clear hb4 r0 r1 r2 r3; have r0 := HR4.out.rc.cell 0; have r1 := HR4.out.rc.cell 1; have r2 := HR4.out.rc.cell 2; have r3 := HR4.out.rc.cell 3; simp only [List.getElem?_toArray, List.getElem?_cons_zero, List.getElem?_cons_succ] at r0 r1 r2 r3)
          | (go_at_call 49; refine (KA.out _ HW2.out.below).mono ?_; rintro e w3 ⟨rfl, hb3⟩; have HW3 := Lib.hid (HW2.out.next hb3); have HR3 := Lib.hid (HR2.out.next hb3); clear hb3; have r0 := HR3.out.rc.cell 0; have r1 := HR3.out.rc.cell 1; have r2 := HR3.out.rc.cell 2; have r3 := HR3.out.rc.cell 3; simp only [List.getElem?_toArray, List.getElem?_cons_zero, List.getElem?_cons_succ] at r0 r1 r2 r3))
        go_wp2
        refine bodyPost_ret (v := .agg #[.int .i64 9, .int .i64 k]) (by simp [results, Tryz.results14, go_sem, c0, c1]) rfl ⟨by rw [HE.out], ?_⟩
        exact (HW9.out.below.setCell (Nat.le_refl _) _).setCell (Nat.le_refl _) _
      have HZ := Lib.hid (show ruleBad x = 0 by rw [ruleBad_last hz hn2 hbz, hbd]; rfl)
      rw [hbd] at KC
      have HN2 := Lib.hid hn2
      rw [hn2] at KA HW2 HR2 d0 KC
      clear hz hbz hbd
      have hwr := HW.out.lt
      go_wp2_with (first
        | (at_builtin; have hbig := HW5.out.lt; have HO6 := Lib.hid (Owned.lit (k := 3) (R := RAtom) (B := w5.heap.size) (e := 40) (S := fun q => q < w.heap.size) (w := w5) (l := [x.head]) [[.bool false, .string x.head.name, .slice ta x.head.terms.length tc]] #[.bool false, .string x.head.name, .slice ta x.head.terms.length tc] rfl (by simp) (by simp) rfl (Nat.le_refl _) (by simp [maxLen]) (fun i c z hc hz => by
              rcases i with _ | i
              · simp at hc hz
                subst hc hz
                exact ⟨_, by rw [HN2.out], ((HRA.out.t.more (S' := fun q => q < w.heap.size ∧ some q ≠ some w5.heap.size) RTerm.steady (fun q _ hq => ⟨hq, fun e => by injection e with e; omega⟩)).agree RTerm.steady ⟨(HW5.out.alloc _).below.size, fun q hq _ => (HW5.out.alloc _).below.block q hq.1⟩)⟩
              · simp at hc)); refine wpList_append_many (B := w5.heap.size) (e := 40) (S := fun q => q < w.heap.size) (by rfl) _ _ 41 (by rfl) RAtom.steady RAtom.one rowAtoms _ [x.head] (by rfl) HO6.out (.slice ba x.body.length bc) x.body (by rfl) ((HRA.out.b.more (S' := fun q => q < w.heap.size) RAtom.steady (fun q _ hq => hq)).agree RAtom.steady ⟨(HW5.out.alloc _).below.size, fun q hq _ => (HW5.out.alloc _).below.block q hq⟩) (fun cs x' hr => RAtom.steady.more (fun q hq _ => ⟨hq, fun e => by have := (HO6.out.row_lt e.symm).1; omega⟩) hr) (by simp; omega) (by simp) ?_; intro v7 w7 hown7 hg7 hat7; have HO7 := Lib.hid (show Owned 3 RAtom w5.heap.size 40 (fun q => q < w.heap.size) w7 v7 (x.head :: x.body) from hown7); have HW7 := Lib.hid ((HW5.out.alloc _).grow hg7 (fun q hq => by have := (HO6.out.row_lt hq).1; omega)); have HR7 := Lib.hid ((HR5.out.next ((Below.refl _ _).alloc (Nat.le_refl _) _)).grow hg7 (fun q hq => by have h1 := (HO6.out.row_lt hq).1; have h2 := HR5.out.ic.lt; have h3 := HR5.out.rc.lt; constructor <;> omega)); obtain ⟨a7, c7, rfl, -, -, -⟩ := id (HO7.out.read RAtom.steady).form; clear hown7 hg7 hat7)
        | (go_at_call 51; refine (KC.out _ HW4.out.below).mono ?_; rintro e w5 ⟨rfl, hb5⟩; have HW5 := Lib.hid (HW4.out.next hb5); have HR5 := Lib.hid (HR4.out.next hb5); clear hb5 r0 r1 r2 r3; have r0 := HR5.out.rc.cell 0; have r1 := HR5.out.rc.cell 1; have r2 := HR5.out.rc.cell 2; have r3 := HR5.out.rc.cell 3; simp only [List.getElem?_toArray, List.getElem?_cons_zero, List.getElem?_cons_succ] at r0 r1 r2 r3; have q3 := (HR5.out.next ((Below.refl _ _).alloc (Nat.le_refl _) (.cells #[.bool false, .string x.head.name, .slice ta x.head.terms.length tc] 40))).rc.cell 3; simp only [List.getElem?_toArray, List.getElem?_cons_zero, List.getElem?_cons_succ] at q3)
        | (go_at_call 50; refine (KB.out _ HW3.out.below).mono ?_; rintro e w4 ⟨rfl, hb4⟩; have HW4 := Lib.hid (HW3.out.next hb4); have HR4 := Lib.hid (HR3.out.next hb4); clear hb4 r0 r1 r2 r3; have r0 := HR4.out.rc.cell 0; have r1 := HR4.out.rc.cell 1; have r2 := HR4.out.rc.cell 2; have r3 := HR4.out.rc.cell 3; simp only [List.getElem?_toArray, List.getElem?_cons_zero, List.getElem?_cons_succ] at r0 r1 r2 r3)
        | (go_at_call 49; refine (KA.out _ HW2.out.below).mono ?_; rintro e w3 ⟨rfl, hb3⟩; have HW3 := Lib.hid (HW2.out.next hb3); have HR3 := Lib.hid (HR2.out.next hb3); clear hb3; have r0 := HR3.out.rc.cell 0; have r1 := HR3.out.rc.cell 1; have r2 := HR3.out.rc.cell 2; have r3 := HR3.out.rc.cell 3; simp only [List.getElem?_toArray, List.getElem?_cons_zero, List.getElem?_cons_succ] at r0 r1 r2 r3))
      have HRL := Lib.hid (show RdAtoms (fun b => b < w.heap.size ∨ w5.heap.size ≤ b) w7 (.slice a7 (x.head :: x.body).length c7) (x.head :: x.body) from HO7.out.read RAtom.steady)
      have hbig := HW5.out.lt
      have hcr := HR7.out.ic.lt
      have HSM := Lib.hid (show ∀ y ∈ x.head :: x.body, y.terms.length ≤ 1048576 ∧ y.name.size ≤ 1048576 from fun y hy => by
        rcases List.mem_cons.1 hy with rfl | hy
        · exact ⟨HS.out.h1, HN.out.h⟩
        · exact ⟨HS.out.b1 y hy, HN.out.b y hy⟩)
      obtain ⟨l2, hl2⟩ : ∃ l2, x.head :: x.body = l2 := ⟨_, rfl⟩
      have hl6 : l2.length ≤ 6 := by rw [← hl2]; simp only [List.length_cons]; omega
      have hlen2 : (x.head :: x.body).length = l2.length := by rw [hl2]
      rw [hl2] at HRL HSM
      have HFF := Lib.hid (show wrongP p = if fitAll m l2 then wrongFrom (learnAll m l2) (k + 1) (p.drop (k + 1)) else (8, (k : Int)) from by
        rw [HP.out, ← hl2]
        cases hf : fitAll m (x.head :: x.body)
        · rw [wrongFrom_unfit HZ.out hf]; rfl
        · rw [wrongFrom_fit HZ.out hf]; rfl)
      have hlc : x.body.length + 1 = l2.length := by rw [← hl2]; rfl
      clear r0 r1 r2 r3 q3 HW2 HW3 HW4 HW5 HW1 HW HR2 HR3 HR4 HO6 HO7 d0 d1 d2 d3 KA KB KC hl2 HX HP HZ
      have hn0 : n ≤ k * 6 + 0 := hn
      have HF0 := Lib.hid (show fitAll m l2 = fitAll m (l2.drop 0) ∧ learnAll m l2 = learnAll m (l2.drop 0) from ⟨rfl, rfl⟩)
      try simp only [List.length_append, List.length_cons, List.length_nil, Nat.zero_add, Nat.add_comm 1] at *
      have hlcI : (x.body.length : Int) + 1 = (l2.length : Int) := by omega
      try rw [hlcI]
      try rw [hlc] at *
      clear hlcI
      generalize HCB : wr.heap.size = cb at *
      clear HCB
      go_loopw [62] (fun i wx => ∃ (j n' : Nat) (m' : Known), j ≤ l2.length ∧ i = .int .i64 j ∧ n' ≤ k * 6 + j ∧ Hid (PgW w wx n' m') ∧ Hid (PgR wx cb (cb + 1) k x (.slice ta x.head.terms.length tc) (.slice ba x.body.length bc)) ∧ Hid (RdAtoms (fun b => b < w.heap.size ∨ w5.heap.size ≤ b) wx (.slice a7 l2.length c7) l2) ∧ Hid (fitAll m l2 = fitAll m' (l2.drop j) ∧ learnAll m l2 = learnAll m' (l2.drop j))) (fun i _ => l2.length - (intOf i).toNat)
      case atStart => exact ⟨0, n, m, Nat.zero_le _, rfl, hn0, HW7, HR7, HRL, HF0⟩
      case round =>
        clear HW7 HR7 HRL HF0 hcr hn0 hlc hlen2 hn hk
        obtain ⟨j, n', m', hj, rfl, hn', HW, HR, HRL, HF⟩ := hrel
        by_cases hlj : j < l2.length
        · obtain ⟨y, hy⟩ : ∃ y, l2[j]? = some y := ⟨_, List.getElem?_eq_getElem hlj⟩
          obtain ⟨b4, o4, yv, rfl, hS4, hb4, e0, e1, e2, hyv⟩ := RdAtoms.at HRL.out hy
          obtain ⟨ya, yc, rfl, -, -, -⟩ := id hyv.form
          obtain ⟨ny1, ny2⟩ := HSM.out y (List.mem_of_getElem? hy)
          have HW6 := Lib.hid (HW.out.alloc (.cells #[.bool y.neg, .string y.name, .slice ya y.terms.length yc] 40))
          have HR6 := Lib.hid (HR.out.next ((Below.refl _ _).alloc (Nat.le_refl _) (.cells #[.bool y.neg, .string y.name, .slice ya y.terms.length yc] 40)))
          have HRL6 := Lib.hid (HRL.out.agree RAtom.steady ((Agree.refl _ _).alloc (.cells #[.bool y.neg, .string y.name, .slice ya y.terms.length yc] 40)))
          have hys : y.name.size ≤ maxLen := by unfold maxLen; omega
          have hget := HW6.out.map.getOk hys
          obtain ⟨z', hz'⟩ : ∃ z' : Int, (y.terms.length : Int) + 1 = z' := ⟨_, rfl⟩
          have hw1 : IntKind.i64.wrap ((y.terms.length : Int) + 1) = z' := by rw [IntKind.wrap_i64]; omega
          obtain ⟨w8, hput, hm8, hg8⟩ := HW6.out.map.put (by unfold maxLen; omega) (s := y.name) hys (x := z') (WalkArith.wf_i64 (by omega))
          rw [at_drop hy] at HF
          have KG := Lib.hid (show fits m' y = true → PgW w w8 (n' + 1) (learn m' y) ∧ PgR w8 cb (cb + 1) k x (.slice ta x.head.terms.length tc) (.slice ba x.body.length bc) ∧ RdAtoms (fun b => b < w.heap.size ∨ w5.heap.size ≤ b) w8 (.slice (some ⟨b4, o4, none⟩) l2.length c7) l2 from fun hf =>
            ⟨HW6.out.put hg8 (by rw [← up1_learn hf, hz']; exact hm8), HR6.out.grow hg8 (fun q hq => by injection hq with e; constructor <;> omega), HRL6.out.agree RAtom.steady ⟨hg8.size, fun b hb hlt => hg8.block b hlt (fun e => by injection e with e; omega)⟩⟩)
          clear hy hyv hm8 hg8 HRL HR HW
          cases hv : m' y.name with
          | none =>
            have hu : up1 m' y.name = none := by unfold up1; rw [hv]; rfl
            rw [hu] at hget
            simp only [Option.isSome, Option.getD] at hget
            have hf : fits m' y = true := by unfold fits; rw [hv]
            obtain ⟨hW8, hR8, hRL8⟩ := KG.out hf
            have HW8 := Lib.hid hW8
            have HR8 := Lib.hid hR8
            have HRL8 := Lib.hid hRL8
            have HF2 := Lib.hid (show fitAll m l2 = fitAll (learn m' y) (l2.drop (j + 1)) ∧ learnAll m l2 = learnAll (learn m' y) (l2.drop (j + 1)) from ⟨HF.out.1.trans (by show (fits m' y && _) = _; rw [hf]; rfl), HF.out.2⟩)
            clear hv hu hf KG HF hW8 hR8 hRL8 hz'
            go_wp2
            go_roundw
            case rel => exact ⟨j + 1, n' + 1, _, by omega, by go_num, by omega, HW8, HR8, HRL8, HF2⟩
            case measure => simp [intOf]; omega
          | some q =>
            obtain ⟨z, hz⟩ : ∃ z : Int, q + 1 = z := ⟨_, rfl⟩
            have hu : up1 m' y.name = some z := by unfold up1; rw [hv, ← hz]; rfl
            rw [hu] at hget
            simp only [Option.isSome, Option.getD] at hget
            have hff : fits m' y = decide (z = z') := by
              unfold fits
              rw [hv]
              show (q == (y.terms.length : Int)) = _
              rw [Bool.eq_iff_iff, beq_iff_eq, decide_eq_true_iff]
              omega
            by_cases hzz : z = z'
            · rw [decide_eq_true hzz] at hff
              obtain ⟨hW8, hR8, hRL8⟩ := KG.out hff
              have HW8 := Lib.hid hW8
              have HR8 := Lib.hid hR8
              have HRL8 := Lib.hid hRL8
              have HF2 := Lib.hid (show fitAll m l2 = fitAll (learn m' y) (l2.drop (j + 1)) ∧ learnAll m l2 = learnAll (learn m' y) (l2.drop (j + 1)) from ⟨HF.out.1.trans (by show (fits m' y && _) = _; rw [hff]; rfl), HF.out.2⟩)
              have hne : (z != z') = false := by rw [hzz]; simp
              clear hv hu hff KG HF hW8 hR8 hRL8 hz' hz hzz
              go_wp2
              go_roundw
              case rel => exact ⟨j + 1, n' + 1, _, by omega, by go_num, by omega, HW8, HR8, HRL8, HF2⟩
              case measure => simp [intOf]; omega
            · rw [decide_eq_false hzz] at hff
              have HE := Lib.hid (show wrongP p = (8, (k : Int)) from by
                rw [HFF.out, HF.out.1, if_neg]
                show ¬ (fits m' y && _) = true
                rw [hff]; simp)
              have hne : (z != z') = true := by simpa using hzz
              clear hv hu hff KG HF hz' hz hzz hput
              go_wp2_with (go_at_call 48; refine (badRef 8 k _ _ HR6.out.ic).mono ?_; rintro e w9 ⟨rfl, hb9⟩; have HW9 := Lib.hid (HW6.out.next hb9); clear hb9; have c0 := HW9.out.out.cell 0; have c1 := HW9.out.out.cell 1; have f0 := HW9.out.out.frozen 0; have f1 := HW9.out.out.frozen 1; simp at c0 c1)
              go_wp2
              refine bodyPost_ret (v := .agg #[.int .i64 8, .int .i64 k]) (by simp [results, Tryz.results14, go_sem, c0, c1]) rfl ⟨by rw [HE.out], ?_⟩
              exact (HW9.out.below.setCell (Nat.le_refl _) _).setCell (Nat.le_refl _) _
        · have HF2 := Lib.hid (show wrongP p = wrongFrom m' ((k + 1 : Nat) : Int) (p.drop (k + 1)) by
            have h1 := HF.out
            rw [List.drop_eq_nil_of_le (show l2.length ≤ j by omega)] at h1
            rw [HFF.out, h1.1, h1.2]
            show wrongFrom m' _ _ = _
            congr 1)
          have hk2 : k + 1 ≤ p.length := by omega
          go_wp2
          go_roundw
          case rel => exact ⟨k + 1, n', m', by omega, by go_num, by omega, HW, HF2⟩
          case measure => simp [intOf]; omega
    · have HE := Lib.hid (show wrongP p = (0, 0) by rw [HP.out, List.drop_eq_nil_of_le (by omega)]; rfl)
      have c0 := HW.out.out.cell 0; have c1 := HW.out.out.cell 1; have f0 := HW.out.out.frozen 0; have f1 := HW.out.out.frozen 1
      simp at c0 c1
      go_wp2
      refine bodyPost_ret (v := .agg #[.int .i64 0, .int .i64 0]) (by simp [results, Tryz.results14, go_sem, c0, c1]) rfl ⟨by rw [HE.out], ?_⟩
      exact (HW.out.below.setCell (Nat.le_refl _) _).setCell (Nat.le_refl _) _
end Go.Proofs.YtbbiapgkcekabaaGreat
