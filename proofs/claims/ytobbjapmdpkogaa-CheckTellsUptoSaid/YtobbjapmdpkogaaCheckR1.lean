/-
  THE WALKS OF cororef1.Vars and WrongAtom.
-/
import Derived.Test.YtobbjapmdpkogaaCheckW3
import Derived.Test.YtobbjapmdpkogaaRef1Var
import Derived.Test.YtobbjapmdpkogaaRef1Named
namespace Go.Proofs.Ytobbjapmdpkogaa
open Go.RowKit Go.Maps

theorem Owned.apart {k B m : Nat} {R : (Nat → Prop) → World → List Value → Str → Prop} {e : TypeId} {w w' : World} {v : Value} {l : List Str} (hR : Steady R) (h : Owned k R B e (fun _ => False) w v l) (hg : w.grownBy w' (some m)) (hne : ∀ q, v.ownBlock = some q → q ≠ m) : Owned k R B e (fun _ => False) w' v l :=
  h.keep hR ⟨hg.size, fun _ hb _ => hb.elim⟩ fun g hgg => hg.block g (h.row_lt hgg).2 (fun e => hne g hgg (Option.some.inj e))

set_option maxRecDepth 100000 in
set_option maxHeartbeats 4000000 in
theorem varsRef {S : Nat → Prop} (x : PAtom) (tv : Value) (w : World) (h : RdTerms S w tv x.terms) (n1 : x.terms.length ≤ 1048576) (n2 : ∀ t ∈ x.terms, t.name.size ≤ 1048576) :
    Calls Try.prog 13 #[.agg #[.bool x.neg, .string x.name, tv]] w fun e w' => (∃ v, e = .returned v ∧ Owned 1 RStr w.heap.size 9 (fun _ => False) w' v (varsOf x)) ∧ Below w.heap.size w w' := by
  obtain ⟨a, c, rfl, -, -, -⟩ := id h.form
  have H := Lib.hid h
  have N2 := Lib.hid n2
  clear h n2
  have hmm := @run_makeMap Try.prog
  obtain ⟨W0, hW0⟩ : ∃ W0, w.alloc (.cells #[.bool x.neg, .string x.name, .slice a x.terms.length c] 30) = W0 := ⟨_, rfl⟩
  have HB0 := Lib.hid (show Below w.heap.size w W0 from by rw [← hW0]; exact (Below.refl _ _).alloc (Nat.le_refl _) _)
  have HA0 := Lib.hid (show Blk W0 w.heap.size 30 #[.bool x.neg, .string x.name, .slice a x.terms.length c] from by rw [← hW0]; exact Blk.new w _ _)
  have HB1 := Lib.hid (HB0.out.alloc HB0.out.size (.map #[] 0))
  have HM1 := Lib.hid (MapB.made W0)
  have c2 := (HA0.out.alloc (.map #[] 0)).cell 2
  simp only [List.getElem?_toArray, List.getElem?_cons_zero, List.getElem?_cons_succ] at c2
  have hms : w.heap.size < W0.heap.size := HA0.out.lt
  go_enter Try.func13, Try.ntmps13
  go_wp2
  generalize HMB : W0.heap.size = mb at *
  clear HMB
  go_loopw [11, 3] (fun i v wr => ∃ k : Nat, k ≤ x.terms.length ∧ i = .int .i64 k ∧ Hid (Owned 1 RStr w.heap.size 9 (fun _ => False) wr v (varsF [] (x.terms.take k))) ∧ Hid (Below w.heap.size w wr) ∧ Hid (MapB wr mb (varsF [] (x.terms.take k))) ∧ Hid (∀ q, v.ownBlock = some q → q ≠ mb)) (fun i _ _ => x.terms.length - (intOf i).toNat)
  case atStart => exact ⟨0, Nat.zero_le _, rfl, Lib.hid Owned.nil, HB1, HM1, Lib.hid (fun q h => by cases h)⟩
  case round =>
    clear HB0 HB1 HM1 HA0 c2 hW0
    obtain ⟨k, hk, rfl, HO, HB, HM, HQ⟩ := hrel
    by_cases hlt : k < x.terms.length
    · obtain ⟨t, ht⟩ : ∃ t, x.terms[k]? = some t := ⟨_, List.getElem?_eq_getElem hlt⟩
      obtain ⟨b1, o1, rfl, -, -, d0, d1⟩ := RdTerms.at (H.out.up HB.out) ht
      have hsz := HB.out.size
      have hts := N2.out t (List.mem_of_getElem? ht)
      have HT := Lib.hid (show varsF [] (x.terms.take (k + 1)) = if t.var && !memS t.name (varsF [] (x.terms.take k)) then varsF [] (x.terms.take k) ++ [t.name] else varsF [] (x.terms.take k) by rw [List.take_add_one, ht]; exact varsF_snoc t _ _)
      have HLL := Lib.hid (show (varsF [] (x.terms.take k)).length ≤ x.terms.length by have := varsF_length (x.terms.take k) []; rw [List.length_take] at this; simp at this; omega)
      generalize varsF [] (x.terms.take k) = vs at *
      obtain ⟨va, vc, rfl, -, -, -⟩ := id (HO.out.read RStr.steady).form
      have HB1 := Lib.hid (HB.out.alloc hsz (.cells #[.bool t.var, .string t.name] 65))
      have HO1 := Lib.hid (HO.out.alloc RStr.steady (.cells #[.bool t.var, .string t.name] 65))
      have HM1 := Lib.hid (HM.out.alloc (.cells #[.bool t.var, .string t.name] 65))
      have hget := HM1.out.get (s := t.name) (by unfold maxLen; omega)
      have hmlt := HM.out.lt
      clear ht
      cases hv : t.var
      · rw [hv] at HT HB1 HO1 HM1 d0
        have HO2 := Lib.hid (show Owned 1 RStr w.heap.size 9 (fun _ => False) _ _ (varsF [] (x.terms.take (k + 1))) by rw [HT.out, if_neg (by simp)]; exact HO1.out)
        have HM2 := Lib.hid (show MapB _ mb (varsF [] (x.terms.take (k + 1))) by rw [HT.out, if_neg (by simp)]; exact HM1.out)
        clear hv
        go_wp2
        go_roundw
        case rel => exact ⟨k + 1, by omega, by go_num, HO2, HB1, HM2, HQ⟩
        case measure => simp [intOf]; omega
      · rw [hv] at HT HB1 HO1 HM1 d0 hget
        clear hv
        have hm : memS t.name vs = true ∨ memS t.name vs = false := by cases memS t.name vs <;> simp
        rcases hm with hm | hm
        · rw [hm] at HT hget
          have HO2 := Lib.hid (show Owned 1 RStr w.heap.size 9 (fun _ => False) _ _ (varsF [] (x.terms.take (k + 1))) by rw [HT.out, if_neg (by simp)]; exact HO1.out)
          have HM2 := Lib.hid (show MapB _ mb (varsF [] (x.terms.take (k + 1))) by rw [HT.out, if_neg (by simp)]; exact HM1.out)
          clear hm
          go_wp2
          go_roundw
          case rel => exact ⟨k + 1, by omega, by go_num, HO2, HB1, HM2, HQ⟩
          case measure => simp [intOf]; omega
        · rw [hm, if_pos (by rfl)] at HT
          rw [hm] at hget
          obtain ⟨w5, hput, hm5, hg5⟩ := HM1.out.put (by have := HLL.out; unfold maxLen; omega) (s := t.name) (by unfold maxLen; omega)
          have HM5 := Lib.hid hm5
          have HB5 := Lib.hid (HB1.out.grown hg5 (by simp; omega) (fun q hq => by injection hq with e; omega))
          have HO5 := Lib.hid (HO1.out.apart RStr.steady hg5 HQ.out)
          have HA5 := Lib.hid ((Blk.new wr 65 #[.bool true, .string t.name]).grown hg5 (fun e => by injection e with e; omega))
          have e1 := HA5.out.cell 1
          simp only [List.getElem?_toArray, List.getElem?_cons_zero, List.getElem?_cons_succ] at e1
          have hm5l := HM5.out.lt
          have hwl : (wr.alloc (.cells #[.bool true, .string t.name] 65)).heap.size ≤ w5.heap.size := hg5.size
          clear hm hm5 hg5
          go_wp2_with (at_builtin; refine wpList_append_one (B := w.heap.size) (e := 9) (S := fun _ => False) (by rfl) _ _ 34 (by rfl) RStr.steady rowStrs _ vs (by rfl) (HO5.out.alloc RStr.steady _) w5.heap.size 1 #[.string t.name] 9 (0, 0) t.name (by rfl) (heap_alloc_new _ _) rfl (by simp [Value.oneCell']) rfl (by have := HLL.out; omega) (by simp; omega) ?_; intro v2 w2 hown2 hg2 hat2; have HO2 := Lib.hid (show Owned 1 RStr w.heap.size 9 (fun _ => False) w2 v2 (varsF [] (x.terms.take (k + 1))) by rw [HT.out]; exact hown2); have HB2 := Lib.hid ((HB5.out.alloc HB5.out.size _).grown hg2 (by simp; have := HB5.out.size; omega) (fun q hq => (HO5.out.row_lt hq).1)); have HM2 := Lib.hid (show MapB w2 mb (varsF [] (x.terms.take (k + 1))) by rw [HT.out]; exact (HM5.out.alloc _).kept hg2 (fun e => HQ.out mb e.symm rfl)); have HQ2 := Lib.hid (show ∀ q, v2.ownBlock = some q → q ≠ mb from fun q hq => by rcases hat2 with h2 | h2 <;> rw [h2] at hq; (exact HQ.out q hq); (injection hq with e; simp at e; omega)); clear hown2 hg2 hat2)
          go_wp2
          go_roundw
          case rel => exact ⟨k + 1, by omega, by go_num, HO2, HB2, HM2, HQ2⟩
          case measure => simp [intOf]; omega
    · have htk : x.terms.take k = x.terms := List.take_of_length_le (by omega)
      rw [htk] at HO
      clear htk
      go_wp2
      go_ret
      exact ⟨⟨_, rfl, HO.out⟩, HB.out⟩

set_option maxRecDepth 100000 in
set_option maxHeartbeats 4000000 in
theorem wrongAtomRef {S : Nat → Prop} (x : PAtom) (tv : Value) (w : World) (h : RdTerms S w tv x.terms)
    (n0 : x.name.size ≤ 1099511627776) (n1 : x.terms.length ≤ 1073741824) (n2 : ∀ t ∈ x.terms, t.name.size ≤ 1099511627776) :
    Calls Try.prog 35 #[.agg #[.bool x.neg, .string x.name, tv]] w fun e w' => e = .returned (.int .i64 (atomBad x)) ∧ Below w.heap.size w w' := by
  obtain ⟨a, c, rfl, -, -, -⟩ := id h.form
  have H := Lib.hid h
  have N2 := Lib.hid n2
  clear h n2
  have KN := Lib.hid (fun W => namedRef x.name W n0)
  obtain ⟨W0, hW0⟩ : ∃ W0, w.alloc (.cells #[.bool x.neg, .string x.name, .slice a x.terms.length c] 30) = W0 := ⟨_, rfl⟩
  have HB0 := Lib.hid (show Below w.heap.size w W0 from by rw [← hW0]; exact (Below.refl _ _).alloc (Nat.le_refl _) _)
  have HA0 := Lib.hid (show Blk W0 w.heap.size 30 #[.bool x.neg, .string x.name, .slice a x.terms.length c] from by rw [← hW0]; exact Blk.new w _ _)
  have c1 := HA0.out.cell 1
  have c2 := HA0.out.cell 2
  simp only [List.getElem?_toArray, List.getElem?_cons_zero, List.getElem?_cons_succ] at c1 c2
  cases hn : named x.name
  · rw [hn] at KN
    have HE := Lib.hid (show atomBad x = 7 by unfold atomBad; rw [hn]; rfl)
    clear hn
    go_enter Try.func35, Try.ntmps35
    go_wp2_with (go_at_call 60; refine (KN.out _).mono ?_; rintro e w' ⟨rfl, hb⟩; have HBF := Lib.hid (HB0.out.trans (hb.mono HB0.out.size)); clear hb)
    go_ret
    exact ⟨ret_int HE.out.symm, HBF.out⟩
  rw [hn] at KN
  have HN := Lib.hid hn
  clear hn
  by_cases h4 : 4 < x.terms.length
  · have i4 : (4 : Int) < (x.terms.length : Int) := by omega
    have HE := Lib.hid (show atomBad x = 5 by unfold atomBad; rw [HN.out, if_neg (by simp), if_pos h4])
    go_enter Try.func35, Try.ntmps35
    go_wp2_with (go_at_call 60; refine (KN.out _).mono ?_; rintro e w' ⟨rfl, hb⟩; have HBF := Lib.hid (HB0.out.trans (hb.mono HB0.out.size)); have HAF := Lib.hid (HA0.out.below hb HA0.out.lt); clear hb; have d2 := HAF.out.cell 2; simp only [List.getElem?_toArray, List.getElem?_cons_zero, List.getElem?_cons_succ] at d2)
    go_ret
    exact ⟨ret_int HE.out.symm, HBF.out⟩
  have i4 : ¬ (4 : Int) < (x.terms.length : Int) := by omega
  go_enter Try.func35, Try.ntmps35
  go_wp2_with (go_at_call 60; refine (KN.out _).mono ?_; rintro e w' ⟨rfl, hb⟩; have HBF := Lib.hid (HB0.out.trans (hb.mono HB0.out.size)); have HAF := Lib.hid (HA0.out.below hb HA0.out.lt); clear hb; have d2 := HAF.out.cell 2; simp only [List.getElem?_toArray, List.getElem?_cons_zero, List.getElem?_cons_succ] at d2)
  go_loopw [16] (fun i wr => ∃ k : Nat, k ≤ x.terms.length ∧ i = .int .i64 k ∧ Hid (∀ t ∈ x.terms.take k, termOk t = true) ∧ Hid (Below w.heap.size w wr)) (fun i _ => x.terms.length - (intOf i).toNat)
  case atStart => exact ⟨0, Nat.zero_le _, rfl, Lib.hid (by simp), HBF⟩
  case round =>
    clear HBF HAF d2 c1 c2 HB0 HA0
    obtain ⟨k, hk, rfl, HO, HB⟩ := hrel
    by_cases hlt : k < x.terms.length
    · obtain ⟨t, ht⟩ : ∃ t, x.terms[k]? = some t := ⟨_, List.getElem?_eq_getElem hlt⟩
      obtain ⟨b1, o1, rfl, -, -, d0, d1⟩ := RdTerms.at (H.out.up HB.out) ht
      have hsz := HB.out.size
      have hbb := HB.out.alloc hsz (.cells #[.bool t.var, .string t.name] 65)
      have HB1 := Lib.hid hbb
      have HT1 := Lib.hid (Blk.new wr 65 #[.bool t.var, .string t.name])
      have HS1 := Lib.hid (show termOk t = true → ∀ y ∈ x.terms.take (k + 1), termOk y = true from fun hy y hm => by
        rw [List.take_add_one, ht] at hm
        rcases List.mem_append.1 hm with hm | hm
        · exact HO.out y hm
        · obtain rfl : y = t := by simpa using hm
          exact hy)
      have HBD := Lib.hid (show termOk t = false → atomBad x = 7 from fun hy => atomBad_term HN.out h4 (List.mem_of_getElem? ht) hy)
      have KV := Lib.hid (fun W => variableRef t.name W (N2.out t (List.mem_of_getElem? ht)))
      have KM := Lib.hid (fun W => namedRef t.name W (N2.out t (List.mem_of_getElem? ht)))
      clear ht hbb
      have hto : termOk t = if t.var then variableS t.name else named t.name := rfl
      rw [hto] at HS1 HBD
      clear hto
      cases hv : t.var
      all_goals
        rw [hv] at HS1 HBD d0 HB1 HT1
        clear hv
      · have hm : named t.name = true ∨ named t.name = false := by cases named t.name <;> simp
        rcases hm with hm | hm
        · rw [hm] at KM
          have HO1 := Lib.hid (HS1.out (by simpa using hm))
          clear hm HS1 HBD
          go_wp2_with (go_at_call 60; refine (KM.out _).mono ?_; rintro e w' ⟨rfl, hb⟩; have HBF := Lib.hid (HB1.out.trans (hb.mono HB1.out.size)); clear hb)
          go_roundw
          case rel => exact ⟨k + 1, by omega, by go_num, HO1, HBF⟩
          case measure => simp [intOf]; omega
        · rw [hm] at KM
          have HE := Lib.hid (HBD.out (by simpa using hm))
          clear hm HS1 HBD
          go_wp2_with (go_at_call 60; refine (KM.out _).mono ?_; rintro e w' ⟨rfl, hb⟩; have HBF := Lib.hid (HB1.out.trans (hb.mono HB1.out.size)); clear hb)
          go_ret
          exact ⟨ret_int HE.out.symm, HBF.out⟩
      · have hm : variableS t.name = true ∨ variableS t.name = false := by cases variableS t.name <;> simp
        rcases hm with hm | hm
        · rw [hm] at KV
          have HO1 := Lib.hid (HS1.out (by simpa using hm))
          clear hm HS1 HBD
          go_wp2_with (go_at_call 22; refine (KV.out _).mono ?_; rintro e w' ⟨rfl, hb⟩; have HBF := Lib.hid (HB1.out.trans (hb.mono HB1.out.size)); have HTF := Lib.hid (HT1.out.below hb HT1.out.lt); clear hb; have e0 := HTF.out.cell 0; have e1 := HTF.out.cell 1; simp only [List.getElem?_toArray, List.getElem?_cons_zero, List.getElem?_cons_succ] at e0 e1)
          go_roundw
          case rel => exact ⟨k + 1, by omega, by go_num, HO1, HBF⟩
          case measure => simp [intOf]; omega
        · rw [hm] at KV
          have HE := Lib.hid (HBD.out (by simpa using hm))
          clear hm HS1 HBD
          go_wp2_with (go_at_call 22; refine (KV.out _).mono ?_; rintro e w' ⟨rfl, hb⟩; have HBF := Lib.hid (HB1.out.trans (hb.mono HB1.out.size)); have HTF := Lib.hid (HT1.out.below hb HT1.out.lt); clear hb; have e0 := HTF.out.cell 0; have e1 := HTF.out.cell 1; simp only [List.getElem?_toArray, List.getElem?_cons_zero, List.getElem?_cons_succ] at e0 e1)
          go_ret
          exact ⟨ret_int HE.out.symm, HBF.out⟩
    · have HE := Lib.hid (show atomBad x = 0 from atomBad_ok HN.out h4 (by have := HO.out; rwa [List.take_of_length_le (by omega)] at this))
      go_wp2
      go_ret
      exact ⟨ret_int HE.out.symm, HB.out⟩
end Go.Proofs.Ytobbjapmdpkogaa
