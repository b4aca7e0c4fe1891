/-
  THE WALKS OF check.atom, Vars.
-/
import Derived.Test.YtmnpneandkiblaaSynW2
import Derived.Test.YtmnpneandkiblaaOwn
import Derived.Test.YtmnpneandkiblaaNames2
import Derived.Test.YtmnpneandkiblaaCheckP
namespace Go.Proofs.Ytmnpneandkiblaa
open Go.RowKit

theorem RdTerms.at {S : Nat → Prop} {w : World} {a : Option Addr} {n cap : Nat} {l : List PTerm} (h : RdTerms S w (.slice a n cap) l) {i : Nat} {x : PTerm} (hx : l[i]? = some x) :
    ∃ b off, a = some ⟨b, off, none⟩ ∧ S b ∧ b < w.heap.size ∧ w.cell? ⟨b, off + i * 2, none⟩ = some (.bool x.var) ∧ w.cell? ⟨b, off + i * 2 + 1, none⟩ = some (.string x.name) := by
  obtain ⟨a', cap', hv, _, _, _, h3⟩ := h
  obtain ⟨b, off, cs, ha, hS, hb, hk, hc, hr⟩ := h3 i x hx
  injection hv with e1 e2 e3
  subst e1
  have hr' : cs = [.bool x.var, .string x.name] := hr
  subst hr'
  exact ⟨b, off, ha, hS, hb, by simpa using hc 0 _ rfl, by simpa using hc 1 _ rfl⟩
theorem RdAtoms.at {S : Nat → Prop} {w : World} {a : Option Addr} {n cap : Nat} {l : List PAtom} (h : RdAtoms S w (.slice a n cap) l) {i : Nat} {x : PAtom} (hx : l[i]? = some x) :
    ∃ b off tv, a = some ⟨b, off, none⟩ ∧ S b ∧ b < w.heap.size ∧ w.cell? ⟨b, off + i * 3, none⟩ = some (.bool x.neg) ∧ w.cell? ⟨b, off + i * 3 + 1, none⟩ = some (.string x.name) ∧ w.cell? ⟨b, off + i * 3 + 2, none⟩ = some tv ∧ RdTerms S w tv x.terms := by
  obtain ⟨a', cap', hv, _, _, _, h3⟩ := h
  obtain ⟨b, off, cs, ha, hS, hb, hk, hc, tv, hr, hq⟩ := h3 i x hx
  injection hv with e1 e2 e3
  subst e1
  subst hr
  exact ⟨b, off, tv, ha, hS, hb, by simpa using hc 0 _ rfl, by simpa using hc 1 _ rfl, by simpa using hc 2 _ rfl, hq⟩
theorem RdRules.at {S : Nat → Prop} {w : World} {a : Option Addr} {n cap : Nat} {l : List PRule} (h : RdRules S w (.slice a n cap) l) {i : Nat} {x : PRule} (hx : l[i]? = some x) :
    ∃ b off tv bv, a = some ⟨b, off, none⟩ ∧ S b ∧ b < w.heap.size ∧ w.cell? ⟨b, off + i * 4, none⟩ = some (.bool x.head.neg) ∧ w.cell? ⟨b, off + i * 4 + 1, none⟩ = some (.string x.head.name) ∧ w.cell? ⟨b, off + i * 4 + 2, none⟩ = some tv ∧ w.cell? ⟨b, off + i * 4 + 3, none⟩ = some bv ∧ RdTerms S w tv x.head.terms ∧ RdAtoms S w bv x.body := by
  obtain ⟨a', cap', hv, _, _, _, h3⟩ := h
  obtain ⟨b, off, cs, ha, hS, hb, hk, hc, tv, bv, hr, hq, hq2⟩ := h3 i x hx
  injection hv with e1 e2 e3
  subst e1
  subst hr
  exact ⟨b, off, tv, bv, ha, hS, hb, by simpa using hc 0 _ rfl, by simpa using hc 1 _ rfl, by simpa using hc 2 _ rfl, by simpa using hc 3 _ rfl, hq, hq2⟩
theorem RdTerms.up {S : Nat → Prop} {w w' : World} {v : Value} {l : List PTerm} (h : RdTerms S w v l) (hb : Below w.heap.size w w') : RdTerms (fun _ => True) w' v l := (h.more RTerm.steady (fun _ _ _ => trivial)).agree RTerm.steady (Below.agree hb)
theorem RdAtoms.up {S : Nat → Prop} {w w' : World} {v : Value} {l : List PAtom} (h : RdAtoms S w v l) (hb : Below w.heap.size w w') : RdAtoms (fun _ => True) w' v l := (h.more RAtom.steady (fun _ _ _ => trivial)).agree RAtom.steady (Below.agree hb)
theorem RdRules.up {S : Nat → Prop} {w w' : World} {v : Value} {l : List PRule} (h : RdRules S w v l) (hb : Below w.heap.size w w') : RdRules (fun _ => True) w' v l := (h.more RRule.steady (fun _ _ _ => trivial)).agree RRule.steady (Below.agree hb)
theorem RdStrs.up {S : Nat → Prop} {w w' : World} {v : Value} {l : List Str} (h : RdStrs S w v l) (hb : Below w.heap.size w w') : RdStrs (fun _ => True) w' v l := (h.more RStr.steady (fun _ _ _ => trivial)).agree RStr.steady (Below.agree hb)

theorem atomBad_ok {a : PAtom} (h1 : named a.name = true) (h2 : ¬ 4 < a.terms.length) (h : ∀ t ∈ a.terms, termOk t = true) : atomBad a = 0 := by
  unfold atomBad
  rw [h1, if_neg (by simp), if_neg h2, if_pos (List.all_eq_true.2 h)]
theorem atomBad_term {a : PAtom} (h1 : named a.name = true) (h2 : ¬ 4 < a.terms.length) {t : PTerm} (ht : t ∈ a.terms) (h : termOk t = false) : atomBad a = 7 := by
  unfold atomBad
  rw [h1, if_neg (by simp), if_neg h2, if_neg (fun hh => by have := List.all_eq_true.1 hh t ht; rw [h] at this; cases this)]

set_option maxRecDepth 100000 in
set_option maxHeartbeats 4000000 in
theorem checkAtom {S : Nat → Prop} (b o : Nat) (x : PAtom) (tv : Value) (w : World) (c0 : w.cell? ⟨b, o + 1, none⟩ = some (.string x.name)) (c1 : w.cell? ⟨b, o + 2, none⟩ = some tv) (h : RdTerms S w tv x.terms)
    (n1 : x.terms.length ≤ 1073741824) (n2 : ∀ t ∈ x.terms, t.name.size ≤ 1099511627776) :
    Calls Try.prog 38 #[.pointer (some ⟨b, o, none⟩)] w fun e w' => e = .returned (.int .i64 (atomBad x)) ∧ Below w.heap.size w w' := by
  obtain ⟨a, c, rfl, -, -, -⟩ := id h.form
  have H := Lib.hid h
  have N2 := Lib.hid n2
  clear h n2
  have KN := Lib.hid (fun W => namedCalls x.name W)
  cases hn : named x.name
  · rw [hn] at KN
    have HE := Lib.hid (show atomBad x = 7 by unfold atomBad; rw [hn]; rfl)
    clear hn
    go_enter Try.func38, Try.ntmps38
    go_wp2_with (go_at_call 64; refine (KN.out _).mono ?_; rintro e w' ⟨rfl, rfl⟩)
    go_ret
    exact ⟨ret_int HE.out.symm, Below.refl _ _⟩
  rw [hn] at KN
  have HN := Lib.hid hn
  clear hn
  by_cases h4 : 4 < x.terms.length
  · have i4 : (4 : Int) < (x.terms.length : Int) := by omega
    have HE := Lib.hid (show atomBad x = 5 by unfold atomBad; rw [HN.out, if_neg (by simp), if_pos h4])
    go_enter Try.func38, Try.ntmps38
    go_wp2_with (go_at_call 64; refine (KN.out _).mono ?_; rintro e w' ⟨rfl, rfl⟩)
    go_ret
    exact ⟨ret_int HE.out.symm, Below.refl _ _⟩
  have i4 : ¬ (4 : Int) < (x.terms.length : Int) := by omega
  go_enter Try.func38, Try.ntmps38
  go_wp2_with (go_at_call 64; refine (KN.out _).mono ?_; rintro e w' ⟨rfl, rfl⟩)
  go_loopw [22] (fun i wr => ∃ k : Nat, k ≤ x.terms.length ∧ i = .int .i64 k ∧ Hid (∀ t ∈ x.terms.take k, termOk t = true) ∧ Hid (Below w.heap.size w wr)) (fun i _ => x.terms.length - (intOf i).toNat)
  case atStart => exact ⟨0, Nat.zero_le _, rfl, Lib.hid (by simp), Below.refl _ _⟩
  case round =>
    obtain ⟨k, hk, rfl, HO, HB⟩ := hrel
    by_cases hlt : k < x.terms.length
    · obtain ⟨t, ht⟩ : ∃ t, x.terms[k]? = some t := ⟨_, List.getElem?_eq_getElem hlt⟩
      obtain ⟨b1, o1, rfl, -, -, d0, d1⟩ := RdTerms.at (H.out.up HB.out) ht
      have hsz := HB.out.size
      have hbb := HB.out.alloc hsz (.cells #[.bool t.var, .string t.name] 71)
      have HB1 := Lib.hid hbb
      have HS1 := Lib.hid (show termOk t = true → ∀ y ∈ x.terms.take (k + 1), termOk y = true from fun hy y hm => by
        rw [List.take_add_one, ht] at hm
        rcases List.mem_append.1 hm with hm | hm
        · exact HO.out y hm
        · obtain rfl : y = t := by simpa using hm
          exact hy)
      have HBD := Lib.hid (show termOk t = false → atomBad x = 7 from fun hy => atomBad_term HN.out h4 (List.mem_of_getElem? ht) hy)
      have KV := Lib.hid (fun W => variableCalls t.name W (N2.out t (List.mem_of_getElem? ht)))
      have KM := Lib.hid (fun W => namedCalls t.name W)
      clear ht hbb
      have hto : termOk t = if t.var then variableS t.name else named t.name := rfl
      rw [hto] at HS1 HBD
      clear hto
      cases hv : t.var
      all_goals
        rw [hv] at HS1 HBD d0 HB1
        clear hv
      · have hm : named t.name = true ∨ named t.name = false := by cases named t.name <;> simp
        rcases hm with hm | hm
        · rw [hm] at KM
          have HO1 := Lib.hid (HS1.out (by simpa using hm))
          clear hm HS1 HBD
          go_wp2_with (go_at_call 64; refine (KM.out _).mono ?_; rintro e w' ⟨rfl, rfl⟩)
          go_roundw
          case rel => exact ⟨k + 1, by omega, by go_num, HO1, HB1⟩
          case measure => simp [intOf]; omega
        · rw [hm] at KM
          have HE := Lib.hid (HBD.out (by simpa using hm))
          clear hm HS1 HBD
          go_wp2_with (go_at_call 64; refine (KM.out _).mono ?_; rintro e w' ⟨rfl, rfl⟩)
          go_ret
          exact ⟨ret_int HE.out.symm, HB1.out⟩
      · have hm : variableS t.name = true ∨ variableS t.name = false := by cases variableS t.name <;> simp
        rcases hm with hm | hm
        · rw [hm] at KV
          have HO1 := Lib.hid (HS1.out (by simpa using hm))
          clear hm HS1 HBD
          go_wp2_with (go_at_call 65; refine (KV.out _).mono ?_; rintro e w' ⟨rfl, rfl⟩)
          go_roundw
          case rel => exact ⟨k + 1, by omega, by go_num, HO1, HB1⟩
          case measure => simp [intOf]; omega
        · rw [hm] at KV
          have HE := Lib.hid (HBD.out (by simpa using hm))
          clear hm HS1 HBD
          go_wp2_with (go_at_call 65; refine (KV.out _).mono ?_; rintro e w' ⟨rfl, rfl⟩)
          go_ret
          exact ⟨ret_int HE.out.symm, HB1.out⟩
    · have HE := Lib.hid (show atomBad x = 0 from atomBad_ok HN.out h4 (by have := HO.out; rwa [List.take_of_length_le (by omega)] at this))
      go_wp2
      go_ret
      exact ⟨ret_int HE.out.symm, HB.out⟩

/-! ### Vars -/
theorem rowStrs : RowT Try.prog 39 9 1 := RowT.mk' (b := 16) (z := .string ⟨#[]⟩) Try.underlying39 (by kernel_rfl) (by omega) rfl (by omega)

set_option maxRecDepth 100000 in
set_option maxHeartbeats 4000000 in
theorem varsCalls {S : Nat → Prop} (x : PAtom) (tv : Value) (w : World) (h : RdTerms S w tv x.terms) (n1 : x.terms.length ≤ 1073741824) :
    Calls Try.prog 20 #[.agg #[.bool x.neg, .string x.name, tv]] w fun e w' => (∃ v, e = .returned v ∧ Owned 1 RStr w.heap.size 9 (fun _ => False) w' v (varsOf x)) ∧ Below w.heap.size w w' := by
  obtain ⟨a, c, rfl, -, -, -⟩ := id h.form
  have H := Lib.hid h
  clear h
  go_enter Try.func20, Try.ntmps20
  go_wp2
  go_loopw [9, 3] (fun i v wr => ∃ k : Nat, k ≤ x.terms.length ∧ i = .int .i64 k ∧ Hid (Owned 1 RStr w.heap.size 9 (fun _ => False) wr v (varsF [] (x.terms.take k))) ∧ Hid (Below w.heap.size w wr)) (fun i _ _ => x.terms.length - (intOf i).toNat)
  case atStart => exact ⟨0, Nat.zero_le _, rfl, Lib.hid Owned.nil, Lib.hid ((Below.refl _ _).alloc (Nat.le_refl _) _)⟩
  case round =>
    obtain ⟨k, hk, rfl, HO, HB⟩ := hrel
    by_cases hlt : k < x.terms.length
    · obtain ⟨t, ht⟩ : ∃ t, x.terms[k]? = some t := ⟨_, List.getElem?_eq_getElem hlt⟩
      obtain ⟨b1, o1, rfl, -, -, d0, d1⟩ := RdTerms.at (H.out.up HB.out) ht
      have hsz := HB.out.size
      have HT := Lib.hid (show varsF [] (x.terms.take (k + 1)) = if t.var && !memS t.name (varsF [] (x.terms.take k)) then varsF [] (x.terms.take k) ++ [t.name] else varsF [] (x.terms.take k) by rw [List.take_add_one, ht]; exact varsF_snoc t _ _)
      have HLL := Lib.hid (show (varsF [] (x.terms.take k)).length ≤ x.terms.length by have := varsF_length (x.terms.take k) []; rw [List.length_take] at this; simp at this; omega)
      generalize varsF [] (x.terms.take k) = vs at *
      obtain ⟨va, vc, rfl, -, -, -⟩ := id (HO.out.read RStr.steady).form
      have KC := Lib.hid (containsStr (.slice va vs.length vc) vs t.name (wr.alloc (.cells #[.bool t.var, .string t.name] 71)) ((HO.out.read RStr.steady).agree RStr.steady ((Agree.refl _ _).alloc _)) (by have := HLL.out; omega))
      have HB1 := Lib.hid (HB.out.alloc hsz (.cells #[.bool t.var, .string t.name] 71))
      have HO1 := Lib.hid (HO.out.alloc RStr.steady (.cells #[.bool t.var, .string t.name] 71))
      clear ht
      cases hv : t.var
      · rw [hv] at HT KC HB1 HO1 d0
        have HO2 := Lib.hid (show Owned 1 RStr w.heap.size 9 (fun _ => False) _ _ (varsF [] (x.terms.take (k + 1))) by rw [HT.out, if_neg (by simp)]; exact HO1.out)
        clear hv
        go_wp2
        go_roundw
        case rel => exact ⟨k + 1, by omega, by go_num, HO2, HB1⟩
        case measure => simp [intOf]; omega
      · rw [hv] at HT KC HB1 HO1 d0
        clear hv
        have hm : memS t.name vs = true ∨ memS t.name vs = false := by cases memS t.name vs <;> simp
        rcases hm with hm | hm
        · rw [hm] at KC HT
          have HO2 := Lib.hid (show Owned 1 RStr w.heap.size 9 (fun _ => False) _ _ (varsF [] (x.terms.take (k + 1))) by rw [HT.out, if_neg (by simp)]; exact HO1.out)
          clear hm
          go_wp2_with (go_at_call 37; refine (KC.out).mono ?_; rintro e w' ⟨rfl, rfl⟩)
          go_roundw
          case rel => exact ⟨k + 1, by omega, by go_num, HO2, HB1⟩
          case measure => simp [intOf]; omega
        · rw [hm, if_pos (by rfl)] at HT
          rw [hm] at KC
          clear hm
          go_wp2_with (first
            | (go_at_call 37; refine (KC.out).mono ?_; rintro e w' ⟨rfl, rfl⟩)
            | (at_builtin; refine wpList_append_one (B := w.heap.size) (e := 9) (S := fun _ => False) (by rfl) _ _ 39 (by rfl) RStr.steady rowStrs _ vs (by rfl) (HO1.out.alloc RStr.steady _) (wr.heap.size + 1) 1 #[.string t.name] 9 (0, 0) t.name (by rfl) (heap_new_at (by simp)) rfl (by simp [Value.oneCell']) rfl (by have := HLL.out; omega) (by simp; omega) ?_; intro v2 w2 hown2 hg2 hat2; have HO2 := Lib.hid (show Owned 1 RStr w.heap.size 9 (fun _ => False) w2 v2 (varsF [] (x.terms.take (k + 1))) by rw [HT.out]; exact hown2); have HB2 := Lib.hid ((HB1.out.alloc (by simp; omega) _).grown hg2 (by simp; omega) (fun q hq => (HO1.out.row_lt hq).1)); clear hown2 hg2 hat2))
          go_wp2
          go_roundw
          case rel => exact ⟨k + 1, by omega, by go_num, HO2, HB2⟩
          case measure => simp [intOf]; omega
    · have htk : x.terms.take k = x.terms := List.take_of_length_le (by omega)
      rw [htk] at HO
      clear htk
      go_wp2
      go_ret
      exact ⟨⟨_, rfl, HO.out⟩, HB.out⟩
end Go.Proofs.Ytmnpneandkiblaa
