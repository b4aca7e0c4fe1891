/-
  THE WALK OF syntax.Atom: an atom's text.
-/
import Derived.Test.YtobbjapmdpkogaaStrW
namespace Go.Proofs.Ytobbjapmdpkogaa
open Go.RowKit

theorem str_eq {a b : Str} (h : a.data.toList = b.data.toList) : a = b := by rw [← strOf_of_bytes a, ← strOf_of_bytes b, h]
theorem bytes_app (a b : Str) : (a ++ b).data.toList = a.data.toList ++ b.data.toList := by
  rw [ByteArray.data_append, Array.toList_append]

theorem joinStr' {n : Nat} (bk o c : Nat) (xs : List ByteArray) (hn : xs.length = n) (sep : ByteArray) (w : World) (hcells : ∀ (j : Nat) x, xs[j]? = some x → w.cell? ⟨bk, o + j, none⟩ = some (.string x)) (hbk : bk < w.heap.size) (hN : xs.length ≤ 140737488355328) (hcap : xs.length ≤ c) (hlen : (Lib.join (xs.map (·.data.toList)) sep.data.toList).length ≤ 140737488355328) :
    Calls Try.prog 59 #[.slice (some ⟨bk, o, none⟩) n c, .string sep] w fun e w' => e = .returned (.string ⟨(Lib.join (xs.map (·.data.toList)) sep.data.toList).toArray⟩) ∧ Below w.heap.size w w' := by
  subst hn
  exact joinStr bk o c xs sep w hcells hbk hN hcap hlen
theorem atomB_none {neg : Bool} {name : Str} : strOf (atomB ⟨neg, name, []⟩) = (if neg then (⟨#[33]⟩ : Str) ++ name else name) := by
  apply str_eq
  rw [bytes_of_strOf]
  cases neg <;> simp [atomB, argsB, bytes_app]
theorem atomB_some {neg : Bool} {name : Str} {terms : List PTerm} (h : terms ≠ []) : strOf (atomB ⟨neg, name, terms⟩) = (((if neg then (⟨#[33]⟩ : Str) ++ name else name) ++ ⟨#[40]⟩) ++ (⟨(Lib.join ((terms.map (·.name)).map (·.data.toList)) [44]).toArray⟩ : Str)) ++ ⟨#[41]⟩ := by
  apply str_eq
  rw [bytes_of_strOf, List.map_map]
  have hnm : Lib.join (terms.map ((fun s : Str => s.data.toList) ∘ fun t => t.name)) [44] = namesB terms := (namesB_join terms).symm
  rw [hnm]
  cases terms with
  | nil => exact absurd rfl h
  | cons t ts => cases neg <;> simp [atomB, argsB, bytes_app]

set_option maxRecDepth 100000 in
set_option maxHeartbeats 4000000 in
theorem atomText {S : Nat → Prop} (x : PAtom) (tv : Value) (w : World) (h : RdTerms S w tv x.terms) (n1 : x.terms.length ≤ 1048576) (n2 : ∀ t ∈ x.terms, t.name.size ≤ 1048576) (n0 : x.name.size ≤ 1048576) :
    Calls Try.prog 28 #[.agg #[.bool x.neg, .string x.name, tv]] w fun e w' => e = .returned (.string (strOf (atomB x))) ∧ Below w.heap.size w w' := by
  obtain ⟨a, c, rfl, -, -, -⟩ := id h.form
  have H := Lib.hid h
  have N2 := Lib.hid n2
  clear h n2
  obtain ⟨neg, name, terms⟩ := x
  dsimp only at *
  cases neg
  all_goals
    by_cases h0 : terms = []
    · have HE := Lib.hid h0
      have hz : ((terms.length : Int) == 0) = true := by rw [h0]; rfl
      clear h0
      go_enter Try.func28, Try.ntmps28
      go_wp2
      go_ret
      exact ⟨ret_str (by rw [HE.out, atomB_none]; rfl), ((Below.refl _ _).alloc (Nat.le_refl _) _)⟩
    · have hpos : 0 < terms.length := List.length_pos_iff.2 h0
      have HNE := Lib.hid h0
      have hz : ((terms.length : Int) == 0) = false := beq_eq_false_iff_ne.2 (by omega)
      clear h0
      go_enter Try.func28, Try.ntmps28
      go_wp2
      go_loopw [21, 4] (fun i v wr => ∃ k : Nat, k ≤ terms.length ∧ i = .int .i64 k ∧ Hid (Owned 1 RStr w.heap.size 9 (fun _ => False) wr v ((terms.take k).map (·.name))) ∧ Hid (Below w.heap.size w wr)) (fun i _ _ => terms.length - (intOf i).toNat)
      case atStart => exact ⟨0, Nat.zero_le _, rfl, Lib.hid (by simpa using Owned.nil), Lib.hid ((Below.refl _ _).alloc (Nat.le_refl _) _)⟩
      case round =>
        obtain ⟨k, hk, rfl, HO, HB⟩ := hrel
        by_cases hlt : k < terms.length
        · obtain ⟨t, ht⟩ : ∃ t, terms[k]? = some t := ⟨_, List.getElem?_eq_getElem hlt⟩
          obtain ⟨b1, o1, rfl, -, -, d0, d1⟩ := RdTerms.at (H.out.up HB.out) ht
          have hsz := HB.out.size
          have HT := Lib.hid (show (terms.take (k + 1)).map (·.name) = (terms.take k).map (·.name) ++ [t.name] by rw [List.take_add_one, ht]; simp)
          have hll : ((terms.take k).map (·.name)).length = k := by simp; omega
          generalize (terms.take k).map (·.name) = vs at *
          have HB1 := Lib.hid (HB.out.alloc hsz (.cells #[.bool t.var, .string t.name] 65))
          have HO1 := Lib.hid (HO.out.alloc RStr.steady (.cells #[.bool t.var, .string t.name] 65))
          clear ht
          go_wp2_with (at_builtin; refine wpList_append_one (B := w.heap.size) (e := 9) (S := fun _ => False) (by rfl) _ _ 34 (by rfl) RStr.steady rowStrs _ vs (by rfl) (HO1.out.alloc RStr.steady _) (wr.heap.size + 1) 1 #[.string t.name] 9 (0, 0) t.name (by rfl) (heap_new_at (by simp)) rfl (by simp [Value.oneCell']) rfl (by omega) (by simp; omega) ?_; intro v2 w2 hown2 hg2 hat2; have HO2 := Lib.hid (show Owned 1 RStr w.heap.size 9 (fun _ => False) w2 v2 ((terms.take (k + 1)).map (·.name)) by rw [HT.out]; exact hown2); have HB2 := Lib.hid ((HB1.out.alloc (by simp; omega) _).grown hg2 (by simp; omega) (fun q hq => (HO1.out.row_lt hq).1)); clear hown2 hg2 hat2)
          go_wp2
          go_roundw
          case rel => exact ⟨k + 1, by omega, by go_num, HO2, HB2⟩
          case measure => simp [intOf]; omega
        · have htk : terms.take k = terms := List.take_of_length_le (by omega)
          rw [htk] at HO
          clear htk
          have hr := HO.out.read RStr.steady
          obtain ⟨va, vc, rfl, hf1, -, -⟩ := id hr.form
          obtain ⟨t0, ht0⟩ : ∃ t0, (terms.map (·.name))[0]? = some t0 := ⟨_, List.getElem?_eq_getElem (by simpa using hpos)⟩
          obtain ⟨b2, o2, rfl, -, hb2, -⟩ := RdStrs.at hr ht0
          have HJ := Lib.hid (joinStr' (n := terms.length) b2 o2 vc (terms.map (·.name)) (by simp) ⟨#[44]⟩ wr (fun j y hy => by
            obtain ⟨b3, o3, e3, -, -, h3⟩ := RdStrs.at hr hy
            injection e3 with e3
            injection e3 with e3 e4
            subst e3 e4
            exact h3) hb2 (by simp; omega) hf1 (by
              have := namesB_length terms N2.out
              rw [namesB_join] at this
              rw [List.map_map]
              refine Nat.le_trans this ?_
              have : terms.length * 1048577 ≤ 1048576 * 1048577 := Nat.mul_le_mul_right _ n1
              omega))
          have hjl : (Lib.join ((terms.map (·.name)).map (·.data.toList)) [44]).length ≤ 1099512676352 := by
            have := namesB_length terms N2.out
            rw [namesB_join] at this
            rw [List.map_map]
            refine Nat.le_trans this ?_
            have : terms.length * 1048577 ≤ 1048576 * 1048577 := Nat.mul_le_mul_right _ n1
            omega
          obtain ⟨J, HJE⟩ : ∃ J : Str, Hid ((⟨(Lib.join ((terms.map (·.name)).map (·.data.toList)) [44]).toArray⟩ : Str) = J) := ⟨_, Lib.hid rfl⟩
          have hJ : J.size ≤ 1099512676352 := by rw [← HJE.out]; simpa [ByteArray.size] using hjl
          have HJ2 := Lib.hid (HJ.out)
          rw [show (⟨(Lib.join ((terms.map (·.name)).map (·.data.toList)) (ByteArray.mk #[44]).data.toList).toArray⟩ : Str) = J from HJE.out] at HJ2
          clear hr hf1 hb2 ht0 HJ hjl
          have hc1 : ¬ (9223372036854775807 < name.size + 1 + J.size + 1) := by omega
          have hc2 : ¬ (9223372036854775807 < 1 + name.size + 1 + J.size + 1) := by omega
          have hc3 : ¬ (9223372036854775807 < name.size + 1 + J.size) := by omega
          have hc4 : ¬ (9223372036854775807 < 1 + name.size + 1 + J.size) := by omega
          go_wp2_with (go_at_call 59; refine (HJ2.out).mono ?_; rintro e w3 ⟨rfl, hb3⟩; have HB3 := Lib.hid (HB.out.trans (hb3.mono HB.out.size)); clear hb3)
          all_goals first
            | (exfalso; omega)
            | (go_wp2
               go_ret
               exact ⟨ret_str (by rw [atomB_some HNE.out, HJE.out]; rfl), HB3.out⟩)
end Go.Proofs.Ytobbjapmdpkogaa
