/-
  THE WALKS OF cororef1.Atom and Print: the same texts.
-/
import Derived.Test.YtobbjapmdpkogaaPrintS
import Derived.Deep.RegionLaw
import Derived.Deep.DeepCutAuto
namespace Go.Proofs.Ytobbjapmdpkogaa
open Go.RowKit

def argsOpen (l : List PTerm) : Bytes := match l with | [] => [] | _ => 40 :: namesB l
theorem namesB_snoc : ∀ (l : List PTerm) (t : PTerm), l ≠ [] → namesB (l ++ [t]) = namesB l ++ 44 :: t.name.data.toList
  | [], _, h => absurd rfl h
  | [x], t, _ => by simp [namesB]
  | x :: y :: l, t, _ => by
    have ih := namesB_snoc (y :: l) t (by simp)
    show x.name.data.toList ++ 44 :: namesB ((y :: l) ++ [t]) = (x.name.data.toList ++ 44 :: namesB (y :: l)) ++ 44 :: t.name.data.toList
    rw [ih]
    simp
theorem argsOpen_snoc (l : List PTerm) (t : PTerm) : argsOpen (l ++ [t]) = argsOpen l ++ ((if l = [] then [40] else [44]) ++ t.name.data.toList) := by
  cases l with
  | nil => simp [argsOpen, namesB]
  | cons x l =>
    show 40 :: namesB ((x :: l) ++ [t]) = (40 :: namesB (x :: l)) ++ _
    rw [namesB_snoc (x :: l) t (by simp)]
    simp
theorem argsOpen_len {l : List PTerm} (h : ∀ t ∈ l, t.name.size ≤ 1048576) : (argsOpen l).length ≤ l.length * 1048577 + 1 := by
  have := namesB_length l h
  unfold argsOpen
  split
  · simp
  · simp only [List.length_cons]; omega
theorem bytes_size (s : Str) : s.data.toList.length = s.size := by rw [Array.length_toList]; rfl

set_option maxRecDepth 100000 in
set_option maxHeartbeats 8000000 in
theorem atomTextRef {S : Nat → Prop} (x : PAtom) (tv : Value) (w : World) (h : RdTerms S w tv x.terms) (n1 : x.terms.length ≤ 1048576) (n2 : ∀ t ∈ x.terms, t.name.size ≤ 1048576) (n0 : x.name.size ≤ 1048576) :
    Calls Try.prog 29 #[.agg #[.bool x.neg, .string x.name, tv]] w fun e w' => e = .returned (.string (strOf (atomB x))) ∧ Below w.heap.size w w' := by
  obtain ⟨a, c, rfl, -, -, -⟩ := id h.form
  have H := Lib.hid h
  have N2 := Lib.hid n2
  clear h n2
  obtain ⟨neg, name, terms⟩ := x
  dsimp only at *
  obtain ⟨W0, hW0⟩ : ∃ W0, w.alloc (.cells #[.bool neg, .string name, .slice a terms.length c] 30) = W0 := ⟨_, rfl⟩
  have HB0 := Lib.hid (show Below w.heap.size w W0 from by rw [← hW0]; exact (Below.refl _ _).alloc (Nat.le_refl _) _)
  have HA0 := Lib.hid (show Blk W0 w.heap.size 30 #[.bool neg, .string name, .slice a terms.length c] from by rw [← hW0]; exact Blk.new w _ _)
  have c0 := HA0.out.cell 0
  have c1 := HA0.out.cell 1
  have c2 := HA0.out.cell 2
  simp only [List.getElem?_toArray, List.getElem?_cons_zero, List.getElem?_cons_succ] at c0 c1 c2
  obtain ⟨pre, HPRE⟩ : ∃ pre : Bytes, Hid ((if neg then [33] else []) ++ name.data.toList = pre) := ⟨_, Lib.hid rfl⟩
  have hpl : pre.length ≤ 1048577 := by
    rw [← HPRE.out, List.length_append, bytes_size]
    cases neg <;> simp <;> omega
  have HFIN := Lib.hid (show strOf (atomB ⟨neg, name, terms⟩) = strOf (pre ++ argsB terms) from by rw [← HPRE.out]; simp [atomB])
  cases neg
  all_goals
    go_enter Try.func29, Try.ntmps29
    go_wp2
    go_loopw [15, 3] (fun i v wr => ∃ (k : Nat) (z : Str), k ≤ terms.length ∧ i = .int .i64 k ∧ v = .string z ∧ Hid (z.data.toList = pre ++ argsOpen (terms.take k)) ∧ Hid (Below w.heap.size w wr) ∧ Hid (Blk wr w.heap.size 30 #[.bool _, .string name, .slice a terms.length c])) (fun i _ _ => terms.length - (intOf i).toNat)
    case atStart => exact ⟨0, _, Nat.zero_le _, rfl, rfl, Lib.hid (by rw [← HPRE.out]; simp [argsOpen, bytes_app]), HB0, HA0⟩
    case round =>
      clear HB0 HA0 c0 c1 c2
      obtain ⟨k, z, hk, rfl, rfl, HZ, HB, HA⟩ := hrel
      have hzl : z.size ≤ 1099514773506 := by
        have h1 := HZ.out
        have h2 := congrArg List.length h1
        rw [bytes_size, List.length_append] at h2
        have h3 := argsOpen_len (l := terms.take k) (fun t ht => N2.out t (List.mem_of_mem_take ht))
        rw [List.length_take] at h3
        have h4 : min k terms.length * 1048577 ≤ 1048576 * 1048577 := Nat.mul_le_mul_right _ (by omega)
        omega
      by_cases hlt : k < terms.length
      · obtain ⟨t, ht⟩ : ∃ t, terms[k]? = some t := ⟨_, List.getElem?_eq_getElem hlt⟩
        obtain ⟨b1, o1, rfl, -, -, d0, d1⟩ := RdTerms.at (H.out.up HB.out) ht
        have hts := N2.out t (List.mem_of_getElem? ht)
        have HB1 := Lib.hid (HB.out.alloc HB.out.size (.cells #[.bool t.var, .string t.name] 65))
        have HA1 := Lib.hid (HA.out.alloc (.cells #[.bool t.var, .string t.name] 65))
        have HT := Lib.hid (show argsOpen (terms.take (k + 1)) = argsOpen (terms.take k) ++ ((if k = 0 then [40] else [44]) ++ t.name.data.toList) from by
          rw [List.take_add_one, ht]
          show argsOpen (terms.take k ++ [t]) = _
          rw [argsOpen_snoc]
          congr 2
          by_cases h0 : k = 0
          · rw [if_pos h0, if_pos (by rw [h0]; rfl)]
          · rw [if_neg h0, if_neg]
            intro e
            have h2 : (terms.take k).length = 0 := by rw [e]; rfl
            rw [List.length_take] at h2
            omega)
        have k1 : ¬ (9223372036854775807 < z.size + 1) := by omega
        have k2 : ¬ (9223372036854775807 < z.size + 1 + t.name.size) := by omega
        clear ht
        by_cases h0 : k = 0
        · have hz : ((k : Int) == 0) = true := by rw [h0]; rfl
          have HZ2 := Lib.hid (show (z ++ ⟨#[40]⟩ ++ t.name).data.toList = pre ++ argsOpen (terms.take (k + 1)) from by rw [bytes_app, bytes_app, HZ.out, HT.out, if_pos h0]; simp)
          clear h0
          go_wp2
          go_roundw
          case rel => exact ⟨k + 1, _, by omega, by go_num, rfl, HZ2, HB1, HA1⟩
          case measure => simp [intOf]; omega
        · have hz : ((k : Int) == 0) = false := beq_eq_false_iff_ne.2 (by omega)
          have HZ2 := Lib.hid (show (z ++ ⟨#[44]⟩ ++ t.name).data.toList = pre ++ argsOpen (terms.take (k + 1)) from by rw [bytes_app, bytes_app, HZ.out, HT.out, if_neg h0]; simp)
          clear h0
          go_wp2
          go_roundw
          case rel => exact ⟨k + 1, _, by omega, by go_num, rfl, HZ2, HB1, HA1⟩
          case measure => simp [intOf]; omega
      · have HZ1 := Lib.hid (show z.data.toList = pre ++ argsOpen terms from by have := HZ.out; rwa [List.take_of_length_le (by omega)] at this)
        have c2 := HA.out.cell 2
        simp only [List.getElem?_toArray, List.getElem?_cons_zero, List.getElem?_cons_succ] at c2
        have k1 : ¬ (9223372036854775807 < z.size + 1) := by omega
        by_cases h0 : terms.length = 0
        · have i1 : ¬ ((0 : Int) < (terms.length : Int)) := by omega
          have HE := Lib.hid (show z = strOf (pre ++ argsB terms) from by
            apply str_eq
            rw [bytes_of_strOf, HZ1.out, List.length_eq_zero_iff.1 h0]; rfl)
          clear h0
          go_wp2
          go_ret
          exact ⟨ret_str (by rw [HFIN.out, HE.out]), HB.out⟩
        · have i1 : ((0 : Int) < (terms.length : Int)) := by omega
          have HE := Lib.hid (show z ++ ⟨#[41]⟩ = strOf (pre ++ argsB terms) from by
            apply str_eq
            rw [bytes_of_strOf, bytes_app, HZ1.out]
            cases terms with
            | nil => simp at h0
            | cons x l => simp [argsOpen, argsB])
          clear h0
          go_wp2
          go_ret
          exact ⟨ret_str (by rw [HFIN.out]; exact HE.out), HB.out⟩
end Go.Proofs.Ytobbjapmdpkogaa
