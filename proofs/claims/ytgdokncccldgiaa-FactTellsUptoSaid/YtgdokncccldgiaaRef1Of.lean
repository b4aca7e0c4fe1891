/-
  THE WALKS OF cororef1.Of, Both.
-/
import Derived.Test.YtgdokncccldgiaaRef1Add
namespace Go.Proofs.Ytgdokncccldgiaa
open Go.RowKit

def foldA (acc l : List PFact) : List PFact := l.foldl (fun a f => addF f a) acc
theorem foldA_snoc (acc l : List PFact) (x : PFact) : foldA acc (l ++ [x]) = addF x (foldA acc l) := by simp [foldA, List.foldl_append]
theorem addF_len1 (f : PFact) : ∀ l, (addF f l).length ≤ l.length + 1
  | [] => by simp [addF]
  | g :: l => by
    unfold addF
    split
    · simp
    · split
      · simp
      · have := addF_len1 f l
        simp only [List.length_cons]; omega
theorem foldA_length (acc : List PFact) : ∀ l, (foldA acc l).length ≤ acc.length + l.length := by
  intro l
  induction l generalizing acc with
  | nil => simp [foldA]
  | cons x l ih =>
    have h1 := ih (addF x acc)
    have h2 := addF_len1 x acc
    show (foldA (addF x acc) l).length ≤ _
    simp only [List.length_cons]; omega
theorem mem_foldA (y : PFact) : ∀ (l acc : List PFact), y ∈ foldA acc l ↔ y ∈ l ∨ y ∈ acc
  | [], acc => by simp [foldA]
  | x :: l, acc => by
    have := mem_foldA y l (addF x acc)
    show y ∈ foldA (addF x acc) l ↔ _
    rw [this, mem_addF]
    simp only [List.mem_cons]
    constructor
    · rintro (h | h | h)
      · exact .inl (.inr h)
      · exact .inl (.inl h)
      · exact .inr h
    · rintro ((h | h) | h)
      · exact .inr (.inl h)
      · exact .inl h
      · exact .inr (.inr h)
theorem foldA_rising : ∀ (l acc : List PFact), Rising acc → Rising (foldA acc l)
  | [], _, h => h
  | x :: l, acc, h => foldA_rising l (addF x acc) (addF_rising x acc h)
theorem foldA_of (l : List PFact) : foldA [] l = ofF l :=
  rising_ext (foldA_rising l [] List.Pairwise.nil) (ofF_rising l) fun x => by rw [mem_foldA, mem_ofF]; simp
theorem foldA_both (a b : List PFact) : foldA (ofF a) b = joinF a b :=
  rising_ext (foldA_rising b _ (ofF_rising a)) (ofF_rising _) fun x => by
    show x ∈ foldA (ofF a) b ↔ x ∈ ofF (a ++ b)
    rw [mem_foldA, mem_ofF, mem_ofF, List.mem_append]
    exact Or.comm

attribute [local go_sem ↓] Go.wp_at_zero Go.wp_at_succ
set_option maxRecDepth 100000 in
set_option maxHeartbeats 4000000 in
theorem ofRef {S : Nat → Prop} (v : Value) (l : List PFact) (w : World) (h : RdFacts S w v l) (n1 : l.length ≤ 536870912) (n2 : ∀ x ∈ l, x.args.length ≤ 1073741824) :
    Calls Try.prog 48 #[v] w fun e w' => (∃ v', e = .returned v' ∧ RdFacts (fun _ => True) w' v' (ofF l)) ∧ Below w.heap.size w w' := by
  rw [← foldA_of l]
  obtain ⟨a, c, rfl, -, -, -⟩ := id h.form
  have H := Lib.hid h
  have N2 := Lib.hid n2
  clear h n2
  go_enter Try.func48, Try.ntmps48
  go_wp2
  go_loopw [8, 3] (fun i v wr => ∃ k : Nat, k ≤ l.length ∧ i = .int .i64 k ∧ Hid (RdFacts (fun _ => True) wr v (foldA [] (l.take k))) ∧ Hid (Below w.heap.size w wr)) (fun i _ _ => l.length - (intOf i).toNat)
  case atStart => exact ⟨0, Nat.zero_le _, rfl, RdSlice.nothing (Nat.zero_le _) (fun _ => rfl), Below.refl _ _⟩
  case round =>
    obtain ⟨k, hk, rfl, HR, HB⟩ := hrel
    by_cases hlt : k < l.length
    · obtain ⟨x, hx⟩ : ∃ x, l[k]? = some x := ⟨_, List.getElem?_eq_getElem hlt⟩
      have hn2 : x.args.length ≤ 1073741824 := N2.out x (List.mem_of_getElem? hx)
      obtain ⟨b1, o1, av, rfl, -, -, hc1, hc2, hav⟩ := RdFacts.at ((H.out.more RFact.steady (S' := fun _ => True) (fun _ _ _ => trivial)).agree RFact.steady (Below.agree HB.out)) hx
      obtain ⟨va, vc, rfl, -, -, -⟩ := id HR.out.form
      obtain ⟨aa, ac, rfl, -, -, -⟩ := id hav.form
      have HT := Lib.hid (show foldA [] (l.take (k + 1)) = addF x (foldA [] (l.take k)) by rw [List.take_add_one, hx]; exact foldA_snoc [] (l.take k) x)
      have hsz := HB.out.size
      have HLL := Lib.hid (show (foldA [] (l.take k)).length ≤ 1073741824 by have := foldA_length [] (l.take k); rw [List.length_take] at this; simp at this; omega)
      have HM := Lib.hid (show ∀ y ∈ foldA [] (l.take k), y.args.length ≤ 1073741824 from fun y hy => N2.out y (List.mem_of_mem_take (((mem_foldA y (l.take k) []).1 hy).elim id (fun h => by simp at h))))
      have K := Lib.hid (addRef (.slice va (foldA [] (l.take k)).length vc) (.slice aa x.args.length ac) (foldA [] (l.take k)) x (wr.alloc (.cells #[.string x.name, .slice aa x.args.length ac] 57)) (HR.out.agree RFact.steady ((Agree.refl _ _).alloc _)) (hav.agree RStr.steady ((Agree.refl _ _).alloc _)) HLL.out HM.out hn2)
      clear hav hx
      go_wp2_with (go_at_call 104; refine (K.out).mono ?_; rintro e w1 ⟨⟨v1, rfl, hr1⟩, hb1⟩; have HR1 := Lib.hid (show RdFacts (fun _ => True) w1 v1 (foldA [] (l.take (k + 1))) by rw [HT.out]; exact hr1); have HB1 := Lib.hid ((HB.out.alloc hsz _).trans (hb1.mono (by simp; omega))); clear hr1 hb1)
      go_wp2
      go_roundw
      case rel => exact ⟨k + 1, by omega, by go_num, HR1, HB1⟩
      case measure => simp [intOf]; omega
    · have htk : l.take k = l := List.take_of_length_le (by omega)
      rw [htk] at HR
      clear htk
      go_wp2
      go_ret
      exact ⟨⟨_, rfl, HR.out⟩, HB.out⟩

attribute [local go_sem ↓] Go.wp_at_zero Go.wp_at_succ
set_option maxRecDepth 100000 in
set_option maxHeartbeats 4000000 in
theorem bothRef {S S2 : Nat → Prop} (v0 v : Value) (l0 l : List PFact) (w : World) (h0 : RdFacts S2 w v0 l0) (h : RdFacts S w v l) (n0 : l0.length ≤ 536870912) (n1 : l.length ≤ 536870912) (n3 : ∀ x ∈ l0, x.args.length ≤ 1073741824) (n2 : ∀ x ∈ l, x.args.length ≤ 1073741824) :
    Calls Try.prog 50 #[v0, v] w fun e w' => (∃ v', e = .returned v' ∧ RdFacts (fun _ => True) w' v' (joinF l0 l)) ∧ Below w.heap.size w w' := by
  rw [← foldA_both l0 l]
  obtain ⟨a, c, rfl, -, -, -⟩ := id h.form
  have H := Lib.hid h
  have N2 := Lib.hid n2
  clear h n2
  have K0 := Lib.hid (ofRef v0 l0 w h0 n0 n3)
  have N3 := Lib.hid (show ∀ x ∈ ofF l0, x.args.length ≤ 1073741824 from fun x hx => n3 x ((mem_ofF x l0).1 hx))
  have HL0 := Lib.hid (show (ofF l0).length ≤ 536870912 by have := foldA_length [] l0; rw [foldA_of] at this; simp at this; omega)
  clear h0 n3
  generalize ofF l0 = m at *
  go_enter Try.func50, Try.ntmps50
  go_wp2_with (go_at_call 48; refine (K0.out).mono ?_; rintro e w0 ⟨⟨v0, rfl, hr0⟩, hb0⟩; have HR0 := Lib.hid hr0; have HB0 := Lib.hid hb0; clear hr0 hb0)
  go_loopw [12, 5] (fun i v wr => ∃ k : Nat, k ≤ l.length ∧ i = .int .i64 k ∧ Hid (RdFacts (fun _ => True) wr v (foldA m (l.take k))) ∧ Hid (Below w.heap.size w wr)) (fun i _ _ => l.length - (intOf i).toNat)
  case atStart => exact ⟨0, Nat.zero_le _, rfl, HR0, HB0⟩
  case round =>
    obtain ⟨k, hk, rfl, HR, HB⟩ := hrel
    by_cases hlt : k < l.length
    · obtain ⟨x, hx⟩ : ∃ x, l[k]? = some x := ⟨_, List.getElem?_eq_getElem hlt⟩
      have hn2 : x.args.length ≤ 1073741824 := N2.out x (List.mem_of_getElem? hx)
      obtain ⟨b1, o1, av, rfl, -, -, hc1, hc2, hav⟩ := RdFacts.at ((H.out.more RFact.steady (S' := fun _ => True) (fun _ _ _ => trivial)).agree RFact.steady (Below.agree HB.out)) hx
      obtain ⟨va, vc, rfl, -, -, -⟩ := id HR.out.form
      obtain ⟨aa, ac, rfl, -, -, -⟩ := id hav.form
      have HT := Lib.hid (show foldA m (l.take (k + 1)) = addF x (foldA m (l.take k)) by rw [List.take_add_one, hx]; exact foldA_snoc m (l.take k) x)
      have hsz := HB.out.size
      have HLL := Lib.hid (show (foldA m (l.take k)).length ≤ 1073741824 by have h1 := foldA_length m (l.take k); have h2 := HL0.out; have h3 : (l.take k).length ≤ l.length := (by rw [List.length_take]; exact Nat.min_le_right _ _); omega)
      have HM := Lib.hid (show ∀ y ∈ foldA m (l.take k), y.args.length ≤ 1073741824 from fun y hy => ((mem_foldA y (l.take k) m).1 hy).elim (fun h => N2.out y (List.mem_of_mem_take h)) (N3.out y))
      have K := Lib.hid (addRef (.slice va (foldA m (l.take k)).length vc) (.slice aa x.args.length ac) (foldA m (l.take k)) x (wr.alloc (.cells #[.string x.name, .slice aa x.args.length ac] 57)) (HR.out.agree RFact.steady ((Agree.refl _ _).alloc _)) (hav.agree RStr.steady ((Agree.refl _ _).alloc _)) HLL.out HM.out hn2)
      clear hav hx
      go_wp2_with (go_at_call 104; refine (K.out).mono ?_; rintro e w1 ⟨⟨v1, rfl, hr1⟩, hb1⟩; have HR1 := Lib.hid (show RdFacts (fun _ => True) w1 v1 (foldA m (l.take (k + 1))) by rw [HT.out]; exact hr1); have HB1 := Lib.hid ((HB.out.alloc hsz _).trans (hb1.mono (by simp; omega))); clear hr1 hb1)
      go_wp2
      go_roundw
      case rel => exact ⟨k + 1, by omega, by go_num, HR1, HB1⟩
      case measure => simp [intOf]; omega
    · have htk : l.take k = l := List.take_of_length_le (by omega)
      rw [htk] at HR
      clear htk
      go_wp2
      go_ret
      exact ⟨⟨_, rfl, HR.out⟩, HB.out⟩
end Go.Proofs.Ytgdokncccldgiaa
