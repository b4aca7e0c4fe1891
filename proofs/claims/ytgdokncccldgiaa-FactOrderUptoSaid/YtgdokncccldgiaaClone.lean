/-
  THE WALKS OF slices.Clone at texts and of fact.Own: a copy in new memory.
-/
import Derived.Test.YtgdokncccldgiaaOwn
namespace Go.Proofs.Ytgdokncccldgiaa
open Go.RowKit

theorem rowStrs : RowT Try.prog 34 9 1 := RowT.mk' (b := 16) (z := .string ⟨#[]⟩) Try.underlying34 (by kernel_rfl) (by omega) rfl (by omega)
theorem rowFacts : RowT Try.prog 55 57 2 := RowT.mk' (b := 40) (z := .agg #[.string ⟨#[]⟩, .slice none 0 0]) Try.underlying55 (by kernel_rfl) (by omega) rfl (by omega)

set_option maxHeartbeats 400000 in
theorem cloneStr {S : Nat → Prop} (v : Value) (l : List Str) (w : World) (h : RdStrs S w v l) (n1 : l.length ≤ 1073741824) :
    Calls Try.prog 100 #[v] w fun e w' => (∃ v', e = .returned v' ∧ RdStrs (New w) w' v' l) ∧ Below w.heap.size w w' := by
  obtain ⟨a, c, rfl, -, -, hnil⟩ := id h.form
  have heq := fun (w : World) (n c n' c' : Nat) => Lib.run_eql_slice_nil (P := Try.prog) w 34 9 a n c n' c' Try.underlying34
  cases a with
  | none =>
    have hl : l = [] := by
      cases l with
      | nil => rfl
      | cons x r =>
        obtain ⟨b, o, ha, _⟩ := h.at (i := 0) (x := x) rfl
        cases ha
    subst hl
    obtain rfl := hnil rfl
    clear h hnil
    go_enter Try.func100, Try.ntmps100
    go_wp2
    go_ret
    exact ⟨⟨_, rfl, (Owned.nil (B := w.heap.size) (e := 0) (S := fun _ => False) (R := RStr)).read RStr.steady |>.more RStr.steady (fun b hb _ => hb.elim False.elim id)⟩, Below.refl _ _⟩
  | some ad =>
    clear hnil
    have H := Lib.hid h
    clear h
    go_enter Try.func100, Try.ntmps100
    go_wp2_with (at_builtin; refine wpList_append_many (B := w.heap.size) (e := 9) (S := fun _ => False) (by rfl) _ _ 34 (by rfl) RStr.steady RStr.one rowStrs _ [] (by rfl) (Owned.made (w := w) (cur := #[]) (cap := 0) (Nat.le_refl _) (Nat.zero_le _) rfl) _ l (by rfl) (H.out.agree RStr.steady (Agree.alloc (Agree.refl _ _) _)) (fun _ _ h => h) ?hl ?hb ?_)
    case hl => simp; omega
    case hb => simp
    · intro v' w' hown hg hat
      try rw [List.nil_append] at hown
      have hown' := Lib.hid hown
      have hg' := Lib.hid hg
      clear hown hg hat
      go_wp2
      go_ret
      refine ⟨⟨_, rfl, (hown'.out.read RStr.steady).more RStr.steady (fun b hb _ => hb.elim False.elim id)⟩, ?_⟩
      exact (((Below.refl _ _).alloc (Nat.le_refl _) _).grown hg'.out (by simp) (fun k hk => by cases hk; exact Nat.le_refl _))

/-- A fact whose args were made behind the row's last block. -/
theorem RFact.fresh {B : Nat} {w W1 w1 w2 : World} {v v1 : Value} {l : List PFact} {x : PFact} (hown : Owned 2 RFact B 57 (fun b => B ≤ b) w v l) (hB : B ≤ w.heap.size) (hle : w.heap.size ≤ W1.heap.size) (hr1 : RdStrs (New W1) w1 v1 x.args) (ha : Agree (New W1) w1 w2) :
    RFact (fun b => B ≤ b ∧ some b ≠ v.ownBlock) w2 [.string x.name, v1] x :=
  ⟨v1, rfl, (hr1.agree RStr.steady ha).more RStr.steady fun b hb _ => ⟨by omega, fun e => by have := (hown.row_lt e.symm).2; omega⟩⟩

attribute [local go_sem ↓] Go.wp_at_zero Go.wp_at_succ
set_option maxRecDepth 100000 in
set_option maxHeartbeats 2000000 in
theorem ownCalls {S : Nat → Prop} (v : Value) (l : List PFact) (w : World) (h : RdFacts S w v l) (n1 : l.length ≤ 1073741824) (n2 : ∀ x ∈ l, x.args.length ≤ 1073741824) :
    Calls Try.prog 46 #[v] w fun e w' => (∃ v', e = .returned v' ∧ Owned 2 RFact w.heap.size 57 (New w) w' v' l) ∧ Below w.heap.size w w' := by
  obtain ⟨a, c, rfl, -, -, -⟩ := id h.form
  have H := Lib.hid h
  have N2 := Lib.hid n2
  clear h n2
  go_enter Try.func46, Try.ntmps46
  go_wp2
  go_loopw [8, 3] (fun i v wr => ∃ k : Nat, k ≤ l.length ∧ i = .int .i64 k ∧ Owned 2 RFact w.heap.size 57 (New w) wr v (l.take k) ∧ Below w.heap.size w wr) (fun i _ _ => l.length - (intOf i).toNat)
  case atStart => exact ⟨0, Nat.zero_le _, rfl, Owned.nil, Below.refl _ _⟩
  case round =>
    obtain ⟨k, hk, rfl, hown, hb⟩ := hrel
    by_cases hlt : k < l.length
    · obtain ⟨x, hx⟩ : ∃ x, l[k]? = some x := ⟨_, List.getElem?_eq_getElem hlt⟩
      have hn2 : x.args.length ≤ 1073741824 := N2.out x (List.mem_of_getElem? hx)
      obtain ⟨b1, o1, av, rfl, -, -, hc1, hc2, hav⟩ := RdFacts.at (H.out.agree RFact.steady (Below.agree hb)) hx
      obtain ⟨aa, ac, rfl, -, -, -⟩ := id hav.form
      have htk : l.take (k + 1) = l.take k ++ [x] := by rw [List.take_add_one, hx]; rfl
      have HT := Lib.hid htk
      have hsz := hb.size
      have HB := Lib.hid hb
      have HO := Lib.hid hown
      have HA := Lib.hid hav
      have hlk : (l.take k).length = k := by rw [List.length_take]; omega
      have HL := Lib.hid hlk
      clear hb hown hav hx htk hlk
      go_wp2_with fail
      go_region_held3 (fun w' => w'.cell? ⟨wr.heap.size, 0, none⟩ = some (.string x.name) ∧ w'.cell? ⟨wr.heap.size, 1, none⟩ = some (.slice aa x.args.length ac))
        (first
          | (refine ⟨?_, ?_⟩ <;> (rw [hk2]; simp))
          | (refine ⟨?_, ?_⟩ <;> (rw [hb1.cell (by simp)]; simp))
          | go_keep)
        (first
          | (go_at_call 100; refine (cloneStr _ x.args _ (HA.out.agree RStr.steady (((Agree.refl _ _).alloc _).drew)) hn2).mono ?_; rintro e w1 ⟨⟨v1, rfl, hr1⟩, hb1⟩; obtain ⟨a1, c1, rfl, -, -, -⟩ := id hr1.form)
          | (refine step_append_one (by rfl) _ _ 55 (by rfl) RFact.steady rowFacts _ (l.take k) (by rfl) ((((HO.out.alloc RFact.steady _).drew RFact.steady).below RFact.steady hb1).alloc RFact.steady _) _ 1 #[.string x.name, .slice a1 x.args.length c1] 57 (0, 0) x (by rfl) (heap_alloc_new _ _) rfl (by simp [Value.oneCell']) (RFact.fresh HO.out hsz (by simp) hr1 ((Agree.refl _ _).alloc _)) (by rw [HL.out]; omega) (by have := hb1.size; simp at this ⊢; omega) ?_; intro v2 w2 hown2 hg2 hat2; have hk2 := fun off => kept_cell (c := wr.heap.size) hb1 hg2 (by simp) (fun e => by have := (HO.out.row_lt e).2; omega) off))
      rw [← HT.out] at hown2
      have hB2 : Below w.heap.size w w2 := ((((HB.out.alloc hsz _).drew.trans (hb1.mono (by simp; omega))).alloc (by have := hb1.size; simp at this ⊢; omega) _).grown hg2 (by have := hb1.size; simp at this ⊢; omega) (fun q hq => (HO.out.row_lt hq).1))
      have HO2 := Lib.hid hown2
      have HB2 := Lib.hid hB2
      clear hown2 hB2 hg2 hat2 hk2 hb1 hr1
      go_wp2
      go_roundw
      case rel => exact ⟨k + 1, by omega, by go_num, HO2.out, HB2.out⟩
      case measure => simp [intOf]; omega
    · have htk : l.take k = l := List.take_of_length_le (by omega)
      rw [htk] at hown
      have HO := Lib.hid hown
      have HB := Lib.hid hb
      clear hown hb htk
      go_wp2
      go_ret
      exact ⟨⟨_, rfl, HO.out⟩, HB.out⟩
end Go.Proofs.Ytgdokncccldgiaa
