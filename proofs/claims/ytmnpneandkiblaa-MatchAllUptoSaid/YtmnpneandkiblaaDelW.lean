/-
  THE WALKS OF match.With$1, slices.IndexFunc AND slices.DeleteFunc AT LISTS OF BINDS.
-/
import Derived.Test.YtmnpneandkiblaaStepW
import Derived.Test.YtmnpneandkiblaaIn
namespace Go.Proofs.Ytmnpneandkiblaa
open Go.RowKit

def ptr0 (b : Nat) : Value := .pointer (some ⟨b, 0, none⟩)

set_option maxRecDepth 100000 in
set_option maxHeartbeats 4000000 in
theorem with1Calls {S S2 S3 : Nat → Prop} (a : PAtom) (tv : Value) (fs : List PFact) (fv : Value) (A L : Nat) (lv : Value) (l : Binds) (w : World)
    (a0 : Blk w A 38 #[.bool a.neg, .string a.name, tv]) (l0 : Blk w L 23 #[fv]) (ht : RdTerms S w tv a.terms) (hf : RdFacts S2 w fv fs) (hl : RdBinds S3 w lv l) (hr : Rising fs)
    (n1 : a.terms.length ≤ 1048576) (n2 : l.length ≤ 1073741824) (n3 : fs.length ≤ 1048576) (n4 : ∀ f ∈ fs, f.args.length ≤ 1048576) :
    Calls Try.prog 25 #[lv, .pointer (some ⟨A, 0, none⟩), .pointer (some ⟨L, 0, none⟩)] w fun e w' => e = .returned (.bool (hitP a fs l)) ∧ Below w.heap.size w w' := by
  obtain ⟨ta, tc, rfl, -, -, -⟩ := id ht.form
  obtain ⟨fa, fc, rfl, -, -, -⟩ := id hf.form
  obtain ⟨xa, xc, rfl, -, -, -⟩ := id hl.form
  have K := Lib.hid (fillCalls a (.slice ta a.terms.length tc) (.slice xa l.length xc) l w ht hl n1 n2)
  have c0 : w.cell? ⟨A, 0, none⟩ = some (.bool a.neg) := a0.cell 0
  have c1 : w.cell? ⟨A, 1, none⟩ = some (.string a.name) := a0.cell 1
  have c2 : w.cell? ⟨A, 2, none⟩ = some (.slice ta a.terms.length tc) := a0.cell 2
  have HL0 := Lib.hid l0
  have HF := Lib.hid hf
  have HR := Lib.hid hr
  have N4 := Lib.hid n4
  have HH := Lib.hid (show hitP a fs l = match fillP a l with | none => false | some f => memF f fs from rfl)
  clear ht hf hl a0 l0 hr n4
  cases hm : fillP a l with
  | none =>
    rw [hm] at HH
    have KN := Lib.hid ((K.out).mono (R' := fun e w' => e = .returned (.tuple #[.agg #[.string ⟨#[]⟩, .slice none 0 0], .bool false]) ∧ Below w.heap.size w w') fun e w' ⟨h1, h2⟩ => by rw [hm] at h2; exact ⟨h2, h1⟩)
    clear hm K
    go_enter Try.func25, Try.ntmps25
    go_wp2_with (go_at_call 11; refine (KN.out).mono ?_; rintro e w1 ⟨rfl, hb1⟩; have HB1 := Lib.hid hb1; clear hb1)
    go_ret
    exact ⟨ret_bool HH.out.symm, HB1.out.alloc (Below.size HB1.out) _⟩
  | some f =>
    rw [hm] at HH
    have HAL := Lib.hid (show f.args.length ≤ 1048576 by have := fillArgs_len (fillP_name hm).2; omega)
    have KN := Lib.hid ((K.out).mono (R' := fun e w' => (∃ v, e = .returned (.tuple #[.agg #[.string f.name, v], .bool true]) ∧ RdStrs (New w) w' v f.args) ∧ Below w.heap.size w w') fun e w' ⟨h1, h2⟩ => by rw [hm] at h2; exact ⟨h2, h1⟩)
    clear hm K
    go_enter Try.func25, Try.ntmps25
    go_wp2_with (first
      | (go_at_call 11; refine (KN.out).mono ?_; rintro e w1 ⟨⟨v1, rfl, hr1⟩, hb1⟩; obtain ⟨ga, gc, rfl, -, -, -⟩ := id hr1.form; have HB1 := Lib.hid hb1; have HR1 := Lib.hid hr1; have l1 : w1.cell? ⟨L, 0, none⟩ = some (.slice fa fs.length fc) := (HL0.out.below hb1 HL0.out.lt).cell 0; have hlt1 : L < w1.heap.size := Nat.lt_of_lt_of_le HL0.out.lt hb1.size; clear hb1 hr1)
      | (go_at_call 18; refine (inFact (.slice fa fs.length fc) fs f (.slice ga f.args.length gc) _ (HF.out.up (HB1.out.alloc (Below.size HB1.out) _)) (HR1.out.agree RStr.steady ((Agree.refl _ _).alloc _)) HR.out (by omega) (fun x hx => by have := N4.out x hx; omega)).mono ?_; rintro e w2 ⟨rfl, hf2⟩; have HB2 := Lib.hid ((HB1.out.alloc (Below.size HB1.out) (.cells #[.string f.name, .slice ga f.args.length gc] 41)).trans (hf2.below.mono (by have := Below.size HB1.out; simp; omega))); clear hf2))
    go_ret
    exact ⟨ret_bool HH.out.symm, HB2.out⟩
end Go.Proofs.Ytmnpneandkiblaa
