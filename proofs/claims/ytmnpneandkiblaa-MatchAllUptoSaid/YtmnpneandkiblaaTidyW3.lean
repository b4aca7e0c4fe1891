/-
  THE WALKS OF slices.Equal AT BINDS AND match.tidy$3.
-/
import Derived.Test.YtmnpneandkiblaaTidyW2
import Derived.Deep.QuietTactic
import Derived.BigQuiet
import Derived.Laws.StructEq
namespace Go.Proofs.Ytmnpneandkiblaa
open Go.RowKit

set_option maxRecDepth 100000 in
theorem neqBind (x y : PBind) (w : World) : (binOp .neq 34 (.agg #[.string x.var, .string x.name]) (.agg #[.string y.var, .string y.name])).run Try.prog w = .ok (.bool (!((x.var.toList == y.var.toList) && (x.name.toList == y.name.toList)))) w := by
  have hp : Try.prog.stoodInHeld 34 = false := by kernel_rfl
  have hf : Try.prog.fieldsOf 34 = (match Try.prog.underlying 34 with | some (.struct fs) => fs | _ => #[]) := rfl
  rw [Try.underlying34] at hf
  have hu : Try.prog.underlying 34 = some (.struct (Try.prog.fieldsOf 34)) := by rw [hf]; exact Try.underlying34
  simp only [binOp]
  cases h1 : (x.var.toList == y.var.toList) <;> cases h2 : (x.name.toList == y.name.toList) <;>
    simp [Op.equal, Op.maxDepth, run_equalIn_struct w 9999 _ _ _ hu hp, hf, go_sem, h1, h2]
theorem neqBind_same (x : PBind) (w : World) : (binOp .neq 34 (.agg #[.string x.var, .string x.name]) (.agg #[.string x.var, .string x.name])).run Try.prog w = .ok (.bool false) w := by
  rw [neqBind]; simp
theorem neqBind_other {x y : PBind} (h : x ≠ y) (w : World) : (binOp .neq 34 (.agg #[.string x.var, .string x.name]) (.agg #[.string y.var, .string y.name])).run Try.prog w = .ok (.bool true) w := by
  rw [neqBind, beq_toList, beq_toList]
  obtain ⟨xv, xn⟩ := x
  obtain ⟨yv, yn⟩ := y
  by_cases h1 : xv = yv
  · by_cases h2 : xn = yn
    · exact absurd (by rw [h1, h2]) h
    · simp [h2]
  · simp [h1]
theorem Fresh.drewN {w w' : World} (h : Fresh w w') (n : Nat) : Fresh w (w'.drewN n) := by
  obtain ⟨q, os, rfl⟩ := h
  exact ⟨q + n, os, by simp [Sort.grow, World.drewN, Nat.add_assoc]⟩

set_option maxRecDepth 100000 in
set_option maxHeartbeats 4000000 in
theorem equalBinds {S T : Nat → Prop} (va vb : Value) (a b : Binds) (w : World) (ha : RdBinds S w va a) (hb : RdBinds T w vb b) (n1 : a.length ≤ 1073741824) (n2 : b.length ≤ 1073741824) :
    Calls Try.prog 50 #[va, vb] w fun e w' => e = .returned (.bool (decide (a = b))) ∧ Fresh w w' := by
  obtain ⟨aa, ac, rfl, -, -, -⟩ := id ha.form
  obtain ⟨ba, bc, rfl, -, -, -⟩ := id hb.form
  have HA := Lib.hid ha
  have HB := Lib.hid hb
  clear ha hb
  by_cases hl : a.length = b.length
  case neg =>
    have HE := Lib.hid (show decide (a = b) = false from decide_eq_false fun e => hl (by rw [e]))
    have i1 : ¬ (a.length : Int) = (b.length : Int) := by omega
    clear hl
    go_enter Try.func50, Try.ntmps50
    go_wp2
    go_ret
    exact ⟨ret_bool HE.out.symm, Fresh.refl _⟩
  have HLE := Lib.hid hl
  obtain ⟨n, hn⟩ : ∃ n, b.length = n := ⟨_, rfl⟩
  rw [hn] at hl
  rw [hl] at HA n1 ⊢
  rw [hn] at HB ⊢
  have HNA := Lib.hid hl
  have HNB := Lib.hid hn
  clear hl hn n2
  go_enter Try.func50, Try.ntmps50
  go_wp2
  go_loopw [13, 5] (fun i _ wr => ∃ k : Nat, k ≤ n ∧ i = .int .i64 k ∧ Hid (a.take k = b.take k) ∧ Hid (Fresh w wr)) (fun i _ _ => n - (intOf i).toNat)
  case atStart => exact ⟨0, Nat.zero_le _, rfl, Lib.hid rfl, Lib.hid (Fresh.refl _)⟩
  case round =>
    obtain ⟨k, hk, rfl, HR, HF⟩ := hrel
    by_cases hlt : k < n
    · obtain ⟨x, hx⟩ : ∃ x, a[k]? = some x := ⟨_, List.getElem?_eq_getElem (by have := HNA.out; omega)⟩
      obtain ⟨y, hy⟩ : ∃ y, b[k]? = some y := ⟨_, List.getElem?_eq_getElem (by have := HNB.out; omega)⟩
      obtain ⟨b1, o1, rfl, -, -, d0, d1⟩ := RdBinds.at (HA.out.up HF.out.below) hx
      obtain ⟨b2, o2, rfl, -, -, f0, f1⟩ := RdBinds.at (HB.out.up HF.out.below) hy
      have j0 : (0 : Int) ≤ (k : Int) := by omega
      have j1 : (k : Int) < (n : Int) := by omega
      have j2 : IntKind.i64.wrap (k : Int) = k := by rw [IntKind.wrap_i64]; omega
      by_cases hxy : x = y
      · have HR1 := Lib.hid (show a.take (k + 1) = b.take (k + 1) by rw [List.take_add_one, List.take_add_one, hx, hy, HR.out, hxy])
        have hne := neqBind_same x
        subst hxy
        clear hx hy HR
        go_wp2_with fail
        go_quiet (fail)
        go_wp2
        go_roundw
        case rel => exact ⟨k + 1, by omega, by go_num, HR1, Lib.hid (HF.out.drewN _)⟩
        case measure => simp [intOf]; omega
      · have HE := Lib.hid (show decide (a = b) = false from decide_eq_false fun e => hxy (by rw [e, hy] at hx; exact (Option.some.inj hx).symm))
        have hne := neqBind_other hxy
        clear hx hy HR hxy
        go_wp2_with fail
        go_quiet (fail)
        go_wp2
        go_ret
        exact ⟨ret_bool HE.out.symm, HF.out.drewN _⟩
    · have HE := Lib.hid (show decide (a = b) = true from decide_eq_true (by have := HR.out; rwa [List.take_of_length_le (by have := HNA.out; omega), List.take_of_length_le (by have := HNB.out; omega)] at this))
      go_wp2
      go_ret
      exact ⟨ret_bool HE.out.symm, HF.out⟩

theorem tidy3Calls {S T : Nat → Prop} (va vb : Value) (a b : Binds) (w : World) (ha : RdBinds S w va a) (hb : RdBinds T w vb b) (n1 : a.length ≤ 1073741824) (n2 : b.length ≤ 1073741824) :
    Calls Try.prog 49 #[va, vb] w fun e w' => e = .returned (.bool (decide (a = b))) ∧ Fresh w w' := by
  have K := Lib.hid (equalBinds va vb a b w ha hb n1 n2)
  obtain ⟨aa, ac, rfl, -, -, -⟩ := id ha.form
  obtain ⟨ba, bc, rfl, -, -, -⟩ := id hb.form
  clear ha hb
  go_enter Try.func49, Try.ntmps49
  go_wp2_with (go_at_call 50; refine (K.out).mono ?_; rintro e w1 ⟨rfl, hf1⟩; have HF := Lib.hid hf1; clear hf1)
  go_ret
  exact ⟨rfl, HF.out⟩
end Go.Proofs.Ytmnpneandkiblaa
