/-
  THE WALKS OF cororef4.LessBinds, SameBinds (where both are the same).
-/
import Derived.Test.YtiiicochdidolaaGreatPk10
import Derived.Test.YtiiicochdidolaaGreatPk12
namespace Go.Proofs.YtiiicochdidolaaGreat
open Go.RowKit
theorem cmpStr_neg (x y : Str) : decide (cmpStr x y < 0) = strLt x y := by
  unfold cmpStr
  cases h : strLt x y
  · rw [if_neg (by simp)]; split <;> simp
  · rw [if_pos rfl]; simp
theorem cmpBind_neg (x y : PBind) : decide (cmpBind x y < 0) = (strLt x.var y.var || (decide (x.var = y.var) && strLt x.name y.name)) := by
  rw [cmpBind_eq]
  by_cases h : x.var = y.var
  · rw [h, if_neg (by simp [cmpStr3.self]), cmpStr_neg, strLt_irrefl]; simp
  · rw [if_pos (cmpStr3.ne_zero h), cmpStr_neg]; simp [h]
set_option maxRecDepth 100000 in
set_option maxHeartbeats 8000000 in
theorem lessBindsRef {S T : Nat → Prop} (va vb : Value) (a b : Binds) (w : World) (ha : RdBinds S w va a) (hb : RdBinds T w vb b) (n1 : a.length ≤ 1073741824) (_n2 : b.length ≤ 1073741824) :
    Calls Tryz.prog 28 #[va, vb] w fun e w' => e = .returned (.bool (decide (cmpBinds a b < 0))) ∧ Fresh w w' := by
  obtain ⟨aa, ac, rfl, -, -, -⟩ := id ha.form
  obtain ⟨ba, bc, rfl, -, -, -⟩ := id hb.form
  have HA := Lib.hid ha
  have HB := Lib.hid hb
  clear ha hb
  go_enter Tryz.func28, Tryz.ntmps28
  go_wp2
  go_loopw [8, 5] (fun i _ wr => ∃ k : Nat, k ≤ a.length ∧ k ≤ b.length ∧ i = .int .i64 k ∧ Hid (cmpBinds a b = cmpLst cmpBind (a.drop k) (b.drop k)) ∧ Hid (Fresh w wr)) (fun i _ _ => a.length - (intOf i).toNat)
  case atStart => exact ⟨0, Nat.zero_le _, Nat.zero_le _, rfl, Lib.hid rfl, Lib.hid (Fresh.refl _)⟩
  case round =>
    obtain ⟨k, hk, hk2, rfl, HR, HF⟩ := hrel
    by_cases hlt : k < a.length
    · obtain ⟨x, hx⟩ : ∃ x, a[k]? = some x := ⟨_, List.getElem?_eq_getElem hlt⟩
      obtain ⟨b1, o1, rfl, -, -, d0, d1⟩ := RdBinds.at (HA.out.up HF.out.below) hx
      by_cases hlt2 : k < b.length
      · obtain ⟨y, hy⟩ : ∃ y, b[k]? = some y := ⟨_, List.getElem?_eq_getElem hlt2⟩
        obtain ⟨b2, o2, rfl, -, hbb, f0, f1⟩ := RdBinds.at (HB.out.up HF.out.below) hy
        have HD := Lib.hid (show cmpBinds a b = if cmpBind x y ≠ 0 then cmpBind x y else cmpLst cmpBind (a.drop (k + 1)) (b.drop (k + 1)) by rw [HR.out, drop_cons hx, drop_cons hy]; rfl)
        have i1 : ¬ (b.length : Int) ≤ (k : Int) := by omega
        have j0 : (0 : Int) ≤ (k : Int) := by omega
        have j1 : (k : Int) < (b.length : Int) := by omega
        have j3 : (k : Int) < (a.length : Int) := by omega
        have j2 : IntKind.i64.wrap (k : Int) = k := by rw [IntKind.wrap_i64]; omega
        clear hx hy HR
        by_cases hxy : x = y
        · have HD1 := Lib.hid (show cmpBinds a b = cmpLst cmpBind (a.drop (k + 1)) (b.drop (k + 1)) by rw [HD.out, if_neg (by simp [hxy, cmpBind3.self])])
          have hne := neqBind_same x
          subst hxy
          clear HD
          go_wp2_with fail
          go_quiet (fail)
          go_wp2
          go_roundw
          case rel => exact ⟨k + 1, by omega, by omega, by go_num, HD1, Lib.hid (HF.out.drewN _)⟩
          case measure => simp [intOf]; omega
        · have HE := Lib.hid (show decide (cmpBinds a b < 0) = (strLt x.var y.var || (decide (x.var = y.var) && strLt x.name y.name)) by
            rw [← cmpBind_neg, HD.out, if_pos (cmpBind3.ne_zero hxy)])
          have hne := neqBind_other hxy
          clear HD hxy
          have g1 : Op.bytesLess x.var.toList y.var.toList = strLt x.var y.var := rfl
          have g2 : (x.var.toList == y.var.toList) = decide (x.var = y.var) := beq_toList _ _
          have g3 : Op.bytesLess x.name.toList y.name.toList = strLt x.name y.name := rfl
          generalize strLt x.var y.var = p1 at *
          generalize decide (x.var = y.var) = p2 at *
          generalize strLt x.name y.name = p3 at *
          cases p1 <;> cases p2
          all_goals
            go_wp2_with fail
            go_quiet (fail)
            go_wp2_with fail
            go_quiet (fail)
            go_wp2
            go_ret
            exact ⟨by rw [HE.out]; simp, (HF.out.drewN _).drewN _⟩
      · have i1 : (b.length : Int) ≤ (k : Int) := by omega
        have HE := Lib.hid (show decide (cmpBinds a b < 0) = false by rw [HR.out, drop_cons hx, drop_end (by omega : b.length ≤ k)]; rfl)
        clear hx HR
        go_wp2
        go_ret
        exact ⟨ret_bool HE.out.symm, HF.out⟩
    · by_cases hlt2 : a.length < b.length
      · have i1 : (a.length : Int) < (b.length : Int) := by omega
        obtain ⟨y, hy⟩ : ∃ y, b[k]? = some y := ⟨_, List.getElem?_eq_getElem (by omega)⟩
        have HE := Lib.hid (show decide (cmpBinds a b < 0) = true by rw [HR.out, drop_end (by omega : a.length ≤ k), drop_cons hy]; rfl)
        clear hy HR
        go_wp2
        go_ret
        exact ⟨by rw [HE.out]; simp, HF.out⟩
      · have i1 : ¬ (a.length : Int) < (b.length : Int) := by omega
        have HE := Lib.hid (show decide (cmpBinds a b < 0) = false by rw [HR.out, drop_end (by omega : a.length ≤ k), drop_end (by omega : b.length ≤ k)]; rfl)
        clear HR
        go_wp2
        go_ret
        exact ⟨by rw [HE.out]; simp, HF.out⟩
theorem RdBindss.at1 {S : Nat → Prop} {w : World} {a : Option Addr} {n cap : Nat} {l : List Binds} (h : RdBindss S w (.slice a n cap) l) {i : Nat} {x : Binds} (hx : l[i]? = some x) :
    ∃ b off v, a = some ⟨b, off, none⟩ ∧ S b ∧ b < w.heap.size ∧ w.cell? ⟨b, off + i, none⟩ = some v ∧ RdBinds S w v x := by
  obtain ⟨a', cap', hv, _, _, _, h3⟩ := h
  obtain ⟨b, off, cs, ha, hS, hb, hk, hc, v, hr, hq⟩ := h3 i x hx
  injection hv with e1 e2 e3
  subst e1
  subst hr
  exact ⟨b, off, v, ha, hS, hb, by simpa using hc 0 _ rfl, hq⟩
set_option maxRecDepth 100000 in
set_option maxHeartbeats 8000000 in
theorem sameBindsRef {S T : Nat → Prop} (va vb : Value) (l : List Binds) (w : World) (ha : RdBindss S w va l) (hb : RdBindss T w vb l) (n1 : l.length ≤ 1073741824) (n2 : ∀ x ∈ l, x.length ≤ 1073741824) :
    Calls Tryz.prog 11 #[va, vb] w fun e w' => e = .returned (.bool true) ∧ Fresh w w' := by
  obtain ⟨aa, ac, rfl, -, -, -⟩ := id ha.form
  obtain ⟨ba, bc, rfl, -, -, -⟩ := id hb.form
  have HA := Lib.hid ha
  have HB := Lib.hid hb
  have N2 := Lib.hid n2
  clear ha hb n2
  go_enter Tryz.func11, Tryz.ntmps11
  go_wp2
  go_loopw [13, 5] (fun i _ wr => ∃ k : Nat, k ≤ l.length ∧ i = .int .i64 k ∧ Hid (Fresh w wr)) (fun i _ _ => l.length - (intOf i).toNat)
  case atStart => exact ⟨0, Nat.zero_le _, rfl, Lib.hid (Fresh.refl _)⟩
  case round =>
    obtain ⟨k, hk, rfl, HF⟩ := hrel
    by_cases hlt : k < l.length
    · obtain ⟨x, hx⟩ : ∃ x, l[k]? = some x := ⟨_, List.getElem?_eq_getElem hlt⟩
      obtain ⟨b1, o1, u, rfl, -, hl1, d0, hu⟩ := RdBindss.at1 (HA.out.up HF.out.below) hx
      obtain ⟨b2, o2, v, rfl, -, hl2, f0, hv⟩ := RdBindss.at1 (HB.out.up HF.out.below) hx
      obtain ⟨ua, uc, rfl, -, -, -⟩ := id hu.form
      obtain ⟨xa, xc, rfl, -, -, -⟩ := id hv.form
      have nx := N2.out x (List.mem_of_getElem? hx)
      have e0 : decide (cmpBinds x x < 0) = false := by rw [cmpBinds3.self]; rfl
      have K1 := Lib.hid (fun W (hW : Fresh wr W) => (lessBindsRef (.slice ua x.length uc) (.slice xa x.length xc) x x W (hu.up hW.below) (hv.up hW.below) nx nx).mono (R' := fun e w' => e = .returned (.bool false) ∧ Fresh W w') fun e w' h => by rwa [e0] at h)
      have K2 := Lib.hid (fun W (hW : Fresh wr W) => (lessBindsRef (.slice xa x.length xc) (.slice ua x.length uc) x x W (hv.up hW.below) (hu.up hW.below) nx nx).mono (R' := fun e w' => e = .returned (.bool false) ∧ Fresh W w') fun e w' h => by rwa [e0] at h)
      have j0 : (0 : Int) ≤ (k : Int) := by omega
      have j1 : (k : Int) < (l.length : Int) := by omega
      have j2 : IntKind.i64.wrap (k : Int) = k := by rw [IntKind.wrap_i64]; omega
      clear hx hu hv nx e0
      have HFZ := Lib.hid (Fresh.refl wr).drew
      have T1 := Lib.hid True.intro
      go_wp2_with fail
      go_region_held3 (fun w' => w'.cell? ⟨b1, o1 + k, none⟩ = some (.slice ua x.length uc) ∧ w'.cell? ⟨b2, o2 + k, none⟩ = some (.slice xa x.length xc))
        (first | (refine ⟨?_, ?_⟩ <;> (first | (rw [hk3 _ hl1]; assumption) | (rw [hk3 _ hl2]; assumption))) | (refine ⟨?_, ?_⟩ <;> (first | (rw [hk2 _ hl1]; assumption) | (rw [hk2 _ hl2]; assumption))) | go_keep)
        (first
          | (go_at_call 28; clear T1; refine (K1.out _ HFZ.out).mono ?_; rintro e w2 ⟨rfl, hf2⟩; have HF2 := Lib.hid (HFZ.out.trans hf2); have hk2 : ∀ c, c < wr.heap.size → ∀ off, w2.cell? ⟨c, off, none⟩ = wr.cell? ⟨c, off, none⟩ := fun c hc off => cell_below HF2.out.below hc off)
          | (go_at_call 28; refine (K2.out _ HF2.out).mono ?_; rintro e w3 ⟨rfl, hf3⟩; have HF3 := Lib.hid (HF2.out.trans hf3); have hk3 : ∀ c, c < wr.heap.size → ∀ off, w3.cell? ⟨c, off, none⟩ = wr.cell? ⟨c, off, none⟩ := fun c hc off => cell_below HF3.out.below hc off))
      have HF4 := Lib.hid (HF.out.trans HF3.out)
      clear hf2 hf3 hk2 hk3 d0 f0
      go_wp2
      go_roundw
      case rel => exact ⟨k + 1, by omega, by go_num, HF4⟩
      case measure => simp [intOf]; omega
    · go_wp2
      go_ret
      exact ⟨rfl, HF.out⟩
end Go.Proofs.YtiiicochdidolaaGreat
