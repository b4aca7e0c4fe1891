/-
  corotop.TopCircle ALWAYS ANSWERS TRUE: rules whose heads hang on each other in a circle have strata just if none asks for that not to be so. For any arguments of ordinary size; without conditions.
-/
import Derived.Test.YtchgaofgeflbeaaGreatPk15
import Derived.Test.YtchgaofgeflbeaaGreatChecked
namespace Go.Proofs.YtchgaofgeflbeaaGreat
open Go.RowKit Go.ChangeShapes Go.WideShapes Go.Deep

theorem tn_size (k : Nat) : (tn k).size = 2 := rfl
theorem circ_step {n k : Nat} {l : List Bool} {b : Bool} {z : Str} (hk : l[k]? = some b) : circS n k (l.drop k) z = circS n (k + 1) (l.drop (k + 1)) ((((z ++ tn k) ++ ⟨#[32, 58, 45, 32]⟩) ++ nx b (tn ((k + 1) % n))) ++ ⟨#[46]⟩) := by
  rw [show l.drop k = b :: l.drop (k + 1) from List.drop_eq_getElem?_toList_append.trans (by rw [hk]; rfl)]
  rfl
theorem any_step {k : Nat} {l : List Bool} {b sm : Bool} (hk : l[k]? = some b) : (sm || (l.drop k).any id) = ((sm || b) || (l.drop (k + 1)).any id) := by
  rw [show l.drop k = b :: l.drop (k + 1) from List.drop_eq_getElem?_toList_append.trans (by rw [hk]; rfl), List.any_cons, Bool.or_assoc]
  rfl

attribute [local go_sem ↓] Go.wp_at_zero Go.wp_at_succ
set_option maxRecDepth 100000 in
set_option maxHeartbeats 8000000 in
theorem topCircleCalls {S : Nat → Prop} (l : List Bool) (v : Value) (w : World) (h : RdBools S w v l) (hn : l.length ≤ 1048576) :
    Calls Tryz.prog 3 #[v] w fun e w' => e = .returned (.bool true) ∧ Below w.heap.size w w' := by
  obtain ⟨a, c, rfl, -, -, -⟩ := id h.form
  have KA := Lib.hid (aliveTop w)
  have H := Lib.hid h
  clear h
  by_cases hb : l.length < 1 ∨ 8 < l.length
  · have hcs : (l.length : Int) < 1 ∨ ¬ (l.length : Int) < 1 ∧ (8 : Int) < l.length := by omega
    clear hb
    rcases hcs with h1 | ⟨h1, h2⟩
    all_goals
      go_enter Tryz.func3, Tryz.ntmps3
      go_wp2_with (go_at_call 5; refine (KA.out).mono ?_; rintro e w1 ⟨rfl, hb1⟩; have HB1 := Lib.hid hb1; clear hb1)
      go_ret
      exact ⟨rfl, HB1.out⟩
  have g0 : 1 ≤ l.length := by omega
  have g8 : l.length ≤ 8 := by omega
  have h1 : ¬ (l.length : Int) < 1 := by omega
  have h2 : ¬ (8 : Int) < l.length := by omega
  clear hb
  obtain ⟨st, q, hS, hA⟩ := circ_all g0 g8
  have hcb := circ_b g0 g8
  simp only [circB, Bool.and_eq_true, decide_eq_true_eq] at hcb
  obtain ⟨⟨⟨⟨hp, -⟩, hsz⟩, hrs⟩, hns⟩ := hcb
  have HS := Lib.hid hS
  have HA := Lib.hid hA
  have HP := Lib.hid hp
  have HSZ := Lib.hid hsz
  have HRS := Lib.hid (fun r hr => ruleSmall_of (List.all_eq_true.1 hrs r hr))
  have HNS := Lib.hid (fun r hr => nameSmall_of (List.all_eq_true.1 hns r hr))
  have HPL := Lib.hid (circP_len l.length 0 l)
  have HI0 := Lib.hid (show circS l.length 0 (l.drop 0) ⟨#[]⟩ = circS l.length 0 l ⟨#[]⟩ from rfl)
  have HM0 := Lib.hid (show (false || (l.drop 0).any id) = l.any id by simp)
  clear hS hA hp hsz hrs hns
  generalize circS l.length 0 l ⟨#[]⟩ = txt at *
  generalize circP l.length 0 l = p at *
  generalize l.any id = sm at *
  go_enter Tryz.func3, Tryz.ntmps3
  go_wp2_with (go_at_call 5; refine (KA.out).mono ?_; rintro e w1 ⟨rfl, hb1⟩; have HB1 := Lib.hid hb1; clear hb1)
  go_loopw [24, 3, 4] (fun i s m wr => ∃ (k : Nat) (z : Str) (b : Bool), k ≤ l.length ∧ i = .int .i64 k ∧ s = .string z ∧ m = .bool b ∧ Hid (circS l.length k (l.drop k) z = txt) ∧ Hid ((b || (l.drop k).any id) = sm) ∧ Hid (z.size ≤ 10 * k) ∧ Hid (Below w.heap.size w wr)) (fun i _ _ _ => l.length - (intOf i).toNat)
  case atStart => exact ⟨0, ⟨#[]⟩, false, Nat.zero_le _, rfl, rfl, rfl, HI0, HM0, Lib.hid (Nat.zero_le _), HB1⟩
  case round =>
    clear HI0 HM0 HB1
    obtain ⟨k, z, m, hk, rfl, rfl, rfl, HI, HM, HZ, HB⟩ := hrel
    by_cases hlt : k < l.length
    · obtain ⟨b, hb⟩ : ∃ b, l[k]? = some b := ⟨_, List.getElem?_eq_getElem hlt⟩
      obtain ⟨b1, o1, rfl, -, hbl, d1⟩ := RdBools.at (H.out.agree RBool.steady (Below.agree HB.out)) hb
      have HI1 := Lib.hid ((circ_step (n := l.length) (z := z) hb).symm.trans HI.out)
      have HM1 := Lib.hid ((any_step (sm := m) hb).symm.trans HM.out)
      have hmod : Int.tmod ((k : Int) + 1) (l.length : Int) = (((k + 1) % l.length : Nat) : Int) := by rw [show ((k : Int) + 1) = ((k + 1 : Nat) : Int) by omega]; exact rfl
      have hml : (k + 1) % l.length ≤ 8 := Nat.le_of_lt (Nat.lt_of_lt_of_le (Nat.mod_lt _ (by omega)) g8)
      have hn0 : ¬ ((l.length : Int) = 0) := by omega
      generalize (k + 1) % l.length = j at *
      clear hb
      have hz := HZ.out
      have ht1 := tn_size k
      have ht2 := tn_size j
      have q1 : ¬ (9223372036854775807 < z.size + (tn k).size) := by omega
      have q2 : ¬ (9223372036854775807 < z.size + (tn k).size + 4) := by omega
      cases b
      · have q3 : ¬ (9223372036854775807 < z.size + (tn k).size + 4 + (tn j).size) := by omega
        have q4 : ¬ (9223372036854775807 < z.size + (tn k).size + 4 + (tn j).size + 1) := by omega
        have HZ1 := Lib.hid (show ((((z ++ tn k) ++ ⟨#[32, 58, 45, 32]⟩) ++ tn j) ++ ⟨#[46]⟩ : Str).size ≤ 10 * (k + 1) by
          rw [ByteArray.size_append, ByteArray.size_append, ByteArray.size_append, ByteArray.size_append, ht1, ht2, show (⟨#[32, 58, 45, 32]⟩ : ByteArray).size = 4 from rfl, show (⟨#[46]⟩ : ByteArray).size = 1 from rfl]; omega)
        have HM2 := Lib.hid (show (m || (l.drop (k + 1)).any id) = sm by simpa using HM1.out)
        have T1 := Lib.hid True.intro
        clear hz ht1 ht2
        go_wp2_with (first
          | (go_at_call 6; have hh := HB3.out; clear hh; refine (townCalls k (by omega) _).mono ?_; rintro e w4 ⟨rfl, hb4⟩; have HB4 := Lib.hid (HB3.out.trans (hb4.mono HB3.out.size)); clear hb4)
          | (go_at_call 6; clear T1; refine (townCalls j hml _).mono ?_; rintro e w3 ⟨rfl, hb3⟩; have HB3 := Lib.hid (HB.out.trans (hb3.mono HB.out.size)); clear hb3))
        go_roundw
        case rel => exact ⟨k + 1, _, m, by omega, by go_num, rfl, rfl, HI1, HM2, HZ1, HB4⟩
        case measure => simp [intOf]; omega
      · have q0 : ¬ (9223372036854775807 < 1 + (tn j).size) := by omega
        have q3 : ¬ (9223372036854775807 < z.size + (tn k).size + 4 + (1 + (tn j).size)) := by omega
        have q4 : ¬ (9223372036854775807 < z.size + (tn k).size + 4 + (1 + (tn j).size) + 1) := by omega
        have HZ1 := Lib.hid (show ((((z ++ tn k) ++ ⟨#[32, 58, 45, 32]⟩) ++ ((⟨#[33]⟩ : Str) ++ tn j)) ++ ⟨#[46]⟩ : Str).size ≤ 10 * (k + 1) by
          rw [ByteArray.size_append, ByteArray.size_append, ByteArray.size_append, ByteArray.size_append, ByteArray.size_append, ht1, ht2, show (⟨#[32, 58, 45, 32]⟩ : ByteArray).size = 4 from rfl, show (⟨#[33]⟩ : ByteArray).size = 1 from rfl, show (⟨#[46]⟩ : ByteArray).size = 1 from rfl]; omega)
        have HM2 := Lib.hid (show (true || (l.drop (k + 1)).any id) = sm by simpa using HM1.out)
        have T1 := Lib.hid True.intro
        clear hz ht1 ht2
        go_wp2_with (first
          | (go_at_call 6; have hh := HB3.out; clear hh; refine (townCalls k (by omega) _).mono ?_; rintro e w4 ⟨rfl, hb4⟩; have HB4 := Lib.hid (HB3.out.trans (hb4.mono HB3.out.size)); clear hb4)
          | (go_at_call 6; clear T1; refine (townCalls j hml _).mono ?_; rintro e w3 ⟨rfl, hb3⟩; have HB3 := Lib.hid (HB.out.trans (hb3.mono HB.out.size)); clear hb3))
        go_roundw
        case rel => exact ⟨k + 1, _, true, by omega, by go_num, rfl, rfl, HI1, HM2, HZ1, HB4⟩
        case measure => simp [intOf]; omega
    · have hdk : l.drop k = [] := List.drop_eq_nil_of_le (by omega)
      rw [hdk] at HI HM
      have hz : z = txt := HI.out
      have hm : m = sm := by simpa using HM.out
      have hpl : p.length ≤ 1048576 := by rw [HPL.out]; omega
      subst hz
      subst hm
      clear HI HM HZ hdk
      have T2 := Lib.hid True.intro
      cases m
      all_goals
        go_wp2_with (first
          | (go_at_call 8; have hh := HR2.out; clear hh; refine (naiveKnown (r := []) (n := 0) rfl HS.out HA.out (HR2.out.up ((Below.refl _ _).alloc (Nat.le_refl _) _)) (RdFacts.nil (S := fun _ => True)) hpl HRS.out HNS.out (by decide) (by simp)).mono ?_; rintro e w3 ⟨⟨a3, c3, rfl, hr3⟩, hb3⟩; have HB3 := Lib.hid ((HB2.out.alloc HB2.out.size _).trans (hb3.mono (Nat.le_trans HB2.out.size (by simp)))); have HQ3 := Lib.hid (HQ2.out.below hb3 HQ2.out.lt); have q0 := HQ3.out.cell 0; simp only [List.getElem?_toArray, List.getElem?_cons_zero, List.getElem?_cons_succ] at q0; clear hr3 hb3)
          | (go_at_call 7; clear T2; refine (parseKnown HPL.out HSZ.out HP.out _).mono ?_; rintro e w2 ⟨⟨a2, c2, rfl, hr2⟩, hb2⟩; have HR2 := Lib.hid hr2; have HB2 := Lib.hid (HB.out.trans (hb2.mono HB.out.size)); have HQ2 := Lib.hid (Blk.new w2 29 #[.int .i64 0, .int .i64 0]); clear hr2 hb2))
        go_ret
        exact ⟨ret_bool (by simp), HB3.out⟩

theorem openBool : Opens Tryz.prog 4 1 RBool (fun _ => 1) where
  cells := by kernel_rfl
  pos := by omega
  one _ := Nat.le_refl _
  opn h := by
    obtain ⟨b, e, rfl⟩ := DataW.trod_bool Tryz.underlying4 h
    exact ⟨b, e, by simp [Rows.uptoBulk]⟩

namespace topCircle
theorem own : ownKnob Tryz.prog.godebug = none := by kernel_rfl

set_option maxRecDepth 100000 in
theorem contract (H : Type) (enc : TypeId × Value → H) (W : World) (base : Nat) (args : Array Value) (ds gs : List (DataW H)) (before : List MemPlace)
    (hval : ∀ (j : Nat) t v, Tryz.f3.params[j]? = some t → args[j]? = some v → Value.okWide Tryz.prog W .any base t v)
    (hW : DataW.Whole enc Tryz.prog Tryz.f3.params.toList Rows.topCircleSpec.vars false W args.toList ds gs before) (hk : Rows.uptoSmall H (ds ++ gs) = true) :
    Calls Tryz.prog 3 args W fun e W' => ∃ v, e = .returned v ∧ Rows.topCircleSpec.post enc Tryz.prog Tryz.f3 false true false false W args v W' := by
  have hW' := hW
  obtain ⟨p, q, hA0, hV, rfl, hfz, hnd⟩ := hW
  have hA : DataW.TrodAll enc Tryz.prog W 0 (fun _ => true) true Tryz.f3.params.toList args.toList ds p := hA0
  rw [Tryz.params3] at hA hval
  obtain ⟨v0, d0, rfl, rfl, h0⟩ := trodAll_one hA
  obtain ⟨rfl, rfl⟩ := trodVars_none hV
  obtain ⟨x0, r0, s0⟩ := openBool.sliceArg Tryz.underlying22 (hval 0 22 v0 rfl rfl) h0
  rw [List.append_nil] at hk
  have hb : Rows.uptoBulkAll [d0] ≤ 1048576 := of_decide_eq_true hk
  simp only [Rows.uptoBulkAll] at hb
  have l0 := sizeL_le openBool.one x0
  refine (topCircleCalls x0 v0 W r0 (by omega)).mono fun e W' ⟨he, hb'⟩ => ?_
  subst he
  exact ⟨_, rfl, law_post (tb := 4) hW' rfl rfl (by kernel_rfl) Tryz.underlying4 (by kernel_rfl) (by kernel_rfl) hb'⟩

set_option maxRecDepth 100000 in
theorem lifted (os : Os) (started : os.Started) (H : Type) (enc : TypeId × Value → H) (F : Stop.Interp) :
    ReturnsInHanded {} Tryz.checked os 3 .any ((Rows.OpenSpec.upto Rows.topCircleSpec).pre6 enc Tryz.prog Tryz.f3 Rows.topCircleUptoRow.domain false) (((Rows.OpenSpec.upto Rows.topCircleSpec).at F).post enc Tryz.prog Tryz.f3 false true false false) := by
  refine returnsInHanded_of_cond (C := Tryz.checked) (s := Rows.OpenSpec.upto Rows.topCircleSpec) (k := Rows.uptoSmall) rfl own started (by kernel_rfl) Tryz.func3
    (OpenSpec.witness (enc := enc) (C := Tryz.checked) (s := Rows.OpenSpec.upto Rows.topCircleSpec) (k := Rows.uptoSmall) rfl false ⟨#[], #[.slice none 0 0], []⟩ 8 (by kernel_rfl) (by kernel_rfl) (by kernel_rfl)
      (x := ([.nil], [], [])) (by kernel_rfl) rfl (by kernel_rfl)) ?_
  intro W base args ds gs before hval hW _ hk _
  exact contract H enc W base args ds gs before hval hW hk

theorem proved : Rows.TopCircleUptoSaid :=
  OpenClaim.holds_of_cond 3 Tryz.f3 rfl rfl rfl rfl rfl rfl rfl ⟨rfl, rfl, rfl, rfl, rfl⟩ rfl rfl rfl rfl rfl (by kernel_rfl) Tryz.func3 (by kernel_rfl)
    (of_decide_eq_true (by kernel_rfl)) (by unfold Func.isWrapper; first | (rw [if_pos (by decide +kernel)]; kernel_rfl) | (rw [if_neg (by decide +kernel)]; exact ⟨rfl, rfl⟩))
    (fun os started H enc _ F => lifted os started H enc F)
end topCircle
end Go.Proofs.YtchgaofgeflbeaaGreat
