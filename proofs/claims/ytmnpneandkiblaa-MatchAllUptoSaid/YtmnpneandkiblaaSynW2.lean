/-
  THE WALKS OF syntax.Variable AND OF THE PARSER's must, word.
-/
import Derived.Test.YtmnpneandkiblaaSynW1
namespace Go.Proofs.Ytmnpneandkiblaa
open Go.RowKit

/-! ### Variable -/
theorem named_a (t : Str) : named (⟨#[97]⟩ ++ t) = (decide (t.size ≤ 11) && (bytesOf t).all signB) := by
  have e : (⟨#[97]⟩ ++ t : ByteArray).data.toList = 97 :: bytesOf t := by
    show (⟨#[97]⟩ ++ t : ByteArray).data.toList = _
    rw [ByteArray.data_append]
    simp [bytesOf]
  unfold named
  rw [e]
  unfold nameL
  simp only [List.length_cons, bytesOf_length]
  rw [show smallB 97 = true from by decide]
  simp only [Bool.true_and]
  congr 1
  simp
theorem variableS_cons (s : Str) (h : 0 < s.size) (h2 : s.size ≤ 12) : variableS s = (upperB s[0] && (bytesOf (s.extract 1 s.size)).all signB) := by
  have e : bytesOf s = s[0] :: rest s 1 := by have := rest_cons s 0 h; simpa [rest] using this
  have e2 : bytesOf (s.extract 1 s.size) = rest s 1 := Lib.extract_to_end s 1
  unfold variableS
  rw [show s.data.toList = bytesOf s from rfl, e, e2]
  unfold varL
  have hl : (s[0] :: rest s 1).length = s.size := by rw [← e, bytesOf_length]
  rw [hl, decide_eq_true h2]
  rfl
set_option maxHeartbeats 2000000 in
theorem variableCalls (s : Str) (w : World) (hs : s.size ≤ 1099511627776) : Calls Try.prog 65 #[.string s] w fun e w' => e = .returned (.bool (variableS s)) ∧ w = w' := by
  by_cases h0 : s.size < 1
  · have i1 : (s.size : Int) < 1 := by omega
    have HE := Lib.hid (show variableS s = false by
      have : bytesOf s = [] := List.eq_nil_of_length_eq_zero (by rw [bytesOf_length]; omega)
      unfold variableS
      rw [show s.data.toList = bytesOf s from rfl, this]
      rfl)
    go_enter Try.func65, Try.ntmps65
    go_wp2
    go_ret
    exact ⟨ret_bool HE.out.symm, rfl⟩
  by_cases h12 : 12 < s.size
  · have i1 : ¬ (s.size : Int) < 1 := by omega
    have i2 : (12 : Int) < (s.size : Int) := by omega
    have HE := Lib.hid (show variableS s = false by
      unfold variableS varL
      rw [show s.data.toList = bytesOf s from rfl, bytesOf_length, decide_eq_false (by omega)]
      rfl)
    go_enter Try.func65, Try.ntmps65
    go_wp2
    go_ret
    exact ⟨ret_bool HE.out.symm, rfl⟩
  have i1 : ¬ (s.size : Int) < 1 := by omega
  have i2 : ¬ (12 : Int) < (s.size : Int) := by omega
  have i3 : (0 : Int) < (s.size : Int) := by omega
  have h1 : 0 < s.size := by omega
  have HV := Lib.hid (variableS_cons s h1 (by omega))
  by_cases hlo : s[0].toNat < 65
  · have i4 : (s[0].toNat : Int) < 65 := by omega
    have HE := Lib.hid (show variableS s = false by rw [HV.out]; simp [upperB]; omega)
    go_enter Try.func65, Try.ntmps65
    go_wp2
    go_ret
    exact ⟨ret_bool HE.out.symm, rfl⟩
  by_cases hhi : 90 < s[0].toNat
  · have i4 : ¬ (s[0].toNat : Int) < 65 := by omega
    have i5 : (90 : Int) < (s[0].toNat : Int) := by omega
    have HE := Lib.hid (show variableS s = false by rw [HV.out]; simp [upperB]; omega)
    go_enter Try.func65, Try.ntmps65
    go_wp2
    go_ret
    exact ⟨ret_bool HE.out.symm, rfl⟩
  have i4 : ¬ (s[0].toNat : Int) < 65 := by omega
  have i5 : ¬ (90 : Int) < (s[0].toNat : Int) := by omega
  have i6 : (1 : Int) ≤ (s.size : Int) := by omega
  have HE := Lib.hid (show variableS s = named (⟨#[97]⟩ ++ s.extract 1 s.size) by
    rw [HV.out, named_a, show upperB s[0] = true from decide_eq_true ⟨by omega, by omega⟩, ByteArray.size_extract, decide_eq_true (by omega)])
  go_enter Try.func65, Try.ntmps65
  go_wp2_with fail
  refine (namedCalls _ _).mono ?_
  rintro e w' ⟨rfl, rfl⟩
  go_wp2
  go_ret
  exact ⟨ret_bool HE.out.symm, rfl⟩

theorem ret_str {a b : Str} (h : a = b) : Ending.returned (.string a) = .returned (.string b) := by rw [h]

/-! ### must -/
theorem mustCalls (B : Nat) (s : Str) (k : Nat) (sign : Str) (w : World) (hs : s.size ≤ 1099511627776) (hg : sign.size ≤ 1048576) (h : Ps B s k w) :
    Calls Try.prog 100 #[.pointer (some ⟨B, 0, none⟩), .string sign] w fun e w' => (e = if eatsF (bytesOf sign) (rest s k) then .returned (.tuple #[]) else .panicked (oopsV 2 (posF s (eatF (bytesOf sign) (rest s k))))) ∧ Ps B s (posF s (eatF (bytesOf sign) (rest s k))) w' ∧ But B w w' := by
  have K := Lib.hid (eatCalls B s k sign w hs hg h)
  clear h
  generalize posF s (eatF (bytesOf sign) (rest s k)) = j at *
  cases hb : eatsF (bytesOf sign) (rest s k)
  · rw [hb] at K
    clear hb
    go_enter Try.func100, Try.ntmps100
    go_wp2_with (first
      | (go_at_call 76; refine (K.out).mono ?_; rintro e w1 ⟨rfl, hp1, hb1⟩; have HP := Lib.hid hp1; have HB := Lib.hid hb1; clear hp1 hb1)
      | (go_at_call 60; refine (failCalls B s j 2 _ HP.out).mono ?_; rintro e w2 ⟨rfl, rfl⟩))
    exact ⟨rfl, rfl, HP.out, HB.out⟩
  · rw [hb] at K
    clear hb
    go_enter Try.func100, Try.ntmps100
    go_wp2_with (go_at_call 76; refine (K.out).mono ?_; rintro e w1 ⟨rfl, hp1, hb1⟩; have HP := Lib.hid hp1; have HB := Lib.hid hb1; clear hp1 hb1)
    go_end0
    exact ⟨rfl, HP.out, HB.out⟩

/-! ### word -/
theorem takeWhile_cut (l : Bytes) (n : Nat) (h : (l.takeWhile signB).length = n) : l.takeWhile signB = l.take n ∧ (∀ i c, i < n → l[i]? = some c → signB c = true) ∧ (∀ c, l[n]? = some c → signB c = false) := by
  induction l generalizing n with
  | nil => simp at h; subst h; simp
  | cons a l ih =>
    rw [List.takeWhile_cons] at h ⊢
    by_cases ha : signB a = true
    · rw [if_pos ha] at h ⊢
      cases n with
      | zero => simp at h
      | succ n =>
        obtain ⟨h1, h2, h3⟩ := ih n (by simpa using h)
        refine ⟨by rw [List.take_succ_cons, ← h1], fun i c hi hc => ?_, fun c hc => h3 c (by simpa using hc)⟩
        cases i with
        | zero => simp at hc; subst hc; exact ha
        | succ i => exact h2 i c (by omega) (by simpa using hc)
    · rw [if_neg ha] at h ⊢
      simp at h
      subst h
      refine ⟨by simp, fun i c hi => by omega, fun c hc => ?_⟩
      simp at hc; subst hc; simpa using ha
theorem rest_get (s : Str) (k i : Nat) (h : k + i < s.size) : (rest s k)[i]? = some s[k + i] := by
  have h1 := rest_cons s (k + i) h
  have h2 : (rest s k)[i]? = (rest s (k + i))[0]? := by unfold rest; rw [List.getElem?_drop, List.getElem?_drop]; rfl
  rw [h2, h1]; rfl
theorem extract_bytes (s : Str) (a b : Nat) (h : a ≤ b) : bytesOf (s.extract a b) = (rest s a).take (b - a) := by
  unfold bytesOf rest bytesOf
  rw [ByteArray.data_extract]
  simp [List.take_drop, Nat.add_sub_cancel' h]
theorem str_ext {a b : Str} (h : bytesOf a = bytesOf b) : a = b := by
  cases a; cases b
  simpa [bytesOf, Array.toList_inj] using h
theorem strOf_bytes (a : Str) : strOf (bytesOf a) = a := str_ext (by simp [strOf, bytesOf])
theorem named_strOf (l : Bytes) : named (strOf l) = nameL l := by simp [named, strOf]
theorem variableS_strOf (l : Bytes) : variableS (strOf l) = varL l := by simp [variableS, strOf]

set_option maxRecDepth 100000 in
set_option maxHeartbeats 4000000 in
/-- word, what it comes to: e2: the error that it throws, 0: none. -/
theorem wordCalls0 (B : Nat) (s : Str) (k : Nat) (w : World) (hs : s.size ≤ 1099511627776) (h : Ps B s k w) (r0 t : Bytes) (e2 : Int) (hr : blankF false (rest s k) = r0) (ht : r0.takeWhile signB = t)
    (he : e2 = if t = [] then 2 else if nameL t = false ∧ varL t = false then 7 else 0) :
    Calls Try.prog 99 #[.pointer (some ⟨B, 0, none⟩)] w fun e w' => (e = if e2 = 0 then .returned (.string (strOf t)) else .panicked (oopsV e2 (posF s r0))) ∧ Ps B s (if e2 = 0 then posF s (r0.drop t.length) else posF s r0) w' ∧ But B w w' := by
  have KB := Lib.hid (blankCalls B s k w hs h)
  rw [hr] at KB
  have hsuf : r0 <:+ bytesOf s := hr ▸ (blankF_suffix false (rest s k)).trans (rest_suffix s k)
  have hrp := rest_posF hsuf
  have hp := posF_le s r0
  clear h hr
  obtain ⟨j0, hj⟩ : ∃ j, posF s r0 = j := ⟨_, rfl⟩
  rw [hj] at KB hp hrp ⊢
  clear hj hsuf
  subst hrp
  obtain ⟨n, hn⟩ : ∃ n, t.length = n := ⟨_, rfl⟩
  obtain ⟨ht1, ht2, ht3⟩ := takeWhile_cut (rest s j0) n (by rw [ht]; exact hn)
  rw [ht] at ht1
  have hnle : n ≤ s.size - j0 := by rw [← hn, ← ht, ← rest_length]; exact (List.takeWhile_prefix _).length_le
  have HS := Lib.hid (show ∀ i, (h : i < s.size) → j0 ≤ i → i < j0 + n → named (⟨#[97]⟩ ++ s.extract i (i + 1)) = true from fun i h h1 h2 => by
    have hg := ht2 (i - j0) s[i] (by omega) (by rw [rest_get s j0 (i - j0) (by omega)]; simp [Nat.add_sub_cancel' h1])
    rw [named_a, extract_bytes s i (i + 1) (by omega), rest_cons s i h, ByteArray.size_extract]
    simp [hg]; omega)
  have HN := Lib.hid (show (h : j0 + n < s.size) → named (⟨#[97]⟩ ++ s.extract (j0 + n) (j0 + n + 1)) = false from fun h => by
    have hg := ht3 s[j0 + n] (rest_get s j0 n h)
    rw [named_a, extract_bytes s (j0 + n) (j0 + n + 1) (by omega), rest_cons s (j0 + n) h]
    simp [hg])
  have HW := Lib.hid (show s.extract j0 (j0 + n) = strOf t from str_ext (by rw [extract_bytes s _ _ (by omega), ht1]; simp [strOf, bytesOf]))
  have HD := Lib.hid (show posF s ((rest s j0).drop t.length) = j0 + n by rw [hn, drop_rest, posF_rest s (by omega)])
  have HE := Lib.hid he
  clear ht ht1 ht2 ht3 he
  obtain ⟨j1, hj1⟩ : ∃ j1, j0 + n = j1 := ⟨_, rfl⟩
  have g1 : j0 ≤ j1 := by omega
  have g2 : j1 ≤ s.size := by omega
  rw [hj1] at HS HN HW HD
  clear hj1 hn hnle
  have hf0 : t = [] → (s.extract j0 j1).toList.isEmpty = true ∧ ((s.extract j0 j1).toList == []) = true := fun h => by
    rw [HW.out, h, ByteArray.toList_eq]; exact ⟨rfl, rfl⟩
  have hf1 : t ≠ [] → (s.extract j0 j1).toList.isEmpty = false ∧ ((s.extract j0 j1).toList == []) = false := fun h => by
    rw [HW.out, ByteArray.toList_eq]
    cases t with
    | nil => exact absurd rfl h
    | cons a t => exact ⟨rfl, rfl⟩
  have HF0 := Lib.hid hf0
  have HF1 := Lib.hid hf1
  have HNM := Lib.hid (show named (s.extract j0 j1) = nameL t by rw [HW.out, named_strOf])
  have HVR := Lib.hid (show variableS (s.extract j0 j1) = varL t by rw [HW.out, variableS_strOf])
  have hsz : (s.extract j0 j1).size ≤ 1099511627776 := by rw [ByteArray.size_extract]; omega
  have HSZ := Lib.hid hsz
  clear hf0 hf1 hsz
  have KV := Lib.hid (fun W => variableCalls (s.extract j0 j1) W HSZ.out)
  rw [HVR.out] at KV
  have KM := Lib.hid (fun W => namedCalls (s.extract j0 j1) W)
  rw [HNM.out] at KM
  have j00 : (0 : Int) ≤ (j0 : Int) := by omega
  have j01 : (j0 : Int) ≤ (j1 : Int) := by omega
  have j02 : (j1 : Int) ≤ (s.size : Int) := by omega
  have j03 : (0 : Int) ≤ (j1 : Int) := by omega
  go_enter Try.func99, Try.ntmps99
  go_wp2_with (go_at_call 59; refine (KB.out).mono ?_; rintro e w1 ⟨rfl, hp1, hb1⟩; have HP := Lib.hid hp1; have HB := Lib.hid hb1; have c0 := hp1.c0; have c1 := hp1.c1; have hf := hp1.f 1; clear hp1 hb1)
  go_loop [3] (fun v => ∃ j : Nat, j0 ≤ j ∧ j ≤ j1 ∧ v = .int .i64 j) (fun v => j1 - (intOf v).toNat)
  case atStart => exact ⟨j0, Nat.le_refl _, g1, rfl⟩
  case round =>
    obtain ⟨j, hja, hjb, rfl⟩ := hrel
    have k0 : (0 : Int) ≤ (j : Int) := by omega
    have k5 : IntKind.i64.wrap (j : Int) = j := by rw [IntKind.wrap_i64]; omega
    by_cases hlt : j < j1
    · have k1 : (j : Int) < (s.size : Int) := by omega
      have k2 : (j : Int) + 1 ≤ (s.size : Int) := by omega
      have KN := Lib.hid (HS.out j (by omega) hja hlt)
      go_wp2_with fail
      refine (namedCalls _ _).mono ?_
      rw [KN.out]
      rintro e w' ⟨rfl, rfl⟩
      go_wp2
      go_round
      case rel => exact ⟨j + 1, by omega, by omega, by go_num⟩
      case measure => simp [intOf]; omega
    · obtain rfl : j = j1 := by omega
      by_cases h1 : j < s.size
      · have k1 : (j : Int) < (s.size : Int) := by omega
        have k2 : (j : Int) + 1 ≤ (s.size : Int) := by omega
        have KN := Lib.hid (HN.out h1)
        go_wp2_with fail
        refine (namedCalls _ _).mono ?_
        rw [KN.out]
        rintro e w' ⟨rfl, rfl⟩
        go_wp2
        go_quiet (fail)
        by_cases ht : t = []
        · rw [if_pos ht] at HE
          obtain ⟨q1, q2⟩ := HF0.out ht
          have HE2 := HE.out
          clear ht HE
          subst HE2
          go_wp2_with (go_at_call 60; refine (failCalls B s j0 2 _ (HP.out.drewN _)).mono ?_; rintro e w2 ⟨rfl, rfl⟩)
          exact ⟨rfl, rfl, HP.out.drewN _, HB.out.drewN _⟩
        · rw [if_neg ht] at HE
          obtain ⟨q1, q2⟩ := HF1.out ht
          clear ht
          cases hn1 : nameL t
          · rw [hn1] at HE KM
            clear hn1
            cases hv1 : varL t
            · rw [hv1, if_pos (by simp)] at HE
              rw [hv1] at KV
              have HE2 := HE.out
              clear hv1 HE
              subst HE2
              go_wp2_with (first | (go_at_call 64; refine (KM.out _).mono ?_; rintro e w2 ⟨rfl, rfl⟩) | (go_at_call 65; refine (KV.out _).mono ?_; rintro e w2 ⟨rfl, rfl⟩) | (go_at_call 60; refine (failCalls B s j0 7 _ (HP.out.drewN _)).mono ?_; rintro e w2 ⟨rfl, rfl⟩))
              exact ⟨rfl, rfl, HP.out.drewN _, HB.out.drewN _⟩
            · rw [hv1, if_neg (by simp)] at HE
              rw [hv1] at KV
              have HE2 := HE.out
              clear hv1 HE
              subst HE2
              go_wp2_with (first | (go_at_call 64; refine (KM.out _).mono ?_; rintro e w2 ⟨rfl, rfl⟩) | (go_at_call 65; refine (KV.out _).mono ?_; rintro e w2 ⟨rfl, rfl⟩))
              go_ret
              exact ⟨by first | exact ret_str HW.out | (rw [if_pos rfl]; exact ret_str HW.out), by first | (rw [HD.out]; exact (HP.out.drewN _).set g2) | (rw [if_pos rfl, HD.out]; exact (HP.out.drewN _).set g2), (HB.out.drewN _).setCell (.inl rfl) _⟩
          · rw [hn1, if_neg (by simp)] at HE
            rw [hn1] at KM
            have HE2 := HE.out
            clear hn1 HE
            subst HE2
            go_wp2_with (go_at_call 64; refine (KM.out _).mono ?_; rintro e w2 ⟨rfl, rfl⟩)
            go_ret
            exact ⟨by first | exact ret_str HW.out | (rw [if_pos rfl]; exact ret_str HW.out), by first | (rw [HD.out]; exact (HP.out.drewN _).set g2) | (rw [if_pos rfl, HD.out]; exact (HP.out.drewN _).set g2), (HB.out.drewN _).setCell (.inl rfl) _⟩
      · have k1 : decide ((j : Int) < (s.size : Int)) = false := decide_eq_false (by omega)
        go_wp2
        go_quiet (fail)
        by_cases ht : t = []
        · rw [if_pos ht] at HE
          obtain ⟨q1, q2⟩ := HF0.out ht
          have HE2 := HE.out
          clear ht HE
          subst HE2
          go_wp2_with (go_at_call 60; refine (failCalls B s j0 2 _ (HP.out.drewN _)).mono ?_; rintro e w2 ⟨rfl, rfl⟩)
          exact ⟨rfl, rfl, HP.out.drewN _, HB.out.drewN _⟩
        · rw [if_neg ht] at HE
          obtain ⟨q1, q2⟩ := HF1.out ht
          clear ht
          cases hn1 : nameL t
          · rw [hn1] at HE KM
            clear hn1
            cases hv1 : varL t
            · rw [hv1, if_pos (by simp)] at HE
              rw [hv1] at KV
              have HE2 := HE.out
              clear hv1 HE
              subst HE2
              go_wp2_with (first | (go_at_call 64; refine (KM.out _).mono ?_; rintro e w2 ⟨rfl, rfl⟩) | (go_at_call 65; refine (KV.out _).mono ?_; rintro e w2 ⟨rfl, rfl⟩) | (go_at_call 60; refine (failCalls B s j0 7 _ (HP.out.drewN _)).mono ?_; rintro e w2 ⟨rfl, rfl⟩))
              exact ⟨rfl, rfl, HP.out.drewN _, HB.out.drewN _⟩
            · rw [hv1, if_neg (by simp)] at HE
              rw [hv1] at KV
              have HE2 := HE.out
              clear hv1 HE
              subst HE2
              go_wp2_with (first | (go_at_call 64; refine (KM.out _).mono ?_; rintro e w2 ⟨rfl, rfl⟩) | (go_at_call 65; refine (KV.out _).mono ?_; rintro e w2 ⟨rfl, rfl⟩))
              go_ret
              exact ⟨by first | exact ret_str HW.out | (rw [if_pos rfl]; exact ret_str HW.out), by first | (rw [HD.out]; exact (HP.out.drewN _).set g2) | (rw [if_pos rfl, HD.out]; exact (HP.out.drewN _).set g2), (HB.out.drewN _).setCell (.inl rfl) _⟩
          · rw [hn1, if_neg (by simp)] at HE
            rw [hn1] at KM
            have HE2 := HE.out
            clear hn1 HE
            subst HE2
            go_wp2_with (go_at_call 64; refine (KM.out _).mono ?_; rintro e w2 ⟨rfl, rfl⟩)
            go_ret
            exact ⟨by first | exact ret_str HW.out | (rw [if_pos rfl]; exact ret_str HW.out), by first | (rw [HD.out]; exact (HP.out.drewN _).set g2) | (rw [if_pos rfl, HD.out]; exact (HP.out.drewN _).set g2), (HB.out.drewN _).setCell (.inl rfl) _⟩
end Go.Proofs.Ytmnpneandkiblaa
