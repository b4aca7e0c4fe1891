/-
  THE WALKS OF cororef1.Walk: skip, ok, stop, eat, need.
-/
import Derived.Test.YtobbjapmdpkogaaSynW4
namespace Go.Proofs.Ytobbjapmdpkogaa
open Go.RowKit

/-- The walk through a text in memory: where it is, and what is wrong (0: nothing), and where that was. -/
structure Wk (B : Nat) (s : Str) (k : Nat) (e f : Int) (w : World) : Prop where
  blk : w.heap[B]? = some (.cells #[.string s, .int .i64 (k : Int), .int .i64 e, .int .i64 f] 79 (0, 0))
  le : k ≤ s.size
section
variable {B : Nat} {s : Str} {k : Nat} {e f : Int} {w w' : World}
theorem Wk.lt (h : Wk B s k e f w) : B < w.heap.size := (Array.getElem?_eq_some_iff.1 h.blk).1
theorem Wk.c0 (h : Wk B s k e f w) : w.cell? ⟨B, 0, none⟩ = some (.string s) := cell_of_row w B 0 _ _ (0, 0) h.blk
theorem Wk.c1 (h : Wk B s k e f w) : w.cell? ⟨B, 1, none⟩ = some (.int .i64 (k : Int)) := cell_of_row w B 1 _ _ (0, 0) h.blk
theorem Wk.c2 (h : Wk B s k e f w) : w.cell? ⟨B, 2, none⟩ = some (.int .i64 e) := cell_of_row w B 2 _ _ (0, 0) h.blk
theorem Wk.c3 (h : Wk B s k e f w) : w.cell? ⟨B, 3, none⟩ = some (.int .i64 f) := cell_of_row w B 3 _ _ (0, 0) h.blk
theorem Wk.fz (h : Wk B s k e f w) (i : Nat) : w.frozen? ⟨B, i, none⟩ = false := by simp [World.frozen?, h.blk]
theorem Wk.drew (h : Wk B s k e f w) : Wk B s k e f w.drew := ⟨h.blk, h.le⟩
theorem Wk.drewN (h : Wk B s k e f w) (n : Nat) : Wk B s k e f (w.drewN n) := ⟨h.blk, h.le⟩
theorem Wk.alloc (h : Wk B s k e f w) (o : Obj) : Wk B s k e f (w.alloc o) := ⟨(Below.heap_alloc w o B h.lt).trans h.blk, h.le⟩
theorem Wk.set (h : Wk B s k e f w) {j : Nat} (hj : j ≤ s.size) : Wk B s j e f (w.setCell ⟨B, 1, none⟩ (.int .i64 (j : Int))) := by
  refine ⟨?_, hj⟩
  have := h.blk
  simp [World.setCell, Array.getElem?_modify, this]
theorem Wk.set1 (h : Wk B s k e f w) {j : Nat} (hj : j < s.size) : Wk B s (j + 1) e f (w.setCell ⟨B, 1, none⟩ (.int .i64 ((j : Int) + 1))) := by
  have := h.set (j := j + 1) hj
  simpa using this
theorem Wk.stop (h : Wk B s k e f w) (e' : Int) : Wk B s k e' (k : Int) ((w.setCell ⟨B, 2, none⟩ (.int .i64 e')).setCell ⟨B, 3, none⟩ (.int .i64 (k : Int))) := by
  refine ⟨?_, h.le⟩
  have := h.blk
  simp [World.setCell, Array.getElem?_modify, this]
theorem Wk.far (h : Wk B s k e f w) {p : Addr} (hp : B ≠ p.block) (u : Value) : Wk B s k e f (w.setCell p u) := ⟨(Below.heap_setCell w p u B hp).trans h.blk, h.le⟩
theorem Wk.below {C : Nat} (h : Wk B s k e f w) (hb : Below C w w') (hC : B < C) : Wk B s k e f w' := ⟨(hb.block B hC).trans h.blk, h.le⟩
theorem Wk.grown {row : Option Nat} (h : Wk B s k e f w) (hb : w.grownBy w' row) (hg : some B ≠ row) : Wk B s k e f w' := ⟨(hb.block B h.lt hg).trans h.blk, h.le⟩
end

set_option maxHeartbeats 1000000 in
theorem okRef (B : Nat) (s : Str) (k : Nat) (e f : Int) (w : World) (h : Wk B s k e f w) :
    Calls Try.prog 44 #[.pointer (some ⟨B, 0, none⟩)] w fun en w' => en = .returned (.bool (decide (e = 0))) ∧ w = w' := by
  have c2 := h.c2
  clear h
  have he : ((e : Int) == 0) = decide (e = 0) := rfl
  go_enter Try.func44, Try.ntmps44
  go_wp2
  go_ret
  exact ⟨ret_bool (by simp), rfl⟩

set_option maxHeartbeats 1000000 in
theorem stopGood (B : Nat) (s : Str) (k : Nat) (f er : Int) (w : World) (h : Wk B s k 0 f w) :
    Calls Try.prog 45 #[.pointer (some ⟨B, 0, none⟩), .int .i64 er] w fun en w' => en = .returned (.tuple #[]) ∧ Wk B s k er (k : Int) w' ∧ But B w w' := by
  have H := Lib.hid h
  have KO := Lib.hid (okRef B s k 0 f w h)
  rw [decide_eq_true (rfl : (0 : Int) = 0)] at KO
  have c1 := h.c1
  have f2 := h.fz 2
  have f3 := h.fz 3
  have c2 := h.c2
  have c3 := h.c3
  clear h
  go_enter Try.func45, Try.ntmps45
  go_wp2_with (go_at_call 44; refine (KO.out).mono ?_; rintro e w1 ⟨rfl, rfl⟩)
  go_wp2
  go_end0
  exact ⟨rfl, H.out.stop er, (((But.refl B w).setCell (.inl rfl) _).setCell (.inl rfl) _)⟩
set_option maxHeartbeats 1000000 in
theorem stopBad (B : Nat) (s : Str) (k : Nat) (e f er : Int) (he : e ≠ 0) (w : World) (h : Wk B s k e f w) :
    Calls Try.prog 45 #[.pointer (some ⟨B, 0, none⟩), .int .i64 er] w fun en w' => en = .returned (.tuple #[]) ∧ w = w' := by
  have KO := Lib.hid (okRef B s k e f w h)
  rw [decide_eq_false he] at KO
  clear h
  go_enter Try.func45, Try.ntmps45
  go_wp2_with (go_at_call 44; refine (KO.out).mono ?_; rintro e w1 ⟨rfl, rfl⟩)
  go_wp2
  go_end0
  exact ⟨rfl, rfl⟩

/-- What a note hides. -/
def noteF : Bytes → Bytes
  | [] => []
  | c :: r => if c = 10 then c :: r else noteF r
theorem blankF_noteF : ∀ r : Bytes, blankF true r = blankF false (noteF r)
  | [] => rfl
  | c :: r => by
    unfold noteF
    by_cases h1 : c = 10
    · subst h1
      rw [if_pos rfl, blankF_nl, blankF_nl]
    · rw [if_neg h1]
      by_cases h2 : c = 37
      · subst h2
        rw [blankF_note]
        exact blankF_noteF r
      · rw [blankF_in r h1 h2]
        exact blankF_noteF r

attribute [local go_sem ↓] Go.wp_at_zero Go.wp_at_succ
set_option maxRecDepth 100000 in
set_option maxHeartbeats 8000000 in
theorem skipRef (B : Nat) (s : Str) (k : Nat) (e0 f0 : Int) (w : World) (hs : s.size ≤ 1099511627776) (h : Wk B s k e0 f0 w) :
    Calls Try.prog 43 #[.pointer (some ⟨B, 0, none⟩)] w fun e w' => e = .returned (.tuple #[]) ∧ Wk B s (posF s (blankF false (rest s k))) e0 f0 w' ∧ But B w w' := by
  have H := Lib.hid h
  clear h
  go_enter Try.func43, Try.ntmps43
  go_wp2
  go_loopg [] (s.size + 1 - k) (fun gk wr => ∃ (j : Nat), gk + j = s.size + 1 ∧ j ≤ s.size ∧ Hid (Wk B s j e0 f0 wr) ∧ Hid (But B w wr) ∧ Hid (blankF false (rest s j) = blankF false (rest s k)))
  case atStart => exact ⟨k, by have := H.out.le; omega, H.out.le, H, Lib.hid (But.refl B w), Lib.hid rfl⟩
  case round =>
    obtain ⟨j, hg, hj, HP, HB, HR⟩ := hrel
    have c0 := HP.out.c0
    have c1 := HP.out.c1
    have hf := HP.out.fz 1
    have j0 : (0 : Int) ≤ (j : Int) := by omega
    have j5 : IntKind.i64.wrap (j : Int) = j := by rw [IntKind.wrap_i64]; omega
    by_cases hlt : j < s.size
    · have j1 : (j : Int) < (s.size : Int) := by omega
      have j6 : IntKind.i64.wrap ((j : Int) + 1) = (j : Int) + 1 := by rw [IntKind.wrap_i64]; omega
      have HD := Lib.hid (rest_cons s j hlt)
      have e1 : ((s[j].toNat : Int) == 10) = decide (s[j] = 10) := byte_beq s[j] 10 (by omega)
      have e2 : ((s[j].toNat : Int) == 37) = decide (s[j] = 37) := byte_beq s[j] 37 (by omega)
      have e3 : ((s[j].toNat : Int) == 32) = decide (s[j] = 32) := byte_beq s[j] 32 (by omega)
      have HE := Lib.hid (HD.out ▸ HR.out : blankF false (s[j] :: rest s (j + 1)) = blankF false (rest s k))
      obtain ⟨c, hc⟩ : ∃ c, c = s[j] := ⟨_, rfl⟩
      rw [← hc] at HE HD
      rw [← hc] at e1 e2 e3
      by_cases h3 : c = 32
      · rw [h3, blankF_sp] at HE
        rw [decide_eq_true h3, hc] at e3
        clear e1 e2 h3 hc HD
        go_wp2
        go_quiet (fail)
        go_wp2
        go_quiet (fail)
        go_wp2
        go_roundg (gk - 1)
        case measure => omega
        case rel => exact ⟨j + 1, by omega, by omega, Lib.hid ((HP.out.drewN _).set1 hlt), Lib.hid ((HB.out.drewN _).setCell (.inl rfl) _), HE⟩
      rw [decide_eq_false h3] at e3
      by_cases h1 : c = 10
      · rw [h1, blankF_nl] at HE
        rw [decide_eq_true h1, hc] at e1
        rw [hc] at e3
        clear e2 h1 h3 hc HD
        go_wp2
        go_quiet (fail)
        go_wp2
        go_quiet (fail)
        go_wp2
        go_roundg (gk - 1)
        case measure => omega
        case rel => exact ⟨j + 1, by omega, by omega, Lib.hid ((HP.out.drewN _).set1 hlt), Lib.hid ((HB.out.drewN _).setCell (.inl rfl) _), HE⟩
      rw [decide_eq_false h1] at e1
      by_cases h2 : c = 37
      · rw [decide_eq_true h2, hc] at e2
        rw [hc] at e1 e3
        have HN0 := Lib.hid (show noteF (rest s j) = noteF (rest s (j + 1)) from by rw [HD.out]; conv => lhs; unfold noteF; rw [if_neg h1])
        have HE2 := Lib.hid (show blankF false (noteF (rest s (j + 1))) = blankF false (rest s k) from by rw [← HE.out, h2, blankF_note, blankF_noteF])
        have H37 := Lib.hid (show s[j] ≠ 10 from hc ▸ h1)
        clear h1 h2 h3 hc HD HE
        go_wp2
        go_quiet (fail)
        go_wp2
        go_quiet (fail)
        go_wp2
        go_loopg [] (s.size + 1 - j) (fun g2 wr => ∃ (i : Nat), g2 + i = s.size + 1 ∧ j ≤ i ∧ i ≤ s.size ∧ Hid (Wk B s i e0 f0 wr) ∧ Hid (But B w wr) ∧ Hid (blankF false (noteF (rest s i)) = blankF false (rest s k)))
        case atStart => exact ⟨j, by omega, Nat.le_refl _, hj, Lib.hid (HP.out.drewN _), Lib.hid (HB.out.drewN _), Lib.hid (by rw [HN0.out]; exact HE2.out)⟩
        case round =>
          clear HP HB HN0 HE2 HR
          obtain ⟨i, hg2, hji, hi, HP, HB, HR⟩ := hrel
          have c0 := HP.out.c0
          have c1 := HP.out.c1
          have hf := HP.out.fz 1
          have i0 : (0 : Int) ≤ (i : Int) := by omega
          have i5 : IntKind.i64.wrap (i : Int) = i := by rw [IntKind.wrap_i64]; omega
          by_cases hli : i < s.size
          · have i1 : (i : Int) < (s.size : Int) := by omega
            have i6 : IntKind.i64.wrap ((i : Int) + 1) = (i : Int) + 1 := by rw [IntKind.wrap_i64]; omega
            have e1 : ((s[i].toNat : Int) == 10) = decide (s[i] = 10) := byte_beq s[i] 10 (by omega)
            have e4 : ((s[i].toNat : Int) != 10) = !decide (s[i] = 10) := by rw [← e1]; rfl
            have HD := Lib.hid (rest_cons s i hli)
            by_cases h1 : s[i] = 10
            · have HE := Lib.hid (show blankF false (rest s i) = blankF false (rest s k) from by
                rw [← HR.out, HD.out]
                conv => rhs; unfold noteF; rw [if_pos h1])
              have hlt3 : j < i := by
                rcases Nat.lt_or_ge j i with h | h
                · exact h
                · have : j = i := by omega
                  subst this
                  exact absurd h1 H37.out
              rw [decide_eq_true h1] at e4
              clear h1 HD e1
              go_wp2
              go_quiet (fail)
              go_wp2
              go_roundg (s.size + 1 - i)
              case measure => omega
              case rel => exact ⟨i, by omega, hi, Lib.hid (HP.out.drewN _), Lib.hid (HB.out.drewN _), HE⟩
            · have HE := Lib.hid (show blankF false (noteF (rest s (i + 1))) = blankF false (rest s k) from by
                rw [← HR.out, HD.out]
                conv => rhs; unfold noteF; rw [if_neg h1])
              rw [decide_eq_false h1] at e4
              clear h1 HD e1
              go_wp2
              go_quiet (fail)
              go_wp2
              go_roundg (s.size - i)
              case measure => omega
              case rel => exact ⟨i + 1, by omega, by omega, by omega, Lib.hid ((HP.out.drewN _).set1 hli), Lib.hid ((HB.out.drewN _).setCell (.inl rfl) _), HE⟩
          · have i1 : ¬ (i : Int) < (s.size : Int) := by omega
            have HE := Lib.hid (show blankF false (rest s i) = blankF false (rest s k) from by
              rw [← HR.out, rest_end s i (by omega)]; rfl)
            go_wp2
            go_quiet (fail)
            go_wp2
            go_roundg (s.size + 1 - i)
            case measure => omega
            case rel => exact ⟨i, by omega, hi, Lib.hid (HP.out.drewN _), Lib.hid (HB.out.drewN _), HE⟩
      · rw [decide_eq_false h2, hc] at e2
        rw [hc] at e1 e3
        rw [blankF_stop _ h1 h2 h3, ← HD.out] at HE
        clear h1 h2 h3 hc HD
        go_wp2
        go_quiet (fail)
        go_wp2
        go_quiet (fail)
        go_wp2
        refine bodyPost_ret (results_none rfl _ _ _) rfl ?_
        exact ⟨rfl, by rw [← HE.out, posF_rest s hj]; exact HP.out.drewN _, HB.out.drewN _⟩
    · have j1 : ¬ (j : Int) < (s.size : Int) := by omega
      have HE := Lib.hid (show ([] : Bytes) = blankF false (rest s k) by rw [← HR.out, rest_end s j (by omega)]; rfl)
      obtain rfl : j = s.size := by omega
      go_wp2
      go_quiet (fail)
      go_wp2
      go_end0
      exact ⟨rfl, by rw [← HE.out]; exact HP.out.drewN _, HB.out.drewN _⟩

theorem bytes_extract (s : Str) (i n : Nat) : bytesOf (s.extract i (i + n)) = (rest s i).take n := by
  unfold bytesOf rest bytesOf
  rw [ByteArray.data_extract, Array.toList_extract, List.extract_eq_take_drop]
  congr 1
  omega

set_option maxRecDepth 100000 in
set_option maxHeartbeats 4000000 in
theorem eatRef (B : Nat) (s : Str) (k : Nat) (f : Int) (sign : Str) (w : World) (hs : s.size ≤ 1099511627776) (hg : sign.size ≤ 1048576) (h : Wk B s k 0 f w) :
    Calls Try.prog 47 #[.pointer (some ⟨B, 0, none⟩), .string sign] w fun e w' => e = .returned (.bool (eatsF (bytesOf sign) (rest s k))) ∧ Wk B s (posF s (eatF (bytesOf sign) (rest s k))) 0 f w' ∧ But B w w' := by
  have KB := Lib.hid (skipRef B s k 0 f w hs h)
  have KO := Lib.hid (okRef B s k 0 f w h)
  rw [decide_eq_true (rfl : (0 : Int) = 0)] at KO
  clear h
  unfold eatF
  have hr := rest_posF ((blankF_suffix false (rest s k)).trans (rest_suffix s k))
  unfold eatsF
  generalize hx : blankF false (rest s k) = r at *
  have HX := Lib.hid hx
  clear hx
  have hp := posF_le s r
  obtain ⟨j, hj⟩ : ∃ j, posF s r = j := ⟨_, rfl⟩
  rw [hj] at KB hp hr
  have hd : r.drop (bytesOf sign).length = rest s (j + sign.size) := by rw [bytesOf_length, ← hr, drop_rest]
  have hrl : r.length = s.size - j := by rw [← hr, rest_length]
  have hpt := prefix_take (bytesOf sign) r
  rw [bytesOf_length, hrl] at hpt
  have htk : r.take sign.size = bytesOf (s.extract j (j + sign.size)) := by rw [bytes_extract, hr]
  rw [htk] at hpt
  have HD := Lib.hid hd
  have HR := Lib.hid hr
  have HJ := Lib.hid hj
  clear hr hj hd htk
  have j0 : (0 : Int) ≤ (j : Int) := by omega
  have j1 : (j : Int) ≤ (s.size : Int) := by omega
  have j5 : IntKind.i64.wrap (j : Int) = j := by rw [IntKind.wrap_i64]; omega
  have w1 : IntKind.i64.wrap ((s.size : Int) - (j : Int)) = (s.size : Int) - (j : Int) := by rw [IntKind.wrap_i64]; omega
  have w2 : IntKind.i64.wrap ((j : Int) + (sign.size : Int)) = (j : Int) + (sign.size : Int) := by rw [IntKind.wrap_i64]; omega
  by_cases hl : s.size - j < sign.size
  · have i1 : (s.size : Int) - (j : Int) < (sign.size : Int) := by omega
    rw [decide_eq_false (show ¬ sign.size ≤ s.size - j by omega), Bool.false_and] at hpt
    rw [hpt]
    clear hpt hl
    go_enter Try.func47, Try.ntmps47
    go_wp2_with (first
      | (go_at_call 44; refine (KO.out).mono ?_; rintro e w0 ⟨rfl, rfl⟩)
      | (go_at_call 43; refine (KB.out).mono ?_; rintro e w1 ⟨rfl, hp1, hb1⟩; have HP := Lib.hid hp1; have HB := Lib.hid hb1; have c0 := hp1.c0; have c1 := hp1.c1; clear hp1 hb1))
    go_quiet (fail)
    go_wp2
    go_ret
    exact ⟨rfl, by first | (rw [if_neg (by simp), HJ.out]; exact HP.out.drewN _) | (rw [HJ.out]; exact HP.out.drewN _), HB.out.drewN _⟩
  · have i1 : ¬ ((s.size : Int) - (j : Int) < (sign.size : Int)) := by omega
    have i2 : (j : Int) + (sign.size : Int) ≤ (s.size : Int) := by omega
    have i3 : (j : Int) ≤ (j : Int) + (sign.size : Int) := by omega
    rw [decide_eq_true (show sign.size ≤ s.size - j by omega), Bool.true_and] at hpt
    have hle : j + sign.size ≤ s.size := by omega
    have ht : ((j : Int) + (sign.size : Int)).toNat = j + sign.size := by omega
    cases hb : (bytesOf (s.extract j (j + sign.size)) == bytesOf sign)
    · rw [hb] at hpt
      rw [hpt]
      have g1 : ((s.extract j (j + sign.size)).toList == sign.toList) = false := by rw [ByteArray.toList_eq, ByteArray.toList_eq]; exact hb
      clear hpt hl hb
      go_enter Try.func47, Try.ntmps47
      go_wp2_with (first
        | (go_at_call 44; refine (KO.out).mono ?_; rintro e w0 ⟨rfl, rfl⟩)
        | (go_at_call 43; refine (KB.out).mono ?_; rintro e w1 ⟨rfl, hp1, hb1⟩; have HP := Lib.hid hp1; have HB := Lib.hid hb1; have c0 := hp1.c0; have c1 := hp1.c1; clear hp1 hb1))
      go_quiet (fail)
      go_wp2
      go_ret
      exact ⟨rfl, by first | (rw [if_neg (by simp), HJ.out]; exact HP.out.drewN _) | (rw [HJ.out]; exact HP.out.drewN _), HB.out.drewN _⟩
    · rw [hb] at hpt
      rw [hpt]
      have g1 : ((s.extract j (j + sign.size)).toList == sign.toList) = true := by rw [ByteArray.toList_eq, ByteArray.toList_eq]; exact hb
      clear hpt hl hb
      go_enter Try.func47, Try.ntmps47
      go_wp2_with (first
        | (go_at_call 44; refine (KO.out).mono ?_; rintro e w0 ⟨rfl, rfl⟩)
        | (go_at_call 43; refine (KB.out).mono ?_; rintro e w1 ⟨rfl, hp1, hb1⟩; have HP := Lib.hid hp1; have HB := Lib.hid hb1; have c0 := hp1.c0; have c1 := hp1.c1; have hf := hp1.fz 1; clear hp1 hb1))
      go_quiet (fail)
      go_wp2
      go_ret
      refine ⟨rfl, ?_, (HB.out.drewN _).setCell (.inl rfl) _⟩
      have hst := (HP.out.drewN nq).set (j := j + sign.size) hle
      first
        | (rw [if_pos rfl, HD.out, posF_rest s hle]; simpa using hst)
        | (rw [HD.out, posF_rest s hle]; simpa using hst)
set_option maxHeartbeats 1000000 in
theorem eatBad (B : Nat) (s : Str) (k : Nat) (e f : Int) (he : e ≠ 0) (sign : Str) (w : World) (h : Wk B s k e f w) :
    Calls Try.prog 47 #[.pointer (some ⟨B, 0, none⟩), .string sign] w fun en w' => en = .returned (.bool false) ∧ w = w' := by
  have KO := Lib.hid (okRef B s k e f w h)
  rw [decide_eq_false he] at KO
  clear h
  go_enter Try.func47, Try.ntmps47
  go_wp2_with (go_at_call 44; refine (KO.out).mono ?_; rintro e w0 ⟨rfl, rfl⟩)
  go_ret
  exact ⟨rfl, rfl⟩

/-- What the reference's walk leaves: what was read and where it stands, or what is wrong. -/
def EndsR {α : Type} (B : Nat) (s : Str) (w : World) (V : α → Value → World → Prop) (g : Got α) (en : Ending) (w' : World) : Prop :=
  But B w w' ∧ ∃ v x, en = .returned v ∧ V x v w' ∧ match g with
    | .ok (y, r) => x = y ∧ Wk B s (posF s r) 0 0 w'
    | .error (er, r) => ∃ k, Wk B s k er ((posF s r : Nat) : Int) w'
section
variable {α : Type} {B : Nat} {s : Str} {w w' : World} {V : α → Value → World → Prop} {g : Got α} {en : Ending}
theorem EndsR.ok {x : α} {r : Bytes} (h : EndsR B s w V g en w') (hg : g = .ok (x, r)) : But B w w' ∧ ∃ v, en = .returned v ∧ V x v w' ∧ Wk B s (posF s r) 0 0 w' := by
  subst hg
  obtain ⟨hb, v, y, he, hv, rfl, hw⟩ := h
  exact ⟨hb, v, he, hv, hw⟩
theorem EndsR.error {er : Int} {r : Bytes} (h : EndsR B s w V g en w') (hg : g = .error (er, r)) : But B w w' ∧ ∃ v x k, en = .returned v ∧ V x v w' ∧ Wk B s k er ((posF s r : Nat) : Int) w' := by
  subst hg
  obtain ⟨hb, v, y, he, hv, k, hw⟩ := h
  exact ⟨hb, v, y, k, he, hv, hw⟩
theorem EndsR.mk_ok {x : α} {r : Bytes} (hg : g = .ok (x, r)) (hb : But B w w') {v : Value} (he : en = .returned v) (hv : V x v w') (hw : Wk B s (posF s r) 0 0 w') : EndsR B s w V g en w' := by subst hg; exact ⟨hb, v, x, he, hv, rfl, hw⟩
theorem EndsR.mk_error {er : Int} {r : Bytes} (hg : g = .error (er, r)) (hb : But B w w') {v : Value} {x : α} (he : en = .returned v) (hv : V x v w') {k : Nat} (hw : Wk B s k er ((posF s r : Nat) : Int) w') : EndsR B s w V g en w' := by subst hg; exact ⟨hb, v, x, he, hv, k, hw⟩
end
def VNone : Unit → Value → World → Prop := fun _ v _ => v = .tuple #[]

set_option maxRecDepth 100000 in
set_option maxHeartbeats 2000000 in
theorem needRef (B : Nat) (s : Str) (k : Nat) (sign : Str) (w : World) (hs : s.size ≤ 1099511627776) (hg : sign.size ≤ 1048576) (h : Wk B s k 0 0 w) :
    Calls Try.prog 49 #[.pointer (some ⟨B, 0, none⟩), .string sign] w fun e w' => EndsR B s w VNone (mustF (bytesOf sign) (rest s k)) e w' := by
  have KE := Lib.hid (eatRef B s k 0 sign w hs hg h)
  have hpe := posF_le s (eatF (bytesOf sign) (rest s k))
  cases he : eatsF (bytesOf sign) (rest s k)
  · have HM := Lib.hid (show mustF (bytesOf sign) (rest s k) = .error (2, eatF (bytesOf sign) (rest s k)) by unfold mustF; rw [he]; rfl)
    rw [he] at KE
    clear h he
    go_enter Try.func49, Try.ntmps49
    go_wp2_with (first
      | (go_at_call 47; refine (KE.out).mono ?_; rintro e w1 ⟨rfl, hp1, hb1⟩; have HP := Lib.hid hp1; have HB := Lib.hid hb1; clear hp1 hb1)
      | (go_at_call 45; refine (stopGood B s _ 0 2 _ HP.out).mono ?_; rintro e w2 ⟨rfl, hp2, hb2⟩; have HP2 := Lib.hid hp2; have HB2 := Lib.hid (HB.out.trans hb2); clear hp2 hb2))
    go_end0
    exact EndsR.mk_error HM.out HB2.out rfl (show VNone () _ _ from rfl) HP2.out
  · have HM := Lib.hid (show mustF (bytesOf sign) (rest s k) = .ok ((), eatF (bytesOf sign) (rest s k)) by unfold mustF; rw [he]; rfl)
    rw [he] at KE
    clear h he
    go_enter Try.func49, Try.ntmps49
    go_wp2_with (go_at_call 47; refine (KE.out).mono ?_; rintro e w1 ⟨rfl, hp1, hb1⟩; have HP := Lib.hid hp1; have HB := Lib.hid hb1; clear hp1 hb1)
    go_end0
    exact EndsR.mk_ok HM.out HB.out rfl rfl HP.out
set_option maxHeartbeats 1000000 in
theorem needBad (B : Nat) (s : Str) (k : Nat) (e f : Int) (he : e ≠ 0) (sign : Str) (w : World) (h : Wk B s k e f w) :
    Calls Try.prog 49 #[.pointer (some ⟨B, 0, none⟩), .string sign] w fun en w' => en = .returned (.tuple #[]) ∧ w = w' := by
  have KE := Lib.hid (eatBad B s k e f he sign w h)
  have KS := Lib.hid (stopBad B s k e f 2 he w h)
  clear h
  go_enter Try.func49, Try.ntmps49
  go_wp2_with (first
    | (go_at_call 47; refine (KE.out).mono ?_; rintro e w1 ⟨rfl, rfl⟩)
    | (go_at_call 45; refine (KS.out).mono ?_; rintro e w1 ⟨rfl, rfl⟩))
  go_end0
  exact ⟨rfl, rfl⟩
end Go.Proofs.Ytobbjapmdpkogaa
