/-
  THE WALKS OF THE PARSER's SMALL METHODS: blank, fail, eat, must, word; syntax.Variable; strings.HasPrefix.
-/
import Derived.Test.YtmnpneandkiblaaNamed
import Derived.Test.YtmnpneandkiblaaOwn
import Derived.Test.YtmnpneandkiblaaSynP
import Derived.Deep.QuietTactic
import Derived.BigQuiet
import Derived.Lib.PathFns
import Derived.Lib.IndexBytes
namespace Go.Proofs.Ytmnpneandkiblaa
open Go.RowKit

/-! ### Texts and positions -/
def bytesOf (s : Str) : Bytes := s.data.toList
theorem bytesOf_length (s : Str) : (bytesOf s).length = s.size := by unfold bytesOf; rw [Array.length_toList]; rfl
def rest (s : Str) (k : Nat) : Bytes := (bytesOf s).drop k
theorem rest_length (s : Str) (k : Nat) : (rest s k).length = s.size - k := by unfold rest; rw [List.length_drop, bytesOf_length]
theorem rest_cons (s : Str) (k : Nat) (h : k < s.size) : rest s k = s[k] :: rest s (k + 1) := drop_bytes s k h
theorem rest_end (s : Str) (k : Nat) (h : s.size ≤ k) : rest s k = [] := drop_bytes_end s k h
/-- The place at which r is what is left. -/
def posF (s : Str) (r : Bytes) : Nat := s.size - r.length
theorem rest_posF {s : Str} {r : Bytes} (h : r <:+ bytesOf s) : rest s (posF s r) = r := by
  obtain ⟨t, e⟩ := h
  unfold rest posF
  have hl := bytesOf_length s
  rw [← e, List.length_append] at hl
  rw [← e, show s.size - r.length = t.length by omega, List.drop_left]
theorem posF_le (s : Str) (r : Bytes) : posF s r ≤ s.size := by unfold posF; omega
theorem posF_rest (s : Str) {k : Nat} (h : k ≤ s.size) : posF s (rest s k) = k := by unfold posF; rw [rest_length]; omega
theorem rest_suffix (s : Str) (k : Nat) : rest s k <:+ bytesOf s := List.drop_suffix _ _
theorem posF_int (s : Str) {r : Bytes} (h : r <:+ bytesOf s) : ((posF s r : Nat) : Int) = (s.size : Int) - r.length := by
  have := h.length_le
  rw [bytesOf_length] at this
  unfold posF; omega
theorem drop_rest (s : Str) (k n : Nat) : (rest s k).drop n = rest s (k + n) := by unfold rest; rw [List.drop_drop]

/-! ### The parser in memory -/
structure Ps (B : Nat) (s : Str) (k : Nat) (w : World) : Prop where
  blk : w.heap[B]? = some (.cells #[.string s, .int .i64 (k : Int)] 98 (0, 0))
  le : k ≤ s.size
section
variable {B : Nat} {s : Str} {k : Nat} {w w' : World}
theorem Ps.lt (h : Ps B s k w) : B < w.heap.size := (Array.getElem?_eq_some_iff.1 h.blk).1
theorem Ps.c0 (h : Ps B s k w) : w.cell? ⟨B, 0, none⟩ = some (.string s) := cell_of_row w B 0 _ _ (0, 0) h.blk
theorem Ps.c1 (h : Ps B s k w) : w.cell? ⟨B, 1, none⟩ = some (.int .i64 (k : Int)) := cell_of_row w B 1 _ _ (0, 0) h.blk
theorem Ps.f (h : Ps B s k w) (i : Nat) : w.frozen? ⟨B, i, none⟩ = false := by simp [World.frozen?, h.blk]
theorem Ps.drew (h : Ps B s k w) : Ps B s k w.drew := ⟨h.blk, h.le⟩
theorem Ps.drewN (h : Ps B s k w) (n : Nat) : Ps B s k (w.drewN n) := ⟨h.blk, h.le⟩
theorem Ps.alloc (h : Ps B s k w) (o : Obj) : Ps B s k (w.alloc o) := ⟨(Below.heap_alloc w o B h.lt).trans h.blk, h.le⟩
theorem Ps.set (h : Ps B s k w) {j : Nat} (hj : j ≤ s.size) : Ps B s j (w.setCell ⟨B, 1, none⟩ (.int .i64 (j : Int))) := by
  refine ⟨?_, hj⟩
  have := h.blk
  simp [World.setCell, Array.getElem?_modify, this]
theorem Ps.far (h : Ps B s k w) {p : Addr} (hp : B ≠ p.block) (u : Value) : Ps B s k (w.setCell p u) := ⟨(Below.heap_setCell w p u B hp).trans h.blk, h.le⟩
theorem Ps.below {C : Nat} (h : Ps B s k w) (hb : Below C w w') (hC : B < C) : Ps B s k w' := ⟨(hb.block B hC).trans h.blk, h.le⟩
theorem Ps.grown {row : Option Nat} (h : Ps B s k w) (hb : w.grownBy w' row) (hg : some B ≠ row) : Ps B s k w' := ⟨(hb.block B h.lt hg).trans h.blk, h.le⟩
end
/-- Nothing but block B, and what is new, has turned. -/
abbrev But (B : Nat) (w w' : World) : Prop := w.grownBy w' (some B)
theorem But.refl (B : Nat) (w : World) : But B w w := World.grownBy.refl w _
theorem But.trans {B : Nat} {a b c : World} (h : But B a b) (k : But B b c) : But B a c :=
  ⟨h.os ▸ k.os ▸ rfl, h.tape ▸ k.tape ▸ rfl, h.output ▸ k.output ▸ rfl, Nat.le_trans h.size k.size, fun i hi hne => (k.block i (Nat.lt_of_lt_of_le hi h.size) hne).trans (h.block i hi hne)⟩
theorem But.drew {B : Nat} {a w : World} (h : But B a w) : But B a w.drew := ⟨h.os, h.tape, h.output, h.size, h.block⟩
theorem But.drewN {B : Nat} {a w : World} (h : But B a w) (n : Nat) : But B a (w.drewN n) := ⟨h.os, h.tape, h.output, h.size, h.block⟩
theorem But.alloc {B : Nat} {a w : World} (h : But B a w) (o : Obj) : But B a (w.alloc o) :=
  ⟨h.os, h.tape, h.output, Nat.le_trans h.size (by simp), fun i hi hne => (Below.heap_alloc w o i (Nat.lt_of_lt_of_le hi h.size)).trans (h.block i hi hne)⟩
theorem But.setCell {B : Nat} {a w : World} (h : But B a w) {p : Addr} (hp : p.block = B ∨ a.heap.size ≤ p.block) (u : Value) : But B a (w.setCell p u) :=
  ⟨h.os, h.tape, h.output, by simpa [World.setCell] using h.size, fun i hi hne => (Below.heap_setCell w p u i (by
    rintro rfl
    rcases hp with hp | hp
    · exact hne (by rw [hp])
    · omega)).trans (h.block i hi hne)⟩
theorem But.of_below {B : Nat} {a w : World} (h : Below a.heap.size a w) : But B a w := ⟨h.os, h.tape, h.output, h.size, fun i hi _ => h.block i hi⟩
theorem But.below {B : Nat} {a w w' : World} (h : But B a w) (k : Below w.heap.size w w') : But B a w' := h.trans (But.of_below k)
theorem But.cell {B : Nat} {a w : World} (h : But B a w) {c : Nat} (hc : c < a.heap.size) (hne : c ≠ B) (off : Nat) : w.cell? ⟨c, off, none⟩ = a.cell? ⟨c, off, none⟩ :=
  World.cell?_of_block (h.block c hc (fun e => hne (Option.some.inj e)))
theorem But.frozen {B : Nat} {a w : World} (h : But B a w) {c : Nat} (hc : c < a.heap.size) (hne : c ≠ B) (off : Nat) : w.frozen? ⟨c, off, none⟩ = a.frozen? ⟨c, off, none⟩ := by
  have := h.block c hc (fun e => hne (Option.some.inj e))
  simp [World.frozen?, this]

theorem Ps.set1 {B : Nat} {s : Str} {k : Nat} {w : World} (h : Ps B s k w) {j : Nat} (hj : j < s.size) : Ps B s (j + 1) (w.setCell ⟨B, 1, none⟩ (.int .i64 ((j : Int) + 1))) := by
  have := h.set (j := j + 1) hj
  simpa using this

/-! ### blank -/
theorem blankF_nl (n : Bool) (r : Bytes) : blankF n (10 :: r) = blankF false r := by rw [blankF, if_pos rfl]
theorem blankF_note (n : Bool) (r : Bytes) : blankF n (37 :: r) = blankF true r := by rw [blankF, if_neg (by decide), if_pos rfl]
theorem blankF_sp (n : Bool) (r : Bytes) : blankF n (32 :: r) = blankF n r := by rw [blankF, if_neg (by decide), if_neg (by decide), if_neg (by simp)]
theorem blankF_stop {c : UInt8} (r : Bytes) (h1 : c ≠ 10) (h2 : c ≠ 37) (h3 : c ≠ 32) : blankF false (c :: r) = c :: r := by rw [blankF, if_neg h1, if_neg h2, if_pos ⟨h3, rfl⟩]
theorem blankF_in {c : UInt8} (r : Bytes) (h1 : c ≠ 10) (h2 : c ≠ 37) : blankF true (c :: r) = blankF true r := by rw [blankF, if_neg h1, if_neg h2, if_neg (by simp)]

theorem byte_beq (c : UInt8) (n : Nat) (hn : n < 256) : ((c.toNat : Int) == (n : Int)) = decide (c = UInt8.ofNat n) := by
  rw [Bool.eq_iff_iff]
  simp only [beq_iff_eq, decide_eq_true_eq]
  constructor
  · intro h
    have h' : c.toNat = n := by omega
    rw [← h']; simp
  · rintro rfl
    rw [UInt8.toNat_ofNat']
    omega

attribute [local go_sem ↓] Go.wp_at_zero Go.wp_at_succ
set_option maxRecDepth 100000 in
set_option maxHeartbeats 4000000 in
theorem blankCalls (B : Nat) (s : Str) (k : Nat) (w : World) (hs : s.size ≤ 1099511627776) (h : Ps B s k w) :
    Calls Try.prog 59 #[.pointer (some ⟨B, 0, none⟩)] w fun e w' => e = .returned (.tuple #[]) ∧ Ps B s (posF s (blankF false (rest s k))) w' ∧ But B w w' := by
  have H := Lib.hid h
  clear h
  go_enter Try.func59, Try.ntmps59
  go_wp2
  go_loopg [2] (s.size + 1 - k) (fun gk note wr => ∃ (j : Nat) (nb : Bool), gk + j = s.size + 1 ∧ j ≤ s.size ∧ note = .bool nb ∧ Hid (Ps B s j wr) ∧ Hid (But B w wr) ∧ Hid (blankF nb (rest s j) = blankF false (rest s k)))
  case atStart => exact ⟨k, false, by have := H.out.le; omega, H.out.le, rfl, H, Lib.hid (But.refl B w), Lib.hid rfl⟩
  case round =>
    obtain ⟨j, nb, hg, hj, rfl, HP, HB, HR⟩ := hrel
    have c0 := HP.out.c0
    have c1 := HP.out.c1
    have hf := HP.out.f 1
    have j0 : (0 : Int) ≤ (j : Int) := by omega
    have j5 : IntKind.i64.wrap (j : Int) = j := by rw [IntKind.wrap_i64]; omega
    by_cases hlt : j < s.size
    · have j1 : (j : Int) < (s.size : Int) := by omega
      have j6 : IntKind.i64.wrap ((j : Int) + 1) = (j : Int) + 1 := by rw [IntKind.wrap_i64]; omega
      have HD := Lib.hid (rest_cons s j hlt)
      have e1 : ((s[j].toNat : Int) == 10) = decide (s[j] = 10) := byte_beq s[j] 10 (by omega)
      have e2 : ((s[j].toNat : Int) == 37) = decide (s[j] = 37) := byte_beq s[j] 37 (by omega)
      have e3 : ((s[j].toNat : Int) == 32) = decide (s[j] = 32) := byte_beq s[j] 32 (by omega)
      have e4 : ((s[j].toNat : Int) != 32) = !decide (s[j] = 32) := by rw [← e3]; rfl
      have HE := Lib.hid (HD.out ▸ HR.out : blankF nb (s[j] :: rest s (j + 1)) = blankF false (rest s k))
      obtain ⟨c, hc⟩ : ∃ c, c = s[j] := ⟨_, rfl⟩
      rw [← hc] at HE HD
      rw [← hc] at e1 e2 e3 e4
      by_cases h1 : c = 10
      · rw [h1, blankF_nl] at HE
        rw [decide_eq_true h1, hc] at e1
        clear e2 e3 e4 h1 hc HD
        go_wp2
        go_quiet (fail)
        go_wp2
        go_quiet (fail)
        go_wp2
        go_roundg (gk - 1)
        case measure => omega
        case rel => exact ⟨j + 1, false, by omega, by omega, rfl, Lib.hid ((HP.out.drewN _).set1 hlt), Lib.hid ((HB.out.drewN _).setCell (.inl rfl) _), HE⟩
      by_cases h2 : c = 37
      · rw [h2, blankF_note] at HE
        rw [decide_eq_false h1, hc] at e1
        rw [decide_eq_true h2, hc] at e2
        clear e3 e4 h1 h2 hc HD
        go_wp2
        go_quiet (fail)
        go_wp2
        go_quiet (fail)
        go_wp2
        go_roundg (gk - 1)
        case measure => omega
        case rel => exact ⟨j + 1, true, by omega, by omega, rfl, Lib.hid ((HP.out.drewN _).set1 hlt), Lib.hid ((HB.out.drewN _).setCell (.inl rfl) _), HE⟩
      rw [decide_eq_false h1] at e1
      rw [decide_eq_false h2] at e2
      by_cases h3 : c = 32
      · rw [h3, blankF_sp] at HE
        rw [decide_eq_true h3, hc] at e3 e4
        rw [hc] at e1 e2
        clear h1 h2 h3 hc HD
        go_wp2
        go_quiet (fail)
        go_wp2
        go_quiet (fail)
        go_wp2
        go_roundg (gk - 1)
        case measure => omega
        case rel => exact ⟨j + 1, nb, by omega, by omega, rfl, Lib.hid ((HP.out.drewN _).set1 hlt), Lib.hid ((HB.out.drewN _).setCell (.inl rfl) _), HE⟩
      rw [decide_eq_false h3, hc] at e3 e4
      rw [hc] at e1 e2
      have HC := Lib.hid (⟨h1, h2, h3⟩ : c ≠ 10 ∧ c ≠ 37 ∧ c ≠ 32)
      clear h1 h2 h3
      have HH := Lib.hid hc
      clear hc
      cases nb
      · rw [blankF_stop _ HC.out.1 HC.out.2.1 HC.out.2.2, ← HD.out] at HE
        go_wp2
        go_quiet (fail)
        go_wp2
        go_quiet (fail)
        go_wp2
        refine bodyPost_ret (results_none rfl _ _ _) rfl ?_
        exact ⟨rfl, by rw [← HE.out, posF_rest s hj]; exact HP.out.drewN _, HB.out.drewN _⟩
      · rw [blankF_in _ HC.out.1 HC.out.2.1] at HE
        go_wp2
        go_quiet (fail)
        go_wp2
        go_quiet (fail)
        go_wp2
        go_roundg (gk - 1)
        case measure => omega
        case rel => exact ⟨j + 1, true, by omega, by omega, rfl, Lib.hid ((HP.out.drewN _).set1 hlt), Lib.hid ((HB.out.drewN _).setCell (.inl rfl) _), HE⟩
    · have j1 : ¬ (j : Int) < (s.size : Int) := by omega
      have HE := Lib.hid (show ([] : Bytes) = blankF false (rest s k) by rw [← HR.out, rest_end s j (by omega)]; cases nb <;> rfl)
      obtain rfl : j = s.size := by omega
      go_wp2
      go_quiet (fail)
      go_wp2
      go_end0
      exact ⟨rfl, by rw [← HE.out]; exact HP.out.drewN _, HB.out.drewN _⟩

/-! ### fail -/
/-- What fail throws. -/
def oopsV (e : Int) (k : Nat) : List PanicEntry := [{ v := .iface 112 (.agg #[.int .i64 e, .int .i64 (k : Int)]), recovered := false }]
set_option maxHeartbeats 1000000 in
theorem failCalls (B : Nat) (s : Str) (k : Nat) (e0 : Int) (w : World) (h : Ps B s k w) :
    Calls Try.prog 60 #[.pointer (some ⟨B, 0, none⟩), .int .i64 e0] w fun e w' => e = .panicked (oopsV e0 k) ∧ w = w' := by
  have c1 := h.c1
  clear h
  go_enter Try.func60, Try.ntmps60
  go_wp2
  exact ⟨rfl, rfl, rfl⟩

/-! ### strings.HasPrefix -/
theorem prefix_take : ∀ (p l : Bytes), p.isPrefixOf l = (decide (p.length ≤ l.length) && (l.take p.length == p))
  | [], l => by simp
  | a :: p, [] => by simp
  | a :: p, b :: l => by
    rw [List.isPrefixOf_cons_cons, prefix_take p l, Bool.eq_iff_iff]
    simp only [List.length_cons, Nat.add_le_add_iff_right, List.take_succ_cons, Bool.and_eq_true, beq_iff_eq, decide_eq_true_eq, List.cons.injEq]
    constructor
    · rintro ⟨h1, h2, h3⟩; exact ⟨h2, h1.symm, h3⟩
    · rintro ⟨h2, h1, h3⟩; exact ⟨h1.symm, h2, h3⟩
set_option maxHeartbeats 1000000 in
theorem hasPrefix0 (s p : Str) (w : World) (hs : s.size ≤ 1099511627776) (hp : p.size ≤ 1099511627776) :
    Calls Try.prog 111 #[.string s, .string p] w fun e w' => e = .returned (.bool ((bytesOf p).isPrefixOf (bytesOf s))) ∧ w = w' := by
  rw [prefix_take, bytesOf_length, bytesOf_length]
  by_cases hle : p.size ≤ s.size
  · have i1 : (p.size : Int) ≤ (s.size : Int) := by omega
    have HE := Lib.hid (show ((bytesOf s).take p.size == bytesOf p) = ((s.extract 0 p.size).toList == p.toList) by
      rw [ByteArray.toList_eq, ByteArray.toList_eq]
      unfold bytesOf
      rw [Go.Lib.Pa.extract_upto_list s p.size])
    go_enter Try.func111, Try.ntmps111
    go_wp2
    go_ret
    exact ⟨ret_bool (by rw [HE.out]; simp [hle]), rfl⟩
  · have i1 : ¬ (p.size : Int) ≤ (s.size : Int) := by omega
    go_enter Try.func111, Try.ntmps111
    go_wp2
    go_ret
    exact ⟨ret_bool (by simp [hle]), rfl⟩
theorem hasPrefix (s p : Str) (w : World) (hs : s.size ≤ 1099511627776) (hp : p.size ≤ 1099511627776) :
    Calls Try.prog 101 #[.string s, .string p] w fun e w' => e = .returned (.bool ((bytesOf p).isPrefixOf (bytesOf s))) ∧ w = w' := by
  go_enter Try.func101, Try.ntmps101
  go_wp2_with (go_at_call 111; refine (hasPrefix0 s p _ hs hp).mono ?_; rintro e w' ⟨rfl, rfl⟩)
  go_ret
  exact ⟨rfl, rfl⟩

/-! ### eat -/
set_option maxRecDepth 100000 in
set_option maxHeartbeats 4000000 in
theorem eatCalls (B : Nat) (s : Str) (k : Nat) (sign : Str) (w : World) (hs : s.size ≤ 1099511627776) (hg : sign.size ≤ 1048576) (h : Ps B s k w) :
    Calls Try.prog 76 #[.pointer (some ⟨B, 0, none⟩), .string sign] w fun e w' => e = .returned (.bool (eatsF (bytesOf sign) (rest s k))) ∧ Ps B s (posF s (eatF (bytesOf sign) (rest s k))) w' ∧ But B w w' := by
  have KB := Lib.hid (blankCalls B s k w hs h)
  clear h
  unfold eatF
  have hr := rest_posF ((blankF_suffix false (rest s k)).trans (rest_suffix s k))
  unfold eatsF
  generalize hx : blankF false (rest s k) = r at *
  have HX := Lib.hid hx
  clear hx
  have hp := posF_le s r
  obtain ⟨j, hj⟩ : ∃ j, posF s r = j := ⟨_, rfl⟩
  rw [hj] at KB hp hr
  have KP := Lib.hid (fun W => hasPrefix (s.extract j s.size) sign W (by rw [ByteArray.size_extract]; omega) (by omega))
  have HE := Lib.hid (show bytesOf (s.extract j s.size) = r by rw [← hr]; exact Lib.extract_to_end s j)
  have HL := Lib.hid (show (bytesOf sign).isPrefixOf r = true → j + sign.size ≤ s.size from fun hh => by
    have h1 := List.IsPrefix.length_le (List.isPrefixOf_iff_prefix.1 hh)
    rw [bytesOf_length, ← hr, rest_length] at h1
    omega)
  have HD := Lib.hid (show r.drop (bytesOf sign).length = rest s (j + sign.size) by rw [bytesOf_length, ← hr, drop_rest])
  have HR := Lib.hid hr
  have HJ := Lib.hid hj
  clear hr hj
  rw [HE.out] at KP
  have j0 : (0 : Int) ≤ (j : Int) := by omega
  have j1 : (j : Int) ≤ (s.size : Int) := by omega
  have j5 : IntKind.i64.wrap (j : Int) = j := by rw [IntKind.wrap_i64]; omega
  cases hb : (bytesOf sign).isPrefixOf r
  · rw [hb] at KP
    clear hb
    go_enter Try.func76, Try.ntmps76
    go_wp2_with (go_at_call 59; refine (KB.out).mono ?_; rintro e w1 ⟨rfl, hp1, hb1⟩; have HP := Lib.hid hp1; have HB := Lib.hid hb1; have c0 := hp1.c0; have c1 := hp1.c1; clear hp1 hb1)
    go_quiet ((go_at_call 101; exact Calls.quiet_of_same ((KP.out _).mono fun _ _ ⟨a, b⟩ => ⟨a, b.symm⟩)))
    go_wp2
    go_ret
    exact ⟨rfl, by rw [HJ.out]; exact HP.out.drewN _, HB.out.drewN _⟩
  · have hl := HL.out hb
    rw [hb] at KP
    clear hb
    have i1 : (j : Int) + (sign.size : Int) ≤ (s.size : Int) := by omega
    go_enter Try.func76, Try.ntmps76
    go_wp2_with (go_at_call 59; refine (KB.out).mono ?_; rintro e w1 ⟨rfl, hp1, hb1⟩; have HP := Lib.hid hp1; have HB := Lib.hid hb1; have c0 := hp1.c0; have c1 := hp1.c1; have hf := hp1.f 1; clear hp1 hb1)
    go_quiet ((go_at_call 101; exact Calls.quiet_of_same ((KP.out _).mono fun _ _ ⟨a, b⟩ => ⟨a, b.symm⟩)))
    go_wp2
    go_ret
    refine ⟨rfl, ?_, (HB.out.drewN _).setCell (.inl rfl) _⟩
    rw [HD.out, posF_rest s hl]
    have := (HP.out.drewN nq).set hl
    simpa using this
end Go.Proofs.Ytmnpneandkiblaa
