/-
  THE TEXTS SynW1, SynW2, RowCut, one behind the other.
-/
import Derived.Test.YtiiicochdidolaaGreatTk1
import Derived.Deep.QuietTactic
import Derived.BigQuiet
import Derived.Lib.PathFns
import Derived.Lib.IndexBytes
namespace Go.Proofs.YtiiicochdidolaaGreat
open Go.RowKit
def bytesOf (s : Str) : Bytes := s.data.toList
theorem bytesOf_length (s : Str) : (bytesOf s).length = s.size := by unfold bytesOf;rw [Array.length_toList];rfl
def rest (s : Str) (k : Nat) : Bytes := (bytesOf s).drop k
theorem rest_length (s : Str) (k : Nat) : (rest s k).length = s.size - k := by unfold rest;rw [List.length_drop,bytesOf_length]
theorem rest_cons (s : Str) (k : Nat) (h : k < s.size) : rest s k = s[k] :: rest s (k + 1) := drop_bytes s k h
theorem rest_end (s : Str) (k : Nat) (h : s.size ≤ k) : rest s k = [] := drop_bytes_end s k h
def posF (s : Str) (r : Bytes) : Nat := s.size - r.length
theorem rest_posF {s : Str} {r : Bytes} (h : r <:+ bytesOf s) : rest s (posF s r) = r := by
  obtain ⟨t,e⟩ := h
  unfold rest posF
  have hl := bytesOf_length s
  rw [← e,List.length_append] at hl
  rw [← e,show s.size - r.length = t.length by omega,List.drop_left]
theorem posF_le (s : Str) (r : Bytes) : posF s r ≤ s.size := by unfold posF;omega
theorem posF_rest (s : Str) {k : Nat} (h : k ≤ s.size) : posF s (rest s k) = k := by unfold posF;rw [rest_length];omega
theorem rest_suffix (s : Str) (k : Nat) : rest s k <:+ bytesOf s := List.drop_suffix _ _
theorem posF_int (s : Str) {r : Bytes} (h : r <:+ bytesOf s) : ((posF s r : Nat) : Int) = (s.size : Int) - r.length := by
  have := h.length_le
  rw [bytesOf_length] at this
  unfold posF;omega
theorem drop_rest (s : Str) (k n : Nat) : (rest s k).drop n = rest s (k + n) := by unfold rest;rw [List.drop_drop]
structure Ps (B : Nat) (s : Str) (k : Nat) (w : World) : Prop where
  blk : w.heap[B]? = some (.cells #[.string s,.int .i64 (k : Int)] 87 (0,0))
  le : k ≤ s.size
section
variable {B : Nat} {s : Str} {k : Nat} {w w' : World}
theorem Ps.lt (h : Ps B s k w) : B < w.heap.size := (Array.getElem?_eq_some_iff.1 h.blk).1
theorem Ps.c0 (h : Ps B s k w) : w.cell? ⟨B,0,none⟩ = some (.string s) := cell_of_row w B 0 _ _ (0,0) h.blk
theorem Ps.c1 (h : Ps B s k w) : w.cell? ⟨B,1,none⟩ = some (.int .i64 (k : Int)) := cell_of_row w B 1 _ _ (0,0) h.blk
theorem Ps.f (h : Ps B s k w) (i : Nat) : w.frozen? ⟨B,i,none⟩ = false := by simp [World.frozen?,h.blk]
theorem Ps.drew (h : Ps B s k w) : Ps B s k w.drew := ⟨h.blk,h.le⟩
theorem Ps.drewN (h : Ps B s k w) (n : Nat) : Ps B s k (w.drewN n) := ⟨h.blk,h.le⟩
theorem Ps.alloc (h : Ps B s k w) (o : Obj) : Ps B s k (w.alloc o) := ⟨(Below.heap_alloc w o B h.lt).trans h.blk,h.le⟩
theorem Ps.set (h : Ps B s k w) {j : Nat} (hj : j ≤ s.size) : Ps B s j (w.setCell ⟨B,1,none⟩ (.int .i64 (j : Int))) := by
  refine ⟨?_,hj⟩
  have := h.blk
  simp [World.setCell,Array.getElem?_modify,this]
theorem Ps.far (h : Ps B s k w) {p : Addr} (hp : B ≠ p.block) (u : Value) : Ps B s k (w.setCell p u) := ⟨(Below.heap_setCell w p u B hp).trans h.blk,h.le⟩
theorem Ps.grown {row : Option Nat} (h : Ps B s k w) (hb : w.grownBy w' row) (hg : some B ≠ row) : Ps B s k w' := ⟨(hb.block B h.lt hg).trans h.blk,h.le⟩
end
abbrev But (B : Nat) (w w' : World) : Prop := w.grownBy w' (some B)
theorem But.refl (B : Nat) (w : World) : But B w w := World.grownBy.refl w _
theorem But.trans {B : Nat} {a b c : World} (h : But B a b) (k : But B b c) : But B a c :=
  ⟨h.os ▸ k.os ▸ rfl,h.tape ▸ k.tape ▸ rfl,h.output ▸ k.output ▸ rfl,Nat.le_trans h.size k.size,fun i hi hne => (k.block i (Nat.lt_of_lt_of_le hi h.size) hne).trans (h.block i hi hne)⟩
theorem But.drew {B : Nat} {a w : World} (h : But B a w) : But B a w.drew := ⟨h.os,h.tape,h.output,h.size,h.block⟩
theorem But.drewN {B : Nat} {a w : World} (h : But B a w) (n : Nat) : But B a (w.drewN n) := ⟨h.os,h.tape,h.output,h.size,h.block⟩
theorem But.alloc {B : Nat} {a w : World} (h : But B a w) (o : Obj) : But B a (w.alloc o) :=
  ⟨h.os,h.tape,h.output,Nat.le_trans h.size (by simp),fun i hi hne => (Below.heap_alloc w o i (Nat.lt_of_lt_of_le hi h.size)).trans (h.block i hi hne)⟩
theorem But.setCell {B : Nat} {a w : World} (h : But B a w) {p : Addr} (hp : p.block = B ∨ a.heap.size ≤ p.block) (u : Value) : But B a (w.setCell p u) :=
  ⟨h.os,h.tape,h.output,by simpa [World.setCell] using h.size,fun i hi hne => (Below.heap_setCell w p u i (by
    rintro rfl
    rcases hp with hp | hp
    · exact hne (by rw [hp])
    · omega)).trans (h.block i hi hne)⟩
theorem But.of_below {B : Nat} {a w : World} (h : Below a.heap.size a w) : But B a w := ⟨h.os,h.tape,h.output,h.size,fun i hi _ => h.block i hi⟩
theorem But.below {B : Nat} {a w w' : World} (h : But B a w) (k : Below w.heap.size w w') : But B a w' := h.trans (But.of_below k)
theorem Ps.set1 {B : Nat} {s : Str} {k : Nat} {w : World} (h : Ps B s k w) {j : Nat} (hj : j < s.size) : Ps B s (j + 1) (w.setCell ⟨B,1,none⟩ (.int .i64 ((j : Int) + 1))) := by
  have := h.set (j := j + 1) hj
  simpa using this
theorem blankF_nl (n : Bool) (r : Bytes) : blankF n (10 :: r) = blankF false r := by rw [blankF,if_pos rfl]
theorem blankF_note (n : Bool) (r : Bytes) : blankF n (37 :: r) = blankF true r := by rw [blankF,if_neg (by decide),if_pos rfl]
theorem blankF_sp (n : Bool) (r : Bytes) : blankF n (32 :: r) = blankF n r := by rw [blankF,if_neg (by decide),if_neg (by decide),if_neg (by simp)]
theorem blankF_stop {c : UInt8} (r : Bytes) (h1 : c ≠ 10) (h2 : c ≠ 37) (h3 : c ≠ 32) : blankF false (c :: r) = c :: r := by rw [blankF,if_neg h1,if_neg h2,if_pos ⟨h3,rfl⟩]
theorem blankF_in {c : UInt8} (r : Bytes) (h1 : c ≠ 10) (h2 : c ≠ 37) : blankF true (c :: r) = blankF true r := by rw [blankF,if_neg h1,if_neg h2,if_neg (by simp)]
theorem byte_beq (c : UInt8) (n : Nat) (hn : n < 256) : ((c.toNat : Int) == (n : Int)) = decide (c = UInt8.ofNat n) := by
  rw [Bool.eq_iff_iff]
  simp only [beq_iff_eq,decide_eq_true_eq]
  constructor
  · intro h
    have h' : c.toNat = n := by omega
    rw [← h'];simp
  · rintro rfl
    rw [UInt8.toNat_ofNat']
    omega
attribute [local go_sem ↓] Go.wp_at_zero Go.wp_at_succ
set_option maxRecDepth 100000 in
set_option maxHeartbeats 4000000 in
theorem blankCalls (B : Nat) (s : Str) (k : Nat) (w : World) (hs : s.size ≤ 1099511627776) (h : Ps B s k w) :
    Calls Tryz.prog 25 #[.pointer (some ⟨B,0,none⟩)] w fun e w' => e = .returned (.tuple #[]) ∧ Ps B s (posF s (blankF false (rest s k))) w' ∧ But B w w' := by
  have H := Lib.hid h
  clear h
  go_enter Tryz.func25,Tryz.ntmps25
  go_wp2
  go_loopg [2] (s.size + 1 - k) (fun gk note wr => ∃ (j : Nat) (nb : Bool),gk + j = s.size + 1 ∧ j ≤ s.size ∧ note = .bool nb ∧ Hid (Ps B s j wr) ∧ Hid (But B w wr) ∧ Hid (blankF nb (rest s j) = blankF false (rest s k)))
  case atStart => exact ⟨k,false,by have := H.out.le;omega,H.out.le,rfl,H,Lib.hid (But.refl B w),Lib.hid rfl⟩
  case round =>
    obtain ⟨j,nb,hg,hj,rfl,HP,HB,HR⟩ := hrel
    have c0 := HP.out.c0
    have c1 := HP.out.c1
    have hf := HP.out.f 1
    have j0 : (0 : Int) ≤ (j : Int) := by omega
    have j5 : IntKind.i64.wrap (j : Int) = j := by rw [IntKind.wrap_i64];omega
    by_cases hlt : j < s.size
    · have j1 : (j : Int) < (s.size : Int) := by omega
      have j6 : IntKind.i64.wrap ((j : Int) + 1) = (j : Int) + 1 := by rw [IntKind.wrap_i64];omega
      have HD := Lib.hid (rest_cons s j hlt)
      have e1 : ((s[j].toNat : Int) == 10) = decide (s[j] = 10) := byte_beq s[j] 10 (by omega)
      have e2 : ((s[j].toNat : Int) == 37) = decide (s[j] = 37) := byte_beq s[j] 37 (by omega)
      have e3 : ((s[j].toNat : Int) == 32) = decide (s[j] = 32) := byte_beq s[j] 32 (by omega)
      have e4 : ((s[j].toNat : Int) != 32) = !decide (s[j] = 32) := by rw [← e3];rfl
      have HE := Lib.hid (HD.out ▸ HR.out : blankF nb (s[j] :: rest s (j + 1)) = blankF false (rest s k))
      obtain ⟨c,hc⟩ : ∃ c,c = s[j] := ⟨_,rfl⟩
      rw [← hc] at HE HD
      rw [← hc] at e1 e2 e3 e4
      by_cases h1 : c = 10
      · rw [h1,blankF_nl] at HE
        rw [decide_eq_true h1,hc] at e1
        clear e2 e3 e4 h1 hc HD
        go_wp2
        go_quiet (fail)
        go_wp2
        go_quiet (fail)
        go_wp2
        go_roundg (gk - 1)
        case measure => omega
        case rel => exact ⟨j + 1,false,by omega,by omega,rfl,Lib.hid ((HP.out.drewN _).set1 hlt),Lib.hid ((HB.out.drewN _).setCell (.inl rfl) _),HE⟩
      by_cases h2 : c = 37
      · rw [h2,blankF_note] at HE
        rw [decide_eq_false h1,hc] at e1
        rw [decide_eq_true h2,hc] at e2
        clear e3 e4 h1 h2 hc HD
        go_wp2
        go_quiet (fail)
        go_wp2
        go_quiet (fail)
        go_wp2
        go_roundg (gk - 1)
        case measure => omega
        case rel => exact ⟨j + 1,true,by omega,by omega,rfl,Lib.hid ((HP.out.drewN _).set1 hlt),Lib.hid ((HB.out.drewN _).setCell (.inl rfl) _),HE⟩
      rw [decide_eq_false h1] at e1
      rw [decide_eq_false h2] at e2
      by_cases h3 : c = 32
      · rw [h3,blankF_sp] at HE
        rw [decide_eq_true h3,hc] at e3 e4
        rw [hc] at e1 e2
        clear h1 h2 h3 hc HD
        go_wp2
        go_quiet (fail)
        go_wp2
        go_quiet (fail)
        go_wp2
        go_roundg (gk - 1)
        case measure => omega
        case rel => exact ⟨j + 1,nb,by omega,by omega,rfl,Lib.hid ((HP.out.drewN _).set1 hlt),Lib.hid ((HB.out.drewN _).setCell (.inl rfl) _),HE⟩
      rw [decide_eq_false h3,hc] at e3 e4
      rw [hc] at e1 e2
      have HC := Lib.hid (⟨h1,h2,h3⟩ : c ≠ 10 ∧ c ≠ 37 ∧ c ≠ 32)
      clear h1 h2 h3
      have HH := Lib.hid hc
      clear hc
      cases nb
      · rw [blankF_stop _ HC.out.1 HC.out.2.1 HC.out.2.2,← HD.out] at HE
        go_wp2
        go_quiet (fail)
        go_wp2
        go_quiet (fail)
        go_wp2
        refine bodyPost_ret (results_none rfl _ _ _) rfl ?_
        exact ⟨rfl,by rw [← HE.out,posF_rest s hj];exact HP.out.drewN _,HB.out.drewN _⟩
      · rw [blankF_in _ HC.out.1 HC.out.2.1] at HE
        go_wp2
        go_quiet (fail)
        go_wp2
        go_quiet (fail)
        go_wp2
        go_roundg (gk - 1)
        case measure => omega
        case rel => exact ⟨j + 1,true,by omega,by omega,rfl,Lib.hid ((HP.out.drewN _).set1 hlt),Lib.hid ((HB.out.drewN _).setCell (.inl rfl) _),HE⟩
    · have j1 : ¬ (j : Int) < (s.size : Int) := by omega
      have HE := Lib.hid (show ([] : Bytes) = blankF false (rest s k) by rw [← HR.out,rest_end s j (by omega)];cases nb <;> rfl)
      obtain rfl : j = s.size := by omega
      go_wp2
      go_quiet (fail)
      go_wp2
      go_end0
      exact ⟨rfl,by rw [← HE.out];exact HP.out.drewN _,HB.out.drewN _⟩
def oopsV (e : Int) (k : Nat) : List PanicEntry := [{ v := .iface 124 (.agg #[.int .i64 e,.int .i64 (k : Int)]),recovered := false }]
set_option maxHeartbeats 1000000 in
theorem failCalls (B : Nat) (s : Str) (k : Nat) (e0 : Int) (w : World) (h : Ps B s k w) :
    Calls Tryz.prog 26 #[.pointer (some ⟨B,0,none⟩),.int .i64 e0] w fun e w' => e = .panicked (oopsV e0 k) ∧ w = w' := by
  have c1 := h.c1
  clear h
  go_enter Tryz.func26,Tryz.ntmps26
  go_wp2
  exact ⟨rfl,rfl,rfl⟩
theorem prefix_take : ∀ (p l : Bytes),p.isPrefixOf l = (decide (p.length ≤ l.length) && (l.take p.length == p))
  | [],l => by simp
  | a :: p,[] => by simp
  | a :: p,b :: l => by
    rw [List.isPrefixOf_cons_cons,prefix_take p l,Bool.eq_iff_iff]
    simp only [List.length_cons,Nat.add_le_add_iff_right,List.take_succ_cons,Bool.and_eq_true,beq_iff_eq,decide_eq_true_eq,List.cons.injEq]
    constructor
    · rintro ⟨h1,h2,h3⟩;exact ⟨h2,h1.symm,h3⟩
    · rintro ⟨h2,h1,h3⟩;exact ⟨h1.symm,h2,h3⟩
set_option maxHeartbeats 1000000 in
theorem hasPrefix0 (s p : Str) (w : World) (_ : s.size ≤ 1099511627776) (_ : p.size ≤ 1099511627776) :
    Calls Tryz.prog 116 #[.string s,.string p] w fun e w' => e = .returned (.bool ((bytesOf p).isPrefixOf (bytesOf s))) ∧ w = w' := by
  rw [prefix_take,bytesOf_length,bytesOf_length]
  by_cases hle : p.size ≤ s.size
  · have i1 : (p.size : Int) ≤ (s.size : Int) := by omega
    have HE := Lib.hid (show ((bytesOf s).take p.size == bytesOf p) = ((s.extract 0 p.size).toList == p.toList) by
      rw [ByteArray.toList_eq,ByteArray.toList_eq]
      unfold bytesOf
      rw [Go.Lib.Pa.extract_upto_list s p.size])
    go_enter Tryz.func116,Tryz.ntmps116
    go_wp2
    go_ret
    exact ⟨ret_bool (by rw [HE.out];simp [hle]),rfl⟩
  · have i1 : ¬ (p.size : Int) ≤ (s.size : Int) := by omega
    go_enter Tryz.func116,Tryz.ntmps116
    go_wp2
    go_ret
    exact ⟨ret_bool (by simp),rfl⟩
theorem hasPrefix (s p : Str) (w : World) (hs : s.size ≤ 1099511627776) (hp : p.size ≤ 1099511627776) :
    Calls Tryz.prog 88 #[.string s,.string p] w fun e w' => e = .returned (.bool ((bytesOf p).isPrefixOf (bytesOf s))) ∧ w = w' := by
  go_enter Tryz.func88,Tryz.ntmps88
  go_wp2_with (go_at_call 116;refine (hasPrefix0 s p _ hs hp).mono ?_;rintro e w' ⟨rfl,rfl⟩)
  go_ret
  exact ⟨rfl,rfl⟩
set_option maxRecDepth 100000 in
set_option maxHeartbeats 4000000 in
theorem eatCalls (B : Nat) (s : Str) (k : Nat) (sign : Str) (w : World) (hs : s.size ≤ 1099511627776) (hg : sign.size ≤ 1048576) (h : Ps B s k w) :
    Calls Tryz.prog 53 #[.pointer (some ⟨B,0,none⟩),.string sign] w fun e w' => e = .returned (.bool (eatsF (bytesOf sign) (rest s k))) ∧ Ps B s (posF s (eatF (bytesOf sign) (rest s k))) w' ∧ But B w w' := by
  have KB := Lib.hid (blankCalls B s k w hs h)
  clear h
  unfold eatF
  have hr := rest_posF ((blankF_suffix false (rest s k)).trans (rest_suffix s k))
  unfold eatsF
  generalize hx : blankF false (rest s k) = r at *
  have HX := Lib.hid hx
  clear hx
  have hp := posF_le s r
  obtain ⟨j,hj⟩ : ∃ j,posF s r = j := ⟨_,rfl⟩
  rw [hj] at KB hp hr
  have KP := Lib.hid (fun W => hasPrefix (s.extract j s.size) sign W (by rw [ByteArray.size_extract];omega) (by omega))
  have HE := Lib.hid (show bytesOf (s.extract j s.size) = r by rw [← hr];exact Lib.extract_to_end s j)
  have HL := Lib.hid (show (bytesOf sign).isPrefixOf r = true → j + sign.size ≤ s.size from fun hh => by
    have h1 := List.IsPrefix.length_le (List.isPrefixOf_iff_prefix.1 hh)
    rw [bytesOf_length,← hr,rest_length] at h1
    omega)
  have HD := Lib.hid (show r.drop (bytesOf sign).length = rest s (j + sign.size) by rw [bytesOf_length,← hr,drop_rest])
  have HR := Lib.hid hr
  have HJ := Lib.hid hj
  clear hr hj
  rw [HE.out] at KP
  have j0 : (0 : Int) ≤ (j : Int) := by omega
  have j1 : (j : Int) ≤ (s.size : Int) := by omega
  have j5 : IntKind.i64.wrap (j : Int) = j := by rw [IntKind.wrap_i64];omega
  cases hb : (bytesOf sign).isPrefixOf r
  · rw [hb] at KP
    clear hb
    go_enter Tryz.func53,Tryz.ntmps53
    go_wp2_with (go_at_call 25;refine (KB.out).mono ?_;rintro e w1 ⟨rfl,hp1,hb1⟩;have HP := Lib.hid hp1;have HB := Lib.hid hb1;have c0 := hp1.c0;have c1 := hp1.c1;clear hp1 hb1)
    go_quiet ((go_at_call 88;exact Calls.quiet_of_same ((KP.out _).mono fun _ _ ⟨a,b⟩ => ⟨a,b.symm⟩)))
    go_wp2
    go_ret
    exact ⟨rfl,by rw [HJ.out];exact HP.out.drewN _,HB.out.drewN _⟩
  · have hl := HL.out hb
    rw [hb] at KP
    clear hb
    have i1 : (j : Int) + (sign.size : Int) ≤ (s.size : Int) := by omega
    go_enter Tryz.func53,Tryz.ntmps53
    go_wp2_with (go_at_call 25;refine (KB.out).mono ?_;rintro e w1 ⟨rfl,hp1,hb1⟩;have HP := Lib.hid hp1;have HB := Lib.hid hb1;have c0 := hp1.c0;have c1 := hp1.c1;have hf := hp1.f 1;clear hp1 hb1)
    go_quiet ((go_at_call 88;exact Calls.quiet_of_same ((KP.out _).mono fun _ _ ⟨a,b⟩ => ⟨a,b.symm⟩)))
    go_wp2
    go_ret
    refine ⟨rfl,?_,(HB.out.drewN _).setCell (.inl rfl) _⟩
    rw [HD.out,posF_rest s hl]
    have := (HP.out.drewN nq).set hl
    simpa using this
end Go.Proofs.YtiiicochdidolaaGreat
namespace Go.Proofs.YtiiicochdidolaaGreat
open Go.RowKit
theorem named_a (t : Str) : named (⟨#[97]⟩ ++ t) = (decide (t.size ≤ 11) && (bytesOf t).all signB) := by
  have e : (⟨#[97]⟩ ++ t : ByteArray).data.toList = 97 :: bytesOf t := by
    show (⟨#[97]⟩ ++ t : ByteArray).data.toList = _
    rw [ByteArray.data_append]
    simp [bytesOf]
  unfold named
  rw [e]
  unfold nameL
  simp only [List.length_cons,bytesOf_length]
  rw [show smallB 97 = true from by decide]
  simp only [Bool.true_and]
  congr 1
  simp
theorem variableS_cons (s : Str) (h : 0 < s.size) (h2 : s.size ≤ 12) : variableS s = (upperB s[0] && (bytesOf (s.extract 1 s.size)).all signB) := by
  have e : bytesOf s = s[0] :: rest s 1 := by have := rest_cons s 0 h;simpa [rest] using this
  have e2 : bytesOf (s.extract 1 s.size) = rest s 1 := Lib.extract_to_end s 1
  unfold variableS
  rw [show s.data.toList = bytesOf s from rfl,e,e2]
  unfold varL
  have hl : (s[0] :: rest s 1).length = s.size := by rw [← e,bytesOf_length]
  rw [hl,decide_eq_true h2]
  rfl
set_option maxHeartbeats 2000000 in
theorem variableCalls (s : Str) (w : World) (hs : s.size ≤ 1099511627776) : Calls Tryz.prog 86 #[.string s] w fun e w' => e = .returned (.bool (variableS s)) ∧ w = w' := by
  by_cases h0 : s.size < 1
  · have i1 : (s.size : Int) < 1 := by omega
    have HE := Lib.hid (show variableS s = false by
      have : bytesOf s = [] := List.eq_nil_of_length_eq_zero (by rw [bytesOf_length];omega)
      unfold variableS
      rw [show s.data.toList = bytesOf s from rfl,this]
      rfl)
    go_enter Tryz.func86,Tryz.ntmps86
    go_wp2
    go_ret
    exact ⟨ret_bool HE.out.symm,rfl⟩
  by_cases h12 : 12 < s.size
  · have i1 : ¬ (s.size : Int) < 1 := by omega
    have i2 : (12 : Int) < (s.size : Int) := by omega
    have HE := Lib.hid (show variableS s = false by
      unfold variableS varL
      rw [show s.data.toList = bytesOf s from rfl,bytesOf_length,decide_eq_false (by omega)]
      rfl)
    go_enter Tryz.func86,Tryz.ntmps86
    go_wp2
    go_ret
    exact ⟨ret_bool HE.out.symm,rfl⟩
  have i1 : ¬ (s.size : Int) < 1 := by omega
  have i2 : ¬ (12 : Int) < (s.size : Int) := by omega
  have i3 : (0 : Int) < (s.size : Int) := by omega
  have h1 : 0 < s.size := by omega
  have HV := Lib.hid (variableS_cons s h1 (by omega))
  by_cases hlo : s[0].toNat < 65
  · have i4 : (s[0].toNat : Int) < 65 := by omega
    have HE := Lib.hid (show variableS s = false by rw [HV.out];simp [upperB];omega)
    go_enter Tryz.func86,Tryz.ntmps86
    go_wp2
    go_ret
    exact ⟨ret_bool HE.out.symm,rfl⟩
  by_cases hhi : 90 < s[0].toNat
  · have i4 : ¬ (s[0].toNat : Int) < 65 := by omega
    have i5 : (90 : Int) < (s[0].toNat : Int) := by omega
    have HE := Lib.hid (show variableS s = false by rw [HV.out];simp [upperB];omega)
    go_enter Tryz.func86,Tryz.ntmps86
    go_wp2
    go_ret
    exact ⟨ret_bool HE.out.symm,rfl⟩
  have i4 : ¬ (s[0].toNat : Int) < 65 := by omega
  have i5 : ¬ (90 : Int) < (s[0].toNat : Int) := by omega
  have i6 : (1 : Int) ≤ (s.size : Int) := by omega
  have HE := Lib.hid (show variableS s = named (⟨#[97]⟩ ++ s.extract 1 s.size) by
    rw [HV.out,named_a,show upperB s[0] = true from decide_eq_true ⟨by omega,by omega⟩,ByteArray.size_extract,decide_eq_true (by omega)])
  go_enter Tryz.func86,Tryz.ntmps86
  go_wp2_with fail
  refine (namedCalls _ _).mono ?_
  rintro e w' ⟨rfl,rfl⟩
  go_wp2
  go_ret
  exact ⟨ret_bool HE.out.symm,rfl⟩
theorem ret_str {a b : Str} (h : a = b) : Ending.returned (.string a) = .returned (.string b) := by rw [h]
theorem mustCalls (B : Nat) (s : Str) (k : Nat) (sign : Str) (w : World) (hs : s.size ≤ 1099511627776) (hg : sign.size ≤ 1048576) (h : Ps B s k w) :
    Calls Tryz.prog 87 #[.pointer (some ⟨B,0,none⟩),.string sign] w fun e w' => (e = if eatsF (bytesOf sign) (rest s k) then .returned (.tuple #[]) else .panicked (oopsV 2 (posF s (eatF (bytesOf sign) (rest s k))))) ∧ Ps B s (posF s (eatF (bytesOf sign) (rest s k))) w' ∧ But B w w' := by
  have K := Lib.hid (eatCalls B s k sign w hs hg h)
  clear h
  generalize posF s (eatF (bytesOf sign) (rest s k)) = j at *
  cases hb : eatsF (bytesOf sign) (rest s k)
  · rw [hb] at K
    clear hb
    go_enter Tryz.func87,Tryz.ntmps87
    go_wp2_with (first
      | (go_at_call 53;refine (K.out).mono ?_;rintro e w1 ⟨rfl,hp1,hb1⟩;have HP := Lib.hid hp1;have HB := Lib.hid hb1;clear hp1 hb1)
      | (go_at_call 26;refine (failCalls B s j 2 _ HP.out).mono ?_;rintro e w2 ⟨rfl,rfl⟩))
    exact ⟨rfl,rfl,HP.out,HB.out⟩
  · rw [hb] at K
    clear hb
    go_enter Tryz.func87,Tryz.ntmps87
    go_wp2_with (go_at_call 53;refine (K.out).mono ?_;rintro e w1 ⟨rfl,hp1,hb1⟩;have HP := Lib.hid hp1;have HB := Lib.hid hb1;clear hp1 hb1)
    go_end0
    exact ⟨rfl,HP.out,HB.out⟩
theorem takeWhile_cut (l : Bytes) (n : Nat) (h : (l.takeWhile signB).length = n) : l.takeWhile signB = l.take n ∧ (∀ i c,i < n → l[i]? = some c → signB c = true) ∧ (∀ c,l[n]? = some c → signB c = false) := by
  induction l generalizing n with
  | nil => simp at h;subst h;simp
  | cons a l ih =>
    rw [List.takeWhile_cons] at h ⊢
    by_cases ha : signB a = true
    · rw [if_pos ha] at h ⊢
      cases n with
      | zero => simp at h
      | succ n =>
        obtain ⟨h1,h2,h3⟩ := ih n (by simpa using h)
        refine ⟨by rw [List.take_succ_cons,← h1],fun i c hi hc => ?_,fun c hc => h3 c (by simpa using hc)⟩
        cases i with
        | zero => simp at hc;subst hc;exact ha
        | succ i => exact h2 i c (by omega) (by simpa using hc)
    · rw [if_neg ha] at h ⊢
      simp at h
      subst h
      refine ⟨by simp,fun i c hi => by omega,fun c hc => ?_⟩
      simp at hc;subst hc;simpa using ha
theorem rest_get (s : Str) (k i : Nat) (h : k + i < s.size) : (rest s k)[i]? = some s[k + i] := by
  have h1 := rest_cons s (k + i) h
  have h2 : (rest s k)[i]? = (rest s (k + i))[0]? := by unfold rest;rw [List.getElem?_drop,List.getElem?_drop];rfl
  rw [h2,h1];rfl
theorem extract_bytes (s : Str) (a b : Nat) (h : a ≤ b) : bytesOf (s.extract a b) = (rest s a).take (b - a) := by
  unfold bytesOf rest bytesOf
  rw [ByteArray.data_extract]
  simp [List.take_drop,Nat.add_sub_cancel' h]
theorem str_ext {a b : Str} (h : bytesOf a = bytesOf b) : a = b := by
  cases a;cases b
  simpa [bytesOf,Array.toList_inj] using h
theorem named_strOf (l : Bytes) : named (strOf l) = nameL l := by simp [named,strOf]
theorem variableS_strOf (l : Bytes) : variableS (strOf l) = varL l := by simp [variableS,strOf]
set_option maxRecDepth 100000 in
set_option maxHeartbeats 4000000 in
theorem wordCalls0 (B : Nat) (s : Str) (k : Nat) (w : World) (hs : s.size ≤ 1099511627776) (h : Ps B s k w) (r0 t : Bytes) (e2 : Int) (hr : blankF false (rest s k) = r0) (ht : r0.takeWhile signB = t)
    (he : e2 = if t = [] then 2 else if nameL t = false ∧ varL t = false then 7 else 0) :
    Calls Tryz.prog 85 #[.pointer (some ⟨B,0,none⟩)] w fun e w' => (e = if e2 = 0 then .returned (.string (strOf t)) else .panicked (oopsV e2 (posF s r0))) ∧ Ps B s (if e2 = 0 then posF s (r0.drop t.length) else posF s r0) w' ∧ But B w w' := by
  have KB := Lib.hid (blankCalls B s k w hs h)
  rw [hr] at KB
  have hsuf : r0 <:+ bytesOf s := hr ▸ (blankF_suffix false (rest s k)).trans (rest_suffix s k)
  have hrp := rest_posF hsuf
  have hp := posF_le s r0
  clear h hr
  obtain ⟨j0,hj⟩ : ∃ j,posF s r0 = j := ⟨_,rfl⟩
  rw [hj] at KB hp hrp ⊢
  clear hj hsuf
  subst hrp
  obtain ⟨n,hn⟩ : ∃ n,t.length = n := ⟨_,rfl⟩
  obtain ⟨ht1,ht2,ht3⟩ := takeWhile_cut (rest s j0) n (by rw [ht];exact hn)
  rw [ht] at ht1
  have hnle : n ≤ s.size - j0 := by rw [← hn,← ht,← rest_length];exact (List.takeWhile_prefix _).length_le
  have HS := Lib.hid (show ∀ i,(h : i < s.size) → j0 ≤ i → i < j0 + n → named (⟨#[97]⟩ ++ s.extract i (i + 1)) = true from fun i h h1 h2 => by
    have hg := ht2 (i - j0) s[i] (by omega) (by rw [rest_get s j0 (i - j0) (by omega)];simp [Nat.add_sub_cancel' h1])
    rw [named_a,extract_bytes s i (i + 1) (by omega),rest_cons s i h,ByteArray.size_extract]
    simp [hg];omega)
  have HN := Lib.hid (show (h : j0 + n < s.size) → named (⟨#[97]⟩ ++ s.extract (j0 + n) (j0 + n + 1)) = false from fun h => by
    have hg := ht3 s[j0 + n] (rest_get s j0 n h)
    rw [named_a,extract_bytes s (j0 + n) (j0 + n + 1) (by omega),rest_cons s (j0 + n) h]
    simp [hg])
  have HW := Lib.hid (show s.extract j0 (j0 + n) = strOf t from str_ext (by rw [extract_bytes s _ _ (by omega),ht1];simp [strOf,bytesOf]))
  have HD := Lib.hid (show posF s ((rest s j0).drop t.length) = j0 + n by rw [hn,drop_rest,posF_rest s (by omega)])
  have HE := Lib.hid he
  clear ht ht1 ht2 ht3 he
  obtain ⟨j1,hj1⟩ : ∃ j1,j0 + n = j1 := ⟨_,rfl⟩
  have g1 : j0 ≤ j1 := by omega
  have g2 : j1 ≤ s.size := by omega
  rw [hj1] at HS HN HW HD
  clear hj1 hn hnle
  have hf0 : t = [] → (s.extract j0 j1).toList.isEmpty = true ∧ ((s.extract j0 j1).toList == []) = true := fun h => by
    rw [HW.out,h,ByteArray.toList_eq];exact ⟨rfl,rfl⟩
  have hf1 : t ≠ [] → (s.extract j0 j1).toList.isEmpty = false ∧ ((s.extract j0 j1).toList == []) = false := fun h => by
    rw [HW.out,ByteArray.toList_eq]
    cases t with
    | nil => exact absurd rfl h
    | cons a t => exact ⟨rfl,rfl⟩
  have HF0 := Lib.hid hf0
  have HF1 := Lib.hid hf1
  have HNM := Lib.hid (show named (s.extract j0 j1) = nameL t by rw [HW.out,named_strOf])
  have HVR := Lib.hid (show variableS (s.extract j0 j1) = varL t by rw [HW.out,variableS_strOf])
  have hsz : (s.extract j0 j1).size ≤ 1099511627776 := by rw [ByteArray.size_extract];omega
  have HSZ := Lib.hid hsz
  clear hf0 hf1 hsz
  have KV := Lib.hid (fun W => variableCalls (s.extract j0 j1) W HSZ.out)
  rw [HVR.out] at KV
  have KM := Lib.hid (fun W => namedCalls (s.extract j0 j1) W)
  rw [HNM.out] at KM
  have j00 : (0 : Int) ≤ (j0 : Int) := by omega
  have j01 : (j0 : Int) ≤ (j1 : Int) := by omega
  have j02 : (j1 : Int) ≤ (s.size : Int) := by omega
  have j03 : (0 : Int) ≤ (j1 : Int) := by omega
  go_enter Tryz.func85,Tryz.ntmps85
  go_wp2_with (go_at_call 25;refine (KB.out).mono ?_;rintro e w1 ⟨rfl,hp1,hb1⟩;have HP := Lib.hid hp1;have HB := Lib.hid hb1;have c0 := hp1.c0;have c1 := hp1.c1;have hf := hp1.f 1;clear hp1 hb1)
  go_loop [3] (fun v => ∃ j : Nat,j0 ≤ j ∧ j ≤ j1 ∧ v = .int .i64 j) (fun v => j1 - (intOf v).toNat)
  case atStart => exact ⟨j0,Nat.le_refl _,g1,rfl⟩
  case round =>
    obtain ⟨j,hja,hjb,rfl⟩ := hrel
    have k0 : (0 : Int) ≤ (j : Int) := by omega
    have k5 : IntKind.i64.wrap (j : Int) = j := by rw [IntKind.wrap_i64];omega
    by_cases hlt : j < j1
    · have k1 : (j : Int) < (s.size : Int) := by omega
      have k2 : (j : Int) + 1 ≤ (s.size : Int) := by omega
      have KN := Lib.hid (HS.out j (by omega) hja hlt)
      go_wp2_with fail
      refine (namedCalls _ _).mono ?_
      rw [KN.out]
      rintro e w' ⟨rfl,rfl⟩
      go_wp2
      go_round
      case rel => exact ⟨j + 1,by omega,by omega,by go_num⟩
      case measure => simp [intOf];omega
    · obtain rfl : j = j1 := by omega
      by_cases h1 : j < s.size
      · have k1 : (j : Int) < (s.size : Int) := by omega
        have k2 : (j : Int) + 1 ≤ (s.size : Int) := by omega
        have KN := Lib.hid (HN.out h1)
        go_wp2_with fail
        refine (namedCalls _ _).mono ?_
        rw [KN.out]
        rintro e w' ⟨rfl,rfl⟩
        go_wp2
        go_quiet (fail)
        by_cases ht : t = []
        · rw [if_pos ht] at HE
          obtain ⟨q1,q2⟩ := HF0.out ht
          have HE2 := HE.out
          clear ht HE
          subst HE2
          go_wp2_with (go_at_call 26;refine (failCalls B s j0 2 _ (HP.out.drewN _)).mono ?_;rintro e w2 ⟨rfl,rfl⟩)
          exact ⟨rfl,rfl,HP.out.drewN _,HB.out.drewN _⟩
        · rw [if_neg ht] at HE
          obtain ⟨q1,q2⟩ := HF1.out ht
          clear ht
          cases hn1 : nameL t
          · rw [hn1] at HE KM
            clear hn1
            cases hv1 : varL t
            · rw [hv1,if_pos (by simp)] at HE
              rw [hv1] at KV
              have HE2 := HE.out
              clear hv1 HE
              subst HE2
              go_wp2_with (first | (go_at_call 109;refine (KM.out _).mono ?_;rintro e w2 ⟨rfl,rfl⟩) | (go_at_call 86;refine (KV.out _).mono ?_;rintro e w2 ⟨rfl,rfl⟩) | (go_at_call 26;refine (failCalls B s j0 7 _ (HP.out.drewN _)).mono ?_;rintro e w2 ⟨rfl,rfl⟩))
              exact ⟨rfl,rfl,HP.out.drewN _,HB.out.drewN _⟩
            · rw [hv1,if_neg (by simp)] at HE
              rw [hv1] at KV
              have HE2 := HE.out
              clear hv1 HE
              subst HE2
              go_wp2_with (first | (go_at_call 109;refine (KM.out _).mono ?_;rintro e w2 ⟨rfl,rfl⟩) | (go_at_call 86;refine (KV.out _).mono ?_;rintro e w2 ⟨rfl,rfl⟩))
              go_ret
              exact ⟨by first | exact ret_str HW.out | (rw [if_pos rfl];exact ret_str HW.out),by first | (rw [HD.out];exact (HP.out.drewN _).set g2) | (rw [if_pos rfl,HD.out];exact (HP.out.drewN _).set g2),(HB.out.drewN _).setCell (.inl rfl) _⟩
          · rw [hn1,if_neg (by simp)] at HE
            rw [hn1] at KM
            have HE2 := HE.out
            clear hn1 HE
            subst HE2
            go_wp2_with (go_at_call 109;refine (KM.out _).mono ?_;rintro e w2 ⟨rfl,rfl⟩)
            go_ret
            exact ⟨by first | exact ret_str HW.out | (rw [if_pos rfl];exact ret_str HW.out),by first | (rw [HD.out];exact (HP.out.drewN _).set g2) | (rw [if_pos rfl,HD.out];exact (HP.out.drewN _).set g2),(HB.out.drewN _).setCell (.inl rfl) _⟩
      · have k1 : decide ((j : Int) < (s.size : Int)) = false := decide_eq_false (by omega)
        go_wp2
        go_quiet (fail)
        by_cases ht : t = []
        · rw [if_pos ht] at HE
          obtain ⟨q1,q2⟩ := HF0.out ht
          have HE2 := HE.out
          clear ht HE
          subst HE2
          go_wp2_with (go_at_call 26;refine (failCalls B s j0 2 _ (HP.out.drewN _)).mono ?_;rintro e w2 ⟨rfl,rfl⟩)
          exact ⟨rfl,rfl,HP.out.drewN _,HB.out.drewN _⟩
        · rw [if_neg ht] at HE
          obtain ⟨q1,q2⟩ := HF1.out ht
          clear ht
          cases hn1 : nameL t
          · rw [hn1] at HE KM
            clear hn1
            cases hv1 : varL t
            · rw [hv1,if_pos (by simp)] at HE
              rw [hv1] at KV
              have HE2 := HE.out
              clear hv1 HE
              subst HE2
              go_wp2_with (first | (go_at_call 109;refine (KM.out _).mono ?_;rintro e w2 ⟨rfl,rfl⟩) | (go_at_call 86;refine (KV.out _).mono ?_;rintro e w2 ⟨rfl,rfl⟩) | (go_at_call 26;refine (failCalls B s j0 7 _ (HP.out.drewN _)).mono ?_;rintro e w2 ⟨rfl,rfl⟩))
              exact ⟨rfl,rfl,HP.out.drewN _,HB.out.drewN _⟩
            · rw [hv1,if_neg (by simp)] at HE
              rw [hv1] at KV
              have HE2 := HE.out
              clear hv1 HE
              subst HE2
              go_wp2_with (first | (go_at_call 109;refine (KM.out _).mono ?_;rintro e w2 ⟨rfl,rfl⟩) | (go_at_call 86;refine (KV.out _).mono ?_;rintro e w2 ⟨rfl,rfl⟩))
              go_ret
              exact ⟨by first | exact ret_str HW.out | (rw [if_pos rfl];exact ret_str HW.out),by first | (rw [HD.out];exact (HP.out.drewN _).set g2) | (rw [if_pos rfl,HD.out];exact (HP.out.drewN _).set g2),(HB.out.drewN _).setCell (.inl rfl) _⟩
          · rw [hn1,if_neg (by simp)] at HE
            rw [hn1] at KM
            have HE2 := HE.out
            clear hn1 HE
            subst HE2
            go_wp2_with (go_at_call 109;refine (KM.out _).mono ?_;rintro e w2 ⟨rfl,rfl⟩)
            go_ret
            exact ⟨by first | exact ret_str HW.out | (rw [if_pos rfl];exact ret_str HW.out),by first | (rw [HD.out];exact (HP.out.drewN _).set g2) | (rw [if_pos rfl,HD.out];exact (HP.out.drewN _).set g2),(HB.out.drewN _).setCell (.inl rfl) _⟩
end Go.Proofs.YtiiicochdidolaaGreat
namespace Go.Proofs.YtiiicochdidolaaGreat
open Go.RowKit
theorem RdSlice.take {α : Type} {k : Nat} {R : Reader α} {S : Nat → Prop} {w : World} {a : Option Addr} {n cap : Nat} {l : List α} (h : RdSlice k R S w (.slice a n cap) l) {j : Nat} (hj : j ≤ l.length) : RdSlice k R S w (.slice a j cap) (l.take j) := by
  obtain ⟨a',cap',hv,h1,h2,h0,h3⟩ := h
  injection hv with e1 e2 e3
  subst e1 e3
  have hl : (l.take j).length = j := by rw [List.length_take];omega
  refine ⟨a,cap,by rw [hl],by omega,h2,h0,fun i x hx => ?_⟩
  have hi : i < j := by have := (List.getElem?_eq_some_iff.1 hx).1;omega
  rw [List.getElem?_take_of_lt hi] at hx
  exact h3 i x hx
theorem RdSlice.drop {α : Type} {k : Nat} {R : Reader α} {S : Nat → Prop} {w : World} {a : Option Addr} {n cap : Nat} {l : List α} (h : RdSlice k R S w (.slice a n cap) l) {j : Nat} (hj : j ≤ l.length) :
    RdSlice k R S w (.slice (if cap = j then a else a.map (·.add (j * k))) (l.length - j) (cap - j)) (l.drop j) := by
  obtain ⟨a',cap',hv,h1,h2,h0,h3⟩ := h
  injection hv with e1 e2 e3
  subst e1 e3
  have hl : (l.drop j).length = l.length - j := List.length_drop
  refine ⟨_,cap - j,by rw [hl],by omega,by omega,fun e => ?_,fun i x hx => ?_⟩
  · split at e
    · omega
    · cases a with
      | none => rw [h0 rfl];omega
      | some p => simp at e
  · rw [List.getElem?_drop] at hx
    have hi := (List.getElem?_eq_some_iff.1 hx).1
    obtain ⟨b,off,cs,ha,hS,hb,hk,hc,hr⟩ := h3 (j + i) x hx
    subst ha
    refine ⟨b,off + j * k,cs,?_,hS,hb,hk,fun t u hu => ?_,hr⟩
    · rw [if_neg (by omega)]
      simp only [Option.map_some,Addr.add]
      split
      · rename_i hz;rw [hz];rfl
      · rfl
    · have := hc t u hu
      rwa [show off + (j + i) * k + t = off + j * k + i * k + t by rw [Nat.add_mul];omega] at this
theorem RdSlice.drop_some {α : Type} {k : Nat} {R : Reader α} {S : Nat → Prop} {w : World} {b o : Nat} {n cap : Nat} {l : List α} (h : RdSlice k R S w (.slice (some ⟨b,o,none⟩) n cap) l) {j : Nat} (hj : j ≤ l.length) :
    RdSlice k R S w (.slice (if cap = j then some ⟨b,o,none⟩ else some ⟨b,o + j * k,none⟩) (l.length - j) (cap - j)) (l.drop j) := by
  have := h.drop hj
  simp only [Option.map_some,Addr.add] at this
  split at this
  · split
    · assumption
    · rename_i h1 h2;exact absurd h1 h2
  · rename_i hne
    rw [if_neg hne]
    split at this
    · rename_i h0
      rw [h0]
      exact this
    · exact this
theorem RdSlice.nothing {α : Type} {k : Nat} {R : Reader α} {S : Nat → Prop} {w : World} {a : Option Addr} {cap : Nat} (hm : cap ≤ maxLen) (h0 : a = none → cap = 0) : RdSlice k R S w (.slice a 0 cap) ([] : List α) :=
  ⟨a,cap,rfl,Nat.zero_le _,hm,h0,fun i x hx => by simp at hx⟩
end Go.Proofs.YtiiicochdidolaaGreat
