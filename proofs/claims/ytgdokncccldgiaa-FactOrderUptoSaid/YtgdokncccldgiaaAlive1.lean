/-
  THE WALK OF corolaw1.alive: true.
-/
import Derived.Test.YtgdokncccldgiaaSets
import Derived.Test.YtgdokncccldgiaaLess
import Derived.Test.YtgdokncccldgiaaSetW
import Derived.Test.YtgdokncccldgiaaNamed
namespace Go.Proofs.Ytgdokncccldgiaa
open Go.RowKit

def sA : Str := ⟨#[97]⟩
def sB : Str := ⟨#[98]⟩
def sX : Str := ⟨#[120]⟩
def fA : PFact := ⟨sA, [sX]⟩
def fB : PFact := ⟨sB, []⟩

theorem Owned.lit {α : Type} {k : Nat} {R : Reader α} {B : Nat} {e : TypeId} {S : Nat → Prop} {w : World} {l : List α} (css : List (List Value)) (cs : Array Value) (hl : css.length = l.length) (hk : ∀ c ∈ css, c.length = k) (hc : cs.toList = css.flatten) (hs : cs.size = l.length * k)
    (hb : B ≤ w.heap.size) (hm : l.length ≤ maxLen) (hr : ∀ (i : Nat) (c : List Value) (x : α), css[i]? = some c → l[i]? = some x → R (fun b => S b ∧ some b ≠ some w.heap.size) (w.alloc (.cells cs e)) c x) :
    Owned k R B e S (w.alloc (.cells cs e)) (.slice (some ⟨w.heap.size, 0, none⟩) l.length l.length) l :=
  ⟨css, hl, hk, by have := World.ownsRow_lit (base := B) (size := k) (e := e) w cs l.length hb hm hs; rwa [hc] at this, hr⟩

structure AliveW (w w' : World) (v : Value) : Prop where
  below : Below w.heap.size w w'
  size : w.heap.size + 2 < w'.heap.size
  rd : RdFacts (fun _ => True) w' v [fA, fB]
  args : RdStrs (fun _ => True) w' (.slice (some ⟨w.heap.size, 0, none⟩) 1 1) fA.args
  c0 : w'.cell? ⟨w.heap.size + 1, 0, none⟩ = some (.string sA)
  c1 : w'.cell? ⟨w.heap.size + 1, 1, none⟩ = some (.slice (some ⟨w.heap.size, 0, none⟩) 1 1)
  d0 : w'.cell? ⟨w.heap.size + 2, 0, none⟩ = some (.string sB)
  d1 : w'.cell? ⟨w.heap.size + 2, 1, none⟩ = some (.slice none 0 0)
theorem AliveW.next {w w' w'' : World} {v : Value} (h : AliveW w w' v) (hb : Below w'.heap.size w' w'') : AliveW w w'' v := by
  have hs := h.size
  exact ⟨h.below.trans (hb.mono (by omega)), Nat.lt_of_lt_of_le h.size hb.size, h.rd.agree RFact.steady (Below.agree hb), h.args.agree RStr.steady (Below.agree hb), (cell_below hb (by omega) 0).trans h.c0, (cell_below hb (by omega) 1).trans h.c1, (cell_below hb (by omega) 0).trans h.d0, (cell_below hb (by omega) 1).trans h.d1⟩

theorem of_bab : ofF [fB, fA, fB] = [fA, fB] := by decide +kernel
theorem in_ab : memF fA [fA, fB] = true := by decide +kernel
theorem set_ab : setF [fA, fB] = (0, 0) := by decide +kernel
theorem cmp_ab : cmpFact fA fB = -1 := by decide +kernel
theorem less_ab : lessF [fA, fB] [fA, fB] = [] := by decide +kernel
theorem join_ab : joinF [fA, fB] [] = [fA, fB] := by decide +kernel
theorem named_xY : named ⟨#[120, 95, 89]⟩ = true := by decide +kernel
theorem rising_ab : Rising [fA, fB] := by unfold Rising; decide +kernel


theorem RdStrs.nil {S : Nat → Prop} {w : World} : RdStrs S w (.slice none 0 0) [] := ⟨none, 0, rfl, Nat.le_refl _, Nat.zero_le _, fun _ => rfl, fun i x h => by simp at h⟩
theorem RdFacts.nil {S : Nat → Prop} {w : World} : RdFacts S w (.slice none 0 0) [] := ⟨none, 0, rfl, Nat.le_refl _, Nat.zero_le _, fun _ => rfl, fun i x h => by simp at h⟩

/-- The world as the call of fact.Of finds it. -/
def aliveW (w : World) : World := ((w.alloc (.cells #[.string sX] 9)).alloc (.cells #[.string sA, .slice (some ⟨w.heap.size, 0, none⟩) 1 1] 57)).alloc (.cells #[.string sB, .slice none 0 0] 57)
theorem aliveW_args (w : World) : RdStrs (fun _ => True) (aliveW w) (.slice (some ⟨w.heap.size, 0, none⟩) 1 1) fA.args := by
  have h : Owned 1 RStr w.heap.size 9 (fun _ => True) (w.alloc (.cells #[.string sX] 9)) _ [sX] :=
    Owned.lit [[.string sX]] #[.string sX] rfl (by simp) rfl rfl (Nat.le_refl _) (by unfold maxLen; simp) (by
      intro i c x hc hx
      match i, hc, hx with
      | 0, hc, hx =>
        obtain rfl : [Value.string sX] = c := by simpa using hc
        obtain rfl : sX = x := by simpa using hx
        rfl)
  exact ((h.read RStr.steady).more RStr.steady (fun _ _ _ => trivial)).agree RStr.steady (((Agree.refl _ _).alloc _).alloc _)

theorem new_at {w : World} {cs : Array Value} {t : TypeId} {n : Nat} (h : w.heap.size = n) (j : Nat) : (w.alloc (.cells cs t)).cell? ⟨n, j, none⟩ = cs[j]? := by
  subst h
  simp only [World.cell?, heap_alloc_new, Option.isSome_none, Bool.false_eq_true, if_false]
theorem AliveW.start {w w1 : World} {o : Obj} {v : Value} {B : Nat} {S : Nat → Prop} (hb : Below ((aliveW w).alloc o).heap.size ((aliveW w).alloc o) w1) (ho : Owned 2 RFact B 57 S w1 v (ofF [fB, fA, fB])) : AliveW w w1 v := by
  rw [of_bab] at ho
  have hs : ((aliveW w).alloc o).heap.size = w.heap.size + 4 := by simp [aliveW]
  have hs3 : (aliveW w).heap.size = w.heap.size + 3 := by simp [aliveW]
  have hsz := hb.size
  rw [hs] at hsz
  have hB : Below w.heap.size w ((aliveW w).alloc o) := ((((Below.refl _ _).alloc (Nat.le_refl _) _).alloc (by simp) _).alloc (by simp; omega) _).alloc (by simp; omega) _
  have hold : ∀ c, c < w.heap.size + 3 → ∀ off, w1.cell? ⟨c, off, none⟩ = (aliveW w).cell? ⟨c, off, none⟩ := fun c hc off => (cell_below hb (by omega) off).trans (World.cell?_of_block (Below.heap_alloc _ _ _ (show c < _ by omega)))
  refine ⟨hB.trans (hb.mono (by omega)), by omega, (ho.read RFact.steady).more RFact.steady (fun _ _ _ => trivial), ((aliveW_args w).agree RStr.steady ((Agree.refl _ _).alloc o)).agree RStr.steady (Below.agree hb), ?_, ?_, ?_, ?_⟩
  all_goals rw [hold _ (by omega)]
  all_goals unfold aliveW
  · rw [World.cell?_of_block (Below.heap_alloc _ _ _ (show w.heap.size + 1 < _ by simp))]
    exact new_at (by simp) 0
  · rw [World.cell?_of_block (Below.heap_alloc _ _ _ (show w.heap.size + 1 < _ by simp))]
    exact new_at (by simp) 1
  · exact new_at (by simp) 0
  · exact new_at (by simp) 1

set_option maxRecDepth 100000 in
set_option maxHeartbeats 4000000 in
theorem alive1Calls (w : World) : Calls Try.prog 57 #[] w fun e w' => e = .returned (.bool true) ∧ Below w.heap.size w w' := by
  have HL : Hid (RdFacts (fun _ => True) ((aliveW w).alloc (.cells #[.string sB, .slice none 0 0, .string sA, .slice (some ⟨w.heap.size, 0, none⟩) 1 1, .string sB, .slice none 0 0] 57)) (.slice (some ⟨w.heap.size + 3, 0, none⟩) 3 3) [fB, fA, fB]) := by
    have ha := aliveW_args w
    have h : Owned 2 RFact w.heap.size 57 (fun _ => True) ((aliveW w).alloc (.cells #[.string sB, .slice none 0 0, .string sA, .slice (some ⟨w.heap.size, 0, none⟩) 1 1, .string sB, .slice none 0 0] 57)) _ [fB, fA, fB] :=
      Owned.lit [[.string sB, .slice none 0 0], [.string sA, .slice (some ⟨w.heap.size, 0, none⟩) 1 1], [.string sB, .slice none 0 0]] _ rfl (by simp) rfl rfl (by simp [aliveW]; omega) (by unfold maxLen; simp) (by
        intro i c x hc hx
        have ha' : RdStrs (fun b => True ∧ some b ≠ some (aliveW w).heap.size) ((aliveW w).alloc (.cells #[.string sB, .slice none 0 0, .string sA, .slice (some ⟨w.heap.size, 0, none⟩) 1 1, .string sB, .slice none 0 0] 57)) (.slice (some ⟨w.heap.size, 0, none⟩) 1 1) fA.args :=
          (ha.more RStr.steady (fun b _ hb => ⟨trivial, fun e => by have := Option.some.inj e; omega⟩)).agree RStr.steady ((Agree.refl _ _).alloc _)
        match i, hc, hx with
        | 0, hc, hx =>
          obtain rfl := Option.some.inj hc
          obtain rfl := Option.some.inj hx
          exact ⟨_, rfl, RdStrs.nil⟩
        | 1, hc, hx =>
          obtain rfl := Option.some.inj hc
          obtain rfl := Option.some.inj hx
          exact ⟨_, rfl, ha'⟩
        | 2, hc, hx =>
          obtain rfl := Option.some.inj hc
          obtain rfl := Option.some.inj hx
          exact ⟨_, rfl, RdStrs.nil⟩)
    have hsz : (aliveW w).heap.size = w.heap.size + 3 := by simp [aliveW]
    rw [hsz] at h
    exact Lib.hid ((h.read RFact.steady).more RFact.steady (fun _ _ _ => trivial))
  have hfd : ∀ w : World, (Instr.field 26 (.agg #[.int .i64 0, .int .i64 0]) 0).run Try.prog w = .ok (.int .i64 0) w := fun _ => by kernel_rfl
  go_enter Try.func57, Try.ntmps57
  go_wp2_with (first
    | (go_at_call 47; (refine (ofCalls _ [fB, fA, fB] _ HL.out (by simp) (by decide)).mono ?_); rintro e w1 ⟨⟨v1, rfl, ho1⟩, hb1⟩; have HI := Lib.hid (AliveW.start hb1 ho1); clear ho1 hb1; obtain ⟨a1, c1, rfl, -, -, -⟩ := id HI.out.rd.form; have x0 := HI.out.c0; have x1 := HI.out.c1; have y0 := HI.out.d0; have y1 := HI.out.d1)
    | (go_at_call 53; (refine (inFact _ [fA, fB] fA _ _ HI.out.rd HI.out.args rising_ab (by simp) (by decide)).mono ?_); rw [in_ab]; rintro e w2 ⟨rfl, hb2⟩; have HI2 := Lib.hid (HI.out.next hb2.below); clear hb2; have x0 := HI2.out.c0; have x1 := HI2.out.c1; have y0 := HI2.out.d0; have y1 := HI2.out.d1)
    | (go_at_call 43; (refine (setCalls _ [fA, fB] _ HI2.out.rd (by simp) (by decide)).mono ?_); rw [set_ab]; rintro e w3 ⟨rfl, hb3⟩; have HI3 := Lib.hid (HI2.out.next hb3); clear hb3; have x0 := HI3.out.c0; have x1 := HI3.out.c1; have y0 := HI3.out.d0; have y1 := HI3.out.d1)
    | (go_at_call 51; (refine (compareFact fA fB _ _ _ HI3.out.args (RdStrs.nil (S := fun _ => True)) (by decide)).mono ?_); rw [cmp_ab]; rintro e w4 ⟨rfl, hb4⟩; have HI4 := Lib.hid (HI3.out.next hb4.below); clear hb4; have x0 := HI4.out.c0; have x1 := HI4.out.c1; have y0 := HI4.out.d0; have y1 := HI4.out.d1)
    | (go_at_call 39; (refine (namedCalls _ _).mono ?_); rw [named_xY]; rintro e w5 ⟨rfl, rfl⟩)
    | (go_at_call 55; (refine (lessCalls _ _ [fA, fB] [fA, fB] _ HI4.out.rd HI4.out.rd rising_ab (by simp) (by decide) (by simp) (by decide)).mono ?_); rw [less_ab]; rintro e w6 ⟨⟨v6, rfl, ho6⟩, hb6⟩; obtain ⟨a6, c6, rfl, -, -, -⟩ := id (ho6.read RFact.steady).form; clear ho6; have HI6 := Lib.hid (HI4.out.next hb6); clear hb6)
    | (go_at_call 49; (refine (joinCalls _ _ [fA, fB] [] _ HI6.out.rd (RdFacts.nil (S := fun _ => True)) (by simp) (by decide) (by simp)).mono ?_); rw [join_ab]; rintro e w7 ⟨⟨v7, rfl, ho7⟩, hb7⟩; obtain ⟨a7, c7, rfl, -, -, -⟩ := id (ho7.read RFact.steady).form; clear ho7; have HI7 := Lib.hid (HI6.out.next hb7); clear hb7))
  go_ret
  exact ⟨rfl, HI7.out.below⟩
end Go.Proofs.Ytgdokncccldgiaa
