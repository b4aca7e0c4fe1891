/-
  slices.CompactFunc AT LISTS OF BINDS.
-/
import Derived.Test.YtmnpneandkiblaaTidyW3
namespace Go.Proofs.Ytmnpneandkiblaa
open Go.RowKit

section
variable {α β : Type} [DecidableEq α] (f : β → α)
def snocB (acc : List β) (x : β) : List β := if acc.getLast?.map f = some (f x) then acc else acc ++ [x]
def compactB (l : List β) : List β := l.foldl (snocB f) []
theorem compactB_snoc (l : List β) (x : β) : compactB f (l ++ [x]) = snocB f (compactB f l) x := by simp [compactB, List.foldl_append]
theorem compactB_take_succ {l : List β} {n : Nat} {x : β} (h : l[n]? = some x) : compactB f (l.take (n + 1)) = snocB f (compactB f (l.take n)) x := by
  rw [List.take_add_one, h]; exact compactB_snoc _ _ _
theorem snocB_last (acc : List β) (x : β) : (snocB f acc x).getLast?.map f = some (f x) := by
  unfold snocB
  split
  · assumption
  · simp
theorem compactB_last {l : List β} {n : Nat} {x : β} (h : l[n]? = some x) : (compactB f (l.take (n + 1))).getLast?.map f = some (f x) := by
  rw [compactB_take_succ f h]; exact snocB_last _ _ _
theorem compactB_same {l : List β} {n : Nat} {x y : β} (h : l[n]? = some x) (k : l[n + 1]? = some y) (he : f x = f y) : compactB f (l.take (n + 2)) = compactB f (l.take (n + 1)) := by
  rw [compactB_take_succ f k, snocB, if_pos (by rw [compactB_last f h, he])]
theorem compactB_other {l : List β} {n : Nat} {x y : β} (h : l[n]? = some x) (k : l[n + 1]? = some y) (hne : f x ≠ f y) : compactB f (l.take (n + 2)) = compactB f (l.take (n + 1)) ++ [y] := by
  rw [compactB_take_succ f k, snocB, if_neg (by rw [compactB_last f h]; intro e; exact hne (Option.some.inj e))]
theorem compactB_apart {l : List β} : ∀ n, n ≤ l.length → (∀ p x y, p + 1 < n → l[p]? = some x → l[p + 1]? = some y → f x ≠ f y) → compactB f (l.take n) = l.take n
  | 0, _, _ => by simp [compactB]
  | 1, hn, _ => by
    obtain ⟨x, hx⟩ : ∃ x, l[0]? = some x := ⟨_, List.getElem?_eq_getElem (by omega)⟩
    rw [compactB_take_succ f hx, List.take_add_one, hx]
    simp [compactB, snocB]
  | n + 2, hn, h => by
    obtain ⟨x, hx⟩ : ∃ x, l[n]? = some x := ⟨_, List.getElem?_eq_getElem (by omega)⟩
    obtain ⟨y, hy⟩ : ∃ y, l[n + 1]? = some y := ⟨_, List.getElem?_eq_getElem (by omega)⟩
    rw [compactB_other f hx hy (h n x y (by omega) hx hy), compactB_apart (n + 1) (by omega) (fun p a b hp => h p a b (by omega)), List.take_add_one (i := n + 1), hy]
    rfl
theorem compactB_map (l : List β) : (compactB f l).map f = compactL (l.map f) := by
  have main : ∀ (l : List β) (acc : List β), (l.foldl (snocB f) acc).map f = (l.map f).foldl snocC (acc.map f) := by
    intro l
    induction l with
    | nil => intro acc; rfl
    | cons x l ih =>
      intro acc
      rw [List.foldl_cons, List.map_cons, List.foldl_cons, ih]
      congr 1
      unfold snocB snocC
      rw [List.getLast?_map]
      split
      · rfl
      · simp
  exact main l []
theorem compactB_sub (l : List β) : (compactB f l).Sublist l := by
  have main : ∀ (l acc pre : List β), acc.Sublist pre → (l.foldl (snocB f) acc).Sublist (pre ++ l) := by
    intro l
    induction l with
    | nil => intro acc pre h; simpa using h
    | cons x l ih =>
      intro acc pre h
      rw [List.foldl_cons, show pre ++ x :: l = (pre ++ [x]) ++ l by simp]
      refine ih _ _ ?_
      unfold snocB
      split
      · exact h.trans (List.sublist_append_left _ _)
      · exact h.append (List.Sublist.refl _)
  have h := main l [] [] (List.Sublist.refl _)
  rwa [List.nil_append] at h
end

theorem Nest.sub {B : Nat} {w w' : World} {v v' : Value} {zs ys : List VB} (h : Nest B w v zs) (hp : ys.Sublist zs) (ho : OV B w' v' ys) (hv : v'.ownBlock = v.ownBlock) (hg : w.grownBy w' v.ownBlock) : Nest B w' v' ys :=
  ⟨ho, fun z hz => (h.inner z (hp.subset hz)).kept RBind.steady hg (fun q hq e => h.off z (hp.subset hz) q hq e), h.apart.sublist hp, fun z hz b hb => by rw [hv]; exact h.off z (hp.subset hz) b hb⟩

/-- The row in the midst: its first i elements are those kept, those from p on stand as they did. -/
structure HalfC (w : World) (B g n cap : Nat) (zs : List VB) (i p : Nat) (xs : List Value) (acc : List VB) : Prop where
  own : w.ownsRow B 24 1 (.slice (some ⟨g, 0, none⟩) n cap) n xs
  hd : xs.take i = acc.map (·.1)
  tl : xs.drop p = (zs.drop p).map (·.1)
  le : i ≤ p
  lt : p < n
section
variable {w w' : World} {B g n cap : Nat} {zs : List VB} {i p : Nat} {xs : List Value} {acc : List VB}
theorem HalfC.glt (h : HalfC w B g n cap zs i p xs acc) : B ≤ g ∧ g < w.heap.size := h.own.lt g rfl
theorem HalfC.len (h : HalfC w B g n cap zs i p xs acc) : xs.length = n := by have := h.own.1; omega
theorem HalfC.kept (h : HalfC w B g n cap zs i p xs acc) (hb : Below w.heap.size w w') : HalfC w' B g n cap zs i p xs acc :=
  ⟨h.own.kept (row := none) ⟨hb.os, hb.tape, hb.output, hb.size, fun k hk _ => hb.block k hk⟩ (.inr (by simp [Value.ownBlock])), h.hd, h.tl, h.le, h.lt⟩
theorem HalfC.cell (h : HalfC w B g n cap zs i p xs acc) {q : Nat} {z : VB} (hq : p ≤ q) (hz : zs[q]? = some z) (hn : q < n) : w.cell? ⟨g, q, none⟩ = some z.1 := by
  rw [h.own.cellAt q (by omega)]
  have h1 : (xs.drop p)[q - p]? = ((zs.drop p).map (·.1))[q - p]? := by rw [h.tl]
  rw [List.getElem?_drop, List.getElem?_map, List.getElem?_drop, show p + (q - p) = q by omega, hz] at h1
  exact h1
theorem HalfC.skip (h : HalfC w B g n cap zs i p xs acc) (hp : p + 1 < n) : HalfC w B g n cap zs i (p + 1) xs acc :=
  ⟨h.own, h.hd, by have := congrArg (List.drop 1) h.tl; rwa [List.drop_drop, ← List.map_drop, List.drop_drop] at this, by have := h.le; omega, hp⟩
theorem HalfC.put (h : HalfC w B g n cap zs i p xs acc) {z : VB} (hp : p + 1 < n) : HalfC (w.setCell ⟨g, i, none⟩ z.1) B g n cap zs (i + 1) (p + 1) (xs.set i z.1) (acc ++ [z]) :=
  ⟨(h.own.stored i z.1).1, by
    have hi : i < xs.length := by have := h.le; have := h.len; omega
    rw [List.take_add_one, List.take_set_of_le (Nat.le_refl _), h.hd, List.getElem?_set_self hi]
    simp, by
    have h1 := congrArg (List.drop 1) h.tl
    rw [List.drop_drop, ← List.map_drop, List.drop_drop] at h1
    rw [List.drop_set_of_lt (by have := h.le; omega)]
    exact h1, by have := h.le; omega, hp⟩
theorem HalfC.spot (h : HalfC w B g n cap zs i p xs acc) : ∃ d, w.cell? ⟨g, i, none⟩ = some d ∧ w.frozen? ⟨g, i, none⟩ = false := by
  have hi : i < xs.length := by have := h.le; have := h.len; have := h.lt; omega
  exact ⟨_, by rw [h.own.cellAt i (by have := h.len; omega)]; exact List.getElem?_eq_getElem hi, h.own.frozenAt _⟩
end
theorem Fresh.grownBy {w w' : World} (h : Fresh w w') (row : Option Nat) : w.grownBy w' row := ⟨h.below.os, h.below.tape, h.below.output, h.below.size, fun k hk _ => h.below.block k hk⟩

attribute [local go_sem ↓] Go.wp_at_zero Go.wp_at_succ
set_option maxRecDepth 100000 in
set_option maxHeartbeats 8000000 in
theorem compactNest {B : Nat} {w : World} {v : Value} {zs : List VB} (hN : Nest B w v zs) (n1 : zs.length ≤ 1073741824) (n2 : ∀ z ∈ zs, z.2.length ≤ 1073741824) :
    Calls Try.prog 48 #[v, .func (.func 49) #[] #[]] w fun en w' => (∃ v', en = .returned v' ∧ Nest B w' v' (compactB (·.2) zs)) ∧ w.grownBy w' v.ownBlock := by
  have KT := Lib.hid (show ∀ W, w.grownBy W v.ownBlock → ∀ y ∈ zs, ∀ z ∈ zs, Calls Try.prog 49 #[y.1, z.1] W fun e w' => e = .returned (.bool (decide (y.2 = z.2))) ∧ Fresh W w' from fun W hW y hy z hz =>
    tidy3Calls y.1 z.1 y.2 z.2 W (OB.read ((hN.inner y hy).kept RBind.steady hW (fun q hq e => hN.off y hy q hq e))) (OB.read ((hN.inner z hz).kept RBind.steady hW (fun q hq e => hN.off z hz q hq e))) (n2 y hy) (n2 z hz))
  have HS := Lib.hid (show ∀ z ∈ zs, ∃ a n c, z.1 = .slice a n c from fun z hz => by obtain ⟨a, c, h, -⟩ := (OB.read (hN.inner z hz)).form; exact ⟨a, _, c, h⟩)
  obtain ⟨ho, h1⟩ := hN.outer.row
  have H1 := Lib.hid h1
  have HN := Lib.hid hN
  by_cases hl2 : zs.length < 2
  · have hc : compactB (·.2) zs = zs := by
      match zs, hl2 with
      | [], _ => rfl
      | [x], _ => simp [compactB, snocB]
    rw [hc]
    obtain ⟨a, c, rfl, -, -, -⟩ := id (hN.outer.read RPair.steady).form
    clear hN ho h1 KT HS n2 hc
    go_enter Try.func48, Try.ntmps48
    go_wp2
    go_ret
    exact ⟨⟨_, rfl, HN.out⟩, ⟨rfl, rfl, rfl, Nat.le_refl _, fun _ _ _ => rfl⟩⟩
  rcases id ho.2 with ⟨-, h0⟩ | ⟨g, cap, cur, rfl, hgB, hg, hcap, hcm, -, -⟩
  · omega
  have hcm' : cap ≤ 9223372036854775807 := by unfold maxLen at hcm; omega
  obtain ⟨n, hn⟩ : ∃ n, zs.length = n := ⟨_, rfl⟩
  have HO := Lib.hid ho
  rw [hn] at hl2 n1 hcap HO KT HN ⊢
  have HL := Lib.hid hn
  clear hn ho h1 hN hg n2
  have hl2' : decide ((n : Int) < 2) = false := by simp; omega
  go_enter Try.func48, Try.ntmps48
  go_wp2
  go_loopw [5, 6, 7] (fun ui _ _ wr => ∃ j : Nat, j + 1 ≤ n ∧ ui = .int .i64 ((j : Int) + 1) ∧ Hid (∀ p x y, p + 1 < j + 1 → zs[p]? = some x → zs[p + 1]? = some y → x.2 ≠ y.2) ∧ Hid (Below w.heap.size w wr))
    (fun ui _ _ _ => n - (intOf ui).toNat)
  case atStart => exact ⟨0, by omega, rfl, Lib.hid (fun p x y h => by omega), Lib.hid (Below.refl _ _)⟩
  case round =>
    obtain ⟨j, hj, rfl, hne, hbel⟩ := hrel
    have hgb : w.grownBy wr (some g) := ⟨hbel.out.os, hbel.out.tape, hbel.out.output, hbel.out.size, fun k hk _ => hbel.out.block k hk⟩
    have HG := Lib.hid hgb
    have hrow : wr.ownsRow B 24 1 (.slice (some ⟨g, 0, none⟩) n cap) n (zs.map (·.1)) := by
      have := HO.out.kept (w' := wr) (row := none) ⟨hbel.out.os, hbel.out.tape, hbel.out.output, hbel.out.size, fun k hk _ => hbel.out.block k hk⟩ (.inr (by simp [Value.ownBlock]))
      exact this
    by_cases hlt : j + 1 < n
    · obtain ⟨x, hx⟩ : ∃ x, zs[j + 1]? = some x := ⟨_, List.getElem?_eq_getElem (by rw [HL.out]; omega)⟩
      obtain ⟨y, hy⟩ : ∃ y, zs[j]? = some y := ⟨_, List.getElem?_eq_getElem (by rw [HL.out]; omega)⟩
      obtain ⟨xa, xn, xc, hx1⟩ := HS.out x (List.mem_of_getElem? hx)
      obtain ⟨ya, yn, yc, hy1⟩ := HS.out y (List.mem_of_getElem? hy)
      have cx : wr.cell? ⟨g, j + 1, none⟩ = some (.slice xa xn xc) := by rw [hrow.cellAt (j + 1) (by omega), List.getElem?_map, hx, ← hx1]; rfl
      have cy : wr.cell? ⟨g, j, none⟩ = some (.slice ya yn yc) := by rw [hrow.cellAt j (by omega), List.getElem?_map, hy, ← hy1]; rfl
      have hg1 : g < wr.heap.size := (hrow.lt g rfl).2
      have K := Lib.hid (fun W (hW : w.grownBy W (some g)) => KT.out W hW x (List.mem_of_getElem? hx) y (List.mem_of_getElem? hy))
      have HX := Lib.hid hx
      have HY := Lib.hid hy
      have HR := Lib.hid hrow
      rw [hx1, hy1] at K
      clear hx hy hx1 hy1 hrow hgb
      have i1 : (0 : Int) ≤ (j : Int) := by omega
      have i2 : (j : Int) + 1 < (n : Int) := by omega
      have i3 : (j : Int) < (n : Int) := by omega
      have i4 : (0 : Int) ≤ (j : Int) + 1 := by omega
      have i5 : IntKind.i64.wrap (j : Int) = j := by rw [IntKind.wrap_i64]; omega
      by_cases hxy : x.2 = y.2
      · have hd : decide (x.2 = y.2) = true := decide_eq_true hxy
        rw [hd] at K
        have HXY := Lib.hid hxy
        clear hxy hd
        go_wp2_with fail
        go_region_held3 (fun w' => w'.cell? ⟨g, j + 1, none⟩ = some (.slice xa xn xc) ∧ w'.cell? ⟨g, j, none⟩ = some (.slice ya yn yc))
          (first | (refine ⟨?_, ?_⟩ <;> (rw [hk2 _ hg1]; assumption)) | go_keep)
          (first
            | (go_at_call 49; refine (K.out _ (HG.out.trans (Fresh.grownBy (Fresh.refl wr).drew _))).mono ?_; rintro e w1 ⟨rfl, hf1⟩; have hk2 : ∀ c, c < wr.heap.size → ∀ off, w1.cell? ⟨c, off, none⟩ = wr.cell? ⟨c, off, none⟩ := fun c hc off => cell_below (w := wr.drew) hf1.below hc off))
        have HB1 := Lib.hid (show Below wr.heap.size wr w1 from (Below.refl _ _).drew.trans hf1.below)
        have HC := Lib.hid (show HalfC w1 B g n cap zs (j + 1) (j + 1) (zs.map (·.1)) (zs.take (j + 1)) from
          HalfC.kept (w := wr) ⟨HR.out, by rw [← List.map_take], by rw [← List.map_drop], Nat.le_refl _, hlt⟩ HB1.out)
        have HACC := Lib.hid (show compactB (·.2) (zs.take (j + 1 + 1)) = zs.take (j + 1) by
          rw [compactB_same (·.2) HY.out HX.out HXY.out.symm]; exact compactB_apart _ (j + 1) (by rw [HL.out]; omega) hne.out)
        have HG1 := Lib.hid (show w.grownBy w1 (some g) from HG.out.trans ⟨HB1.out.os, HB1.out.tape, HB1.out.output, HB1.out.size, fun k hk _ => HB1.out.block k hk⟩)
        clear hf1 hk2 cx cy HB1
        go_wp2
        clear HX HY HXY K hg1 hbel hne HG HR
        obtain ⟨m, hm⟩ : ∃ m, n - (j + 1) = m := ⟨_, rfl⟩
        obtain ⟨c2, hc2⟩ : ∃ c2, cap - (j + 1) = c2 := ⟨_, rfl⟩
        rw [hm, hc2]
        go_loopw [5, 7] (fun ui uk wr2 => ∃ i q : Nat, ∃ xs acc, q + 1 ≤ m ∧ ui = .int .i64 i ∧ uk = .int .i64 ((q : Int) + 1) ∧ i ≤ j + 1 + q ∧ Hid (HalfC wr2 B g n cap zs i (j + 1 + q) xs acc) ∧ Hid (acc = compactB (·.2) (zs.take (j + 1 + q + 1))) ∧ Hid (w.grownBy wr2 (some g)))
          (fun _ uk _ => m - (intOf uk).toNat)
        case atStart => exact ⟨j + 1, 0, _, _, by omega, by simp, by simp, by omega, HC, Lib.hid HACC.out.symm, HG1⟩
        case round =>
          clear HC HACC HG1
          obtain ⟨i, q, xs, acc, hq, rfl, rfl, hip, HC, HACC, HG⟩ := hrel
          by_cases hlt2 : q + 1 < m
          · obtain ⟨x2, hx⟩ : ∃ x2, zs[j + 1 + q + 1]? = some x2 := ⟨_, List.getElem?_eq_getElem (by rw [HL.out]; omega)⟩
            obtain ⟨y2, hy⟩ : ∃ y2, zs[j + 1 + q]? = some y2 := ⟨_, List.getElem?_eq_getElem (by rw [HL.out]; omega)⟩
            obtain ⟨xa, xn, xc, hx1⟩ := HS.out x2 (List.mem_of_getElem? hx)
            obtain ⟨ya, yn, yc, hy1⟩ := HS.out y2 (List.mem_of_getElem? hy)
            have cx := HC.out.cell (q := j + 1 + q + 1) (by omega) hx (by omega)
            have cy := HC.out.cell (q := j + 1 + q) (by omega) hy (by omega)
            have K := Lib.hid (fun W (hW : w.grownBy W (some g)) => KT.out W hW x2 (List.mem_of_getElem? hx) y2 (List.mem_of_getElem? hy))
            have hg1 : g < wr.heap.size := HC.out.glt.2
            have HX := Lib.hid hx
            have HY := Lib.hid hy
            rw [hx1] at cx
            rw [hy1] at cy
            rw [hx1, hy1] at K
            have i1 : (0 : Int) ≤ (q : Int) := by omega
            have i2 : (q : Int) + 1 < (m : Int) := by omega
            have i3 : (q : Int) < (m : Int) := by omega
            have i4 : (0 : Int) ≤ (q : Int) + 1 := by omega
            have i5 : IntKind.i64.wrap (q : Int) = q := by rw [IntKind.wrap_i64]; omega
            have e1 : j + 1 + q + 1 = j + 1 + (q + 1) := by omega
            rw [e1] at cx
            clear e1 hx hy hy1
            by_cases hxy : x2.2 = y2.2
            · rw [decide_eq_true hxy] at K
              have HXY := Lib.hid hxy
              clear hxy hx1
              go_wp2_with fail
              go_region_held3 (fun w' => w'.cell? ⟨g, j + 1 + (q + 1), none⟩ = some (.slice xa xn xc) ∧ w'.cell? ⟨g, j + 1 + q, none⟩ = some (.slice ya yn yc))
                (first | (refine ⟨?_, ?_⟩ <;> (rw [hk2 _ hg1]; assumption)) | go_keep)
                (first
                  | (go_at_call 49; refine (K.out _ (HG.out.trans (Fresh.grownBy (Fresh.refl wr).drew _))).mono ?_; rintro e w3 ⟨rfl, hf1⟩; have hk2 : ∀ c, c < wr.heap.size → ∀ off, w3.cell? ⟨c, off, none⟩ = wr.cell? ⟨c, off, none⟩ := fun c hc off => cell_below (w := wr.drew) hf1.below hc off))
              have HB3 := Lib.hid (show Below wr.heap.size wr w3 from (Below.refl _ _).drew.trans hf1.below)
              have HC3 := Lib.hid ((HC.out.kept HB3.out).skip (by omega))
              have HG3 := Lib.hid (show w.grownBy w3 (some g) from HG.out.trans ⟨HB3.out.os, HB3.out.tape, HB3.out.output, HB3.out.size, fun k hk _ => HB3.out.block k hk⟩)
              have HA3 := Lib.hid (show acc = compactB (·.2) (zs.take (j + 1 + (q + 1) + 1)) by
                rw [show j + 1 + (q + 1) + 1 = j + 1 + q + 2 by omega, compactB_same (·.2) HY.out HX.out HXY.out.symm, ← HACC.out])
              clear hf1 hk2 HB3
              go_wp2
              go_roundw
              case rel => exact ⟨i, q + 1, xs, acc, by omega, by go_num, by go_num, by omega, HC3, HA3, HG3⟩
              case measure => simp [intOf]; omega
            · rw [decide_eq_false hxy] at K
              have HXY := Lib.hid hxy
              have HP := Lib.hid (fun W (hb : Below wr.heap.size wr W) => (show (∃ d, W.cell? ⟨g, i, none⟩ = some d ∧ W.frozen? ⟨g, i, none⟩ = false) ∧ W.grownBy (W.setCell ⟨g, i, none⟩ (.slice xa xn xc)) (some g) ∧ HalfC (W.setCell ⟨g, i, none⟩ (.slice xa xn xc)) B g n cap zs (i + 1) (j + 1 + (q + 1)) (xs.set i (.slice xa xn xc)) (acc ++ [x2]) from
                ⟨(HC.out.kept hb).spot, ((HC.out.kept hb).own.stored i _).2, by rw [← hx1]; exact (HC.out.kept hb).put (by omega)⟩))
              have HA3 := Lib.hid (show acc ++ [x2] = compactB (·.2) (zs.take (j + 1 + (q + 1) + 1)) by
                rw [show j + 1 + (q + 1) + 1 = j + 1 + q + 2 by omega, compactB_other (·.2) HY.out HX.out (fun e => HXY.out e.symm), ← HACC.out])
              clear hxy hx1
              go_wp2_with fail
              go_region_held3 (fun w' => w'.cell? ⟨g, j + 1 + (q + 1), none⟩ = some (.slice xa xn xc) ∧ w'.cell? ⟨g, j + 1 + q, none⟩ = some (.slice ya yn yc))
                (first | (refine ⟨?_, ?_⟩ <;> (rw [hk2 _ hg1]; assumption)) | go_keep)
                (first
                  | (go_at_call 49; refine (K.out _ (HG.out.trans (Fresh.grownBy (Fresh.refl wr).drew _))).mono ?_; rintro e w3 ⟨rfl, hf1⟩; have hk2 : ∀ c, c < wr.heap.size → ∀ off, w3.cell? ⟨c, off, none⟩ = wr.cell? ⟨c, off, none⟩ := fun c hc off => cell_below (w := wr.drew) hf1.below hc off))
              have HB3 := Lib.hid (show Below wr.heap.size wr w3 from (Below.refl _ _).drew.trans hf1.below)
              obtain ⟨⟨d, s0, s1⟩, hg3, hc3⟩ := HP.out _ HB3.out
              have HC3 := Lib.hid hc3
              have HG3 := Lib.hid ((show w.grownBy w3 (some g) from HG.out.trans ⟨HB3.out.os, HB3.out.tape, HB3.out.output, HB3.out.size, fun k hk _ => HB3.out.block k hk⟩).trans hg3)
              have hin : (i : Int) < n := by omega
              have i6 : (0 : Int) ≤ (i : Int) := by omega
              have cx3 := (hk2 _ hg1 (j + 1 + (q + 1))).trans cx
              clear hf1 hk2 HB3 hc3 hg3
              go_wp2
              go_roundw
              case rel => exact ⟨i + 1, q + 1, _, _, by omega, by go_num, by go_num, by omega, HC3, HA3, HG3⟩
              case measure => simp [intOf]; omega
          · have hqm : q + 1 = m := by omega
            have hin : i ≤ n := by omega
            have hin' : (i : Int) ≤ n := by omega
            have hic : i ≠ cap := by omega
            have hic' : cap ≠ i := fun e => hic e.symm
            have hic2 : i < cap := by omega
            have hic3 : (i : Int) < cap := by omega
            have i6 : (0 : Int) ≤ (i : Int) := by omega
            have HA := Lib.hid (show acc = compactB (·.2) zs by rw [HACC.out, List.take_of_length_le (by rw [HL.out]; omega)])
            go_wp2
            obtain ⟨w5, hrun5, hown5, hg5⟩ := run_clear_own (P := Try.prog) (t := 25) (ty := 0) (k := 1) (by omega) Try.underlying25 Try.zeroValue24 rfl (by simp [Value.cells, Value.oneCell']) HC.out.own i (cap - i) hin
            rw [Nat.mul_one] at hrun5 hown5
            have HO5 := Lib.hid hown5
            have HG5 := Lib.hid (HG.out.trans hg5)
            clear hown5 hg5
            rw [hrun5]
            go_wp2
            go_ret
            have hlen : i = acc.length := by
              have h2 := congrArg List.length HC.out.hd
              rw [List.length_take, List.length_map, HC.out.len] at h2
              omega
            have hsub : (compactB (·.2) zs).Sublist zs := compactB_sub _ zs
            refine ⟨⟨_, rfl, HN.out.sub hsub (OV.of_row ?_ (fun z hz => H1.out z (hsub.subset hz))) rfl HG5.out⟩, HG5.out⟩
            rw [← HA.out, ← hlen, ← HC.out.hd]
            exact HO5.out
      · have hd : decide (x.2 = y.2) = false := decide_eq_false hxy
        rw [hd] at K
        have HXY := Lib.hid hxy
        clear hxy hd
        go_wp2_with fail
        go_region_held3 (fun w' => w'.cell? ⟨g, j + 1, none⟩ = some (.slice xa xn xc) ∧ w'.cell? ⟨g, j, none⟩ = some (.slice ya yn yc))
          (first | (refine ⟨?_, ?_⟩ <;> (rw [hk2 _ hg1]; assumption)) | go_keep)
          (first
            | (go_at_call 49; refine (K.out _ (HG.out.trans (Fresh.grownBy (Fresh.refl wr).drew _))).mono ?_; rintro e w1 ⟨rfl, hf1⟩; have hk2 : ∀ c, c < wr.heap.size → ∀ off, w1.cell? ⟨c, off, none⟩ = wr.cell? ⟨c, off, none⟩ := fun c hc off => cell_below (w := wr.drew) hf1.below hc off))
        have HB2 := Lib.hid (hbel.out.drew.trans (hf1.below.mono hbel.out.size))
        clear hf1 hk2 cx cy
        go_wp2
        go_roundw
        case rel =>
          refine ⟨j + 1, by omega, by go_num, Lib.hid ?_, HB2⟩
          intro p a b hp ha hb
          by_cases hpj : p = j
          · subst hpj
            rw [HY.out] at ha
            rw [HX.out] at hb
            obtain rfl := Option.some.inj ha
            obtain rfl := Option.some.inj hb
            exact fun e => HXY.out e.symm
          · exact hne.out p a b (by omega) ha hb
        case measure => simp [intOf]; omega
    · have hjn : j + 1 = n := by omega
      have hc : compactB (·.2) zs = zs := by
        have := compactB_apart (·.2) (l := zs) (j + 1) (by rw [HL.out]; omega) hne.out
        rwa [List.take_of_length_le (by rw [HL.out]; omega)] at this
      have HC := Lib.hid hc
      clear hc hgb hrow
      go_wp2
      go_ret
      exact ⟨⟨_, rfl, by rw [HC.out]; exact HN.out.below hbel.out⟩, HG.out⟩
end Go.Proofs.Ytmnpneandkiblaa
