/-
  THE TEXTS CompW, TidyW, CheckW2, one behind the other.
-/
import Derived.Test.YtgoaiohkodbadaaGreatPk4
import Derived.Test.YtgoaiohkodbadaaGreatPk7
import Derived.Laws.EntriesVeiled
/-
  slices.CompactFunc AT LISTS OF BINDS.
-/
namespace Go.Proofs.YtgoaiohkodbadaaGreat
open Go.RowKit

section
variable {α β : Type} [DecidableEq α] (f : β → α)
def snocB (acc : List β) (x : β) : List β := if acc.getLast?.map f = some (f x) then acc else acc ++ [x]
def compactB (l : List β) : List β := l.foldl (snocB f) []
theorem compactB_snoc (l : List β) (x : β) : compactB f (l ++ [x]) = snocB f (compactB f l) x := by simp [compactB, List.foldl_append]
theorem compactB_take_succ {l : List β} {n : Nat} {x : β} (h : l[n]? = some x) : compactB f (l.take (n + 1)) = snocB f (compactB f (l.take n)) x := by
  rw [List.take_add_one, h]; exact compactB_snoc _ _ _
theorem snocB_last (acc : List β) (x : β) : (snocB f acc x).getLast?.map f = some (f x) := by
  unfold snocB
  split
  · assumption
  · simp
theorem compactB_last {l : List β} {n : Nat} {x : β} (h : l[n]? = some x) : (compactB f (l.take (n + 1))).getLast?.map f = some (f x) := by
  rw [compactB_take_succ f h]; exact snocB_last _ _ _
theorem compactB_same {l : List β} {n : Nat} {x y : β} (h : l[n]? = some x) (k : l[n + 1]? = some y) (he : f x = f y) : compactB f (l.take (n + 2)) = compactB f (l.take (n + 1)) := by
  rw [compactB_take_succ f k, snocB, if_pos (by rw [compactB_last f h, he])]
theorem compactB_other {l : List β} {n : Nat} {x y : β} (h : l[n]? = some x) (k : l[n + 1]? = some y) (hne : f x ≠ f y) : compactB f (l.take (n + 2)) = compactB f (l.take (n + 1)) ++ [y] := by
  rw [compactB_take_succ f k, snocB, if_neg (by rw [compactB_last f h]; intro e; exact hne (Option.some.inj e))]
theorem compactB_apart {l : List β} : ∀ n, n ≤ l.length → (∀ p x y, p + 1 < n → l[p]? = some x → l[p + 1]? = some y → f x ≠ f y) → compactB f (l.take n) = l.take n
  | 0, _, _ => by simp [compactB]
  | 1, hn, _ => by
    obtain ⟨x, hx⟩ : ∃ x, l[0]? = some x := ⟨_, List.getElem?_eq_getElem (by omega)⟩
    rw [compactB_take_succ f hx, List.take_add_one, hx]
    simp [compactB, snocB]
  | n + 2, hn, h => by
    obtain ⟨x, hx⟩ : ∃ x, l[n]? = some x := ⟨_, List.getElem?_eq_getElem (by omega)⟩
    obtain ⟨y, hy⟩ : ∃ y, l[n + 1]? = some y := ⟨_, List.getElem?_eq_getElem (by omega)⟩
    rw [compactB_other f hx hy (h n x y (by omega) hx hy), compactB_apart (n + 1) (by omega) (fun p a b hp => h p a b (by omega)), List.take_add_one (i := n + 1), hy]
    rfl
theorem compactB_map (l : List β) : (compactB f l).map f = compactL (l.map f) := by
  have main : ∀ (l : List β) (acc : List β), (l.foldl (snocB f) acc).map f = (l.map f).foldl snocC (acc.map f) := by
    intro l
    induction l with
    | nil => intro acc; rfl
    | cons x l ih =>
      intro acc
      rw [List.foldl_cons, List.map_cons, List.foldl_cons, ih]
      congr 1
      unfold snocB snocC
      rw [List.getLast?_map]
      split
      · rfl
      · simp
  exact main l []
theorem compactB_sub (l : List β) : (compactB f l).Sublist l := by
  have main : ∀ (l acc pre : List β), acc.Sublist pre → (l.foldl (snocB f) acc).Sublist (pre ++ l) := by
    intro l
    induction l with
    | nil => intro acc pre h; simpa using h
    | cons x l ih =>
      intro acc pre h
      rw [List.foldl_cons, show pre ++ x :: l = (pre ++ [x]) ++ l by simp]
      refine ih _ _ ?_
      unfold snocB
      split
      · exact h.trans (List.sublist_append_left _ _)
      · exact h.append (List.Sublist.refl _)
  have h := main l [] [] (List.Sublist.refl _)
  rwa [List.nil_append] at h
end

theorem Nest.sub {B : Nat} {w w' : World} {v v' : Value} {zs ys : List VB} (h : Nest B w v zs) (hp : ys.Sublist zs) (ho : OV B w' v' ys) (hv : v'.ownBlock = v.ownBlock) (hg : w.grownBy w' v.ownBlock) : Nest B w' v' ys :=
  ⟨ho, fun z hz => (h.inner z (hp.subset hz)).kept RBind.steady hg (fun q hq e => h.off z (hp.subset hz) q hq e), h.apart.sublist hp, fun z hz b hb => by rw [hv]; exact h.off z (hp.subset hz) b hb⟩

/-- The row in the midst: its first i elements are those kept, those from p on stand as they did. -/
structure HalfC (w : World) (B g n cap : Nat) (zs : List VB) (i p : Nat) (xs : List Value) (acc : List VB) : Prop where
  own : w.ownsRow B 157 1 (.slice (some ⟨g, 0, none⟩) n cap) n xs
  hd : xs.take i = acc.map (·.1)
  tl : xs.drop p = (zs.drop p).map (·.1)
  le : i ≤ p
  lt : p < n
section
variable {w w' : World} {B g n cap : Nat} {zs : List VB} {i p : Nat} {xs : List Value} {acc : List VB}
theorem HalfC.glt (h : HalfC w B g n cap zs i p xs acc) : B ≤ g ∧ g < w.heap.size := h.own.lt g rfl
theorem HalfC.len (h : HalfC w B g n cap zs i p xs acc) : xs.length = n := by have := h.own.1; omega
theorem HalfC.kept (h : HalfC w B g n cap zs i p xs acc) (hb : Below w.heap.size w w') : HalfC w' B g n cap zs i p xs acc :=
  ⟨h.own.kept (row := none) ⟨hb.os, hb.tape, hb.output, hb.size, fun k hk _ => hb.block k hk⟩ (.inr (by simp [Value.ownBlock])), h.hd, h.tl, h.le, h.lt⟩
theorem HalfC.cell (h : HalfC w B g n cap zs i p xs acc) {q : Nat} {z : VB} (hq : p ≤ q) (hz : zs[q]? = some z) (hn : q < n) : w.cell? ⟨g, q, none⟩ = some z.1 := by
  rw [h.own.cellAt q (by omega)]
  have h1 : (xs.drop p)[q - p]? = ((zs.drop p).map (·.1))[q - p]? := by rw [h.tl]
  rw [List.getElem?_drop, List.getElem?_map, List.getElem?_drop, show p + (q - p) = q by omega, hz] at h1
  exact h1
theorem HalfC.skip (h : HalfC w B g n cap zs i p xs acc) (hp : p + 1 < n) : HalfC w B g n cap zs i (p + 1) xs acc :=
  ⟨h.own, h.hd, by have := congrArg (List.drop 1) h.tl; rwa [List.drop_drop, ← List.map_drop, List.drop_drop] at this, by have := h.le; omega, hp⟩
theorem HalfC.put (h : HalfC w B g n cap zs i p xs acc) {z : VB} (hp : p + 1 < n) : HalfC (w.setCell ⟨g, i, none⟩ z.1) B g n cap zs (i + 1) (p + 1) (xs.set i z.1) (acc ++ [z]) :=
  ⟨(h.own.stored i z.1).1, by
    have hi : i < xs.length := by have := h.le; have := h.len; omega
    rw [List.take_add_one, List.take_set_of_le (Nat.le_refl _), h.hd, List.getElem?_set_self hi]
    simp, by
    have h1 := congrArg (List.drop 1) h.tl
    rw [List.drop_drop, ← List.map_drop, List.drop_drop] at h1
    rw [List.drop_set_of_lt (by have := h.le; omega)]
    exact h1, by have := h.le; omega, hp⟩
theorem HalfC.spot (h : HalfC w B g n cap zs i p xs acc) : ∃ d, w.cell? ⟨g, i, none⟩ = some d ∧ w.frozen? ⟨g, i, none⟩ = false := by
  have hi : i < xs.length := by have := h.le; have := h.len; have := h.lt; omega
  exact ⟨_, by rw [h.own.cellAt i (by have := h.len; omega)]; exact List.getElem?_eq_getElem hi, h.own.frozenAt _⟩
end
theorem Fresh.grownBy {w w' : World} (h : Fresh w w') (row : Option Nat) : w.grownBy w' row := ⟨h.below.os, h.below.tape, h.below.output, h.below.size, fun k hk _ => h.below.block k hk⟩

attribute [local go_sem ↓] Go.wp_at_zero Go.wp_at_succ
set_option maxRecDepth 100000 in
set_option maxHeartbeats 8000000 in
theorem compactNest {B : Nat} {w : World} {v : Value} {zs : List VB} (hN : Nest B w v zs) (n1 : zs.length ≤ 1073741824) (n2 : ∀ z ∈ zs, z.2.length ≤ 1073741824) :
    Calls Tryz.prog 178 #[v, .func (.func 179) #[] #[]] w fun en w' => (∃ v', en = .returned v' ∧ Nest B w' v' (compactB (·.2) zs)) ∧ w.grownBy w' v.ownBlock := by
  have KT := Lib.hid (show ∀ W, w.grownBy W v.ownBlock → ∀ y ∈ zs, ∀ z ∈ zs, Calls Tryz.prog 179 #[y.1, z.1] W fun e w' => e = .returned (.bool (decide (y.2 = z.2))) ∧ Fresh W w' from fun W hW y hy z hz =>
    tidy3Calls y.1 z.1 y.2 z.2 W (OB.read ((hN.inner y hy).kept RBind.steady hW (fun q hq e => hN.off y hy q hq e))) (OB.read ((hN.inner z hz).kept RBind.steady hW (fun q hq e => hN.off z hz q hq e))) (n2 y hy) (n2 z hz))
  have HS := Lib.hid (show ∀ z ∈ zs, ∃ a n c, z.1 = .slice a n c from fun z hz => by obtain ⟨a, c, h, -⟩ := (OB.read (hN.inner z hz)).form; exact ⟨a, _, c, h⟩)
  obtain ⟨ho, h1⟩ := hN.outer.row
  have H1 := Lib.hid h1
  have HN := Lib.hid hN
  by_cases hl2 : zs.length < 2
  · have hc : compactB (·.2) zs = zs := by
      match zs, hl2 with
      | [], _ => rfl
      | [x], _ => simp [compactB, snocB]
    rw [hc]
    obtain ⟨a, c, rfl, -, -, -⟩ := id (hN.outer.read RPair.steady).form
    clear hN ho h1 KT HS n2 hc
    go_enter Tryz.func178, Tryz.ntmps178
    go_wp2
    go_ret
    exact ⟨⟨_, rfl, HN.out⟩, ⟨rfl, rfl, rfl, Nat.le_refl _, fun _ _ _ => rfl⟩⟩
  rcases id ho.2 with ⟨-, h0⟩ | ⟨g, cap, cur, rfl, hgB, hg, hcap, hcm, -, -⟩
  · omega
  have hcm' : cap ≤ 9223372036854775807 := by unfold maxLen at hcm; omega
  obtain ⟨n, hn⟩ : ∃ n, zs.length = n := ⟨_, rfl⟩
  have HO := Lib.hid ho
  rw [hn] at hl2 n1 hcap HO KT HN ⊢
  have HL := Lib.hid hn
  clear hn ho h1 hN hg n2
  have hl2' : decide ((n : Int) < 2) = false := by simp; omega
  go_enter Tryz.func178, Tryz.ntmps178
  go_wp2
  go_loopw [5, 6, 7] (fun ui _ _ wr => ∃ j : Nat, j + 1 ≤ n ∧ ui = .int .i64 ((j : Int) + 1) ∧ Hid (∀ p x y, p + 1 < j + 1 → zs[p]? = some x → zs[p + 1]? = some y → x.2 ≠ y.2) ∧ Hid (Below w.heap.size w wr))
    (fun ui _ _ _ => n - (intOf ui).toNat)
  case atStart => exact ⟨0, by omega, rfl, Lib.hid (fun p x y h => by omega), Lib.hid (Below.refl _ _)⟩
  case round =>
    obtain ⟨j, hj, rfl, hne, hbel⟩ := hrel
    have hgb : w.grownBy wr (some g) := ⟨hbel.out.os, hbel.out.tape, hbel.out.output, hbel.out.size, fun k hk _ => hbel.out.block k hk⟩
    have HG := Lib.hid hgb
    have hrow : wr.ownsRow B 157 1 (.slice (some ⟨g, 0, none⟩) n cap) n (zs.map (·.1)) := by
      have := HO.out.kept (w' := wr) (row := none) ⟨hbel.out.os, hbel.out.tape, hbel.out.output, hbel.out.size, fun k hk _ => hbel.out.block k hk⟩ (.inr (by simp [Value.ownBlock]))
      exact this
    by_cases hlt : j + 1 < n
    · obtain ⟨x, hx⟩ : ∃ x, zs[j + 1]? = some x := ⟨_, List.getElem?_eq_getElem (by rw [HL.out]; omega)⟩
      obtain ⟨y, hy⟩ : ∃ y, zs[j]? = some y := ⟨_, List.getElem?_eq_getElem (by rw [HL.out]; omega)⟩
      obtain ⟨xa, xn, xc, hx1⟩ := HS.out x (List.mem_of_getElem? hx)
      obtain ⟨ya, yn, yc, hy1⟩ := HS.out y (List.mem_of_getElem? hy)
      have cx : wr.cell? ⟨g, j + 1, none⟩ = some (.slice xa xn xc) := by rw [hrow.cellAt (j + 1) (by omega), List.getElem?_map, hx, ← hx1]; rfl
      have cy : wr.cell? ⟨g, j, none⟩ = some (.slice ya yn yc) := by rw [hrow.cellAt j (by omega), List.getElem?_map, hy, ← hy1]; rfl
      have hg1 : g < wr.heap.size := (hrow.lt g rfl).2
      have K := Lib.hid (fun W (hW : w.grownBy W (some g)) => KT.out W hW x (List.mem_of_getElem? hx) y (List.mem_of_getElem? hy))
      have HX := Lib.hid hx
      have HY := Lib.hid hy
      have HR := Lib.hid hrow
      rw [hx1, hy1] at K
      clear hx hy hx1 hy1 hrow hgb
      have i1 : (0 : Int) ≤ (j : Int) := by omega
      have i2 : (j : Int) + 1 < (n : Int) := by omega
      have i3 : (j : Int) < (n : Int) := by omega
      have i4 : (0 : Int) ≤ (j : Int) + 1 := by omega
      have i5 : IntKind.i64.wrap (j : Int) = j := by rw [IntKind.wrap_i64]; omega
      by_cases hxy : x.2 = y.2
      · have hd : decide (x.2 = y.2) = true := decide_eq_true hxy
        rw [hd] at K
        have HXY := Lib.hid hxy
        clear hxy hd
        go_wp2_with fail
        go_region_held3 (fun w' => w'.cell? ⟨g, j + 1, none⟩ = some (.slice xa xn xc) ∧ w'.cell? ⟨g, j, none⟩ = some (.slice ya yn yc))
          (first | (refine ⟨?_, ?_⟩ <;> (rw [hk2 _ hg1]; assumption)) | go_keep)
          (first
            | (go_at_call 179; refine (K.out _ (HG.out.trans (Fresh.grownBy (Fresh.refl wr).drew _))).mono ?_; rintro e w1 ⟨rfl, hf1⟩; have hk2 : ∀ c, c < wr.heap.size → ∀ off, w1.cell? ⟨c, off, none⟩ = wr.cell? ⟨c, off, none⟩ := fun c hc off => cell_below (w := wr.drew) hf1.below hc off))
        have HB1 := Lib.hid (show Below wr.heap.size wr w1 from (Below.refl _ _).drew.trans hf1.below)
        have HC := Lib.hid (show HalfC w1 B g n cap zs (j + 1) (j + 1) (zs.map (·.1)) (zs.take (j + 1)) from
          HalfC.kept (w := wr) ⟨HR.out, by rw [← List.map_take], by rw [← List.map_drop], Nat.le_refl _, hlt⟩ HB1.out)
        have HACC := Lib.hid (show compactB (·.2) (zs.take (j + 1 + 1)) = zs.take (j + 1) by
          rw [compactB_same (·.2) HY.out HX.out HXY.out.symm]; exact compactB_apart _ (j + 1) (by rw [HL.out]; omega) hne.out)
        have HG1 := Lib.hid (show w.grownBy w1 (some g) from HG.out.trans ⟨HB1.out.os, HB1.out.tape, HB1.out.output, HB1.out.size, fun k hk _ => HB1.out.block k hk⟩)
        clear hf1 hk2 cx cy HB1
        go_wp2
        clear HX HY HXY K hg1 hbel hne HG HR
        obtain ⟨m, hm⟩ : ∃ m, n - (j + 1) = m := ⟨_, rfl⟩
        obtain ⟨c2, hc2⟩ : ∃ c2, cap - (j + 1) = c2 := ⟨_, rfl⟩
        rw [hm, hc2]
        go_loopw [5, 7] (fun ui uk wr2 => ∃ i q : Nat, ∃ xs acc, q + 1 ≤ m ∧ ui = .int .i64 i ∧ uk = .int .i64 ((q : Int) + 1) ∧ i ≤ j + 1 + q ∧ Hid (HalfC wr2 B g n cap zs i (j + 1 + q) xs acc) ∧ Hid (acc = compactB (·.2) (zs.take (j + 1 + q + 1))) ∧ Hid (w.grownBy wr2 (some g)))
          (fun _ uk _ => m - (intOf uk).toNat)
        case atStart => exact ⟨j + 1, 0, _, _, by omega, by simp, by simp, by omega, HC, Lib.hid HACC.out.symm, HG1⟩
        case round =>
          clear HC HACC HG1
          obtain ⟨i, q, xs, acc, hq, rfl, rfl, hip, HC, HACC, HG⟩ := hrel
          by_cases hlt2 : q + 1 < m
          · obtain ⟨x2, hx⟩ : ∃ x2, zs[j + 1 + q + 1]? = some x2 := ⟨_, List.getElem?_eq_getElem (by rw [HL.out]; omega)⟩
            obtain ⟨y2, hy⟩ : ∃ y2, zs[j + 1 + q]? = some y2 := ⟨_, List.getElem?_eq_getElem (by rw [HL.out]; omega)⟩
            obtain ⟨xa, xn, xc, hx1⟩ := HS.out x2 (List.mem_of_getElem? hx)
            obtain ⟨ya, yn, yc, hy1⟩ := HS.out y2 (List.mem_of_getElem? hy)
            have cx := HC.out.cell (q := j + 1 + q + 1) (by omega) hx (by omega)
            have cy := HC.out.cell (q := j + 1 + q) (by omega) hy (by omega)
            have K := Lib.hid (fun W (hW : w.grownBy W (some g)) => KT.out W hW x2 (List.mem_of_getElem? hx) y2 (List.mem_of_getElem? hy))
            have hg1 : g < wr.heap.size := HC.out.glt.2
            have HX := Lib.hid hx
            have HY := Lib.hid hy
            rw [hx1] at cx
            rw [hy1] at cy
            rw [hx1, hy1] at K
            have i1 : (0 : Int) ≤ (q : Int) := by omega
            have i2 : (q : Int) + 1 < (m : Int) := by omega
            have i3 : (q : Int) < (m : Int) := by omega
            have i4 : (0 : Int) ≤ (q : Int) + 1 := by omega
            have i5 : IntKind.i64.wrap (q : Int) = q := by rw [IntKind.wrap_i64]; omega
            have e1 : j + 1 + q + 1 = j + 1 + (q + 1) := by omega
            rw [e1] at cx
            clear e1 hx hy hy1
            by_cases hxy : x2.2 = y2.2
            · rw [decide_eq_true hxy] at K
              have HXY := Lib.hid hxy
              clear hxy hx1
              go_wp2_with fail
              go_region_held3 (fun w' => w'.cell? ⟨g, j + 1 + (q + 1), none⟩ = some (.slice xa xn xc) ∧ w'.cell? ⟨g, j + 1 + q, none⟩ = some (.slice ya yn yc))
                (first | (refine ⟨?_, ?_⟩ <;> (rw [hk2 _ hg1]; assumption)) | go_keep)
                (first
                  | (go_at_call 179; refine (K.out _ (HG.out.trans (Fresh.grownBy (Fresh.refl wr).drew _))).mono ?_; rintro e w3 ⟨rfl, hf1⟩; have hk2 : ∀ c, c < wr.heap.size → ∀ off, w3.cell? ⟨c, off, none⟩ = wr.cell? ⟨c, off, none⟩ := fun c hc off => cell_below (w := wr.drew) hf1.below hc off))
              have HB3 := Lib.hid (show Below wr.heap.size wr w3 from (Below.refl _ _).drew.trans hf1.below)
              have HC3 := Lib.hid ((HC.out.kept HB3.out).skip (by omega))
              have HG3 := Lib.hid (show w.grownBy w3 (some g) from HG.out.trans ⟨HB3.out.os, HB3.out.tape, HB3.out.output, HB3.out.size, fun k hk _ => HB3.out.block k hk⟩)
              have HA3 := Lib.hid (show acc = compactB (·.2) (zs.take (j + 1 + (q + 1) + 1)) by
                rw [show j + 1 + (q + 1) + 1 = j + 1 + q + 2 by omega, compactB_same (·.2) HY.out HX.out HXY.out.symm, ← HACC.out])
              clear hf1 hk2 HB3
              go_wp2
              go_roundw
              case rel => exact ⟨i, q + 1, xs, acc, by omega, by go_num, by go_num, by omega, HC3, HA3, HG3⟩
              case measure => simp [intOf]; omega
            · rw [decide_eq_false hxy] at K
              have HXY := Lib.hid hxy
              have HP := Lib.hid (fun W (hb : Below wr.heap.size wr W) => (show (∃ d, W.cell? ⟨g, i, none⟩ = some d ∧ W.frozen? ⟨g, i, none⟩ = false) ∧ W.grownBy (W.setCell ⟨g, i, none⟩ (.slice xa xn xc)) (some g) ∧ HalfC (W.setCell ⟨g, i, none⟩ (.slice xa xn xc)) B g n cap zs (i + 1) (j + 1 + (q + 1)) (xs.set i (.slice xa xn xc)) (acc ++ [x2]) from
                ⟨(HC.out.kept hb).spot, ((HC.out.kept hb).own.stored i _).2, by rw [← hx1]; exact (HC.out.kept hb).put (by omega)⟩))
              have HA3 := Lib.hid (show acc ++ [x2] = compactB (·.2) (zs.take (j + 1 + (q + 1) + 1)) by
                rw [show j + 1 + (q + 1) + 1 = j + 1 + q + 2 by omega, compactB_other (·.2) HY.out HX.out (fun e => HXY.out e.symm), ← HACC.out])
              clear hxy hx1
              go_wp2_with fail
              go_region_held3 (fun w' => w'.cell? ⟨g, j + 1 + (q + 1), none⟩ = some (.slice xa xn xc) ∧ w'.cell? ⟨g, j + 1 + q, none⟩ = some (.slice ya yn yc))
                (first | (refine ⟨?_, ?_⟩ <;> (rw [hk2 _ hg1]; assumption)) | go_keep)
                (first
                  | (go_at_call 179; refine (K.out _ (HG.out.trans (Fresh.grownBy (Fresh.refl wr).drew _))).mono ?_; rintro e w3 ⟨rfl, hf1⟩; have hk2 : ∀ c, c < wr.heap.size → ∀ off, w3.cell? ⟨c, off, none⟩ = wr.cell? ⟨c, off, none⟩ := fun c hc off => cell_below (w := wr.drew) hf1.below hc off))
              have HB3 := Lib.hid (show Below wr.heap.size wr w3 from (Below.refl _ _).drew.trans hf1.below)
              obtain ⟨⟨d, s0, s1⟩, hg3, hc3⟩ := HP.out _ HB3.out
              have HC3 := Lib.hid hc3
              have HG3 := Lib.hid ((show w.grownBy w3 (some g) from HG.out.trans ⟨HB3.out.os, HB3.out.tape, HB3.out.output, HB3.out.size, fun k hk _ => HB3.out.block k hk⟩).trans hg3)
              have hin : (i : Int) < n := by omega
              have i6 : (0 : Int) ≤ (i : Int) := by omega
              have cx3 := (hk2 _ hg1 (j + 1 + (q + 1))).trans cx
              clear hf1 hk2 HB3 hc3 hg3
              go_wp2
              go_roundw
              case rel => exact ⟨i + 1, q + 1, _, _, by omega, by go_num, by go_num, by omega, HC3, HA3, HG3⟩
              case measure => simp [intOf]; omega
          · have hqm : q + 1 = m := by omega
            have hin : i ≤ n := by omega
            have hin' : (i : Int) ≤ n := by omega
            have hic : i ≠ cap := by omega
            have hic' : cap ≠ i := fun e => hic e.symm
            have hic2 : i < cap := by omega
            have hic3 : (i : Int) < cap := by omega
            have i6 : (0 : Int) ≤ (i : Int) := by omega
            have HA := Lib.hid (show acc = compactB (·.2) zs by rw [HACC.out, List.take_of_length_le (by rw [HL.out]; omega)])
            go_wp2
            obtain ⟨w5, hrun5, hown5, hg5⟩ := run_clear_own (P := Tryz.prog) (t := 55) (ty := 0) (k := 1) (by omega) Tryz.underlying55 Tryz.zeroValue157 rfl (by simp [Value.cells, Value.oneCell']) HC.out.own i (cap - i) hin
            rw [Nat.mul_one] at hrun5 hown5
            have HO5 := Lib.hid hown5
            have HG5 := Lib.hid (HG.out.trans hg5)
            clear hown5 hg5
            rw [hrun5]
            go_wp2
            go_ret
            have hlen : i = acc.length := by
              have h2 := congrArg List.length HC.out.hd
              rw [List.length_take, List.length_map, HC.out.len] at h2
              omega
            have hsub : (compactB (·.2) zs).Sublist zs := compactB_sub _ zs
            refine ⟨⟨_, rfl, HN.out.sub hsub (OV.of_row ?_ (fun z hz => H1.out z (hsub.subset hz))) rfl HG5.out⟩, HG5.out⟩
            rw [← HA.out, ← hlen, ← HC.out.hd]
            exact HO5.out
      · have hd : decide (x.2 = y.2) = false := decide_eq_false hxy
        rw [hd] at K
        have HXY := Lib.hid hxy
        clear hxy hd
        go_wp2_with fail
        go_region_held3 (fun w' => w'.cell? ⟨g, j + 1, none⟩ = some (.slice xa xn xc) ∧ w'.cell? ⟨g, j, none⟩ = some (.slice ya yn yc))
          (first | (refine ⟨?_, ?_⟩ <;> (rw [hk2 _ hg1]; assumption)) | go_keep)
          (first
            | (go_at_call 179; refine (K.out _ (HG.out.trans (Fresh.grownBy (Fresh.refl wr).drew _))).mono ?_; rintro e w1 ⟨rfl, hf1⟩; have hk2 : ∀ c, c < wr.heap.size → ∀ off, w1.cell? ⟨c, off, none⟩ = wr.cell? ⟨c, off, none⟩ := fun c hc off => cell_below (w := wr.drew) hf1.below hc off))
        have HB2 := Lib.hid (hbel.out.drew.trans (hf1.below.mono hbel.out.size))
        clear hf1 hk2 cx cy
        go_wp2
        go_roundw
        case rel =>
          refine ⟨j + 1, by omega, by go_num, Lib.hid ?_, HB2⟩
          intro p a b hp ha hb
          by_cases hpj : p = j
          · subst hpj
            rw [HY.out] at ha
            rw [HX.out] at hb
            obtain rfl := Option.some.inj ha
            obtain rfl := Option.some.inj hb
            exact fun e => HXY.out e.symm
          · exact hne.out p a b (by omega) ha hb
        case measure => simp [intOf]; omega
    · have hjn : j + 1 = n := by omega
      have hc : compactB (·.2) zs = zs := by
        have := compactB_apart (·.2) (l := zs) (j + 1) (by rw [HL.out]; omega) hne.out
        rwa [List.take_of_length_le (by rw [HL.out]; omega)] at this
      have HC := Lib.hid hc
      clear hc hgb hrow
      go_wp2
      go_ret
      exact ⟨⟨_, rfl, by rw [HC.out]; exact HN.out.below hbel.out⟩, HG.out⟩
end Go.Proofs.YtgoaiohkodbadaaGreat

/-
  THE WALK OF match.tidy: binds rise, each list once.
-/
namespace Go.Proofs.YtgoaiohkodbadaaGreat
open Go.RowKit

theorem compactC_rising {α : Type} [DecidableEq α] {c : α → α → Int} (h3 : Cmp3 c) {l : List α} (hs : l.Pairwise fun a b => ¬ c b a < 0) : ∀ n, RisingC c (compactL (l.take n))
  | 0 => by simp [compactL, RisingC]
  | n + 1 => by
    cases h : l[n]? with
    | none => rw [List.take_add_one, h]; simpa using compactC_rising h3 hs n
    | some y =>
      rw [compactL_take_succ h, snocC]
      have ih := compactC_rising h3 hs n
      split
      · exact ih
      · rename_i hl
        refine List.pairwise_append.2 ⟨ih, by simp, fun a ha b hb => ?_⟩
        obtain rfl := List.mem_singleton.1 hb
        have ha' := (mem_compactL l a n).1 ha
        obtain ⟨p, hp⟩ := List.mem_iff_getElem?.1 ha'
        have hpn : p < n := by
          have := (List.getElem?_eq_some_iff.1 hp).1
          rw [List.length_take] at this; omega
        rw [List.getElem?_take_of_lt hpn] at hp
        obtain ⟨h1, rfl⟩ := List.getElem?_eq_some_iff.1 hp
        obtain ⟨h2, rfl⟩ := List.getElem?_eq_some_iff.1 h
        have h4 := List.pairwise_iff_getElem.1 hs p n h1 h2 hpn
        have hne : l[p] ≠ l[n] := by
          intro e
          apply hl
          obtain ⟨m, rfl⟩ : ∃ m, n = m + 1 := ⟨n - 1, by omega⟩
          have hm : l[m]? = some l[m] := List.getElem?_eq_getElem (by omega)
          rw [compactL_last hm]
          congr 1
          by_cases hpm : p = m
          · subst hpm; exact e
          · have q1 := List.pairwise_iff_getElem.1 hs p m h1 (by omega) (by omega)
            have q2 := List.pairwise_iff_getElem.1 hs m (m + 1) (by omega) h2 (by omega)
            rw [e] at q1
            have := h3.anti l[m] l[m + 1]
            have := h3.anti l[m + 1] l[m]
            exact (h3.zero _ _).1 (by omega)
        simp only [ltC, decide_eq_true_eq]
        have := h3.ne_zero hne
        have := h3.anti l[n] l[p]
        omega
theorem compactC_of {α : Type} [DecidableEq α] {c : α → α → Int} (h3 : Cmp3 c) {l l' : List α} (hp : l'.Perm l) (hs : l'.Pairwise fun a b => ¬ c b a < 0) : compactL l' = ofC c l := by
  have h := compactC_rising h3 hs l'.length
  rw [List.take_length] at h
  refine risingC_ext h3 h (ofC_rising h3 l) fun x => ?_
  have := mem_compactL l' x l'.length
  rw [List.take_length] at this
  rw [this, hp.mem_iff, mem_ofC h3]
theorem sorted_of {α : Type} [DecidableEq α] {c : α → α → Int} (h3 : Cmp3 c) {l l' : List α} (hp : l'.Perm l) (hs : l'.Pairwise fun a b => ¬ c b a < 0) (hn : l.Nodup) : l' = ofC c l :=
  risingC_ext h3 (rising_of_sorted h3 hs (hp.nodup_iff.2 hn)) (ofC_rising h3 l) fun x => by rw [hp.mem_iff, mem_ofC h3]

def srt (z : VB) : VB := (z.1, ofC cmpBind z.2)
theorem srt_get {zs : List VB} {k : Nat} {z : VB} (h : zs[k]? = some z) : ((zs.take k).map srt ++ zs.drop k)[k]? = some z := by
  have hk := (List.getElem?_eq_some_iff.1 h).1
  rw [List.getElem?_append_right (by rw [List.length_map, List.length_take]; omega), List.length_map, List.length_take, Nat.min_eq_left (by omega), Nat.sub_self, drop_cons h]
  rfl
theorem srt_step {zs : List VB} {k : Nat} {z : VB} (h : zs[k]? = some z) : (zs.take (k + 1)).map srt ++ zs.drop (k + 1) = (zs.take k).map srt ++ (z.1, ofC cmpBind z.2) :: zs.drop (k + 1) := by
  rw [List.take_add_one, h, List.map_append, List.append_assoc]; rfl

set_option maxRecDepth 100000 in
set_option maxHeartbeats 8000000 in
theorem tidyCalls {B : Nat} {w : World} {v : Value} {zs : List VB} (hN : Nest B w v zs) (hB : B ≤ w.heap.size) (hnd : ∀ z ∈ zs, z.2.Nodup) (n1 : zs.length ≤ 1073741824) (n2 : ∀ z ∈ zs, z.2.length ≤ 1073741824) :
    Calls Tryz.prog 133 #[v] w fun en w' => (∃ v' ys, en = .returned v' ∧ Nest B w' v' ys ∧ ys.map (·.2) = tidyP (zs.map (·.2))) ∧ Below B w w' := by
  obtain ⟨a, c, rfl, -, -, -⟩ := id (hN.outer.read RPair.steady).form
  have HN := Lib.hid hN
  have ND := Lib.hid hnd
  have N2 := Lib.hid n2
  have HB0 := Lib.hid ((Below.refl B w).alloc hB (.cells #[.func (.func 173) #[] #[]] 234))
  have HO0 := Lib.hid (Blk.new w 234 #[.func (.func 173) #[] #[]])
  have HN0 := Lib.hid (hN.alloc (.cells #[.func (.func 173) #[] #[]] 234))
  clear hN hnd n2
  go_enter Tryz.func133, Tryz.ntmps133
  go_wp2
  go_loopw [8, 5] (fun i _ wr => ∃ k : Nat, k ≤ zs.length ∧ i = .int .i64 k ∧ Hid (Nest B wr (.slice a zs.length c) ((zs.take k).map srt ++ zs.drop k)) ∧ Hid (Below B w wr) ∧ Hid (Blk wr w.heap.size 234 #[.func (.func 173) #[] #[]])) (fun i _ _ => zs.length - (intOf i).toNat)
  case atStart => exact ⟨0, Nat.zero_le _, rfl, Lib.hid (by simpa using HN0.out), HB0, HO0⟩
  case round =>
    clear HB0 HO0 HN0
    obtain ⟨k, hk, rfl, HNK, HB, HO⟩ := hrel
    have ho : wr.cell? ⟨w.heap.size, 0, none⟩ = some (.func (.func 173) #[] #[]) := HO.out.cell 0
    have hlo := HO.out.lt
    by_cases hlt : k < zs.length
    · obtain ⟨z, hx⟩ : ∃ z, zs[k]? = some z := ⟨_, List.getElem?_eq_getElem hlt⟩
      have hm := List.mem_of_getElem? hx
      obtain ⟨g, rfl, hgl, hc⟩ := OV.cellAt HNK.out.outer (srt_get hx)
      have hN2 := HNK.out
      rw [drop_cons hx] at hN2
      have hoz : OB B wr z.1 z.2 := hN2.inner z (by simp)
      have hzb : z.1.ownBlock ≠ some w.heap.size := fun e => by have := (HN.out.inner_lt hm e).2; omega
      have KS := Lib.hid ((sortBind hoz (N2.out z hm)).mono (R' := fun en w' => en = .returned (.tuple #[]) ∧ Nest B w' (.slice (some ⟨g, 0, none⟩) zs.length c) ((zs.take (k + 1)).map srt ++ zs.drop (k + 1)) ∧ Below B w w' ∧ Blk w' w.heap.size 234 #[.func (.func 173) #[] #[]])
        fun en w' ⟨he, l', hp, hs, ho', hg'⟩ => by
          have hl := sorted_of cmpBind3 hp hs (ND.out z hm)
          subst hl
          refine ⟨he, ?_, ?_, ?_⟩
          · rw [srt_step hx]
            exact hN2.turn ho' (hN2.outer.tell (by simp)) hg'
          · exact HB.out.grown hg' (Nat.le_trans hB HB.out.size) (fun q hq => (hoz.row_lt hq).1)
          · exact HO.out.grown hg' (fun e => hzb e.symm))
      obtain ⟨za, zc, hz1, -⟩ := (OB.read hoz).form
      rw [hz1] at hc KS
      clear hx hm hN2 hoz hzb hz1
      go_wp2_with (go_at_call 174; refine (KS.out).mono ?_; rintro e w1 ⟨rfl, hn1, hb1, ho1⟩; have HN1 := Lib.hid hn1; have HB1 := Lib.hid hb1; have HO1 := Lib.hid ho1; clear hn1 hb1 ho1)
      go_roundw
      case rel => exact ⟨k + 1, by omega, by go_num, HN1, HB1, HO1⟩
      case measure => simp [intOf]; omega
    · have hN2 : Nest B wr (.slice a zs.length c) (zs.map srt) := by
        have := HNK.out
        rwa [List.take_of_length_le (by omega), List.drop_eq_nil_of_le (by omega), List.append_nil] at this
      have hsn : ∀ y ∈ zs.map srt, y.2.length ≤ 1073741824 := fun y hy => by
        obtain ⟨z, hz, rfl⟩ := List.mem_map.1 hy
        show (ofC cmpBind z.2).length ≤ _
        rw [length_ofC cmpBind3 _ (ND.out z hz)]
        exact N2.out z hz
      have hoa : some w.heap.size ≠ (Value.slice a zs.length c).ownBlock := fun e => by have := (HN.out.row_lt e.symm).2; omega
      have KS := Lib.hid ((sortNest hN2 HO.out hoa (by rw [List.length_map]; exact n1) hsn).mono (R' := fun en w' => en = .returned (.tuple #[]) ∧ Below B w w' ∧ ∃ zs', Nest B w' (.slice a zs.length c) zs' ∧ compactL (zs'.map (·.2)) = tidyP (zs.map (·.2)) ∧ zs'.length ≤ 1073741824 ∧ ∀ y ∈ zs', y.2.length ≤ 1073741824)
        fun en w' ⟨he, zs', hp, hs, hn', hg'⟩ => by
          refine ⟨he, HB.out.grown hg' (Nat.le_trans hB HB.out.size) (fun q hq => (hN2.row_lt hq).1), zs', hn', ?_, by rw [hp.length_eq, List.length_map]; exact n1, fun y hy => hsn y (hp.mem_iff.1 hy)⟩
          have h1 := hp.map (fun z : VB => z.2)
          rw [List.map_map] at h1
          rw [compactC_of cmpBinds3 h1 (by rw [List.pairwise_map]; exact hs)]
          unfold tidyP
          rw [List.map_map]
          rfl)
      clear hN2 hsn hoa
      go_wp2_with (first
        | (go_at_call 175; refine (KS.out).mono ?_; rintro e w1 ⟨rfl, hb1, zs', hn1, hc1, hl1, hl2⟩; have HB1 := Lib.hid hb1; have KC := Lib.hid (compactNest hn1 hl1 hl2); have HRW := Lib.hid (fun q => (hn1.row_lt (g := q))); have HC1 := Lib.hid hc1; clear hb1 hn1 hc1 hl1 hl2)
        | (go_at_call 178; refine (KC.out).mono ?_; rintro e w2 ⟨⟨v2, rfl, hn2⟩, hg2⟩; have HN2 := Lib.hid hn2; have HB2 := Lib.hid (HB1.out.grown hg2 (Nat.le_trans hB (Below.size HB1.out)) (fun q hq => (HRW.out q hq).1)); clear hn2 hg2))
      go_ret
      exact ⟨⟨v2, _, rfl, HN2.out, by rw [compactB_map]; exact HC1.out⟩, HB2.out⟩
end Go.Proofs.YtgoaiohkodbadaaGreat

/-
  THE WALKS OF check.Body, rule.
-/
namespace Go.Proofs.YtgoaiohkodbadaaGreat
open Go.RowKit

theorem heldOf_length {N : Nat} : ∀ l : List PAtom, (∀ a ∈ l, a.terms.length ≤ N) → (heldOf l).length ≤ l.length * N
  | [], _ => by simp [heldOf]
  | a :: l, h => by
    have h1 := heldOf_length l fun b hb => h b (by simp [hb])
    have h2 := varsF_length a.terms []
    have h3 := h a (by simp)
    have h4 : (heldOf (a :: l)).length = (if a.neg then [] else varsOf a : List Str).length + (heldOf l).length := by simp [heldOf]
    have h5 : (if a.neg then [] else varsOf a : List Str).length ≤ N := by
      split
      · simp
      · show (varsF [] a.terms).length ≤ N
        simp at h2; omega
    rw [h4, List.length_cons, Nat.add_mul]
    omega
theorem allVars_length {N : Nat} : ∀ l : List PAtom, (∀ a ∈ l, a.terms.length ≤ N) → (allVars l).length ≤ l.length * N
  | [], _ => by simp [allVars]
  | a :: l, h => by
    have h1 := allVars_length l fun b hb => h b (by simp [hb])
    have h2 := varsF_length a.terms []
    have h3 := h a (by simp)
    have h4 : (allVars (a :: l)).length = (varsOf a).length + (allVars l).length := by simp [allVars]
    have h5 : (varsOf a).length ≤ N := by
      show (varsF [] a.terms).length ≤ N
      simp at h2; omega
    rw [h4, List.length_cons, Nat.add_mul]
    omega
theorem bodyBad_many {l : List PAtom} (h : 5 < l.length) : bodyBad l = 5 := by unfold bodyBad; rw [if_pos h]
theorem firstBad_at {l : List PAtom} {k : Nat} {x : PAtom} (h : ∀ i a, i < k → l[i]? = some a → atomBad a = 0) (hx : l[k]? = some x) (hb : atomBad x ≠ 0) : firstBad l = atomBad x := by
  rw [firstBad_take l k h, List.drop_eq_getElem_cons (List.getElem?_eq_some_iff.1 hx).1, (List.getElem?_eq_some_iff.1 hx).2, firstBad, if_pos hb]
theorem firstBad_none {l : List PAtom} (h : ∀ i a, i < l.length → l[i]? = some a → atomBad a = 0) : firstBad l = 0 := by
  rw [firstBad_take l l.length h, List.drop_length]; rfl
theorem bodyBad_at {l : List PAtom} (h5 : ¬ 5 < l.length) {k : Nat} {x : PAtom} (h : ∀ i a, i < k → l[i]? = some a → atomBad a = 0) (hx : l[k]? = some x) (hb : atomBad x ≠ 0) : bodyBad l = atomBad x := by
  unfold bodyBad
  rw [if_neg h5, firstBad_at h hx hb, if_pos hb]
theorem bodyBad_free {l : List PAtom} (h5 : ¬ 5 < l.length) (h : ∀ i a, i < l.length → l[i]? = some a → atomBad a = 0) {a : PAtom} (ha : a ∈ l) {v : Str} (hv : v ∈ varsOf a) (hb : memS v (heldOf l) = false) : bodyBad l = 9 := by
  unfold bodyBad
  rw [if_neg h5, firstBad_none h, if_neg (by simp), if_neg]
  intro hf
  have := List.all_eq_true.1 (List.all_eq_true.1 hf a ha) v hv
  rw [hb] at this
  cases this
theorem bodyBad_ok {l : List PAtom} (h5 : ¬ 5 < l.length) (h : ∀ i a, i < l.length → l[i]? = some a → atomBad a = 0) (hf : ∀ a ∈ l, ∀ v ∈ varsOf a, memS v (heldOf l) = true) : bodyBad l = 0 := by
  unfold bodyBad
  rw [if_neg h5, firstBad_none h, if_neg (by simp), if_pos]
  exact List.all_eq_true.2 fun a ha => List.all_eq_true.2 fun v hv => hf a ha v hv

set_option maxRecDepth 100000 in
set_option maxHeartbeats 8000000 in
theorem checkBody {S : Nat → Prop} (v : Value) (l : List PAtom) (w : World) (h : RdAtoms S w v l) (n1 : l.length ≤ 1048576) (n2 : ∀ a ∈ l, a.terms.length ≤ 1048576) (n3 : ∀ a ∈ l, ∀ t ∈ a.terms, t.name.size ≤ 1048576) :
    Calls Tryz.prog 129 #[v] w fun e w' => e = .returned (.int .i64 (bodyBad l)) ∧ Below w.heap.size w w' := by
  obtain ⟨a, c, rfl, -, -, -⟩ := id h.form
  have H := Lib.hid h
  have N2 := Lib.hid n2
  have N3 := Lib.hid n3
  clear h n2 n3
  by_cases h5 : 5 < l.length
  · have i5 : (5 : Int) < (l.length : Int) := by omega
    have HE := Lib.hid (bodyBad_many h5)
    go_enter Tryz.func129, Tryz.ntmps129
    go_wp2
    go_ret
    exact ⟨ret_int HE.out.symm, Below.refl _ _⟩
  have i5 : ¬ (5 : Int) < (l.length : Int) := by omega
  have HL := Lib.hid (fun k => heldOf_length (l.take k) (fun x hx => N2.out x (List.mem_of_mem_take hx)))
  go_enter Tryz.func129, Tryz.ntmps129
  go_wp2
  go_loopw [15, 3] (fun i v wr => ∃ k : Nat, k ≤ l.length ∧ i = .int .i64 k ∧ Hid (Owned 1 RStr w.heap.size 9 (fun _ => False) wr v (heldOf (l.take k))) ∧ Hid (Below w.heap.size w wr) ∧ Hid (∀ i a, i < k → l[i]? = some a → atomBad a = 0)) (fun i _ _ => l.length - (intOf i).toNat)
  case atStart => exact ⟨0, Nat.zero_le _, rfl, Lib.hid Owned.nil, Lib.hid (Below.refl _ _), Lib.hid (fun i a hi _ => by omega)⟩
  case round =>
    obtain ⟨k, hk, rfl, HO, HB, HZ⟩ := hrel
    obtain ⟨va, vc, efm, -, -, -⟩ := (HO.out.read RStr.steady).form
    subst efm
    by_cases hlt : k < l.length
    · obtain ⟨x, hx⟩ : ∃ x, l[k]? = some x := ⟨_, List.getElem?_eq_getElem hlt⟩
      obtain ⟨b1, o1, tv, rfl, -, hb1, d0, d1, d2, htv⟩ := RdAtoms.at (H.out.up HB.out) hx
      obtain ⟨ta, tc, rfl, -, -, -⟩ := id htv.form
      have HX := Lib.hid hx
      have nx := N2.out x (List.mem_of_getElem? hx)
      have HTV := Lib.hid htv
      have KA := Lib.hid (checkAtom b1 (o1 + k * 3) x _ wr d1 d2 htv (by omega) (fun t ht => by have := N3.out x (List.mem_of_getElem? hx) t ht; omega))
      have i1 : (0 : Int) ≤ (k : Int) := by omega
      have i2 : (k : Int) < (l.length : Int) := by omega
      have i3 : IntKind.i64.wrap (k : Int) = k := by rw [IntKind.wrap_i64]; omega
      clear hx htv
      by_cases hz : atomBad x = 0
      · rw [hz] at KA
        have HZ1 := Lib.hid (show ∀ i a, i < k + 1 → l[i]? = some a → atomBad a = 0 from fun i a hi ha => by
          by_cases e : i = k
          · subst e
            rw [HX.out] at ha
            rw [← Option.some.inj ha]; exact hz
          · exact HZ.out i a (by omega) ha)
        clear hz
        have HT := Lib.hid (show heldOf (l.take (k + 1)) = if x.neg then heldOf (l.take k) else heldOf (l.take k) ++ varsOf x by rw [List.take_add_one, HX.out]; exact heldOf_snoc _ _)
        have hll := HL.out k
        have hkk : (l.take k).length * 1048576 ≤ 5 * 1048576 := Nat.mul_le_mul_right _ (by rw [List.length_take]; omega)
        have HV0 := Lib.hid (show (varsOf x).length ≤ 1048576 by have := varsF_length x.terms []; simp at this; show (varsF [] x.terms).length ≤ _; omega)
        have HLL := Lib.hid (show (heldOf (l.take k)).length ≤ 5242880 by omega)
        clear hll hkk
        cases hn : x.neg
        · rw [hn] at HT d0
          rw [if_neg (by simp)] at HT
          have KV := Lib.hid (fun W (hW : Below wr.heap.size wr W) => varsCalls x (.slice ta x.terms.length tc) W (HTV.out.up hW) (by omega))
          rw [hn] at KV
          clear hn
          go_wp2_with (first
            | (go_at_call 169; refine (KA.out).mono ?_; rintro e w1 ⟨rfl, hf1⟩; have HF1 := Lib.hid hf1; have HB1 := Lib.hid (HB.out.trans (hf1.mono HB.out.size)); have HO1 := Lib.hid (HO.out.below RStr.steady hf1); have d0' := (cell_below hf1 hb1 (o1 + k * 3)).trans d0; have d1' := (cell_below hf1 hb1 (o1 + k * 3 + 1)).trans d1; have d2' := (cell_below hf1 hb1 (o1 + k * 3 + 2)).trans d2; clear hf1)
            | (go_at_call 170; refine (KV.out _ HF1.out).mono ?_; rintro e w2 ⟨⟨v2, rfl, ho2⟩, hf2⟩; have HB2 := Lib.hid (HB1.out.trans (hf2.mono HB1.out.size)); have HO2 := Lib.hid (HO1.out.below RStr.steady hf2); have HV2 := Lib.hid (ho2.read RStr.steady); clear ho2 hf2)
            | (at_builtin; refine wpList_append_many (B := w.heap.size) (e := 9) (S := fun _ => False) (by rfl) _ _ 25 (by rfl) RStr.steady RStr.one rowStrs _ (heldOf (l.take k)) (by rfl) HO2.out _ (varsOf x) (by rfl) HV2.out (fun _ _ h => h) (by have := HLL.out; have := HV0.out; omega) (Below.size HB2.out) ?_; intro v3 w3 hown3 hg3 hat3; have HO3 := Lib.hid (show Owned 1 RStr w.heap.size 9 (fun _ => False) w3 v3 (heldOf (l.take (k + 1))) by rw [HT.out]; exact hown3); have HB3 := Lib.hid (Below.grown HB2.out hg3 (Below.size HB2.out) (fun q hq => (HO2.out.row_lt hq).1)); clear hown3 hg3 hat3))
          go_wp2
          go_roundw
          case rel => exact ⟨k + 1, by omega, by go_num, HO3, HB3, HZ1⟩
          case measure => simp [intOf]; omega
        · rw [hn] at HT d0
          rw [if_pos rfl] at HT
          clear hn
          go_wp2_with (go_at_call 169; refine (KA.out).mono ?_; rintro e w1 ⟨rfl, hf1⟩; have HB1 := Lib.hid (HB.out.trans (hf1.mono HB.out.size)); have HO1 := Lib.hid (show Owned 1 RStr w.heap.size 9 (fun _ => False) w1 _ (heldOf (l.take (k + 1))) by rw [HT.out]; exact HO.out.below RStr.steady hf1); have d0' := (cell_below hf1 hb1 (o1 + k * 3)).trans d0; clear hf1)
          go_roundw
          case rel => exact ⟨k + 1, by omega, by go_num, HO1, HB1, HZ1⟩
          case measure => simp [intOf]; omega
      · have HE := Lib.hid (bodyBad_at h5 HZ.out HX.out hz)
        have hne : (atomBad x != 0) = true := by simpa using hz
        clear hz
        generalize atomBad x = q at *
        go_wp2_with (go_at_call 169; refine (KA.out).mono ?_; rintro e w1 ⟨rfl, hf1⟩; have HB1 := Lib.hid (HB.out.trans (hf1.mono HB.out.size)); clear hf1)
        go_ret
        exact ⟨ret_int HE.out.symm, HB1.out⟩
    · have htk : l.take k = l := List.take_of_length_le (by omega)
      have HLQ := Lib.hid (show (heldOf (l.take k)).length ≤ 5242880 by
        have h1 := HL.out k
        have h2 : (l.take k).length * 1048576 ≤ 5 * 1048576 := Nat.mul_le_mul_right _ (by rw [List.length_take]; omega)
        omega)
      generalize (heldOf (l.take k)).length = hl at *
      rw [htk] at HO
      have HZ1 := Lib.hid (show ∀ i a, i < l.length → l[i]? = some a → atomBad a = 0 from fun i a hi ha => HZ.out i a (by omega) ha)
      have hLQ := HLQ.out
      clear htk HZ HL
      have HRD := Lib.hid (HO.out.read RStr.steady)
      go_wp2
      obtain ⟨wo, hwo⟩ : ∃ wo : World, wo = wr := ⟨_, rfl⟩
      subst hwo
      go_loopw [41] (fun i wr => ∃ k : Nat, k ≤ l.length ∧ i = .int .i64 k ∧ Hid (Below wo.heap.size wo wr) ∧ Hid (∀ a ∈ l.take k, ∀ v ∈ varsOf a, memS v (heldOf l) = true)) (fun i _ => l.length - (intOf i).toNat)
      case atStart => exact ⟨0, Nat.zero_le _, rfl, Lib.hid (Below.refl _ _), Lib.hid (by simp)⟩
      case round =>
        obtain ⟨k2, hk2, rfl, HB2, HM⟩ := hrel
        by_cases hlt2 : k2 < l.length
        · obtain ⟨x, hx⟩ : ∃ x, l[k2]? = some x := ⟨_, List.getElem?_eq_getElem hlt2⟩
          obtain ⟨b1, o1, tv, rfl, -, -, d0, d1, d2, htv⟩ := RdAtoms.at (H.out.up (HB.out.trans (HB2.out.mono HB.out.size))) hx
          obtain ⟨ta, tc, rfl, -, -, -⟩ := id htv.form
          have HX := Lib.hid hx
          have nx := N2.out x (List.mem_of_getElem? hx)
          have hsz := HB2.out.size
          have HBX := Lib.hid (HB2.out.alloc hsz (.cells #[.bool x.neg, .string x.name, .slice ta x.terms.length tc] 76))
          have KV := Lib.hid (varsCalls x (.slice ta x.terms.length tc) (wr.alloc (.cells #[.bool x.neg, .string x.name, .slice ta x.terms.length tc] 76)) (htv.agree RTerm.steady ((Agree.refl _ _).alloc _)) (by omega))
          have HV0 := Lib.hid (show (varsOf x).length ≤ 1048576 by have := varsF_length x.terms []; simp at this; show (varsF [] x.terms).length ≤ _; omega)
          have HM1 := Lib.hid (show (∀ v ∈ varsOf x, memS v (heldOf l) = true) → ∀ a ∈ l.take (k2 + 1), ∀ v ∈ varsOf a, memS v (heldOf l) = true from fun hv a ha => by
            rw [List.take_add_one, HX.out] at ha
            rcases List.mem_append.1 ha with ha | ha
            · exact HM.out a ha
            · obtain rfl : a = x := by simpa using ha
              exact hv)
          have HFR := Lib.hid (fun v (hv : v ∈ varsOf x) (hb : memS v (heldOf l) = false) => bodyBad_free h5 HZ1.out (List.mem_of_getElem? HX.out) hv hb)
          clear hx htv
          generalize varsOf x = vs at *
          generalize heldOf l = held at *
          go_wp2_with (go_at_call 170; refine (KV.out).mono ?_; rintro e w3 ⟨⟨v3, rfl, ho3⟩, hf3⟩; obtain ⟨xa, xc, rfl, -, -, -⟩ := id (ho3.read RStr.steady).form; have HV3 := Lib.hid (ho3.read RStr.steady); have HB3 := Lib.hid (HBX.out.trans (hf3.mono (by simp; omega))); clear ho3 hf3)
          have HH3 := Lib.hid (RdStrs.up HRD.out HB3.out)
          have hv0 := HV0.out
          go_loop [48] (fun i => ∃ j : Nat, j ≤ vs.length ∧ i = .int .i64 j ∧ Hid (∀ v ∈ vs.take j, memS v held = true)) (fun i => vs.length - (intOf i).toNat)
          case atStart => exact ⟨0, Nat.zero_le _, rfl, Lib.hid (by simp)⟩
          case round =>
            obtain ⟨j, hj, rfl, HJ⟩ := hrel
            by_cases hlj : j < vs.length
            · obtain ⟨y, hy⟩ : ∃ y, vs[j]? = some y := ⟨_, List.getElem?_eq_getElem hlj⟩
              obtain ⟨b4, o4, rfl, -, -, hc4⟩ := RdStrs.at HV3.out hy
              have HY := Lib.hid hy
              have KC := Lib.hid (containsStr _ held y w3 HH3.out (by have := HH3.out.form; obtain ⟨_, _, e, _⟩ := this; injection e with _ e _; omega))
              clear hy
              have hm : memS y held = true ∨ memS y held = false := by cases memS y held <;> simp
              rcases hm with hm | hm
              · rw [hm] at KC
                have HJ1 := Lib.hid (show ∀ v ∈ vs.take (j + 1), memS v held = true from fun v hv => by
                  rw [List.take_add_one, HY.out] at hv
                  rcases List.mem_append.1 hv with hv | hv
                  · exact HJ.out v hv
                  · obtain rfl : v = y := by simpa using hv
                    exact hm)
                clear hm
                go_wp2_with (go_at_call 171; refine (KC.out).mono ?_; rintro e w' ⟨rfl, rfl⟩)
                go_round
                case rel => exact ⟨j + 1, by omega, by go_num, HJ1⟩
                case measure => simp [intOf]; omega
              · rw [hm] at KC
                have HE := Lib.hid (HFR.out y (List.mem_of_getElem? HY.out) hm)
                clear hm
                go_wp2_with (go_at_call 171; refine (KC.out).mono ?_; rintro e w' ⟨rfl, rfl⟩)
                go_ret
                exact ⟨ret_int HE.out.symm, HB.out.trans (HB3.out.mono HB.out.size)⟩
            · have HM2 := Lib.hid (HM1.out (by have := HJ.out; rwa [List.take_of_length_le (by omega)] at this))
              go_wp2
              go_roundw
              case rel => exact ⟨k2 + 1, by omega, by go_num, HB3, HM2⟩
              case measure => simp [intOf]; omega
        · have HE := Lib.hid (bodyBad_ok h5 HZ1.out (by have := HM.out; rwa [List.take_of_length_le (by omega)] at this))
          go_wp2
          go_ret
          exact ⟨ret_int HE.out.symm, HB.out.trans (HB2.out.mono HB.out.size)⟩

/-! ### rule -/
/-- A rule lies in block b from place o on. -/
structure RuleAt (S : Nat → Prop) (w : World) (b o : Nat) (x : PRule) (tv bv : Value) : Prop where
  lt : b < w.heap.size
  c0 : w.cell? ⟨b, o, none⟩ = some (.bool x.head.neg)
  c1 : w.cell? ⟨b, o + 1, none⟩ = some (.string x.head.name)
  c2 : w.cell? ⟨b, o + 2, none⟩ = some tv
  c3 : w.cell? ⟨b, o + 3, none⟩ = some bv
  t : RdTerms S w tv x.head.terms
  b : RdAtoms S w bv x.body
theorem RuleAt.up {S : Nat → Prop} {w w' : World} {b o : Nat} {x : PRule} {tv bv : Value} (h : RuleAt S w b o x tv bv) (hb : Below w.heap.size w w') : RuleAt (fun _ => True) w' b o x tv bv :=
  ⟨Nat.lt_of_lt_of_le h.lt hb.size, (cell_below hb h.lt _).trans h.c0, (cell_below hb h.lt _).trans h.c1, (cell_below hb h.lt _).trans h.c2, (cell_below hb h.lt _).trans h.c3, h.t.up hb, h.b.up hb⟩
structure RuleSmall (x : PRule) : Prop where
  h1 : x.head.terms.length ≤ 1048576
  h2 : ∀ t ∈ x.head.terms, t.name.size ≤ 1048576
  b0 : x.body.length ≤ 1048576
  b1 : ∀ a ∈ x.body, a.terms.length ≤ 1048576
  b2 : ∀ a ∈ x.body, ∀ t ∈ a.terms, t.name.size ≤ 1048576

set_option maxRecDepth 100000 in
set_option maxHeartbeats 8000000 in
theorem checkRule {S : Nat → Prop} (b o : Nat) (x : PRule) (tv bv : Value) (w : World) (h : RuleAt S w b o x tv bv) (hs : RuleSmall x) :
    Calls Tryz.prog 144 #[.pointer (some ⟨b, o, none⟩)] w fun e w' => e = .returned (.int .i64 (ruleBad x)) ∧ Below w.heap.size w w' := by
  have HR0 := Lib.hid (h.up (Below.refl _ _))
  obtain ⟨ta, tc, rfl, -, -, -⟩ := id h.t.form
  obtain ⟨ba, bc, rfl, -, -, -⟩ := id h.b.form
  have HS := Lib.hid hs
  have hh1 := hs.h1
  have hb0 := hs.b0
  have KA := Lib.hid (checkAtom b o x.head _ w h.c1 h.c2 h.t (by have := hs.h1; omega) (fun t ht => by have := hs.h2 t ht; omega))
  have KB := Lib.hid (fun W (hW : Below w.heap.size w W) => checkBody (.slice ba x.body.length bc) x.body W (h.b.up hW) hs.b0 hs.b1 hs.b2)
  clear h hs
  have hE0 : ruleBad x = if atomBad x.head ≠ 0 then atomBad x.head else if x.head.neg then 2 else if bodyBad x.body ≠ 0 then bodyBad x.body else if (varsOf x.head).all (fun v => memS v (allVars x.body)) then 0 else 9 := rfl
  by_cases hz : atomBad x.head = 0
  rotate_left
  · have HE := Lib.hid (show ruleBad x = atomBad x.head by rw [hE0, if_pos hz])
    have hne : (atomBad x.head != 0) = true := by simpa using hz
    clear hE0 hz
    generalize atomBad x.head = q at *
    go_enter Tryz.func144, Tryz.ntmps144
    go_wp2_with (go_at_call 169; refine (KA.out).mono ?_; rintro e w1 ⟨rfl, hf1⟩; have HB1 := Lib.hid hf1; clear hf1)
    go_ret
    exact ⟨ret_int HE.out.symm, HB1.out⟩
  rw [if_neg (by simpa using hz)] at hE0
  rw [hz] at KA
  clear hz
  cases hn : x.head.neg
  rotate_left
  · have HE := Lib.hid (show ruleBad x = 2 by rw [hE0, hn]; rfl)
    have HN := Lib.hid hn
    clear hE0 hn
    go_enter Tryz.func144, Tryz.ntmps144
    go_wp2_with (go_at_call 169; refine (KA.out).mono ?_; rintro e w1 ⟨rfl, hf1⟩; have HB1 := Lib.hid hf1; have c0 := (HR0.out.up hf1).c0; rw [HN.out] at c0; clear hf1)
    go_ret
    exact ⟨ret_int HE.out.symm, HB1.out⟩
  rw [hn, if_neg (by simp)] at hE0
  have HN := Lib.hid hn
  clear hn
  by_cases hz : bodyBad x.body = 0
  rotate_left
  · have HE := Lib.hid (show ruleBad x = bodyBad x.body by rw [hE0, if_pos hz])
    have hne : (bodyBad x.body != 0) = true := by simpa using hz
    clear hE0 hz
    generalize bodyBad x.body = q at *
    go_enter Tryz.func144, Tryz.ntmps144
    go_wp2_with (first
      | (go_at_call 169; refine (KA.out).mono ?_; rintro e w1 ⟨rfl, hf1⟩; have HB1 := Lib.hid hf1; have c0 := (HR0.out.up hf1).c0; have c3 := (HR0.out.up hf1).c3; rw [HN.out] at c0; clear hf1)
      | (go_at_call 129; refine (KB.out _ HB1.out).mono ?_; rintro e w2 ⟨rfl, hf2⟩; have HB2 := Lib.hid (HB1.out.trans (hf2.mono HB1.out.size)); clear hf2))
    go_ret
    exact ⟨ret_int HE.out.symm, HB2.out⟩
  rw [if_neg (by simpa using hz)] at hE0
  have hlen : x.body.length ≤ 5 := by
    unfold bodyBad at hz
    split at hz
    · exact absurd hz (by decide)
    · omega
  rw [hz] at KB
  have HE0 := Lib.hid hE0
  clear hz hE0
  have HL := Lib.hid (fun k => allVars_length (x.body.take k) (fun y hy => HS.out.b1 y (List.mem_of_mem_take hy)))
  go_enter Tryz.func144, Tryz.ntmps144
  go_wp2_with (first
    | (go_at_call 169; refine (KA.out).mono ?_; rintro e w1 ⟨rfl, hf1⟩; have HB1 := Lib.hid hf1; have c0 := (HR0.out.up hf1).c0; have c3 := (HR0.out.up hf1).c3; rw [HN.out] at c0; clear hf1)
    | (go_at_call 129; refine (KB.out _ HB1.out).mono ?_; rintro e w2 ⟨rfl, hf2⟩; have HB2 := Lib.hid (HB1.out.trans (hf2.mono HB1.out.size)); have d3 := (HR0.out.up HB2.out).c3; clear hf2))
  clear c0 c3 HB1
  go_loopw [35, 5] (fun i v wr => ∃ k : Nat, k ≤ x.body.length ∧ i = .int .i64 k ∧ Hid (Owned 1 RStr w.heap.size 9 (fun _ => False) wr v (allVars (x.body.take k))) ∧ Hid (Below w.heap.size w wr)) (fun i _ _ => x.body.length - (intOf i).toNat)
  case atStart => exact ⟨0, Nat.zero_le _, rfl, Lib.hid Owned.nil, HB2⟩
  case round =>
    clear d3 HB2
    obtain ⟨k, hk, rfl, HO, HB⟩ := hrel
    obtain ⟨va, vc, efm, -, -, -⟩ := (HO.out.read RStr.steady).form
    subst efm
    by_cases hlt : k < x.body.length
    · obtain ⟨y, hy⟩ : ∃ y, x.body[k]? = some y := ⟨_, List.getElem?_eq_getElem hlt⟩
      obtain ⟨b1, o1, uv, rfl, -, hb1, d0, d1, d2, huv⟩ := RdAtoms.at ((HR0.out.up HB.out).b) hy
      obtain ⟨ua, uc, rfl, -, -, -⟩ := id huv.form
      have ny := HS.out.b1 y (List.mem_of_getElem? hy)
      have hsz := HB.out.size
      have HBX := Lib.hid (HB.out.alloc hsz (.cells #[.bool y.neg, .string y.name, .slice ua y.terms.length uc] 76))
      have HOX := Lib.hid (HO.out.alloc RStr.steady (.cells #[.bool y.neg, .string y.name, .slice ua y.terms.length uc] 76))
      have KV := Lib.hid (varsCalls y (.slice ua y.terms.length uc) (wr.alloc (.cells #[.bool y.neg, .string y.name, .slice ua y.terms.length uc] 76)) (huv.agree RTerm.steady ((Agree.refl _ _).alloc _)) (by omega))
      have HT := Lib.hid (show allVars (x.body.take (k + 1)) = allVars (x.body.take k) ++ varsOf y by rw [List.take_add_one, hy]; exact allVars_snoc _ _)
      have hll := HL.out k
      have hkk : (x.body.take k).length * 1048576 ≤ 5 * 1048576 := Nat.mul_le_mul_right _ (by rw [List.length_take]; omega)
      have HV0 := Lib.hid (show (varsOf y).length ≤ 1048576 by have := varsF_length y.terms []; simp at this; show (varsF [] y.terms).length ≤ _; omega)
      have HLL := Lib.hid (show (allVars (x.body.take k)).length ≤ 5242880 by omega)
      clear hll hkk hy huv
      go_wp2_with (first
        | (go_at_call 170; refine (KV.out).mono ?_; rintro e w3 ⟨⟨v3, rfl, ho3⟩, hf3⟩; have HB3 := Lib.hid (HBX.out.trans (hf3.mono (by simp; omega))); have HO3 := Lib.hid (HOX.out.below RStr.steady hf3); have HV3 := Lib.hid (ho3.read RStr.steady); clear ho3 hf3)
        | (at_builtin; refine wpList_append_many (B := w.heap.size) (e := 9) (S := fun _ => False) (by rfl) _ _ 25 (by rfl) RStr.steady RStr.one rowStrs _ (allVars (x.body.take k)) (by rfl) HO3.out _ (varsOf y) (by rfl) HV3.out (fun _ _ h => h) (by have := HLL.out; have := HV0.out; omega) (Below.size HB3.out) ?_; intro v4 w4 hown4 hg4 hat4; have HO4 := Lib.hid (show Owned 1 RStr w.heap.size 9 (fun _ => False) w4 v4 (allVars (x.body.take (k + 1))) by rw [HT.out]; exact hown4); have HB4 := Lib.hid (Below.grown HB3.out hg4 (Below.size HB3.out) (fun q hq => (HO3.out.row_lt hq).1)); clear hown4 hg4 hat4))
      go_wp2
      go_roundw
      case rel => exact ⟨k + 1, by omega, by go_num, HO4, HB4⟩
      case measure => simp [intOf]; omega
    · have htk : x.body.take k = x.body := List.take_of_length_le (by omega)
      have HLQ := Lib.hid (show (allVars (x.body.take k)).length ≤ 5242880 by
        have h1 := HL.out k
        have h2 : (x.body.take k).length * 1048576 ≤ 5 * 1048576 := Nat.mul_le_mul_right _ (by rw [List.length_take]; omega)
        omega)
      generalize (allVars (x.body.take k)).length = hl at *
      rw [htk] at HO
      have hLQ := HLQ.out
      clear htk HL
      have HRD := Lib.hid (HO.out.read RStr.steady)
      have c0 := (HR0.out.up HB.out).c0
      have c1 := (HR0.out.up HB.out).c1
      have c2 := (HR0.out.up HB.out).c2
      have KV := Lib.hid (varsCalls x.head (.slice ta x.head.terms.length tc) wr ((HR0.out.up HB.out).t) (by omega))
      have HV0 := Lib.hid (show (varsOf x.head).length ≤ 1048576 by have := varsF_length x.head.terms []; simp at this; show (varsF [] x.head.terms).length ≤ _; omega)
      rw [HN.out] at KV c0
      have HFR := Lib.hid (fun v (hv : v ∈ varsOf x.head) (hb : memS v (allVars x.body) = false) => (show ruleBad x = 9 by
        rw [HE0.out, if_neg]
        intro hf
        have := List.all_eq_true.1 hf v hv
        rw [hb] at this; cases this))
      have HOK := Lib.hid (fun (hv : ∀ v ∈ varsOf x.head, memS v (allVars x.body) = true) => (show ruleBad x = 0 by
        rw [HE0.out, if_pos (List.all_eq_true.2 hv)]))
      generalize varsOf x.head = vs at *
      generalize allVars x.body = held at *
      go_wp2_with (go_at_call 170; refine (KV.out).mono ?_; rintro e w3 ⟨⟨v3, rfl, ho3⟩, hf3⟩; obtain ⟨xa, xc, rfl, -, -, -⟩ := id (ho3.read RStr.steady).form; have HV3 := Lib.hid (ho3.read RStr.steady); have HB3 := Lib.hid (HB.out.trans (hf3.mono HB.out.size)); have HH3 := Lib.hid (RdStrs.up HRD.out hf3); clear ho3 hf3)
      have hv0 := HV0.out
      go_loop [50] (fun i => ∃ j : Nat, j ≤ vs.length ∧ i = .int .i64 j ∧ Hid (∀ v ∈ vs.take j, memS v held = true)) (fun i => vs.length - (intOf i).toNat)
      case atStart => exact ⟨0, Nat.zero_le _, rfl, Lib.hid (by simp)⟩
      case round =>
        obtain ⟨j, hj, rfl, HJ⟩ := hrel
        by_cases hlj : j < vs.length
        · obtain ⟨y, hy⟩ : ∃ y, vs[j]? = some y := ⟨_, List.getElem?_eq_getElem hlj⟩
          obtain ⟨b4, o4, rfl, -, -, hc4⟩ := RdStrs.at HV3.out hy
          have HY := Lib.hid hy
          have KC := Lib.hid (containsStr _ held y w3 HH3.out (by have := HH3.out.form; obtain ⟨_, _, e, _⟩ := this; injection e with _ e _; omega))
          clear hy
          have hm : memS y held = true ∨ memS y held = false := by cases memS y held <;> simp
          rcases hm with hm | hm
          · rw [hm] at KC
            have HJ1 := Lib.hid (show ∀ v ∈ vs.take (j + 1), memS v held = true from fun v hv => by
              rw [List.take_add_one, HY.out] at hv
              rcases List.mem_append.1 hv with hv | hv
              · exact HJ.out v hv
              · obtain rfl : v = y := by simpa using hv
                exact hm)
            clear hm
            go_wp2_with (go_at_call 171; refine (KC.out).mono ?_; rintro e w' ⟨rfl, rfl⟩)
            go_round
            case rel => exact ⟨j + 1, by omega, by go_num, HJ1⟩
            case measure => simp [intOf]; omega
          · rw [hm] at KC
            have HE := Lib.hid (HFR.out y (List.mem_of_getElem? HY.out) hm)
            clear hm
            go_wp2_with (go_at_call 171; refine (KC.out).mono ?_; rintro e w' ⟨rfl, rfl⟩)
            go_ret
            exact ⟨ret_int HE.out.symm, HB3.out⟩
        · have HE := Lib.hid (HOK.out (by have := HJ.out; rwa [List.take_of_length_le (by omega)] at this))
          go_wp2
          go_ret
          exact ⟨ret_int HE.out.symm, HB3.out⟩
end Go.Proofs.YtgoaiohkodbadaaGreat
