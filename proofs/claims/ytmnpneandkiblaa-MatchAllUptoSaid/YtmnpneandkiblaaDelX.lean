/-
  THE WALKS OF slices.IndexFunc AND slices.DeleteFunc AT LISTS OF BINDS.
-/
import Derived.Test.YtmnpneandkiblaaDelW
import Derived.Test.YtmnpneandkiblaaCompactG
namespace Go.Proofs.Ytmnpneandkiblaa
open Go.RowKit

theorem singles (zs : List VB) : (zs.map fun z => [z.1]).flatten = zs.map (·.1) := by
  induction zs with
  | nil => rfl
  | cons z zs ih => simp only [List.map_cons, List.flatten_cons, ih]; rfl
theorem OV.row {B : Nat} {w : World} {v : Value} {zs : List VB} (h : OV B w v zs) : w.ownsRow B 24 1 v zs.length (zs.map (·.1)) ∧ ∀ z ∈ zs, z.1.oneCell' = true := by
  obtain ⟨css, h1, h2, h3, h4⟩ := h
  have hcss : css = zs.map fun z => [z.1] := by
    refine List.ext_getElem? fun i => ?_
    rw [List.getElem?_map]
    cases hz : zs[i]? with
    | none => exact List.getElem?_eq_none (by rw [h1]; exact List.getElem?_eq_none_iff.1 hz)
    | some z =>
      have hi := (List.getElem?_eq_some_iff.1 hz).1
      have hc : css[i]? = some css[i] := List.getElem?_eq_getElem (by omega)
      obtain ⟨he, -⟩ := h4 i _ z hc hz
      rw [hc, he]; rfl
  refine ⟨by rw [hcss, singles] at h3; exact h3, fun z hz => ?_⟩
  obtain ⟨i, hi⟩ := List.mem_iff_getElem?.1 hz
  have hlt := (List.getElem?_eq_some_iff.1 hi).1
  exact (h4 i _ z (List.getElem?_eq_getElem (by omega)) hi).2
theorem OV.of_row {B : Nat} {w : World} {v : Value} {zs : List VB} (h : w.ownsRow B 24 1 v zs.length (zs.map (·.1))) (h1 : ∀ z ∈ zs, z.1.oneCell' = true) : OV B w v zs := by
  refine ⟨zs.map fun z => [z.1], by simp, ?_, by rw [singles]; exact h, ?_⟩
  · intro cs hcs
    obtain ⟨z, -, rfl⟩ := List.mem_map.1 hcs
    rfl
  · intro i cs x hc hx
    rw [List.getElem?_map, hx] at hc
    obtain rfl := Option.some.inj hc
    exact ⟨rfl, h1 x (List.mem_of_getElem? hx)⟩

/-- The first that q holds of; -1: none. -/
def hitFrom {α : Type} (q : α → Bool) : Nat → List α → Int
  | _, [] => -1
  | k, y :: l => if q y then k else hitFrom q (k + 1) l
theorem hitFrom_cases {α : Type} (q : α → Bool) : ∀ (l : List α) (k : Nat), (hitFrom q k l = -1 ∧ ∀ z ∈ l, q z = false) ∨ ∃ (i : Nat) (x : α), l[i]? = some x ∧ hitFrom q k l = (k : Int) + i ∧ q x = true ∧ ∀ z ∈ l.take i, q z = false
  | [], k => .inl ⟨rfl, by simp⟩
  | y :: l, k => by
    unfold hitFrom
    by_cases h : q y = true
    · rw [if_pos h]; exact .inr ⟨0, y, rfl, by simp, h, by simp⟩
    · rw [if_neg h]
      rcases hitFrom_cases q l (k + 1) with ⟨h1, h2⟩ | ⟨i, x, h1, h2, h3, h4⟩
      · refine .inl ⟨h1, fun z hz => ?_⟩
        rcases List.mem_cons.1 hz with rfl | hz
        · simpa using h
        · exact h2 z hz
      · refine .inr ⟨i + 1, x, by simpa using h1, by rw [h2]; omega, h3, fun z hz => ?_⟩
        rw [List.take_succ_cons] at hz
        rcases List.mem_cons.1 hz with rfl | hz
        · simpa using h
        · exact h4 z hz

/-- What the closure tells of a list, in every world that a walk comes to. -/
def Asks (G : World → Prop) (A L : Nat) (q : VB → Bool) (zs : List VB) : Prop :=
  ∀ W, G W → ∀ z ∈ zs, Calls Try.prog 25 #[z.1, .pointer (some ⟨A, 0, none⟩), .pointer (some ⟨L, 0, none⟩)] W fun e w' => e = .returned (.bool (q z)) ∧ Below W.heap.size W w'

theorem OV.cellAt {B : Nat} {w : World} {a : Option Addr} {n c : Nat} {zs : List VB} (h : OV B w (.slice a n c) zs) {i : Nat} {z : VB} (hz : zs[i]? = some z) : ∃ g, a = some ⟨g, 0, none⟩ ∧ g < w.heap.size ∧ w.cell? ⟨g, i, none⟩ = some z.1 := by
  have hi := (List.getElem?_eq_some_iff.1 hz).1
  obtain ⟨h1, -⟩ := h.row
  have h2 := h1
  rcases h2.2 with ⟨-, h0⟩ | ⟨g, cap, cur, hv, -, hg, -⟩
  · omega
  · injection hv with e1 e2 e3
    subst e1
    refine ⟨g, rfl, (Array.getElem?_eq_some_iff.1 hg).1, ?_⟩
    rw [e2] at h1
    rw [h1.cellAt i (by omega), List.getElem?_map, hz]
    rfl
theorem OV.len {B : Nat} {w : World} {a : Option Addr} {n c : Nat} {zs : List VB} (h : OV B w (.slice a n c) zs) : n = zs.length := by
  obtain ⟨a', c', hv, -⟩ := (h.read RPair.steady).form
  injection hv

set_option maxRecDepth 100000 in
set_option maxHeartbeats 4000000 in
theorem indexFuncBinds {G : World → Prop} {B A L : Nat} {q : VB → Bool} (v : Value) (zs : List VB) (w : World) (h : OV B w v zs) (hG : G w) (hB : ∀ W W', G W → Below W.heap.size W W' → G W') (K : Asks G A L q zs) (n1 : zs.length ≤ 1099511627776) :
    Calls Try.prog 40 #[v, .func (.func 25) #[] #[.pointer (some ⟨A, 0, none⟩), .pointer (some ⟨L, 0, none⟩)]] w fun e w' => e = .returned (.int .i64 (hitFrom q 0 zs)) ∧ Below w.heap.size w w' := by
  obtain ⟨a, c, rfl, -, -, -⟩ := id (h.read RPair.steady).form
  have H := Lib.hid h
  have HK := Lib.hid K
  have HGB := Lib.hid hB
  have HG := Lib.hid hG
  clear h K hB hG
  go_enter Try.func40, Try.ntmps40
  go_wp2
  go_loopw [8, 5] (fun i _ wr => ∃ k : Nat, k ≤ zs.length ∧ i = .int .i64 k ∧ Hid (hitFrom q 0 zs = hitFrom q k (zs.drop k)) ∧ Hid (Below w.heap.size w wr) ∧ Hid (G wr)) (fun i _ _ => zs.length - (intOf i).toNat)
  case atStart => exact ⟨0, Nat.zero_le _, rfl, Lib.hid rfl, Lib.hid (Below.refl _ _), HG⟩
  case round =>
    obtain ⟨k, hk, rfl, HR, HB, HGW⟩ := hrel
    by_cases hlt : k < zs.length
    · obtain ⟨z, hx⟩ : ∃ z, zs[k]? = some z := ⟨_, List.getElem?_eq_getElem hlt⟩
      obtain ⟨g, rfl, hgl, hc⟩ := OV.cellAt (H.out.below RPair.steady HB.out) hx
      have HD := Lib.hid (show hitFrom q 0 zs = if q z then (k : Int) else hitFrom q (k + 1) (zs.drop (k + 1)) by rw [HR.out, drop_cons hx]; rfl)
      have KZ := Lib.hid (HK.out wr HGW.out z (List.mem_of_getElem? hx))
      clear hx HR
      cases hq : q z
      · rw [hq, if_neg (by simp)] at HD
        rw [hq] at KZ
        clear hq
        go_wp2_with (go_at_call 25; refine (KZ.out).mono ?_; rintro e w1 ⟨rfl, hb1⟩; have HB1 := Lib.hid (HB.out.trans (hb1.mono (Below.size HB.out))); have HG1 := Lib.hid (HGB.out _ _ HGW.out hb1); clear hb1)
        go_roundw
        case rel => exact ⟨k + 1, by omega, by go_num, HD, HB1, HG1⟩
        case measure => simp [intOf]; omega
      · rw [hq, if_pos rfl] at HD
        rw [hq] at KZ
        clear hq
        go_wp2_with (go_at_call 25; refine (KZ.out).mono ?_; rintro e w1 ⟨rfl, hb1⟩; have HB1 := Lib.hid (HB.out.trans (hb1.mono (Below.size HB.out))); clear hb1)
        go_ret
        exact ⟨ret_int HD.out.symm, HB1.out⟩
    · have HE := Lib.hid (show hitFrom q 0 zs = -1 by rw [HR.out, drop_end (by omega)]; rfl)
      go_wp2
      go_ret
      exact ⟨ret_int HE.out.symm, HB.out⟩
/-! ### DeleteFunc -/
structure Half (w : World) (B g n cap : Nat) (q : VB → Bool) (zs : List VB) (i j : Nat) (xs : List Value) : Prop where
  own : w.ownsRow B 24 1 (.slice (some ⟨g, 0, none⟩) n cap) n xs
  hd : xs.take i = ((zs.take j).filter fun z => !q z).map (·.1)
  tl : xs.drop j = (zs.drop j).map (·.1)
  lt : i < j
  le : j ≤ n
section
variable {w w' : World} {B g n cap : Nat} {q : VB → Bool} {zs : List VB} {i j : Nat} {xs : List Value}
theorem Half.glt (h : Half w B g n cap q zs i j xs) : B ≤ g ∧ g < w.heap.size := h.own.lt g rfl
theorem Half.len (h : Half w B g n cap q zs i j xs) : xs.length = n := by have := h.own.1; omega
theorem Half.kept (h : Half w B g n cap q zs i j xs) (hb : Below w.heap.size w w') : Half w' B g n cap q zs i j xs :=
  ⟨h.own.kept (row := none) ⟨hb.os, hb.tape, hb.output, hb.size, fun k hk _ => hb.block k hk⟩ (.inr (by simp [Value.ownBlock])), h.hd, h.tl, h.lt, h.le⟩
theorem Half.cell (h : Half w B g n cap q zs i j xs) {z : VB} (hz : zs[j]? = some z) (hj : j < n) : w.cell? ⟨g, j, none⟩ = some z.1 := by
  rw [h.own.cellAt j (by omega)]
  have h1 : (xs.drop j)[0]? = ((zs.drop j).map (·.1))[0]? := by rw [h.tl]
  rw [List.getElem?_drop, List.getElem?_map, List.getElem?_drop, Nat.add_zero, hz] at h1
  exact h1
theorem Half.skip (h : Half w B g n cap q zs i j xs) {z : VB} (hz : zs[j]? = some z) (hj : j < n) (hq : q z = true) : Half w B g n cap q zs i (j + 1) xs :=
  ⟨h.own, by rw [h.hd, List.take_add_one, hz]; simp [hq], by have := congrArg (List.drop 1) h.tl; rwa [List.drop_drop, ← List.map_drop, List.drop_drop] at this, by have := h.lt; omega, hj⟩
theorem Half.put (h : Half w B g n cap q zs i j xs) {z : VB} (hz : zs[j]? = some z) (hj : j < n) (hq : q z = false) : Half (w.setCell ⟨g, i, none⟩ z.1) B g n cap q zs (i + 1) (j + 1) (xs.set i z.1) :=
  ⟨(h.own.stored i z.1).1, by
    have hi : i < xs.length := by have := h.lt; have := h.len; omega
    rw [List.take_add_one, List.take_set_of_le (Nat.le_refl _), h.hd, List.getElem?_set_self hi, List.take_add_one, hz]
    simp [hq], by
    have h1 := congrArg (List.drop 1) h.tl
    rw [List.drop_drop, ← List.map_drop, List.drop_drop] at h1
    rw [List.drop_set_of_lt (by have := h.lt; omega)]
    exact h1, by have := h.lt; omega, hj⟩
theorem Half.spot (h : Half w B g n cap q zs i j xs) : ∃ d, w.cell? ⟨g, i, none⟩ = some d ∧ w.frozen? ⟨g, i, none⟩ = false := by
  have hi : i < xs.length := by have := h.lt; have := h.len; have := h.le; omega
  refine ⟨_, by rw [h.own.cellAt i (by have := h.len; omega)]; exact List.getElem?_eq_getElem hi, h.own.frozenAt _⟩
end
theorem filter_none {α : Type} {q : α → Bool} {zs : List α} (h : ∀ z ∈ zs, q z = false) : zs.filter (fun z => !q z) = zs := List.filter_eq_self.2 fun z hz => by rw [h z hz]; rfl

set_option maxRecDepth 100000 in
set_option maxHeartbeats 8000000 in
theorem deleteBinds {B A L : Nat} {q : VB → Bool} (v : Value) (zs : List VB) (w : World) (h : OV B w v zs) (K : Asks (fun W => w.grownBy W v.ownBlock) A L q zs) (hs : ∀ z ∈ zs, ∃ a n c, z.1 = .slice a n c) (n1 : zs.length ≤ 1073741824) :
    Calls Try.prog 24 #[v, .func (.func 25) #[] #[.pointer (some ⟨A, 0, none⟩), .pointer (some ⟨L, 0, none⟩)]] w fun e w' =>
      (∃ v', e = .returned v' ∧ OV B w' v' (zs.filter fun z => !q z) ∧ v'.ownBlock = v.ownBlock) ∧ w.grownBy w' v.ownBlock := by
  have KI := Lib.hid (indexFuncBinds v zs w h (World.grownBy.refl w _) (fun W W' hW hb => hW.trans ⟨hb.os, hb.tape, hb.output, hb.size, fun k hk _ => hb.block k hk⟩) K (by omega))
  rcases hitFrom_cases q zs 0 with ⟨e1, e2⟩ | ⟨i0, x, hx, e1, e2, e3⟩
  · rw [e1] at KI
    obtain ⟨a, c, rfl, -, -, -⟩ := id (h.read RPair.steady).form
    have H := Lib.hid h
    have HFE := Lib.hid (filter_none e2)
    clear h K e1 e2 hs
    go_enter Try.func24, Try.ntmps24
    go_wp2_with (go_at_call 40; refine (KI.out).mono ?_; rintro e w1 ⟨rfl, hb1⟩; have HB1 := Lib.hid hb1; clear hb1)
    go_ret
    exact ⟨⟨_, rfl, by rw [HFE.out]; exact H.out.below RPair.steady HB1.out, rfl⟩, HB1.out.os, HB1.out.tape, HB1.out.output, HB1.out.size, fun k hk _ => HB1.out.block k hk⟩
  · rw [e1, Int.natCast_zero, Int.zero_add] at KI
    have hin := (List.getElem?_eq_some_iff.1 hx).1
    obtain ⟨ho, h1⟩ := h.row
    rcases id ho.2 with ⟨-, h0⟩ | ⟨g, cap, cur, rfl, hBg, hg, hnc, hcm, -⟩
    · omega
    obtain ⟨n, hn⟩ : ∃ n, zs.length = n := ⟨_, rfl⟩
    rw [hn] at ho hin n1 hnc KI K ⊢
    have HH := Lib.hid (show Half w B g n cap q zs i0 (i0 + 1) (zs.map (·.1)) from ⟨ho, by
      rw [List.take_add_one, hx, ← List.map_take, List.filter_append, filter_none e3]; simp [e2], by rw [← List.map_drop], by omega, by omega⟩)
    have HK := Lib.hid K
    have HS := Lib.hid hs
    have H1 := Lib.hid h1
    have HN := Lib.hid hn
    clear ho h1 K e1 e2 e3 hs h hn hx hg
    have g12 : ((i0 : Int) == -1) = false := beq_eq_false_iff_ne.2 (by omega)
    go_enter Try.func24, Try.ntmps24
    go_wp2_with (go_at_call 40; refine (KI.out).mono ?_; rintro e w1 ⟨rfl, hb1⟩; have HB1 := Lib.hid hb1; have HH1 := Lib.hid (HH.out.kept hb1); clear hb1)
    clear HH KI
    have HG1 := Lib.hid (show w.grownBy w1 (some g) from ⟨HB1.out.os, HB1.out.tape, HB1.out.output, HB1.out.size, fun k hk _ => HB1.out.block k hk⟩)
    clear HB1
    go_loopw [6, 5, 7] (fun jv iv _ wr => ∃ (i j : Nat) (xs : List Value), jv = .int .i64 j ∧ iv = .int .i64 i ∧ j ≤ n ∧ i < j ∧ Hid (Half wr B g n cap q zs i j xs) ∧ Hid (w.grownBy wr (some g))) (fun jv _ _ _ => n - (intOf jv).toNat)
    case atStart => exact ⟨i0, i0 + 1, _, by simp, rfl, by omega, by omega, HH1, HG1⟩
    case round =>
      clear HH1 HG1
      obtain ⟨i, j, xs, rfl, rfl, hjn, hij, HH, HG⟩ := hrel
      by_cases hlt : j < n
      · obtain ⟨z, hx⟩ : ∃ z, zs[j]? = some z := ⟨_, List.getElem?_eq_getElem (by rw [HN.out]; exact hlt)⟩
        have hm := List.mem_of_getElem? hx
        have hc := HH.out.cell hx hlt
        obtain ⟨za, zn, zc, hz1⟩ := HS.out z hm
        have KZ := Lib.hid (HK.out wr HG.out z hm)
        have hgl := HH.out.glt.2
        have i1 : (0 : Int) ≤ (j : Int) := by omega
        have i2 : (j : Int) < (n : Int) := by omega
        have i3 : (0 : Int) ≤ (i : Int) := by omega
        have i4 : (i : Int) < (n : Int) := by omega
        have i5 : IntKind.i64.wrap (j : Int) = j := by rw [IntKind.wrap_i64]; omega
        rw [hz1] at hc KZ
        cases hq : q z
        · rw [hq] at KZ
          have HP := Lib.hid (fun W (hb : Below wr.heap.size wr W) => (show (∃ d, W.cell? ⟨g, i, none⟩ = some d ∧ W.frozen? ⟨g, i, none⟩ = false) ∧ W.grownBy (W.setCell ⟨g, i, none⟩ (.slice za zn zc)) (some g) ∧ Half (W.setCell ⟨g, i, none⟩ (.slice za zn zc)) B g n cap q zs (i + 1) (j + 1) (xs.set i (.slice za zn zc)) from
            ⟨(HH.out.kept hb).spot, ((HH.out.kept hb).own.stored i _).2, by rw [← hz1]; exact (HH.out.kept hb).put hx hlt hq⟩))
          clear hq hz1 hx hm
          go_wp2_with (go_at_call 25; refine (KZ.out).mono ?_; rintro e w2 ⟨rfl, hb2⟩; obtain ⟨⟨d, hd1, hd2⟩, hg2, hh2⟩ := HP.out _ hb2; have HH2 := Lib.hid hh2; have HG2 := Lib.hid (show w.grownBy _ (some g) from (HG.out.trans ⟨hb2.os, hb2.tape, hb2.output, hb2.size, fun k hk _ => hb2.block k hk⟩).trans hg2); clear hb2 hg2 hh2)
          go_roundw
          case rel => exact ⟨i + 1, j + 1, _, by go_num, by go_num, by omega, by omega, HH2, HG2⟩
          case measure => simp [intOf]; omega
        · rw [hq] at KZ
          have HP := Lib.hid (fun W (hb : Below wr.heap.size wr W) => (HH.out.kept hb).skip hx hlt hq)
          clear hq hz1 hx hm
          go_wp2_with (go_at_call 25; refine (KZ.out).mono ?_; rintro e w2 ⟨rfl, hb2⟩; have HH2 := Lib.hid (HP.out _ hb2); have HG2 := Lib.hid (show w.grownBy w2 (some g) from HG.out.trans ⟨hb2.os, hb2.tape, hb2.output, hb2.size, fun k hk _ => hb2.block k hk⟩); clear hb2)
          go_roundw
          case rel => exact ⟨i, j + 1, xs, by go_num, rfl, by omega, by omega, HH2, HG2⟩
          case measure => simp [intOf]; omega
      · have hjn' : j = n := by omega
        have hncap : n ≤ cap := hnc
        have hin : i ≤ n := by omega
        have hin' : (i : Int) ≤ n := by omega
        have hic : i ≠ cap := by omega
        have hic' : cap ≠ i := fun e => hic e.symm
        have hic2 : i < cap := by omega
        have hic3 : (i : Int) < cap := by omega
        have i6 : (0 : Int) ≤ (i : Int) := by omega
        have hcm' : cap ≤ 9223372036854775807 := by unfold maxLen at hcm; omega
        have HE := Lib.hid (show xs.take i = (zs.filter fun z => !q z).map (·.1) by rw [HH.out.hd, List.take_of_length_le (by rw [HN.out]; omega)])
        go_wp2
        obtain ⟨w5, hrun5, hown5, hg5⟩ := run_clear_own (P := Try.prog) (t := 25) (ty := 0) (k := 1) (by omega) Try.underlying25 Try.zeroValue24 rfl (by simp [Value.cells, Value.oneCell']) HH.out.own i (cap - i) hin
        rw [Nat.mul_one] at hrun5 hown5
        have HO5 := Lib.hid hown5
        have HG5 := Lib.hid (HG.out.trans hg5)
        clear hown5 hg5
        rw [hrun5]
        go_wp2
        go_ret
        have hlen : i = (zs.filter fun z => !q z).length := by
          have h2 := congrArg List.length HE.out
          rw [List.length_take, List.length_map, HH.out.len] at h2
          omega
        refine ⟨⟨_, rfl, OV.of_row ?_ (fun z hz => H1.out z (List.mem_filter.1 hz).1), rfl⟩, HG5.out⟩
        rw [← HE.out, ← hlen]
        exact HO5.out
end Go.Proofs.Ytmnpneandkiblaa
