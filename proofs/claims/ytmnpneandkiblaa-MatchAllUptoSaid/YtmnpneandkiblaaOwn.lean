/-
  WHAT A CALL OWNS: 'Owned': a slice that the call itself made and appends to, whose elements read as a list; the laws of append in these words.
-/
import Derived.Test.YtmnpneandkiblaaBase
import Derived.Maps.AppendAt
import Derived.Laws.AppendOwnNone
import Derived.Deep.RegionLaw
namespace Go.Proofs.Ytmnpneandkiblaa
open Go.RowKit

/-- Slice type t has elements of type e of k cells. -/
structure RowT (P : Program) (t e : TypeId) (k : Nat) : Prop where
  ht : P.underlying t = some (.slice e)
  ex : ∃ i z, P.info? e = some i ∧ i.zero = some z ∧ i.size = k ∧ i.bytes ≤ 128 ∧ z.cells.size = k
  pos : 0 < k

theorem RowT.mk' {P : Program} {t e : TypeId} {k b : Nat} {z : Value} (ht : P.underlying t = some (.slice e)) (hi : (P.info? e).map (fun i => (i.zero, i.size, i.bytes)) = some (some z, k, b)) (hb : b ≤ 128) (hz : z.cells.size = k) (hk : 0 < k) : RowT P t e k := by
  obtain ⟨i, h1, h2, h3, h4⟩ := info_parts hi
  exact ⟨ht, ⟨i, z, h1, h2, h3, by omega, hz⟩, hk⟩

def Owned {α : Type} (k : Nat) (R : Reader α) (B : Nat) (e : TypeId) (S : Nat → Prop) (w : World) (v : Value) (l : List α) : Prop :=
  ∃ css : List (List Value), css.length = l.length ∧ (∀ cs ∈ css, cs.length = k) ∧ w.ownsRow B e k v l.length css.flatten ∧
    ∀ (i : Nat) (cs : List Value) (x : α), css[i]? = some cs → l[i]? = some x → R (fun b => S b ∧ some b ≠ v.ownBlock) w cs x

theorem flatten_get {k : Nat} : ∀ (css : List (List Value)), (∀ cs ∈ css, cs.length = k) → ∀ i cs j u, css[i]? = some cs → cs[j]? = some u → css.flatten[i * k + j]? = some u
  | [], _, i, cs, j, u, h, _ => by simp at h
  | c :: css, hk, 0, cs, j, u, h, hu => by
    obtain rfl : c = cs := by simpa using h
    have hj : j < c.length := (List.getElem?_eq_some_iff.1 hu).1
    rw [List.flatten_cons, Nat.zero_mul, Nat.zero_add, List.getElem?_append_left hj]
    exact hu
  | c :: css, hk, i + 1, cs, j, u, h, hu => by
    have hc : c.length = k := hk c (by simp)
    rw [List.flatten_cons, List.getElem?_append_right (by rw [hc, Nat.add_mul]; omega), hc, show (i + 1) * k + j - k = i * k + j by rw [Nat.add_mul]; omega]
    exact flatten_get css (fun c hc => hk c (by simp [hc])) i cs j u (by simpa using h) hu

section
variable {α : Type} {k : Nat} {R : Reader α} {B : Nat} {e : TypeId} {S : Nat → Prop} {w w' : World} {v v' : Value} {l : List α}

theorem Owned.nil : Owned k R B e S w (.slice none 0 0) ([] : List α) :=
  ⟨[], rfl, by simp, World.ownsRow_nil w B e k, by simp⟩

theorem Owned.made {cur : Array Value} {cap : Nat} (hb : B ≤ w.heap.size) (hm : cap ≤ maxLen) (hs : cur.size = cap * k) :
    Owned k R B e S (w.alloc (.cells cur e)) (.slice (some ⟨w.heap.size, 0, none⟩) 0 cap) ([] : List α) :=
  ⟨[], rfl, by simp, World.ownsRow_made w cur cap hb hm hs, by simp⟩

theorem Owned.row_lt (h : Owned k R B e S w v l) {g : Nat} (hg : v.ownBlock = some g) : B ≤ g ∧ g < w.heap.size := by
  obtain ⟨css, _, _, ho, _⟩ := h
  exact ho.lt g hg

/-- Behind whatever leaves the row and the blocks that its elements reach. -/
theorem Owned.keep (hR : Steady R) (h : Owned k R B e S w v l) (ha : Agree S w w') (hrow : ∀ g, v.ownBlock = some g → w'.heap[g]? = w.heap[g]?) : Owned k R B e S w' v l := by
  obtain ⟨css, h1, h2, ho, h3⟩ := h
  refine ⟨css, h1, h2, ⟨ho.1, ?_⟩, fun i cs x hc hx => hR.agree ⟨ha.1, fun b hb hlt => ha.2 b hb.1 hlt⟩ (h3 i cs x hc hx)⟩
  rcases ho.2 with hn | ⟨g, cap, cur, rfl, hb, hgg, rest⟩
  · exact .inl hn
  · exact .inr ⟨g, cap, cur, rfl, hb, by rw [hrow g rfl]; exact hgg, rest⟩

theorem Owned.below (hR : Steady R) (h : Owned k R B e S w v l) (hb : Below w.heap.size w w') : Owned k R B e S w' v l :=
  h.keep hR (Below.agree hb) fun g hg => hb.block g (h.row_lt hg).2

theorem Owned.alloc (hR : Steady R) (h : Owned k R B e S w v l) (o : Obj) : Owned k R B e S (w.alloc o) v l :=
  h.below hR ((Below.refl _ _).alloc (Nat.le_refl _) o)

theorem Owned.drew (hR : Steady R) (h : Owned k R B e S w v l) : Owned k R B e S w.drew v l := h.below hR (Below.refl _ _).drew

/-- A store into another block. -/
theorem Owned.setCell (hR : Steady R) (h : Owned k R B e S w v l) {p : Addr} (hp : ¬ S p.block) (ho : v.ownBlock ≠ some p.block) (u : Value) : Owned k R B e S (w.setCell p u) v l :=
  h.keep hR ⟨by simp [World.setCell], fun b hb _ => Below.heap_setCell _ _ _ _ (fun e => hp (by rw [← e]; exact hb))⟩ fun g hg => Below.heap_setCell _ _ _ _ (fun e => ho (by rw [hg, e]))

theorem Owned.moreS (hR : Steady R) {S' : Nat → Prop} (h : Owned k R B e S w v l) (hs : ∀ b, S b → b < w.heap.size → S' b) : Owned k R B e S' w v l := by
  obtain ⟨css, h1, h2, ho, h3⟩ := h
  exact ⟨css, h1, h2, ho, fun i cs x hc hx => hR.more (fun b hb hlt => ⟨hs b hb.1 hlt, hb.2⟩) (h3 i cs x hc hx)⟩

theorem Owned.read (hR : Steady R) (h : Owned k R B e S w v l) : RdSlice k R (fun b => S b ∨ B ≤ b) w v l := by
  obtain ⟨css, h1, h2, ho, h3⟩ := h
  have hmore : ∀ {cs x}, R (fun b => S b ∧ some b ≠ v.ownBlock) w cs x → R (fun b => S b ∨ B ≤ b) w cs x := fun hr => hR.more (fun b hb _ => .inl hb.1) hr
  rcases ho.2 with ⟨rfl, h0⟩ | ⟨g, cap, cur, rfl, hb, hgg, hnc, hcm, hcs, htake⟩
  · refine ⟨none, 0, by rw [h0], by omega, Nat.zero_le _, fun _ => rfl, fun i x hx => ?_⟩
    have := (List.getElem?_eq_some_iff.1 hx).1
    omega
  · refine ⟨some ⟨g, 0, none⟩, cap, rfl, hnc, hcm, (fun h => by cases h), fun i x hx => ?_⟩
    have hi := (List.getElem?_eq_some_iff.1 hx).1
    obtain ⟨cs, hcss⟩ : ∃ cs, css[i]? = some cs := ⟨_, List.getElem?_eq_getElem (by omega)⟩
    refine ⟨g, 0, cs, rfl, .inr hb, (Array.getElem?_eq_some_iff.1 hgg).1, h2 cs (List.mem_of_getElem? hcss), fun j u hu => ?_, hmore (h3 i cs x hcss hx)⟩
    have := ho.cells (g := g) rfl (i * k + j) u (flatten_get css h2 i cs j u hcss hu)
    have hadd : (⟨g, 0, none⟩ : Addr).add (i * k + j) = ⟨g, 0 + i * k + j, none⟩ := by unfold Addr.add; split <;> simp_all
    rwa [hadd] at this

/-- What an append of one element leaves, in these words. -/
theorem Owned.snoc (hR : Steady R) (h : Owned k R B e S w v l) {cs : List Value} {x : α} (hk : cs.length = k) (hr : R (fun b => S b ∧ some b ≠ v.ownBlock) w cs x)
    (hown : ∀ xs, w.ownsRow B e k v l.length xs → w'.ownsRow B e k v' (l.length + 1) (xs ++ cs)) (hg : w.grownBy w' v.ownBlock) (hat : v'.ownBlock = v.ownBlock ∨ v'.ownBlock = some w.heap.size) :
    Owned k R B e S w' v' (l ++ [x]) := by
  obtain ⟨css, h1, h2, ho, h3⟩ := h
  have hmore : ∀ {cs x}, R (fun b => S b ∧ some b ≠ v.ownBlock) w cs x → R (fun b => S b ∧ some b ≠ v'.ownBlock) w' cs x := fun {cs x} hr => by
    have r1 : R (fun b => (S b ∧ some b ≠ v.ownBlock) ∧ b < w.heap.size) w cs x := hR.more (fun b hb hlt => ⟨hb, hlt⟩) hr
    have r2 := hR.agree (w' := w') ⟨hg.size, fun b hb hlt => hg.block b hlt hb.1.2⟩ r1
    refine hR.more (fun b hb hlt => ⟨hb.1.1, fun e => ?_⟩) r2
    rcases hat with hat | hat
    · exact hb.1.2 (e.trans hat)
    · have : b = w.heap.size := Option.some.inj (e.trans hat)
      have := hb.2
      omega
  refine ⟨css ++ [cs], by simp [h1], ?_, ?_, ?_⟩
  · intro c hc
    rcases List.mem_append.1 hc with hc | hc
    · exact h2 c hc
    · obtain rfl := List.mem_singleton.1 hc; exact hk
  · have := hown _ ho
    simpa using this
  · intro i c y hc hy
    by_cases hi : i < css.length
    · rw [List.getElem?_append_left hi] at hc
      rw [List.getElem?_append_left (by omega)] at hy
      exact hmore (h3 i c y hc hy)
    · rw [List.getElem?_append_right (by omega)] at hc
      rw [List.getElem?_append_right (by omega)] at hy
      have hi0 : i - css.length = 0 := by
        have := (List.getElem?_eq_some_iff.1 hc).1
        simp at this
        omega
      rw [hi0] at hc
      rw [← h1, hi0] at hy
      obtain rfl : cs = c := by simpa using hc
      obtain rfl : x = y := by simpa using hy
      exact hmore hr

/-- .. and of many. -/
theorem Owned.append (hR : Steady R) (h : Owned k R B e S w v l) {css2 : List (List Value)} {l2 : List α} (hl : css2.length = l2.length) (hk : ∀ cs ∈ css2, cs.length = k)
    (hr : ∀ (i : Nat) (cs : List Value) (x : α), css2[i]? = some cs → l2[i]? = some x → R (fun b => S b ∧ some b ≠ v.ownBlock) w cs x)
    (hown : ∀ xs, w.ownsRow B e k v l.length xs → w'.ownsRow B e k v' (l.length + l2.length) (xs ++ css2.flatten)) (hg : w.grownBy w' v.ownBlock) (hat : v'.ownBlock = v.ownBlock ∨ v'.ownBlock = some w.heap.size) :
    Owned k R B e S w' v' (l ++ l2) := by
  obtain ⟨css, h1, h2, ho, h3⟩ := h
  have hmore : ∀ {cs x}, R (fun b => S b ∧ some b ≠ v.ownBlock) w cs x → R (fun b => S b ∧ some b ≠ v'.ownBlock) w' cs x := fun {cs x} hr => by
    have r1 : R (fun b => (S b ∧ some b ≠ v.ownBlock) ∧ b < w.heap.size) w cs x := hR.more (fun b hb hlt => ⟨hb, hlt⟩) hr
    have r2 := hR.agree (w' := w') ⟨hg.size, fun b hb hlt => hg.block b hlt hb.1.2⟩ r1
    refine hR.more (fun b hb hlt => ⟨hb.1.1, fun e => ?_⟩) r2
    rcases hat with hat | hat
    · exact hb.1.2 (e.trans hat)
    · have : b = w.heap.size := Option.some.inj (e.trans hat)
      have := hb.2
      omega
  refine ⟨css ++ css2, by simp [h1, hl], ?_, ?_, ?_⟩
  · intro c hc
    rcases List.mem_append.1 hc with hc | hc
    · exact h2 c hc
    · exact hk c hc
  · have := hown _ ho
    simpa using this
  · intro i c y hc hy
    by_cases hi : i < css.length
    · rw [List.getElem?_append_left hi] at hc
      rw [List.getElem?_append_left (by omega)] at hy
      exact hmore (h3 i c y hc hy)
    · rw [List.getElem?_append_right (by omega)] at hc
      rw [List.getElem?_append_right (by omega)] at hy
      rw [← h1] at hy
      exact hmore (hr _ c y hc hy)
end

section
variable {P : Program} {w : World} {α : Type} {k : Nat} {R : Reader α} {B : Nat} {e : TypeId} {S : Nat → Prop}

/-- THE LAW: 'append(v, x)', x in a block of one's own. -/
theorem run_append_one (hR : Steady R) {t ty : TypeId} (T : RowT P t e k) {v : Value} {l : List α} (hown : Owned k R B e S w v l) (bx c : Nat) (cs : Array Value) (te : TypeId) (fr : Nat × Nat) (x : α)
    (hblk : w.heap[bx]? = some (.cells cs te fr)) (hk : cs.size = k) (h1 : ∀ u ∈ cs.toList, u.oneCell' = true) (hr : R (fun b => S b ∧ some b ≠ v.ownBlock) w cs.toList x) (hlen : l.length < 1099511627776) (hbase : B ≤ w.heap.size) :
    ∃ v' w', (Builtin.append_ #[t, t] ty #[v, .slice (some ⟨bx, 0, none⟩) 1 c]).run P w = .ok v' w' ∧ Owned k R B e S w' v' (l ++ [x]) ∧ w.grownBy w' v.ownBlock ∧ (v'.ownBlock = v.ownBlock ∨ v'.ownBlock = some w.heap.size) := by
  obtain ⟨i, z, hi, hz, hsize, hby, hzs⟩ := T.ex
  have h := hown
  obtain ⟨css, _, _, ho, _⟩ := h
  obtain ⟨v', w', hrun, h2, h3, _, h5⟩ := run_append_own_at (P := P) w B t ty e i z k i.bytes T.ht hi hz hsize rfl hzs T.pos v l.length css.flatten ho ⟨bx, 0, none⟩ 1 c cs.toList (by simp [hk])
    (World.news_of_block hblk) h1 (by unfold maxLen; omega) (by have : (l.length + 1) * i.bytes ≤ 1099511627776 * 128 := Nat.mul_le_mul (by omega) hby; omega) hbase
  refine ⟨v', w', hrun, ?_, h3, h5⟩
  refine hown.snoc hR (by simpa using hk) hr (fun xs hxs => ?_) h3 h5
  have e1 : xs = css.flatten := by
    rcases hxs.2 with ⟨hv, hn⟩ | ⟨g, cap, cur, hv, hb, hg, _, _, _, ht⟩
    · have a1 : xs = [] := List.eq_nil_of_length_eq_zero (by rw [hxs.1, hn, Nat.zero_mul])
      have a2 : css.flatten = [] := List.eq_nil_of_length_eq_zero (by rw [ho.1, hn, Nat.zero_mul])
      rw [a1, a2]
    · rcases ho.2 with ⟨hv', hn⟩ | ⟨g', cap', cur', hv', hb', hg', _, _, _, ht'⟩
      · have a1 : xs = [] := List.eq_nil_of_length_eq_zero (by rw [hxs.1, hn, Nat.zero_mul])
        have a2 : css.flatten = [] := List.eq_nil_of_length_eq_zero (by rw [ho.1, hn, Nat.zero_mul])
        rw [a1, a2]
      · rw [hv] at hv'
        injection hv' with q1 q2 q3
        injection q1 with q1
        injection q1 with q1 _ _
        subst q1
        rw [hg] at hg'
        injection hg' with q
        injection q with q _ _
        subst q
        rw [← ht, ← ht']
  rw [e1]
  exact h2

theorem Owned.ext_row {v : Value} {n : Nat} {xs ys : List Value} (hx : w.ownsRow B e k v n xs) (hy : w.ownsRow B e k v n ys) : xs = ys := by
  rcases hx.2 with ⟨hv, hn⟩ | ⟨g, cap, cur, hv, hb, hg, _, _, _, ht⟩
  · have a1 : xs = [] := List.eq_nil_of_length_eq_zero (by rw [hx.1, hn, Nat.zero_mul])
    have a2 : ys = [] := List.eq_nil_of_length_eq_zero (by rw [hy.1, hn, Nat.zero_mul])
    rw [a1, a2]
  · rcases hy.2 with ⟨hv', hn⟩ | ⟨g', cap', cur', hv', hb', hg', _, _, _, ht'⟩
    · have a1 : xs = [] := List.eq_nil_of_length_eq_zero (by rw [hx.1, hn, Nat.zero_mul])
      have a2 : ys = [] := List.eq_nil_of_length_eq_zero (by rw [hy.1, hn, Nat.zero_mul])
      rw [a1, a2]
    · rw [hv] at hv'
      injection hv' with q1 q2 q3
      injection q1 with q1
      injection q1 with q1 _ _
      subst q1
      rw [hg] at hg'
      injection hg' with q
      injection q with q _ _
      subst q
      rw [← ht, ← ht']

theorem wpList_append_one {ops : Array Oper} {rest : List Oper} {o : Oper} {a : Act} {Q : Exit → Act → World → Prop} (hgd : o.guard = none) (s x : Operand) (t : TypeId)
    (ho : o.op = .call { callee := .builtin .append, args := #[s, x], argTypes := #[t, t] }) (hR : Steady R) (T : RowT P t e k) (v : Value) (l : List α) (hs : a.eval s = v) (hown : Owned k R B e S w v l)
    (bx c : Nat) (cs : Array Value) (te : TypeId) (fr : Nat × Nat) (y : α) (hx : a.eval x = .slice (some ⟨bx, 0, none⟩) 1 c) (hblk : w.heap[bx]? = some (.cells cs te fr)) (hk : cs.size = k) (h1 : ∀ u ∈ cs.toList, u.oneCell' = true)
    (hr : R (fun b => S b ∧ some b ≠ v.ownBlock) w cs.toList y) (hlen : l.length < 1099511627776) (hbase : B ≤ w.heap.size)
    (h : ∀ v' w', Owned k R B e S w' v' (l ++ [y]) → w.grownBy w' v.ownBlock → (v'.ownBlock = v.ownBlock ∨ v'.ownBlock = some w.heap.size) → wpList P ops Q rest (a.put o.dst v') w') : wpList P ops Q (o :: rest) a w :=
  wpList_plain hgd fun K hK => by
    obtain ⟨v', w', hrun, h2, h3, h4⟩ := run_append_one (P := P) (ty := o.type) hR T hown bx c cs te fr y hblk hk h1 hr hlen hbase
    unfold Oper.wp execOp
    simp only [ho, resolve, invoke, builtin, Sem.run_bind, Sem.run_pure, Result.andThen_ok, List.map_toArray, List.map_cons, List.map_nil, hs, hx, hrun]
    exact hK _ _ (h v' w' h2 h3 h4)

theorem step_append_one {ops : Array Oper} {o : Oper} {a : Act} {K : Act → World → Prop} {Q : Exit → Act → World → Prop} {E : Prop} (hgd : o.guard = none) (s x : Operand) (t : TypeId)
    (ho : o.op = .call { callee := .builtin .append, args := #[s, x], argTypes := #[t, t] }) (hR : Steady R) (T : RowT P t e k) (v : Value) (l : List α) (hs : a.eval s = v) (hown : Owned k R B e S w v l)
    (bx c : Nat) (cs : Array Value) (te : TypeId) (fr : Nat × Nat) (y : α) (hx : a.eval x = .slice (some ⟨bx, 0, none⟩) 1 c) (hblk : w.heap[bx]? = some (.cells cs te fr)) (hk : cs.size = k) (h1 : ∀ u ∈ cs.toList, u.oneCell' = true)
    (hr : R (fun b => S b ∧ some b ≠ v.ownBlock) w cs.toList y) (hlen : l.length < 1099511627776) (hbase : B ≤ w.heap.size)
    (h : ∀ v' w', Owned k R B e S w' v' (l ++ [y]) → w.grownBy w' v.ownBlock → (v'.ownBlock = v.ownBlock ∨ v'.ownBlock = some w.heap.size) → K (a.put o.dst v') w') :
    if Region.wanted o (yielded ops a.tmps) = true then Oper.wp P o a w K Q else E := by
  have hw : Region.wanted o (yielded ops a.tmps) = true := by simp [Region.wanted, hgd]
  rw [if_pos hw]
  obtain ⟨v', w', hrun, h2, h3, h4⟩ := run_append_one (P := P) (ty := o.type) hR T hown bx c cs te fr y hblk hk h1 hr hlen hbase
  unfold Oper.wp execOp
  simp only [ho, resolve, invoke, builtin, Sem.run_bind, Sem.run_pure, Result.andThen_ok, List.map_toArray, List.map_cons, List.map_nil, hs, hx, hrun]
  exact h v' w' h2 h3 h4

/-- THE LAW: 'append(v, xs...)', xs any slice that reads as l2. -/
theorem run_append_many (hR : Steady R) (hcell : ∀ {S w cs x}, R S w cs x → ∀ u ∈ cs, u.oneCell' = true) {t ty : TypeId} (T : RowT P t e k) {v : Value} {l : List α} (hown : Owned k R B e S w v l) {v2 : Value} {l2 : List α}
    {S2 : Nat → Prop} (h2 : RdSlice k R S2 w v2 l2) (hm : ∀ cs x, R S2 w cs x → R (fun b => S b ∧ some b ≠ v.ownBlock) w cs x) (hlen : l.length + l2.length < 1099511627776) (hbase : B ≤ w.heap.size) :
    ∃ v' w', (Builtin.append_ #[t, t] ty #[v, v2]).run P w = .ok v' w' ∧ Owned k R B e S w' v' (l ++ l2) ∧ w.grownBy w' v.ownBlock ∧ (v'.ownBlock = v.ownBlock ∨ v'.ownBlock = some w.heap.size) := by
  obtain ⟨i, z, hi, hz, hsize, hby, hzs⟩ := T.ex
  have h := hown
  obtain ⟨css, _, _, ho, _⟩ := h
  obtain ⟨a2, c2, rfl, hl2, hc2, hnil, hel⟩ := h2
  cases a2 with
  | none =>
    have hl : l2 = [] := by
      cases l2 with
      | nil => rfl
      | cons x r => obtain ⟨b, off, cs, ha, _⟩ := hel 0 x rfl; cases ha
    subst hl
    obtain rfl := hnil rfl
    refine ⟨v, w, run_append_owned_none (P := P) (w := w) B t ty e i k T.ht hi v l.length css.flatten ho, by simpa using hown, ⟨rfl, rfl, rfl, Nat.le_refl _, fun _ _ _ => rfl⟩, .inl rfl⟩
  | some a2 =>
    -- the cells of the source, element by element
    have hpick : ∀ j, j < l2.length → ∃ b off cs, a2 = ⟨b, off, none⟩ ∧ cs.length = k ∧ (∀ q u, cs[q]? = some u → w.cell? ⟨b, off + j * k + q, none⟩ = some u) ∧ ∃ x, l2[j]? = some x ∧ R (fun b => S b ∧ some b ≠ v.ownBlock) w cs x := fun j hj => by
      obtain ⟨b, off, cs, ha, _, _, hk, hc, hr⟩ := hel j l2[j] (List.getElem?_eq_getElem hj)
      exact ⟨b, off, cs, Option.some.inj ha, hk, hc, _, List.getElem?_eq_getElem hj, hm _ _ hr⟩
    obtain ⟨css2, hlen2, hk2, hcells, hr2⟩ : ∃ css2 : List (List Value), css2.length = l2.length ∧ (∀ cs ∈ css2, cs.length = k) ∧ (∀ (j : Nat) (u : Value), css2.flatten[j]? = some u → w.cell? (a2.add j) = some u) ∧
        (∀ (j : Nat) (cs : List Value) (x : α), css2[j]? = some cs → l2[j]? = some x → R (fun b => S b ∧ some b ≠ v.ownBlock) w cs x) := by
      have main : ∀ n, n ≤ l2.length → ∃ css2 : List (List Value), css2.length = n ∧ (∀ cs ∈ css2, cs.length = k) ∧ (∀ (j : Nat) (u : Value), css2.flatten[j]? = some u → w.cell? (a2.add j) = some u) ∧
          (∀ (j : Nat) (cs : List Value) (x : α), css2[j]? = some cs → l2[j]? = some x → R (fun b => S b ∧ some b ≠ v.ownBlock) w cs x) := by
        intro n
        induction n with
        | zero => exact fun _ => ⟨[], rfl, by simp, by simp, by simp⟩
        | succ n ih =>
          intro hn
          obtain ⟨css2, g1, g2, g3, g4⟩ := ih (by omega)
          obtain ⟨b, off, cs, ha, hk, hc, x, hx, hr⟩ := hpick n (by omega)
          have hfl : css2.flatten.length = n * k := by
            rw [← g1]
            clear g3 g4 g1 ih
            induction css2 with
            | nil => simp
            | cons c r ih => rw [List.flatten_cons, List.length_append, ih (fun c hc => g2 c (by simp [hc])), g2 c (by simp), List.length_cons, Nat.add_mul]; omega
          refine ⟨css2 ++ [cs], by simp [g1], ?_, ?_, ?_⟩
          · intro c hcm
            rcases List.mem_append.1 hcm with hcm | hcm
            · exact g2 c hcm
            · obtain rfl := List.mem_singleton.1 hcm; exact hk
          · intro j u hu
            rw [List.flatten_append, List.flatten_singleton] at hu
            by_cases hj : j < css2.flatten.length
            · rw [List.getElem?_append_left hj] at hu; exact g3 j u hu
            · rw [List.getElem?_append_right (by omega)] at hu
              have := hc _ _ hu
              rw [ha]
              have hadd : (⟨b, off, none⟩ : Addr).add j = ⟨b, off + n * k + (j - css2.flatten.length), none⟩ := by
                unfold Addr.add
                split
                · rename_i h0
                  subst h0
                  simp only [Addr.mk.injEq, and_true, true_and]; omega
                · simp only [Addr.mk.injEq, and_true, true_and]; omega
              rw [hadd]
              exact this
          · intro j c y hcj hy
            by_cases hj : j < css2.length
            · rw [List.getElem?_append_left hj] at hcj; exact g4 j c y hcj hy
            · rw [List.getElem?_append_right (by omega)] at hcj
              have hj0 : j - css2.length = 0 := by
                have := (List.getElem?_eq_some_iff.1 hcj).1
                simp at this; omega
              rw [hj0] at hcj
              obtain rfl : cs = c := by simpa using hcj
              have : j = n := by omega
              subst this
              rw [hx] at hy
              obtain rfl := Option.some.inj hy
              exact hr
      exact main l2.length (Nat.le_refl _)
    have hone : ∀ u ∈ css2.flatten, u.oneCell' = true := by
      intro u hu
      obtain ⟨cs, hcs, huc⟩ := List.mem_flatten.1 hu
      obtain ⟨j, hj⟩ := List.mem_iff_getElem?.1 hcs
      have hjl : j < l2.length := by have := (List.getElem?_eq_some_iff.1 hj).1; omega
      exact hcell (hr2 j cs l2[j] hj (List.getElem?_eq_getElem hjl)) u huc
    have hfl : css2.flatten.length = l2.length * k := by
      rw [← hlen2]
      clear hcells hr2 hone hlen2
      induction css2 with
      | nil => simp
      | cons c r ih => rw [List.flatten_cons, List.length_append, ih (fun c hc => hk2 c (by simp [hc])), hk2 c (by simp), List.length_cons, Nat.add_mul]; omega
    obtain ⟨v', w', hrun, q2, q3, _, q5⟩ := run_append_own_at (P := P) w B t ty e i z k i.bytes T.ht hi hz hsize rfl hzs T.pos v l.length css.flatten ho a2 l2.length c2 css2.flatten hfl hcells hone
      (by unfold maxLen; omega) (by have : (l.length + l2.length) * i.bytes ≤ 1099511627776 * 128 := Nat.mul_le_mul (by omega) hby; omega) hbase
    exact ⟨v', w', hrun, hown.append hR hlen2 hk2 hr2 (fun xs hxs => by rw [Owned.ext_row hxs ho]; exact q2) q3 q5, q3, q5⟩

theorem wpList_append_many {ops : Array Oper} {rest : List Oper} {o : Oper} {a : Act} {Q : Exit → Act → World → Prop} (hgd : o.guard = none) (s x : Operand) (t : TypeId)
    (ho : o.op = .call { callee := .builtin .append, args := #[s, x], argTypes := #[t, t] }) (hR : Steady R) (hcell : ∀ {S w cs x}, R S w cs x → ∀ u ∈ cs, u.oneCell' = true) (T : RowT P t e k) (v : Value) (l : List α) (hs : a.eval s = v) (hown : Owned k R B e S w v l)
    (v2 : Value) (l2 : List α) (hx : a.eval x = v2) {S2 : Nat → Prop} (h2 : RdSlice k R S2 w v2 l2) (hm : ∀ cs x, R S2 w cs x → R (fun b => S b ∧ some b ≠ v.ownBlock) w cs x) (hlen : l.length + l2.length < 1099511627776) (hbase : B ≤ w.heap.size)
    (h : ∀ v' w', Owned k R B e S w' v' (l ++ l2) → w.grownBy w' v.ownBlock → (v'.ownBlock = v.ownBlock ∨ v'.ownBlock = some w.heap.size) → wpList P ops Q rest (a.put o.dst v') w') : wpList P ops Q (o :: rest) a w :=
  wpList_plain hgd fun K hK => by
    obtain ⟨v', w', hrun, q2, q3, q4⟩ := run_append_many (P := P) (ty := o.type) hR hcell T hown h2 hm hlen hbase
    unfold Oper.wp execOp
    simp only [ho, resolve, invoke, builtin, Sem.run_bind, Sem.run_pure, Result.andThen_ok, List.map_toArray, List.map_cons, List.map_nil, hs, hx, hrun]
    exact hK _ _ (h v' w' q2 q3 q4)
end

theorem Agree.drew {S : Nat → Prop} {w w' : World} (h : Agree S w w') : Agree S w w'.drew := h
theorem Agree.below {S : Nat → Prop} {w w1 w2 : World} (h : Agree S w w1) (hb : Below w1.heap.size w1 w2) : Agree S w w2 := h.trans (Below.agree hb)

/-- What a call that only makes memory leaves. -/
abbrev New (w : World) : Nat → Prop := fun b => w.heap.size ≤ b

/-- A cell of the call's own, behind a callee that makes memory, a new block and an append to another row. -/
theorem kept_cell {W1 w1 w2 : World} {o : Obj} {r : Option Nat} {c : Nat} (hb1 : Below W1.heap.size W1 w1) (hg2 : (w1.alloc o).grownBy w2 r) (hc : c < W1.heap.size) (hr : r ≠ some c) (off : Nat) : w2.cell? ⟨c, off, none⟩ = W1.cell? ⟨c, off, none⟩ := by
  have hlt : c < w1.heap.size := Nat.lt_of_lt_of_le hc hb1.size
  rw [hg2.cell_far ⟨c, off, none⟩ (by simp; omega) (fun e => hr e.symm)]
  exact (World.cell?_of_block (Below.heap_alloc _ _ _ hlt)).trans (hb1.cell (p := ⟨c, off, none⟩) hc)

theorem RStr.one {S : Nat → Prop} {w : World} {cs : List Value} {x : Str} (h : RStr S w cs x) : ∀ u ∈ cs, u.oneCell' = true := by
  have h' : cs = [.string x] := h
  subst h'; simp [Value.oneCell']
theorem RFact.one {S : Nat → Prop} {w : World} {cs : List Value} {x : PFact} (h : RFact S w cs x) : ∀ u ∈ cs, u.oneCell' = true := by
  obtain ⟨av, rfl, hr⟩ := h
  obtain ⟨a, c, rfl, -⟩ := hr.form
  simp [Value.oneCell']
end Go.Proofs.Ytmnpneandkiblaa
