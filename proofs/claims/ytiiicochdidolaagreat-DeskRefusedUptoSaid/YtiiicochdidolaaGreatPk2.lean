/-
  THE TEXTS Own, SynW1, SynW2, one behind the other.
-/
import Derived.Test.YtiiicochdidolaaGreatPk1
import Derived.Maps.AppendAt
import Derived.Laws.AppendOwnNone
import Derived.Deep.RegionLaw
import Derived.Deep.QuietTactic
import Derived.BigQuiet
import Derived.Lib.PathFns
import Derived.Lib.IndexBytes
namespace Go.Proofs.YtiiicochdidolaaGreat
open Go.RowKit
structure RowT (P : Program) (t e : TypeId) (k : Nat) : Prop where
  ht : P.underlying t = some (.slice e)
  ex : ∃ i z, P.info? e = some i ∧ i.zero = some z ∧ i.size = k ∧ i.bytes ≤ 128 ∧ z.cells.size = k
  pos : 0 < k
theorem RowT.mk' {P : Program} {t e : TypeId} {k b : Nat} {z : Value} (ht : P.underlying t = some (.slice e)) (hi : (P.info? e).map (fun i => (i.zero, i.size, i.bytes)) = some (some z, k, b)) (hb : b ≤ 128) (hz : z.cells.size = k) (hk : 0 < k) : RowT P t e k := by
  obtain ⟨i, h1, h2, h3, h4⟩ := info_parts hi
  exact ⟨ht, ⟨i, z, h1, h2, h3, by omega, hz⟩, hk⟩
def Owned {α : Type} (k : Nat) (R : Reader α) (B : Nat) (e : TypeId) (S : Nat → Prop) (w : World) (v : Value) (l : List α) : Prop :=
  ∃ css : List (List Value), css.length = l.length ∧ (∀ cs ∈ css, cs.length = k) ∧ w.ownsRow B e k v l.length css.flatten ∧
    ∀ (i : Nat) (cs : List Value) (x : α), css[i]? = some cs → l[i]? = some x → R (fun b => S b ∧ some b ≠ v.ownBlock) w cs x
theorem flatten_get {k : Nat} : ∀ (css : List (List Value)), (∀ cs ∈ css, cs.length = k) → ∀ i cs j u, css[i]? = some cs → cs[j]? = some u → css.flatten[i * k + j]? = some u
  | [], _, i, cs, j, u, h, _ => by simp at h
  | c :: css, hk, 0, cs, j, u, h, hu => by
    obtain rfl : c = cs := by simpa using h
    have hj : j < c.length := (List.getElem?_eq_some_iff.1 hu).1
    rw [List.flatten_cons, Nat.zero_mul, Nat.zero_add, List.getElem?_append_left hj]
    exact hu
  | c :: css, hk, i + 1, cs, j, u, h, hu => by
    have hc : c.length = k := hk c (by simp)
    rw [List.flatten_cons, List.getElem?_append_right (by rw [hc, Nat.add_mul]; omega), hc, show (i + 1) * k + j - k = i * k + j by rw [Nat.add_mul]; omega]
    exact flatten_get css (fun c hc => hk c (by simp [hc])) i cs j u (by simpa using h) hu
section
variable {α : Type} {k : Nat} {R : Reader α} {B : Nat} {e : TypeId} {S : Nat → Prop} {w w' : World} {v v' : Value} {l : List α}
theorem Owned.nil : Owned k R B e S w (.slice none 0 0) ([] : List α) :=
  ⟨[], rfl, by simp, World.ownsRow_nil w B e k, by simp⟩
theorem Owned.made {cur : Array Value} {cap : Nat} (hb : B ≤ w.heap.size) (hm : cap ≤ maxLen) (hs : cur.size = cap * k) :
    Owned k R B e S (w.alloc (.cells cur e)) (.slice (some ⟨w.heap.size, 0, none⟩) 0 cap) ([] : List α) :=
  ⟨[], rfl, by simp, World.ownsRow_made w cur cap hb hm hs, by simp⟩
theorem Owned.row_lt (h : Owned k R B e S w v l) {g : Nat} (hg : v.ownBlock = some g) : B ≤ g ∧ g < w.heap.size := by
  obtain ⟨css, _, _, ho, _⟩ := h
  exact ho.lt g hg
theorem Owned.keep (hR : Steady R) (h : Owned k R B e S w v l) (ha : Agree S w w') (hrow : ∀ g, v.ownBlock = some g → w'.heap[g]? = w.heap[g]?) : Owned k R B e S w' v l := by
  obtain ⟨css, h1, h2, ho, h3⟩ := h
  refine ⟨css, h1, h2, ⟨ho.1, ?_⟩, fun i cs x hc hx => hR.agree ⟨ha.1, fun b hb hlt => ha.2 b hb.1 hlt⟩ (h3 i cs x hc hx)⟩
  rcases ho.2 with hn | ⟨g, cap, cur, rfl, hb, hgg, rest⟩
  · exact .inl hn
  · exact .inr ⟨g, cap, cur, rfl, hb, by rw [hrow g rfl]; exact hgg, rest⟩
theorem Owned.below (hR : Steady R) (h : Owned k R B e S w v l) (hb : Below w.heap.size w w') : Owned k R B e S w' v l :=
  h.keep hR (Below.agree hb) fun g hg => hb.block g (h.row_lt hg).2
theorem Owned.alloc (hR : Steady R) (h : Owned k R B e S w v l) (o : Obj) : Owned k R B e S (w.alloc o) v l :=
  h.below hR ((Below.refl _ _).alloc (Nat.le_refl _) o)
theorem Owned.drew (hR : Steady R) (h : Owned k R B e S w v l) : Owned k R B e S w.drew v l := h.below hR (Below.refl _ _).drew
theorem Owned.setCell (hR : Steady R) (h : Owned k R B e S w v l) {p : Addr} (hp : ¬ S p.block) (ho : v.ownBlock ≠ some p.block) (u : Value) : Owned k R B e S (w.setCell p u) v l :=
  h.keep hR ⟨by simp [World.setCell], fun b hb _ => Below.heap_setCell _ _ _ _ (fun e => hp (by rw [← e]; exact hb))⟩ fun g hg => Below.heap_setCell _ _ _ _ (fun e => ho (by rw [hg, e]))
theorem Owned.moreS (hR : Steady R) {S' : Nat → Prop} (h : Owned k R B e S w v l) (hs : ∀ b, S b → b < w.heap.size → S' b) : Owned k R B e S' w v l := by
  obtain ⟨css, h1, h2, ho, h3⟩ := h
  exact ⟨css, h1, h2, ho, fun i cs x hc hx => hR.more (fun b hb hlt => ⟨hs b hb.1 hlt, hb.2⟩) (h3 i cs x hc hx)⟩
theorem Owned.read (hR : Steady R) (h : Owned k R B e S w v l) : RdSlice k R (fun b => S b ∨ B ≤ b) w v l := by
  obtain ⟨css, h1, h2, ho, h3⟩ := h
  have hmore : ∀ {cs x}, R (fun b => S b ∧ some b ≠ v.ownBlock) w cs x → R (fun b => S b ∨ B ≤ b) w cs x := fun hr => hR.more (fun b hb _ => .inl hb.1) hr
  rcases ho.2 with ⟨rfl, h0⟩ | ⟨g, cap, cur, rfl, hb, hgg, hnc, hcm, hcs, htake⟩
  · refine ⟨none, 0, by rw [h0], by omega, Nat.zero_le _, fun _ => rfl, fun i x hx => ?_⟩
    have := (List.getElem?_eq_some_iff.1 hx).1
    omega
  · refine ⟨some ⟨g, 0, none⟩, cap, rfl, hnc, hcm, (fun h => by cases h), fun i x hx => ?_⟩
    have hi := (List.getElem?_eq_some_iff.1 hx).1
    obtain ⟨cs, hcss⟩ : ∃ cs, css[i]? = some cs := ⟨_, List.getElem?_eq_getElem (by omega)⟩
    refine ⟨g, 0, cs, rfl, .inr hb, (Array.getElem?_eq_some_iff.1 hgg).1, h2 cs (List.mem_of_getElem? hcss), fun j u hu => ?_, hmore (h3 i cs x hcss hx)⟩
    have := ho.cells (g := g) rfl (i * k + j) u (flatten_get css h2 i cs j u hcss hu)
    have hadd : (⟨g, 0, none⟩ : Addr).add (i * k + j) = ⟨g, 0 + i * k + j, none⟩ := by unfold Addr.add; split <;> simp_all
    rwa [hadd] at this
theorem Owned.snoc (hR : Steady R) (h : Owned k R B e S w v l) {cs : List Value} {x : α} (hk : cs.length = k) (hr : R (fun b => S b ∧ some b ≠ v.ownBlock) w cs x)
    (hown : ∀ xs, w.ownsRow B e k v l.length xs → w'.ownsRow B e k v' (l.length + 1) (xs ++ cs)) (hg : w.grownBy w' v.ownBlock) (hat : v'.ownBlock = v.ownBlock ∨ v'.ownBlock = some w.heap.size) :
    Owned k R B e S w' v' (l ++ [x]) := by
  obtain ⟨css, h1, h2, ho, h3⟩ := h
  have hmore : ∀ {cs x}, R (fun b => S b ∧ some b ≠ v.ownBlock) w cs x → R (fun b => S b ∧ some b ≠ v'.ownBlock) w' cs x := fun {cs x} hr => by
    have r1 : R (fun b => (S b ∧ some b ≠ v.ownBlock) ∧ b < w.heap.size) w cs x := hR.more (fun b hb hlt => ⟨hb, hlt⟩) hr
    have r2 := hR.agree (w' := w') ⟨hg.size, fun b hb hlt => hg.block b hlt hb.1.2⟩ r1
    refine hR.more (fun b hb hlt => ⟨hb.1.1, fun e => ?_⟩) r2
    rcases hat with hat | hat
    · exact hb.1.2 (e.trans hat)
    · have : b = w.heap.size := Option.some.inj (e.trans hat)
      have := hb.2
      omega
  refine ⟨css ++ [cs], by simp [h1], ?_, ?_, ?_⟩
  · intro c hc
    rcases List.mem_append.1 hc with hc | hc
    · exact h2 c hc
    · obtain rfl := List.mem_singleton.1 hc; exact hk
  · have := hown _ ho
    simpa using this
  · intro i c y hc hy
    by_cases hi : i < css.length
    · rw [List.getElem?_append_left hi] at hc
      rw [List.getElem?_append_left (by omega)] at hy
      exact hmore (h3 i c y hc hy)
    · rw [List.getElem?_append_right (by omega)] at hc
      rw [List.getElem?_append_right (by omega)] at hy
      have hi0 : i - css.length = 0 := by
        have := (List.getElem?_eq_some_iff.1 hc).1
        simp at this
        omega
      rw [hi0] at hc
      rw [← h1, hi0] at hy
      obtain rfl : cs = c := by simpa using hc
      obtain rfl : x = y := by simpa using hy
      exact hmore hr
theorem Owned.append (hR : Steady R) (h : Owned k R B e S w v l) {css2 : List (List Value)} {l2 : List α} (hl : css2.length = l2.length) (hk : ∀ cs ∈ css2, cs.length = k)
    (hr : ∀ (i : Nat) (cs : List Value) (x : α), css2[i]? = some cs → l2[i]? = some x → R (fun b => S b ∧ some b ≠ v.ownBlock) w cs x)
    (hown : ∀ xs, w.ownsRow B e k v l.length xs → w'.ownsRow B e k v' (l.length + l2.length) (xs ++ css2.flatten)) (hg : w.grownBy w' v.ownBlock) (hat : v'.ownBlock = v.ownBlock ∨ v'.ownBlock = some w.heap.size) :
    Owned k R B e S w' v' (l ++ l2) := by
  obtain ⟨css, h1, h2, ho, h3⟩ := h
  have hmore : ∀ {cs x}, R (fun b => S b ∧ some b ≠ v.ownBlock) w cs x → R (fun b => S b ∧ some b ≠ v'.ownBlock) w' cs x := fun {cs x} hr => by
    have r1 : R (fun b => (S b ∧ some b ≠ v.ownBlock) ∧ b < w.heap.size) w cs x := hR.more (fun b hb hlt => ⟨hb, hlt⟩) hr
    have r2 := hR.agree (w' := w') ⟨hg.size, fun b hb hlt => hg.block b hlt hb.1.2⟩ r1
    refine hR.more (fun b hb hlt => ⟨hb.1.1, fun e => ?_⟩) r2
    rcases hat with hat | hat
    · exact hb.1.2 (e.trans hat)
    · have : b = w.heap.size := Option.some.inj (e.trans hat)
      have := hb.2
      omega
  refine ⟨css ++ css2, by simp [h1, hl], ?_, ?_, ?_⟩
  · intro c hc
    rcases List.mem_append.1 hc with hc | hc
    · exact h2 c hc
    · exact hk c hc
  · have := hown _ ho
    simpa using this
  · intro i c y hc hy
    by_cases hi : i < css.length
    · rw [List.getElem?_append_left hi] at hc
      rw [List.getElem?_append_left (by omega)] at hy
      exact hmore (h3 i c y hc hy)
    · rw [List.getElem?_append_right (by omega)] at hc
      rw [List.getElem?_append_right (by omega)] at hy
      rw [← h1] at hy
      exact hmore (hr _ c y hc hy)
end
section
variable {P : Program} {w : World} {α : Type} {k : Nat} {R : Reader α} {B : Nat} {e : TypeId} {S : Nat → Prop}
theorem run_append_one (hR : Steady R) {t ty : TypeId} (T : RowT P t e k) {v : Value} {l : List α} (hown : Owned k R B e S w v l) (bx c : Nat) (cs : Array Value) (te : TypeId) (fr : Nat × Nat) (x : α)
    (hblk : w.heap[bx]? = some (.cells cs te fr)) (hk : cs.size = k) (h1 : ∀ u ∈ cs.toList, u.oneCell' = true) (hr : R (fun b => S b ∧ some b ≠ v.ownBlock) w cs.toList x) (hlen : l.length < 1099511627776) (hbase : B ≤ w.heap.size) :
    ∃ v' w', (Builtin.append_ #[t, t] ty #[v, .slice (some ⟨bx, 0, none⟩) 1 c]).run P w = .ok v' w' ∧ Owned k R B e S w' v' (l ++ [x]) ∧ w.grownBy w' v.ownBlock ∧ (v'.ownBlock = v.ownBlock ∨ v'.ownBlock = some w.heap.size) := by
  obtain ⟨i, z, hi, hz, hsize, hby, hzs⟩ := T.ex
  have h := hown
  obtain ⟨css, _, _, ho, _⟩ := h
  obtain ⟨v', w', hrun, h2, h3, _, h5⟩ := run_append_own_at (P := P) w B t ty e i z k i.bytes T.ht hi hz hsize rfl hzs T.pos v l.length css.flatten ho ⟨bx, 0, none⟩ 1 c cs.toList (by simp [hk])
    (World.news_of_block hblk) h1 (by unfold maxLen; omega) (by have : (l.length + 1) * i.bytes ≤ 1099511627776 * 128 := Nat.mul_le_mul (by omega) hby; omega) hbase
  refine ⟨v', w', hrun, ?_, h3, h5⟩
  refine hown.snoc hR (by simpa using hk) hr (fun xs hxs => ?_) h3 h5
  have e1 : xs = css.flatten := by
    rcases hxs.2 with ⟨hv, hn⟩ | ⟨g, cap, cur, hv, hb, hg, _, _, _, ht⟩
    · have a1 : xs = [] := List.eq_nil_of_length_eq_zero (by rw [hxs.1, hn, Nat.zero_mul])
      have a2 : css.flatten = [] := List.eq_nil_of_length_eq_zero (by rw [ho.1, hn, Nat.zero_mul])
      rw [a1, a2]
    · rcases ho.2 with ⟨hv', hn⟩ | ⟨g', cap', cur', hv', hb', hg', _, _, _, ht'⟩
      · have a1 : xs = [] := List.eq_nil_of_length_eq_zero (by rw [hxs.1, hn, Nat.zero_mul])
        have a2 : css.flatten = [] := List.eq_nil_of_length_eq_zero (by rw [ho.1, hn, Nat.zero_mul])
        rw [a1, a2]
      · rw [hv] at hv'
        injection hv' with q1 q2 q3
        injection q1 with q1
        injection q1 with q1 _ _
        subst q1
        rw [hg] at hg'
        injection hg' with q
        injection q with q _ _
        subst q
        rw [← ht, ← ht']
  rw [e1]
  exact h2
theorem Owned.ext_row {v : Value} {n : Nat} {xs ys : List Value} (hx : w.ownsRow B e k v n xs) (hy : w.ownsRow B e k v n ys) : xs = ys := by
  rcases hx.2 with ⟨hv, hn⟩ | ⟨g, cap, cur, hv, hb, hg, _, _, _, ht⟩
  · have a1 : xs = [] := List.eq_nil_of_length_eq_zero (by rw [hx.1, hn, Nat.zero_mul])
    have a2 : ys = [] := List.eq_nil_of_length_eq_zero (by rw [hy.1, hn, Nat.zero_mul])
    rw [a1, a2]
  · rcases hy.2 with ⟨hv', hn⟩ | ⟨g', cap', cur', hv', hb', hg', _, _, _, ht'⟩
    · have a1 : xs = [] := List.eq_nil_of_length_eq_zero (by rw [hx.1, hn, Nat.zero_mul])
      have a2 : ys = [] := List.eq_nil_of_length_eq_zero (by rw [hy.1, hn, Nat.zero_mul])
      rw [a1, a2]
    · rw [hv] at hv'
      injection hv' with q1 q2 q3
      injection q1 with q1
      injection q1 with q1 _ _
      subst q1
      rw [hg] at hg'
      injection hg' with q
      injection q with q _ _
      subst q
      rw [← ht, ← ht']
theorem wpList_append_one {ops : Array Oper} {rest : List Oper} {o : Oper} {a : Act} {Q : Exit → Act → World → Prop} (hgd : o.guard = none) (s x : Operand) (t : TypeId)
    (ho : o.op = .call { callee := .builtin .append, args := #[s, x], argTypes := #[t, t] }) (hR : Steady R) (T : RowT P t e k) (v : Value) (l : List α) (hs : a.eval s = v) (hown : Owned k R B e S w v l)
    (bx c : Nat) (cs : Array Value) (te : TypeId) (fr : Nat × Nat) (y : α) (hx : a.eval x = .slice (some ⟨bx, 0, none⟩) 1 c) (hblk : w.heap[bx]? = some (.cells cs te fr)) (hk : cs.size = k) (h1 : ∀ u ∈ cs.toList, u.oneCell' = true)
    (hr : R (fun b => S b ∧ some b ≠ v.ownBlock) w cs.toList y) (hlen : l.length < 1099511627776) (hbase : B ≤ w.heap.size)
    (h : ∀ v' w', Owned k R B e S w' v' (l ++ [y]) → w.grownBy w' v.ownBlock → (v'.ownBlock = v.ownBlock ∨ v'.ownBlock = some w.heap.size) → wpList P ops Q rest (a.put o.dst v') w') : wpList P ops Q (o :: rest) a w :=
  wpList_plain hgd fun K hK => by
    obtain ⟨v', w', hrun, h2, h3, h4⟩ := run_append_one (P := P) (ty := o.type) hR T hown bx c cs te fr y hblk hk h1 hr hlen hbase
    unfold Oper.wp execOp
    simp only [ho, resolve, invoke, builtin, Sem.run_bind, Sem.run_pure, Result.andThen_ok, List.map_toArray, List.map_cons, List.map_nil, hs, hx, hrun]
    exact hK _ _ (h v' w' h2 h3 h4)
theorem step_append_one {ops : Array Oper} {o : Oper} {a : Act} {K : Act → World → Prop} {Q : Exit → Act → World → Prop} {E : Prop} (hgd : o.guard = none) (s x : Operand) (t : TypeId)
    (ho : o.op = .call { callee := .builtin .append, args := #[s, x], argTypes := #[t, t] }) (hR : Steady R) (T : RowT P t e k) (v : Value) (l : List α) (hs : a.eval s = v) (hown : Owned k R B e S w v l)
    (bx c : Nat) (cs : Array Value) (te : TypeId) (fr : Nat × Nat) (y : α) (hx : a.eval x = .slice (some ⟨bx, 0, none⟩) 1 c) (hblk : w.heap[bx]? = some (.cells cs te fr)) (hk : cs.size = k) (h1 : ∀ u ∈ cs.toList, u.oneCell' = true)
    (hr : R (fun b => S b ∧ some b ≠ v.ownBlock) w cs.toList y) (hlen : l.length < 1099511627776) (hbase : B ≤ w.heap.size)
    (h : ∀ v' w', Owned k R B e S w' v' (l ++ [y]) → w.grownBy w' v.ownBlock → (v'.ownBlock = v.ownBlock ∨ v'.ownBlock = some w.heap.size) → K (a.put o.dst v') w') :
    if Region.wanted o (yielded ops a.tmps) = true then Oper.wp P o a w K Q else E := by
  have hw : Region.wanted o (yielded ops a.tmps) = true := by simp [Region.wanted, hgd]
  rw [if_pos hw]
  obtain ⟨v', w', hrun, h2, h3, h4⟩ := run_append_one (P := P) (ty := o.type) hR T hown bx c cs te fr y hblk hk h1 hr hlen hbase
  unfold Oper.wp execOp
  simp only [ho, resolve, invoke, builtin, Sem.run_bind, Sem.run_pure, Result.andThen_ok, List.map_toArray, List.map_cons, List.map_nil, hs, hx, hrun]
  exact h v' w' h2 h3 h4
theorem run_append_many (hR : Steady R) (hcell : ∀ {S w cs x}, R S w cs x → ∀ u ∈ cs, u.oneCell' = true) {t ty : TypeId} (T : RowT P t e k) {v : Value} {l : List α} (hown : Owned k R B e S w v l) {v2 : Value} {l2 : List α}
    {S2 : Nat → Prop} (h2 : RdSlice k R S2 w v2 l2) (hm : ∀ cs x, R S2 w cs x → R (fun b => S b ∧ some b ≠ v.ownBlock) w cs x) (hlen : l.length + l2.length < 1099511627776) (hbase : B ≤ w.heap.size) :
    ∃ v' w', (Builtin.append_ #[t, t] ty #[v, v2]).run P w = .ok v' w' ∧ Owned k R B e S w' v' (l ++ l2) ∧ w.grownBy w' v.ownBlock ∧ (v'.ownBlock = v.ownBlock ∨ v'.ownBlock = some w.heap.size) := by
  obtain ⟨i, z, hi, hz, hsize, hby, hzs⟩ := T.ex
  have h := hown
  obtain ⟨css, _, _, ho, _⟩ := h
  obtain ⟨a2, c2, rfl, hl2, hc2, hnil, hel⟩ := h2
  cases a2 with
  | none =>
    have hl : l2 = [] := by
      cases l2 with
      | nil => rfl
      | cons x r => obtain ⟨b, off, cs, ha, _⟩ := hel 0 x rfl; cases ha
    subst hl
    obtain rfl := hnil rfl
    refine ⟨v, w, run_append_owned_none (P := P) (w := w) B t ty e i k T.ht hi v l.length css.flatten ho, by simpa using hown, ⟨rfl, rfl, rfl, Nat.le_refl _, fun _ _ _ => rfl⟩, .inl rfl⟩
  | some a2 =>
    have hpick : ∀ j, j < l2.length → ∃ b off cs, a2 = ⟨b, off, none⟩ ∧ cs.length = k ∧ (∀ q u, cs[q]? = some u → w.cell? ⟨b, off + j * k + q, none⟩ = some u) ∧ ∃ x, l2[j]? = some x ∧ R (fun b => S b ∧ some b ≠ v.ownBlock) w cs x := fun j hj => by
      obtain ⟨b, off, cs, ha, _, _, hk, hc, hr⟩ := hel j l2[j] (List.getElem?_eq_getElem hj)
      exact ⟨b, off, cs, Option.some.inj ha, hk, hc, _, List.getElem?_eq_getElem hj, hm _ _ hr⟩
    obtain ⟨css2, hlen2, hk2, hcells, hr2⟩ : ∃ css2 : List (List Value), css2.length = l2.length ∧ (∀ cs ∈ css2, cs.length = k) ∧ (∀ (j : Nat) (u : Value), css2.flatten[j]? = some u → w.cell? (a2.add j) = some u) ∧
        (∀ (j : Nat) (cs : List Value) (x : α), css2[j]? = some cs → l2[j]? = some x → R (fun b => S b ∧ some b ≠ v.ownBlock) w cs x) := by
      have main : ∀ n, n ≤ l2.length → ∃ css2 : List (List Value), css2.length = n ∧ (∀ cs ∈ css2, cs.length = k) ∧ (∀ (j : Nat) (u : Value), css2.flatten[j]? = some u → w.cell? (a2.add j) = some u) ∧
          (∀ (j : Nat) (cs : List Value) (x : α), css2[j]? = some cs → l2[j]? = some x → R (fun b => S b ∧ some b ≠ v.ownBlock) w cs x) := by
        intro n
        induction n with
        | zero => exact fun _ => ⟨[], rfl, by simp, by simp, by simp⟩
        | succ n ih =>
          intro hn
          obtain ⟨css2, g1, g2, g3, g4⟩ := ih (by omega)
          obtain ⟨b, off, cs, ha, hk, hc, x, hx, hr⟩ := hpick n (by omega)
          have hfl : css2.flatten.length = n * k := by
            rw [← g1]
            clear g3 g4 g1 ih
            induction css2 with
            | nil => simp
            | cons c r ih => rw [List.flatten_cons, List.length_append, ih (fun c hc => g2 c (by simp [hc])), g2 c (by simp), List.length_cons, Nat.add_mul]; omega
          refine ⟨css2 ++ [cs], by simp [g1], ?_, ?_, ?_⟩
          · intro c hcm
            rcases List.mem_append.1 hcm with hcm | hcm
            · exact g2 c hcm
            · obtain rfl := List.mem_singleton.1 hcm; exact hk
          · intro j u hu
            rw [List.flatten_append, List.flatten_singleton] at hu
            by_cases hj : j < css2.flatten.length
            · rw [List.getElem?_append_left hj] at hu; exact g3 j u hu
            · rw [List.getElem?_append_right (by omega)] at hu
              have := hc _ _ hu
              rw [ha]
              have hadd : (⟨b, off, none⟩ : Addr).add j = ⟨b, off + n * k + (j - css2.flatten.length), none⟩ := by
                unfold Addr.add
                split
                · rename_i h0
                  subst h0
                  simp only [Addr.mk.injEq, and_true, true_and]; omega
                · simp only [Addr.mk.injEq, and_true, true_and]; omega
              rw [hadd]
              exact this
          · intro j c y hcj hy
            by_cases hj : j < css2.length
            · rw [List.getElem?_append_left hj] at hcj; exact g4 j c y hcj hy
            · rw [List.getElem?_append_right (by omega)] at hcj
              have hj0 : j - css2.length = 0 := by
                have := (List.getElem?_eq_some_iff.1 hcj).1
                simp at this; omega
              rw [hj0] at hcj
              obtain rfl : cs = c := by simpa using hcj
              have : j = n := by omega
              subst this
              rw [hx] at hy
              obtain rfl := Option.some.inj hy
              exact hr
      exact main l2.length (Nat.le_refl _)
    have hone : ∀ u ∈ css2.flatten, u.oneCell' = true := by
      intro u hu
      obtain ⟨cs, hcs, huc⟩ := List.mem_flatten.1 hu
      obtain ⟨j, hj⟩ := List.mem_iff_getElem?.1 hcs
      have hjl : j < l2.length := by have := (List.getElem?_eq_some_iff.1 hj).1; omega
      exact hcell (hr2 j cs l2[j] hj (List.getElem?_eq_getElem hjl)) u huc
    have hfl : css2.flatten.length = l2.length * k := by
      rw [← hlen2]
      clear hcells hr2 hone hlen2
      induction css2 with
      | nil => simp
      | cons c r ih => rw [List.flatten_cons, List.length_append, ih (fun c hc => hk2 c (by simp [hc])), hk2 c (by simp), List.length_cons, Nat.add_mul]; omega
    obtain ⟨v', w', hrun, q2, q3, _, q5⟩ := run_append_own_at (P := P) w B t ty e i z k i.bytes T.ht hi hz hsize rfl hzs T.pos v l.length css.flatten ho a2 l2.length c2 css2.flatten hfl hcells hone
      (by unfold maxLen; omega) (by have : (l.length + l2.length) * i.bytes ≤ 1099511627776 * 128 := Nat.mul_le_mul (by omega) hby; omega) hbase
    exact ⟨v', w', hrun, hown.append hR hlen2 hk2 hr2 (fun xs hxs => by rw [Owned.ext_row hxs ho]; exact q2) q3 q5, q3, q5⟩
theorem wpList_append_many {ops : Array Oper} {rest : List Oper} {o : Oper} {a : Act} {Q : Exit → Act → World → Prop} (hgd : o.guard = none) (s x : Operand) (t : TypeId)
    (ho : o.op = .call { callee := .builtin .append, args := #[s, x], argTypes := #[t, t] }) (hR : Steady R) (hcell : ∀ {S w cs x}, R S w cs x → ∀ u ∈ cs, u.oneCell' = true) (T : RowT P t e k) (v : Value) (l : List α) (hs : a.eval s = v) (hown : Owned k R B e S w v l)
    (v2 : Value) (l2 : List α) (hx : a.eval x = v2) {S2 : Nat → Prop} (h2 : RdSlice k R S2 w v2 l2) (hm : ∀ cs x, R S2 w cs x → R (fun b => S b ∧ some b ≠ v.ownBlock) w cs x) (hlen : l.length + l2.length < 1099511627776) (hbase : B ≤ w.heap.size)
    (h : ∀ v' w', Owned k R B e S w' v' (l ++ l2) → w.grownBy w' v.ownBlock → (v'.ownBlock = v.ownBlock ∨ v'.ownBlock = some w.heap.size) → wpList P ops Q rest (a.put o.dst v') w') : wpList P ops Q (o :: rest) a w :=
  wpList_plain hgd fun K hK => by
    obtain ⟨v', w', hrun, q2, q3, q4⟩ := run_append_many (P := P) (ty := o.type) hR hcell T hown h2 hm hlen hbase
    unfold Oper.wp execOp
    simp only [ho, resolve, invoke, builtin, Sem.run_bind, Sem.run_pure, Result.andThen_ok, List.map_toArray, List.map_cons, List.map_nil, hs, hx, hrun]
    exact hK _ _ (h v' w' q2 q3 q4)
end
theorem Agree.drew {S : Nat → Prop} {w w' : World} (h : Agree S w w') : Agree S w w'.drew := h
theorem Agree.below {S : Nat → Prop} {w w1 w2 : World} (h : Agree S w w1) (hb : Below w1.heap.size w1 w2) : Agree S w w2 := h.trans (Below.agree hb)
abbrev New (w : World) : Nat → Prop := fun b => w.heap.size ≤ b
theorem kept_cell {W1 w1 w2 : World} {o : Obj} {r : Option Nat} {c : Nat} (hb1 : Below W1.heap.size W1 w1) (hg2 : (w1.alloc o).grownBy w2 r) (hc : c < W1.heap.size) (hr : r ≠ some c) (off : Nat) : w2.cell? ⟨c, off, none⟩ = W1.cell? ⟨c, off, none⟩ := by
  have hlt : c < w1.heap.size := Nat.lt_of_lt_of_le hc hb1.size
  rw [hg2.cell_far ⟨c, off, none⟩ (by simp; omega) (fun e => hr e.symm)]
  exact (World.cell?_of_block (Below.heap_alloc _ _ _ hlt)).trans (hb1.cell (p := ⟨c, off, none⟩) hc)
theorem RStr.one {S : Nat → Prop} {w : World} {cs : List Value} {x : Str} (h : RStr S w cs x) : ∀ u ∈ cs, u.oneCell' = true := by
  have h' : cs = [.string x] := h
  subst h'; simp [Value.oneCell']
theorem RFact.one {S : Nat → Prop} {w : World} {cs : List Value} {x : PFact} (h : RFact S w cs x) : ∀ u ∈ cs, u.oneCell' = true := by
  obtain ⟨av, rfl, hr⟩ := h
  obtain ⟨a, c, rfl, -⟩ := hr.form
  simp [Value.oneCell']
theorem rowStrs : RowT Tryz.prog 36 9 1 := RowT.mk' (b := 16) (z := .string ⟨#[]⟩) Tryz.underlying36 (by kernel_rfl) (by omega) rfl (by omega)
end Go.Proofs.YtiiicochdidolaaGreat
namespace Go.Proofs.YtiiicochdidolaaGreat
open Go.RowKit
def bytesOf (s : Str) : Bytes := s.data.toList
theorem bytesOf_length (s : Str) : (bytesOf s).length = s.size := by unfold bytesOf; rw [Array.length_toList]; rfl
def rest (s : Str) (k : Nat) : Bytes := (bytesOf s).drop k
theorem rest_length (s : Str) (k : Nat) : (rest s k).length = s.size - k := by unfold rest; rw [List.length_drop, bytesOf_length]
theorem rest_cons (s : Str) (k : Nat) (h : k < s.size) : rest s k = s[k] :: rest s (k + 1) := drop_bytes s k h
theorem rest_end (s : Str) (k : Nat) (h : s.size ≤ k) : rest s k = [] := drop_bytes_end s k h
def posF (s : Str) (r : Bytes) : Nat := s.size - r.length
theorem rest_posF {s : Str} {r : Bytes} (h : r <:+ bytesOf s) : rest s (posF s r) = r := by
  obtain ⟨t, e⟩ := h
  unfold rest posF
  have hl := bytesOf_length s
  rw [← e, List.length_append] at hl
  rw [← e, show s.size - r.length = t.length by omega, List.drop_left]
theorem posF_le (s : Str) (r : Bytes) : posF s r ≤ s.size := by unfold posF; omega
theorem posF_rest (s : Str) {k : Nat} (h : k ≤ s.size) : posF s (rest s k) = k := by unfold posF; rw [rest_length]; omega
theorem rest_suffix (s : Str) (k : Nat) : rest s k <:+ bytesOf s := List.drop_suffix _ _
theorem posF_int (s : Str) {r : Bytes} (h : r <:+ bytesOf s) : ((posF s r : Nat) : Int) = (s.size : Int) - r.length := by
  have := h.length_le
  rw [bytesOf_length] at this
  unfold posF; omega
theorem drop_rest (s : Str) (k n : Nat) : (rest s k).drop n = rest s (k + n) := by unfold rest; rw [List.drop_drop]
structure Ps (B : Nat) (s : Str) (k : Nat) (w : World) : Prop where
  blk : w.heap[B]? = some (.cells #[.string s, .int .i64 (k : Int)] 87 (0, 0))
  le : k ≤ s.size
section
variable {B : Nat} {s : Str} {k : Nat} {w w' : World}
theorem Ps.lt (h : Ps B s k w) : B < w.heap.size := (Array.getElem?_eq_some_iff.1 h.blk).1
theorem Ps.c0 (h : Ps B s k w) : w.cell? ⟨B, 0, none⟩ = some (.string s) := cell_of_row w B 0 _ _ (0, 0) h.blk
theorem Ps.c1 (h : Ps B s k w) : w.cell? ⟨B, 1, none⟩ = some (.int .i64 (k : Int)) := cell_of_row w B 1 _ _ (0, 0) h.blk
theorem Ps.f (h : Ps B s k w) (i : Nat) : w.frozen? ⟨B, i, none⟩ = false := by simp [World.frozen?, h.blk]
theorem Ps.drew (h : Ps B s k w) : Ps B s k w.drew := ⟨h.blk, h.le⟩
theorem Ps.drewN (h : Ps B s k w) (n : Nat) : Ps B s k (w.drewN n) := ⟨h.blk, h.le⟩
theorem Ps.alloc (h : Ps B s k w) (o : Obj) : Ps B s k (w.alloc o) := ⟨(Below.heap_alloc w o B h.lt).trans h.blk, h.le⟩
theorem Ps.set (h : Ps B s k w) {j : Nat} (hj : j ≤ s.size) : Ps B s j (w.setCell ⟨B, 1, none⟩ (.int .i64 (j : Int))) := by
  refine ⟨?_, hj⟩
  have := h.blk
  simp [World.setCell, Array.getElem?_modify, this]
theorem Ps.far (h : Ps B s k w) {p : Addr} (hp : B ≠ p.block) (u : Value) : Ps B s k (w.setCell p u) := ⟨(Below.heap_setCell w p u B hp).trans h.blk, h.le⟩
theorem Ps.below {C : Nat} (h : Ps B s k w) (hb : Below C w w') (hC : B < C) : Ps B s k w' := ⟨(hb.block B hC).trans h.blk, h.le⟩
theorem Ps.grown {row : Option Nat} (h : Ps B s k w) (hb : w.grownBy w' row) (hg : some B ≠ row) : Ps B s k w' := ⟨(hb.block B h.lt hg).trans h.blk, h.le⟩
end
abbrev But (B : Nat) (w w' : World) : Prop := w.grownBy w' (some B)
theorem But.refl (B : Nat) (w : World) : But B w w := World.grownBy.refl w _
theorem But.trans {B : Nat} {a b c : World} (h : But B a b) (k : But B b c) : But B a c :=
  ⟨h.os ▸ k.os ▸ rfl, h.tape ▸ k.tape ▸ rfl, h.output ▸ k.output ▸ rfl, Nat.le_trans h.size k.size, fun i hi hne => (k.block i (Nat.lt_of_lt_of_le hi h.size) hne).trans (h.block i hi hne)⟩
theorem But.drew {B : Nat} {a w : World} (h : But B a w) : But B a w.drew := ⟨h.os, h.tape, h.output, h.size, h.block⟩
theorem But.drewN {B : Nat} {a w : World} (h : But B a w) (n : Nat) : But B a (w.drewN n) := ⟨h.os, h.tape, h.output, h.size, h.block⟩
theorem But.alloc {B : Nat} {a w : World} (h : But B a w) (o : Obj) : But B a (w.alloc o) :=
  ⟨h.os, h.tape, h.output, Nat.le_trans h.size (by simp), fun i hi hne => (Below.heap_alloc w o i (Nat.lt_of_lt_of_le hi h.size)).trans (h.block i hi hne)⟩
theorem But.setCell {B : Nat} {a w : World} (h : But B a w) {p : Addr} (hp : p.block = B ∨ a.heap.size ≤ p.block) (u : Value) : But B a (w.setCell p u) :=
  ⟨h.os, h.tape, h.output, by simpa [World.setCell] using h.size, fun i hi hne => (Below.heap_setCell w p u i (by
    rintro rfl
    rcases hp with hp | hp
    · exact hne (by rw [hp])
    · omega)).trans (h.block i hi hne)⟩
theorem But.of_below {B : Nat} {a w : World} (h : Below a.heap.size a w) : But B a w := ⟨h.os, h.tape, h.output, h.size, fun i hi _ => h.block i hi⟩
theorem But.below {B : Nat} {a w w' : World} (h : But B a w) (k : Below w.heap.size w w') : But B a w' := h.trans (But.of_below k)
theorem But.cell {B : Nat} {a w : World} (h : But B a w) {c : Nat} (hc : c < a.heap.size) (hne : c ≠ B) (off : Nat) : w.cell? ⟨c, off, none⟩ = a.cell? ⟨c, off, none⟩ :=
  World.cell?_of_block (h.block c hc (fun e => hne (Option.some.inj e)))
theorem But.frozen {B : Nat} {a w : World} (h : But B a w) {c : Nat} (hc : c < a.heap.size) (hne : c ≠ B) (off : Nat) : w.frozen? ⟨c, off, none⟩ = a.frozen? ⟨c, off, none⟩ := by
  have := h.block c hc (fun e => hne (Option.some.inj e))
  simp [World.frozen?, this]
theorem Ps.set1 {B : Nat} {s : Str} {k : Nat} {w : World} (h : Ps B s k w) {j : Nat} (hj : j < s.size) : Ps B s (j + 1) (w.setCell ⟨B, 1, none⟩ (.int .i64 ((j : Int) + 1))) := by
  have := h.set (j := j + 1) hj
  simpa using this
theorem blankF_nl (n : Bool) (r : Bytes) : blankF n (10 :: r) = blankF false r := by rw [blankF, if_pos rfl]
theorem blankF_note (n : Bool) (r : Bytes) : blankF n (37 :: r) = blankF true r := by rw [blankF, if_neg (by decide), if_pos rfl]
theorem blankF_sp (n : Bool) (r : Bytes) : blankF n (32 :: r) = blankF n r := by rw [blankF, if_neg (by decide), if_neg (by decide), if_neg (by simp)]
theorem blankF_stop {c : UInt8} (r : Bytes) (h1 : c ≠ 10) (h2 : c ≠ 37) (h3 : c ≠ 32) : blankF false (c :: r) = c :: r := by rw [blankF, if_neg h1, if_neg h2, if_pos ⟨h3, rfl⟩]
theorem blankF_in {c : UInt8} (r : Bytes) (h1 : c ≠ 10) (h2 : c ≠ 37) : blankF true (c :: r) = blankF true r := by rw [blankF, if_neg h1, if_neg h2, if_neg (by simp)]
theorem byte_beq (c : UInt8) (n : Nat) (hn : n < 256) : ((c.toNat : Int) == (n : Int)) = decide (c = UInt8.ofNat n) := by
  rw [Bool.eq_iff_iff]
  simp only [beq_iff_eq, decide_eq_true_eq]
  constructor
  · intro h
    have h' : c.toNat = n := by omega
    rw [← h']; simp
  · rintro rfl
    rw [UInt8.toNat_ofNat']
    omega
attribute [local go_sem ↓] Go.wp_at_zero Go.wp_at_succ
set_option maxRecDepth 100000 in
set_option maxHeartbeats 4000000 in
theorem blankCalls (B : Nat) (s : Str) (k : Nat) (w : World) (hs : s.size ≤ 1099511627776) (h : Ps B s k w) :
    Calls Tryz.prog 25 #[.pointer (some ⟨B, 0, none⟩)] w fun e w' => e = .returned (.tuple #[]) ∧ Ps B s (posF s (blankF false (rest s k))) w' ∧ But B w w' := by
  have H := Lib.hid h
  clear h
  go_enter Tryz.func25, Tryz.ntmps25
  go_wp2
  go_loopg [2] (s.size + 1 - k) (fun gk note wr => ∃ (j : Nat) (nb : Bool), gk + j = s.size + 1 ∧ j ≤ s.size ∧ note = .bool nb ∧ Hid (Ps B s j wr) ∧ Hid (But B w wr) ∧ Hid (blankF nb (rest s j) = blankF false (rest s k)))
  case atStart => exact ⟨k, false, by have := H.out.le; omega, H.out.le, rfl, H, Lib.hid (But.refl B w), Lib.hid rfl⟩
  case round =>
    obtain ⟨j, nb, hg, hj, rfl, HP, HB, HR⟩ := hrel
    have c0 := HP.out.c0
    have c1 := HP.out.c1
    have hf := HP.out.f 1
    have j0 : (0 : Int) ≤ (j : Int) := by omega
    have j5 : IntKind.i64.wrap (j : Int) = j := by rw [IntKind.wrap_i64]; omega
    by_cases hlt : j < s.size
    · have j1 : (j : Int) < (s.size : Int) := by omega
      have j6 : IntKind.i64.wrap ((j : Int) + 1) = (j : Int) + 1 := by rw [IntKind.wrap_i64]; omega
      have HD := Lib.hid (rest_cons s j hlt)
      have e1 : ((s[j].toNat : Int) == 10) = decide (s[j] = 10) := byte_beq s[j] 10 (by omega)
      have e2 : ((s[j].toNat : Int) == 37) = decide (s[j] = 37) := byte_beq s[j] 37 (by omega)
      have e3 : ((s[j].toNat : Int) == 32) = decide (s[j] = 32) := byte_beq s[j] 32 (by omega)
      have e4 : ((s[j].toNat : Int) != 32) = !decide (s[j] = 32) := by rw [← e3]; rfl
      have HE := Lib.hid (HD.out ▸ HR.out : blankF nb (s[j] :: rest s (j + 1)) = blankF false (rest s k))
      obtain ⟨c, hc⟩ : ∃ c, c = s[j] := ⟨_, rfl⟩
      rw [← hc] at HE HD
      rw [← hc] at e1 e2 e3 e4
      by_cases h1 : c = 10
      · rw [h1, blankF_nl] at HE
        rw [decide_eq_true h1, hc] at e1
        clear e2 e3 e4 h1 hc HD
        go_wp2
        go_quiet (fail)
        go_wp2
        go_quiet (fail)
        go_wp2
        go_roundg (gk - 1)
        case measure => omega
        case rel => exact ⟨j + 1, false, by omega, by omega, rfl, Lib.hid ((HP.out.drewN _).set1 hlt), Lib.hid ((HB.out.drewN _).setCell (.inl rfl) _), HE⟩
      by_cases h2 : c = 37
      · rw [h2, blankF_note] at HE
        rw [decide_eq_false h1, hc] at e1
        rw [decide_eq_true h2, hc] at e2
        clear e3 e4 h1 h2 hc HD
        go_wp2
        go_quiet (fail)
        go_wp2
        go_quiet (fail)
        go_wp2
        go_roundg (gk - 1)
        case measure => omega
        case rel => exact ⟨j + 1, true, by omega, by omega, rfl, Lib.hid ((HP.out.drewN _).set1 hlt), Lib.hid ((HB.out.drewN _).setCell (.inl rfl) _), HE⟩
      rw [decide_eq_false h1] at e1
      rw [decide_eq_false h2] at e2
      by_cases h3 : c = 32
      · rw [h3, blankF_sp] at HE
        rw [decide_eq_true h3, hc] at e3 e4
        rw [hc] at e1 e2
        clear h1 h2 h3 hc HD
        go_wp2
        go_quiet (fail)
        go_wp2
        go_quiet (fail)
        go_wp2
        go_roundg (gk - 1)
        case measure => omega
        case rel => exact ⟨j + 1, nb, by omega, by omega, rfl, Lib.hid ((HP.out.drewN _).set1 hlt), Lib.hid ((HB.out.drewN _).setCell (.inl rfl) _), HE⟩
      rw [decide_eq_false h3, hc] at e3 e4
      rw [hc] at e1 e2
      have HC := Lib.hid (⟨h1, h2, h3⟩ : c ≠ 10 ∧ c ≠ 37 ∧ c ≠ 32)
      clear h1 h2 h3
      have HH := Lib.hid hc
      clear hc
      cases nb
      · rw [blankF_stop _ HC.out.1 HC.out.2.1 HC.out.2.2, ← HD.out] at HE
        go_wp2
        go_quiet (fail)
        go_wp2
        go_quiet (fail)
        go_wp2
        refine bodyPost_ret (results_none rfl _ _ _) rfl ?_
        exact ⟨rfl, by rw [← HE.out, posF_rest s hj]; exact HP.out.drewN _, HB.out.drewN _⟩
      · rw [blankF_in _ HC.out.1 HC.out.2.1] at HE
        go_wp2
        go_quiet (fail)
        go_wp2
        go_quiet (fail)
        go_wp2
        go_roundg (gk - 1)
        case measure => omega
        case rel => exact ⟨j + 1, true, by omega, by omega, rfl, Lib.hid ((HP.out.drewN _).set1 hlt), Lib.hid ((HB.out.drewN _).setCell (.inl rfl) _), HE⟩
    · have j1 : ¬ (j : Int) < (s.size : Int) := by omega
      have HE := Lib.hid (show ([] : Bytes) = blankF false (rest s k) by rw [← HR.out, rest_end s j (by omega)]; cases nb <;> rfl)
      obtain rfl : j = s.size := by omega
      go_wp2
      go_quiet (fail)
      go_wp2
      go_end0
      exact ⟨rfl, by rw [← HE.out]; exact HP.out.drewN _, HB.out.drewN _⟩
def oopsV (e : Int) (k : Nat) : List PanicEntry := [{ v := .iface 124 (.agg #[.int .i64 e, .int .i64 (k : Int)]), recovered := false }]
set_option maxHeartbeats 1000000 in
theorem failCalls (B : Nat) (s : Str) (k : Nat) (e0 : Int) (w : World) (h : Ps B s k w) :
    Calls Tryz.prog 26 #[.pointer (some ⟨B, 0, none⟩), .int .i64 e0] w fun e w' => e = .panicked (oopsV e0 k) ∧ w = w' := by
  have c1 := h.c1
  clear h
  go_enter Tryz.func26, Tryz.ntmps26
  go_wp2
  exact ⟨rfl, rfl, rfl⟩
theorem prefix_take : ∀ (p l : Bytes), p.isPrefixOf l = (decide (p.length ≤ l.length) && (l.take p.length == p))
  | [], l => by simp
  | a :: p, [] => by simp
  | a :: p, b :: l => by
    rw [List.isPrefixOf_cons_cons, prefix_take p l, Bool.eq_iff_iff]
    simp only [List.length_cons, Nat.add_le_add_iff_right, List.take_succ_cons, Bool.and_eq_true, beq_iff_eq, decide_eq_true_eq, List.cons.injEq]
    constructor
    · rintro ⟨h1, h2, h3⟩; exact ⟨h2, h1.symm, h3⟩
    · rintro ⟨h2, h1, h3⟩; exact ⟨h1.symm, h2, h3⟩
set_option maxHeartbeats 1000000 in
theorem hasPrefix0 (s p : Str) (w : World) (_ : s.size ≤ 1099511627776) (_ : p.size ≤ 1099511627776) :
    Calls Tryz.prog 116 #[.string s, .string p] w fun e w' => e = .returned (.bool ((bytesOf p).isPrefixOf (bytesOf s))) ∧ w = w' := by
  rw [prefix_take, bytesOf_length, bytesOf_length]
  by_cases hle : p.size ≤ s.size
  · have i1 : (p.size : Int) ≤ (s.size : Int) := by omega
    have HE := Lib.hid (show ((bytesOf s).take p.size == bytesOf p) = ((s.extract 0 p.size).toList == p.toList) by
      rw [ByteArray.toList_eq, ByteArray.toList_eq]
      unfold bytesOf
      rw [Go.Lib.Pa.extract_upto_list s p.size])
    go_enter Tryz.func116, Tryz.ntmps116
    go_wp2
    go_ret
    exact ⟨ret_bool (by rw [HE.out]; simp [hle]), rfl⟩
  · have i1 : ¬ (p.size : Int) ≤ (s.size : Int) := by omega
    go_enter Tryz.func116, Tryz.ntmps116
    go_wp2
    go_ret
    exact ⟨ret_bool (by simp), rfl⟩
theorem hasPrefix (s p : Str) (w : World) (hs : s.size ≤ 1099511627776) (hp : p.size ≤ 1099511627776) :
    Calls Tryz.prog 88 #[.string s, .string p] w fun e w' => e = .returned (.bool ((bytesOf p).isPrefixOf (bytesOf s))) ∧ w = w' := by
  go_enter Tryz.func88, Tryz.ntmps88
  go_wp2_with (go_at_call 116; refine (hasPrefix0 s p _ hs hp).mono ?_; rintro e w' ⟨rfl, rfl⟩)
  go_ret
  exact ⟨rfl, rfl⟩
set_option maxRecDepth 100000 in
set_option maxHeartbeats 4000000 in
theorem eatCalls (B : Nat) (s : Str) (k : Nat) (sign : Str) (w : World) (hs : s.size ≤ 1099511627776) (hg : sign.size ≤ 1048576) (h : Ps B s k w) :
    Calls Tryz.prog 53 #[.pointer (some ⟨B, 0, none⟩), .string sign] w fun e w' => e = .returned (.bool (eatsF (bytesOf sign) (rest s k))) ∧ Ps B s (posF s (eatF (bytesOf sign) (rest s k))) w' ∧ But B w w' := by
  have KB := Lib.hid (blankCalls B s k w hs h)
  clear h
  unfold eatF
  have hr := rest_posF ((blankF_suffix false (rest s k)).trans (rest_suffix s k))
  unfold eatsF
  generalize hx : blankF false (rest s k) = r at *
  have HX := Lib.hid hx
  clear hx
  have hp := posF_le s r
  obtain ⟨j, hj⟩ : ∃ j, posF s r = j := ⟨_, rfl⟩
  rw [hj] at KB hp hr
  have KP := Lib.hid (fun W => hasPrefix (s.extract j s.size) sign W (by rw [ByteArray.size_extract]; omega) (by omega))
  have HE := Lib.hid (show bytesOf (s.extract j s.size) = r by rw [← hr]; exact Lib.extract_to_end s j)
  have HL := Lib.hid (show (bytesOf sign).isPrefixOf r = true → j + sign.size ≤ s.size from fun hh => by
    have h1 := List.IsPrefix.length_le (List.isPrefixOf_iff_prefix.1 hh)
    rw [bytesOf_length, ← hr, rest_length] at h1
    omega)
  have HD := Lib.hid (show r.drop (bytesOf sign).length = rest s (j + sign.size) by rw [bytesOf_length, ← hr, drop_rest])
  have HR := Lib.hid hr
  have HJ := Lib.hid hj
  clear hr hj
  rw [HE.out] at KP
  have j0 : (0 : Int) ≤ (j : Int) := by omega
  have j1 : (j : Int) ≤ (s.size : Int) := by omega
  have j5 : IntKind.i64.wrap (j : Int) = j := by rw [IntKind.wrap_i64]; omega
  cases hb : (bytesOf sign).isPrefixOf r
  · rw [hb] at KP
    clear hb
    go_enter Tryz.func53, Tryz.ntmps53
    go_wp2_with (go_at_call 25; refine (KB.out).mono ?_; rintro e w1 ⟨rfl, hp1, hb1⟩; have HP := Lib.hid hp1; have HB := Lib.hid hb1; have c0 := hp1.c0; have c1 := hp1.c1; clear hp1 hb1)
    go_quiet ((go_at_call 88; exact Calls.quiet_of_same ((KP.out _).mono fun _ _ ⟨a, b⟩ => ⟨a, b.symm⟩)))
    go_wp2
    go_ret
    exact ⟨rfl, by rw [HJ.out]; exact HP.out.drewN _, HB.out.drewN _⟩
  · have hl := HL.out hb
    rw [hb] at KP
    clear hb
    have i1 : (j : Int) + (sign.size : Int) ≤ (s.size : Int) := by omega
    go_enter Tryz.func53, Tryz.ntmps53
    go_wp2_with (go_at_call 25; refine (KB.out).mono ?_; rintro e w1 ⟨rfl, hp1, hb1⟩; have HP := Lib.hid hp1; have HB := Lib.hid hb1; have c0 := hp1.c0; have c1 := hp1.c1; have hf := hp1.f 1; clear hp1 hb1)
    go_quiet ((go_at_call 88; exact Calls.quiet_of_same ((KP.out _).mono fun _ _ ⟨a, b⟩ => ⟨a, b.symm⟩)))
    go_wp2
    go_ret
    refine ⟨rfl, ?_, (HB.out.drewN _).setCell (.inl rfl) _⟩
    rw [HD.out, posF_rest s hl]
    have := (HP.out.drewN nq).set hl
    simpa using this
end Go.Proofs.YtiiicochdidolaaGreat
namespace Go.Proofs.YtiiicochdidolaaGreat
open Go.RowKit
theorem named_a (t : Str) : named (⟨#[97]⟩ ++ t) = (decide (t.size ≤ 11) && (bytesOf t).all signB) := by
  have e : (⟨#[97]⟩ ++ t : ByteArray).data.toList = 97 :: bytesOf t := by
    show (⟨#[97]⟩ ++ t : ByteArray).data.toList = _
    rw [ByteArray.data_append]
    simp [bytesOf]
  unfold named
  rw [e]
  unfold nameL
  simp only [List.length_cons, bytesOf_length]
  rw [show smallB 97 = true from by decide]
  simp only [Bool.true_and]
  congr 1
  simp
theorem variableS_cons (s : Str) (h : 0 < s.size) (h2 : s.size ≤ 12) : variableS s = (upperB s[0] && (bytesOf (s.extract 1 s.size)).all signB) := by
  have e : bytesOf s = s[0] :: rest s 1 := by have := rest_cons s 0 h; simpa [rest] using this
  have e2 : bytesOf (s.extract 1 s.size) = rest s 1 := Lib.extract_to_end s 1
  unfold variableS
  rw [show s.data.toList = bytesOf s from rfl, e, e2]
  unfold varL
  have hl : (s[0] :: rest s 1).length = s.size := by rw [← e, bytesOf_length]
  rw [hl, decide_eq_true h2]
  rfl
set_option maxHeartbeats 2000000 in
theorem variableCalls (s : Str) (w : World) (hs : s.size ≤ 1099511627776) : Calls Tryz.prog 86 #[.string s] w fun e w' => e = .returned (.bool (variableS s)) ∧ w = w' := by
  by_cases h0 : s.size < 1
  · have i1 : (s.size : Int) < 1 := by omega
    have HE := Lib.hid (show variableS s = false by
      have : bytesOf s = [] := List.eq_nil_of_length_eq_zero (by rw [bytesOf_length]; omega)
      unfold variableS
      rw [show s.data.toList = bytesOf s from rfl, this]
      rfl)
    go_enter Tryz.func86, Tryz.ntmps86
    go_wp2
    go_ret
    exact ⟨ret_bool HE.out.symm, rfl⟩
  by_cases h12 : 12 < s.size
  · have i1 : ¬ (s.size : Int) < 1 := by omega
    have i2 : (12 : Int) < (s.size : Int) := by omega
    have HE := Lib.hid (show variableS s = false by
      unfold variableS varL
      rw [show s.data.toList = bytesOf s from rfl, bytesOf_length, decide_eq_false (by omega)]
      rfl)
    go_enter Tryz.func86, Tryz.ntmps86
    go_wp2
    go_ret
    exact ⟨ret_bool HE.out.symm, rfl⟩
  have i1 : ¬ (s.size : Int) < 1 := by omega
  have i2 : ¬ (12 : Int) < (s.size : Int) := by omega
  have i3 : (0 : Int) < (s.size : Int) := by omega
  have h1 : 0 < s.size := by omega
  have HV := Lib.hid (variableS_cons s h1 (by omega))
  by_cases hlo : s[0].toNat < 65
  · have i4 : (s[0].toNat : Int) < 65 := by omega
    have HE := Lib.hid (show variableS s = false by rw [HV.out]; simp [upperB]; omega)
    go_enter Tryz.func86, Tryz.ntmps86
    go_wp2
    go_ret
    exact ⟨ret_bool HE.out.symm, rfl⟩
  by_cases hhi : 90 < s[0].toNat
  · have i4 : ¬ (s[0].toNat : Int) < 65 := by omega
    have i5 : (90 : Int) < (s[0].toNat : Int) := by omega
    have HE := Lib.hid (show variableS s = false by rw [HV.out]; simp [upperB]; omega)
    go_enter Tryz.func86, Tryz.ntmps86
    go_wp2
    go_ret
    exact ⟨ret_bool HE.out.symm, rfl⟩
  have i4 : ¬ (s[0].toNat : Int) < 65 := by omega
  have i5 : ¬ (90 : Int) < (s[0].toNat : Int) := by omega
  have i6 : (1 : Int) ≤ (s.size : Int) := by omega
  have HE := Lib.hid (show variableS s = named (⟨#[97]⟩ ++ s.extract 1 s.size) by
    rw [HV.out, named_a, show upperB s[0] = true from decide_eq_true ⟨by omega, by omega⟩, ByteArray.size_extract, decide_eq_true (by omega)])
  go_enter Tryz.func86, Tryz.ntmps86
  go_wp2_with fail
  refine (namedCalls _ _).mono ?_
  rintro e w' ⟨rfl, rfl⟩
  go_wp2
  go_ret
  exact ⟨ret_bool HE.out.symm, rfl⟩
theorem ret_str {a b : Str} (h : a = b) : Ending.returned (.string a) = .returned (.string b) := by rw [h]
theorem mustCalls (B : Nat) (s : Str) (k : Nat) (sign : Str) (w : World) (hs : s.size ≤ 1099511627776) (hg : sign.size ≤ 1048576) (h : Ps B s k w) :
    Calls Tryz.prog 87 #[.pointer (some ⟨B, 0, none⟩), .string sign] w fun e w' => (e = if eatsF (bytesOf sign) (rest s k) then .returned (.tuple #[]) else .panicked (oopsV 2 (posF s (eatF (bytesOf sign) (rest s k))))) ∧ Ps B s (posF s (eatF (bytesOf sign) (rest s k))) w' ∧ But B w w' := by
  have K := Lib.hid (eatCalls B s k sign w hs hg h)
  clear h
  generalize posF s (eatF (bytesOf sign) (rest s k)) = j at *
  cases hb : eatsF (bytesOf sign) (rest s k)
  · rw [hb] at K
    clear hb
    go_enter Tryz.func87, Tryz.ntmps87
    go_wp2_with (first
      | (go_at_call 53; refine (K.out).mono ?_; rintro e w1 ⟨rfl, hp1, hb1⟩; have HP := Lib.hid hp1; have HB := Lib.hid hb1; clear hp1 hb1)
      | (go_at_call 26; refine (failCalls B s j 2 _ HP.out).mono ?_; rintro e w2 ⟨rfl, rfl⟩))
    exact ⟨rfl, rfl, HP.out, HB.out⟩
  · rw [hb] at K
    clear hb
    go_enter Tryz.func87, Tryz.ntmps87
    go_wp2_with (go_at_call 53; refine (K.out).mono ?_; rintro e w1 ⟨rfl, hp1, hb1⟩; have HP := Lib.hid hp1; have HB := Lib.hid hb1; clear hp1 hb1)
    go_end0
    exact ⟨rfl, HP.out, HB.out⟩
theorem takeWhile_cut (l : Bytes) (n : Nat) (h : (l.takeWhile signB).length = n) : l.takeWhile signB = l.take n ∧ (∀ i c, i < n → l[i]? = some c → signB c = true) ∧ (∀ c, l[n]? = some c → signB c = false) := by
  induction l generalizing n with
  | nil => simp at h; subst h; simp
  | cons a l ih =>
    rw [List.takeWhile_cons] at h ⊢
    by_cases ha : signB a = true
    · rw [if_pos ha] at h ⊢
      cases n with
      | zero => simp at h
      | succ n =>
        obtain ⟨h1, h2, h3⟩ := ih n (by simpa using h)
        refine ⟨by rw [List.take_succ_cons, ← h1], fun i c hi hc => ?_, fun c hc => h3 c (by simpa using hc)⟩
        cases i with
        | zero => simp at hc; subst hc; exact ha
        | succ i => exact h2 i c (by omega) (by simpa using hc)
    · rw [if_neg ha] at h ⊢
      simp at h
      subst h
      refine ⟨by simp, fun i c hi => by omega, fun c hc => ?_⟩
      simp at hc; subst hc; simpa using ha
theorem rest_get (s : Str) (k i : Nat) (h : k + i < s.size) : (rest s k)[i]? = some s[k + i] := by
  have h1 := rest_cons s (k + i) h
  have h2 : (rest s k)[i]? = (rest s (k + i))[0]? := by unfold rest; rw [List.getElem?_drop, List.getElem?_drop]; rfl
  rw [h2, h1]; rfl
theorem extract_bytes (s : Str) (a b : Nat) (h : a ≤ b) : bytesOf (s.extract a b) = (rest s a).take (b - a) := by
  unfold bytesOf rest bytesOf
  rw [ByteArray.data_extract]
  simp [List.take_drop, Nat.add_sub_cancel' h]
theorem str_ext {a b : Str} (h : bytesOf a = bytesOf b) : a = b := by
  cases a; cases b
  simpa [bytesOf, Array.toList_inj] using h
theorem named_strOf (l : Bytes) : named (strOf l) = nameL l := by simp [named, strOf]
theorem variableS_strOf (l : Bytes) : variableS (strOf l) = varL l := by simp [variableS, strOf]
set_option maxRecDepth 100000 in
set_option maxHeartbeats 4000000 in
theorem wordCalls0 (B : Nat) (s : Str) (k : Nat) (w : World) (hs : s.size ≤ 1099511627776) (h : Ps B s k w) (r0 t : Bytes) (e2 : Int) (hr : blankF false (rest s k) = r0) (ht : r0.takeWhile signB = t)
    (he : e2 = if t = [] then 2 else if nameL t = false ∧ varL t = false then 7 else 0) :
    Calls Tryz.prog 85 #[.pointer (some ⟨B, 0, none⟩)] w fun e w' => (e = if e2 = 0 then .returned (.string (strOf t)) else .panicked (oopsV e2 (posF s r0))) ∧ Ps B s (if e2 = 0 then posF s (r0.drop t.length) else posF s r0) w' ∧ But B w w' := by
  have KB := Lib.hid (blankCalls B s k w hs h)
  rw [hr] at KB
  have hsuf : r0 <:+ bytesOf s := hr ▸ (blankF_suffix false (rest s k)).trans (rest_suffix s k)
  have hrp := rest_posF hsuf
  have hp := posF_le s r0
  clear h hr
  obtain ⟨j0, hj⟩ : ∃ j, posF s r0 = j := ⟨_, rfl⟩
  rw [hj] at KB hp hrp ⊢
  clear hj hsuf
  subst hrp
  obtain ⟨n, hn⟩ : ∃ n, t.length = n := ⟨_, rfl⟩
  obtain ⟨ht1, ht2, ht3⟩ := takeWhile_cut (rest s j0) n (by rw [ht]; exact hn)
  rw [ht] at ht1
  have hnle : n ≤ s.size - j0 := by rw [← hn, ← ht, ← rest_length]; exact (List.takeWhile_prefix _).length_le
  have HS := Lib.hid (show ∀ i, (h : i < s.size) → j0 ≤ i → i < j0 + n → named (⟨#[97]⟩ ++ s.extract i (i + 1)) = true from fun i h h1 h2 => by
    have hg := ht2 (i - j0) s[i] (by omega) (by rw [rest_get s j0 (i - j0) (by omega)]; simp [Nat.add_sub_cancel' h1])
    rw [named_a, extract_bytes s i (i + 1) (by omega), rest_cons s i h, ByteArray.size_extract]
    simp [hg]; omega)
  have HN := Lib.hid (show (h : j0 + n < s.size) → named (⟨#[97]⟩ ++ s.extract (j0 + n) (j0 + n + 1)) = false from fun h => by
    have hg := ht3 s[j0 + n] (rest_get s j0 n h)
    rw [named_a, extract_bytes s (j0 + n) (j0 + n + 1) (by omega), rest_cons s (j0 + n) h]
    simp [hg])
  have HW := Lib.hid (show s.extract j0 (j0 + n) = strOf t from str_ext (by rw [extract_bytes s _ _ (by omega), ht1]; simp [strOf, bytesOf]))
  have HD := Lib.hid (show posF s ((rest s j0).drop t.length) = j0 + n by rw [hn, drop_rest, posF_rest s (by omega)])
  have HE := Lib.hid he
  clear ht ht1 ht2 ht3 he
  obtain ⟨j1, hj1⟩ : ∃ j1, j0 + n = j1 := ⟨_, rfl⟩
  have g1 : j0 ≤ j1 := by omega
  have g2 : j1 ≤ s.size := by omega
  rw [hj1] at HS HN HW HD
  clear hj1 hn hnle
  have hf0 : t = [] → (s.extract j0 j1).toList.isEmpty = true ∧ ((s.extract j0 j1).toList == []) = true := fun h => by
    rw [HW.out, h, ByteArray.toList_eq]; exact ⟨rfl, rfl⟩
  have hf1 : t ≠ [] → (s.extract j0 j1).toList.isEmpty = false ∧ ((s.extract j0 j1).toList == []) = false := fun h => by
    rw [HW.out, ByteArray.toList_eq]
    cases t with
    | nil => exact absurd rfl h
    | cons a t => exact ⟨rfl, rfl⟩
  have HF0 := Lib.hid hf0
  have HF1 := Lib.hid hf1
  have HNM := Lib.hid (show named (s.extract j0 j1) = nameL t by rw [HW.out, named_strOf])
  have HVR := Lib.hid (show variableS (s.extract j0 j1) = varL t by rw [HW.out, variableS_strOf])
  have hsz : (s.extract j0 j1).size ≤ 1099511627776 := by rw [ByteArray.size_extract]; omega
  have HSZ := Lib.hid hsz
  clear hf0 hf1 hsz
  have KV := Lib.hid (fun W => variableCalls (s.extract j0 j1) W HSZ.out)
  rw [HVR.out] at KV
  have KM := Lib.hid (fun W => namedCalls (s.extract j0 j1) W)
  rw [HNM.out] at KM
  have j00 : (0 : Int) ≤ (j0 : Int) := by omega
  have j01 : (j0 : Int) ≤ (j1 : Int) := by omega
  have j02 : (j1 : Int) ≤ (s.size : Int) := by omega
  have j03 : (0 : Int) ≤ (j1 : Int) := by omega
  go_enter Tryz.func85, Tryz.ntmps85
  go_wp2_with (go_at_call 25; refine (KB.out).mono ?_; rintro e w1 ⟨rfl, hp1, hb1⟩; have HP := Lib.hid hp1; have HB := Lib.hid hb1; have c0 := hp1.c0; have c1 := hp1.c1; have hf := hp1.f 1; clear hp1 hb1)
  go_loop [3] (fun v => ∃ j : Nat, j0 ≤ j ∧ j ≤ j1 ∧ v = .int .i64 j) (fun v => j1 - (intOf v).toNat)
  case atStart => exact ⟨j0, Nat.le_refl _, g1, rfl⟩
  case round =>
    obtain ⟨j, hja, hjb, rfl⟩ := hrel
    have k0 : (0 : Int) ≤ (j : Int) := by omega
    have k5 : IntKind.i64.wrap (j : Int) = j := by rw [IntKind.wrap_i64]; omega
    by_cases hlt : j < j1
    · have k1 : (j : Int) < (s.size : Int) := by omega
      have k2 : (j : Int) + 1 ≤ (s.size : Int) := by omega
      have KN := Lib.hid (HS.out j (by omega) hja hlt)
      go_wp2_with fail
      refine (namedCalls _ _).mono ?_
      rw [KN.out]
      rintro e w' ⟨rfl, rfl⟩
      go_wp2
      go_round
      case rel => exact ⟨j + 1, by omega, by omega, by go_num⟩
      case measure => simp [intOf]; omega
    · obtain rfl : j = j1 := by omega
      by_cases h1 : j < s.size
      · have k1 : (j : Int) < (s.size : Int) := by omega
        have k2 : (j : Int) + 1 ≤ (s.size : Int) := by omega
        have KN := Lib.hid (HN.out h1)
        go_wp2_with fail
        refine (namedCalls _ _).mono ?_
        rw [KN.out]
        rintro e w' ⟨rfl, rfl⟩
        go_wp2
        go_quiet (fail)
        by_cases ht : t = []
        · rw [if_pos ht] at HE
          obtain ⟨q1, q2⟩ := HF0.out ht
          have HE2 := HE.out
          clear ht HE
          subst HE2
          go_wp2_with (go_at_call 26; refine (failCalls B s j0 2 _ (HP.out.drewN _)).mono ?_; rintro e w2 ⟨rfl, rfl⟩)
          exact ⟨rfl, rfl, HP.out.drewN _, HB.out.drewN _⟩
        · rw [if_neg ht] at HE
          obtain ⟨q1, q2⟩ := HF1.out ht
          clear ht
          cases hn1 : nameL t
          · rw [hn1] at HE KM
            clear hn1
            cases hv1 : varL t
            · rw [hv1, if_pos (by simp)] at HE
              rw [hv1] at KV
              have HE2 := HE.out
              clear hv1 HE
              subst HE2
              go_wp2_with (first | (go_at_call 109; refine (KM.out _).mono ?_; rintro e w2 ⟨rfl, rfl⟩) | (go_at_call 86; refine (KV.out _).mono ?_; rintro e w2 ⟨rfl, rfl⟩) | (go_at_call 26; refine (failCalls B s j0 7 _ (HP.out.drewN _)).mono ?_; rintro e w2 ⟨rfl, rfl⟩))
              exact ⟨rfl, rfl, HP.out.drewN _, HB.out.drewN _⟩
            · rw [hv1, if_neg (by simp)] at HE
              rw [hv1] at KV
              have HE2 := HE.out
              clear hv1 HE
              subst HE2
              go_wp2_with (first | (go_at_call 109; refine (KM.out _).mono ?_; rintro e w2 ⟨rfl, rfl⟩) | (go_at_call 86; refine (KV.out _).mono ?_; rintro e w2 ⟨rfl, rfl⟩))
              go_ret
              exact ⟨by first | exact ret_str HW.out | (rw [if_pos rfl]; exact ret_str HW.out), by first | (rw [HD.out]; exact (HP.out.drewN _).set g2) | (rw [if_pos rfl, HD.out]; exact (HP.out.drewN _).set g2), (HB.out.drewN _).setCell (.inl rfl) _⟩
          · rw [hn1, if_neg (by simp)] at HE
            rw [hn1] at KM
            have HE2 := HE.out
            clear hn1 HE
            subst HE2
            go_wp2_with (go_at_call 109; refine (KM.out _).mono ?_; rintro e w2 ⟨rfl, rfl⟩)
            go_ret
            exact ⟨by first | exact ret_str HW.out | (rw [if_pos rfl]; exact ret_str HW.out), by first | (rw [HD.out]; exact (HP.out.drewN _).set g2) | (rw [if_pos rfl, HD.out]; exact (HP.out.drewN _).set g2), (HB.out.drewN _).setCell (.inl rfl) _⟩
      · have k1 : decide ((j : Int) < (s.size : Int)) = false := decide_eq_false (by omega)
        go_wp2
        go_quiet (fail)
        by_cases ht : t = []
        · rw [if_pos ht] at HE
          obtain ⟨q1, q2⟩ := HF0.out ht
          have HE2 := HE.out
          clear ht HE
          subst HE2
          go_wp2_with (go_at_call 26; refine (failCalls B s j0 2 _ (HP.out.drewN _)).mono ?_; rintro e w2 ⟨rfl, rfl⟩)
          exact ⟨rfl, rfl, HP.out.drewN _, HB.out.drewN _⟩
        · rw [if_neg ht] at HE
          obtain ⟨q1, q2⟩ := HF1.out ht
          clear ht
          cases hn1 : nameL t
          · rw [hn1] at HE KM
            clear hn1
            cases hv1 : varL t
            · rw [hv1, if_pos (by simp)] at HE
              rw [hv1] at KV
              have HE2 := HE.out
              clear hv1 HE
              subst HE2
              go_wp2_with (first | (go_at_call 109; refine (KM.out _).mono ?_; rintro e w2 ⟨rfl, rfl⟩) | (go_at_call 86; refine (KV.out _).mono ?_; rintro e w2 ⟨rfl, rfl⟩) | (go_at_call 26; refine (failCalls B s j0 7 _ (HP.out.drewN _)).mono ?_; rintro e w2 ⟨rfl, rfl⟩))
              exact ⟨rfl, rfl, HP.out.drewN _, HB.out.drewN _⟩
            · rw [hv1, if_neg (by simp)] at HE
              rw [hv1] at KV
              have HE2 := HE.out
              clear hv1 HE
              subst HE2
              go_wp2_with (first | (go_at_call 109; refine (KM.out _).mono ?_; rintro e w2 ⟨rfl, rfl⟩) | (go_at_call 86; refine (KV.out _).mono ?_; rintro e w2 ⟨rfl, rfl⟩))
              go_ret
              exact ⟨by first | exact ret_str HW.out | (rw [if_pos rfl]; exact ret_str HW.out), by first | (rw [HD.out]; exact (HP.out.drewN _).set g2) | (rw [if_pos rfl, HD.out]; exact (HP.out.drewN _).set g2), (HB.out.drewN _).setCell (.inl rfl) _⟩
          · rw [hn1, if_neg (by simp)] at HE
            rw [hn1] at KM
            have HE2 := HE.out
            clear hn1 HE
            subst HE2
            go_wp2_with (go_at_call 109; refine (KM.out _).mono ?_; rintro e w2 ⟨rfl, rfl⟩)
            go_ret
            exact ⟨by first | exact ret_str HW.out | (rw [if_pos rfl]; exact ret_str HW.out), by first | (rw [HD.out]; exact (HP.out.drewN _).set g2) | (rw [if_pos rfl, HD.out]; exact (HP.out.drewN _).set g2), (HB.out.drewN _).setCell (.inl rfl) _⟩
end Go.Proofs.YtiiicochdidolaaGreat
