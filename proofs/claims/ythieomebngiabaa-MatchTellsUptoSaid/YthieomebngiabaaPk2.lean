/-
  THE TEXTS Own, SynP, SynW1, SynW2, Names2, CheckP, CheckW1, one behind the other.
-/
import Derived.Test.YthieomebngiabaaPk1
import Derived.Maps.AppendAt
import Derived.Laws.AppendOwnNone
import Derived.Deep.RegionLaw
import Derived.Deep.QuietTactic
import Derived.BigQuiet
import Derived.Lib.PathFns
import Derived.Lib.IndexBytes
namespace Go.Proofs.Ythieomebngiabaa
open Go.RowKit
structure RowT (P : Program) (t e : TypeId) (k : Nat) : Prop where
  ht : P.underlying t = some (.slice e)
  ex : ∃ i z, P.info? e = some i ∧ i.zero = some z ∧ i.size = k ∧ i.bytes ≤ 128 ∧ z.cells.size = k
  pos : 0 < k
theorem RowT.mk' {P : Program} {t e : TypeId} {k b : Nat} {z : Value} (ht : P.underlying t = some (.slice e)) (hi : (P.info? e).map (fun i => (i.zero, i.size, i.bytes)) = some (some z, k, b)) (hb : b ≤ 128) (hz : z.cells.size = k) (hk : 0 < k) : RowT P t e k := by
  obtain ⟨i, h1, h2, h3, h4⟩ := info_parts hi
  exact ⟨ht, ⟨i, z, h1, h2, h3, by omega, hz⟩, hk⟩
def Owned {α : Type} (k : Nat) (R : Reader α) (B : Nat) (e : TypeId) (S : Nat → Prop) (w : World) (v : Value) (l : List α) : Prop :=
  ∃ css : List (List Value), css.length = l.length ∧ (∀ cs ∈ css, cs.length = k) ∧ w.ownsRow B e k v l.length css.flatten ∧
    ∀ (i : Nat) (cs : List Value) (x : α), css[i]? = some cs → l[i]? = some x → R (fun b => S b ∧ some b ≠ v.ownBlock) w cs x
theorem flatten_get {k : Nat} : ∀ (css : List (List Value)), (∀ cs ∈ css, cs.length = k) → ∀ i cs j u, css[i]? = some cs → cs[j]? = some u → css.flatten[i * k + j]? = some u
  | [], _, i, cs, j, u, h, _ => by simp at h
  | c :: css, hk, 0, cs, j, u, h, hu => by
    obtain rfl : c = cs := by simpa using h
    have hj : j < c.length := (List.getElem?_eq_some_iff.1 hu).1
    rw [List.flatten_cons, Nat.zero_mul, Nat.zero_add, List.getElem?_append_left hj]
    exact hu
  | c :: css, hk, i + 1, cs, j, u, h, hu => by
    have hc : c.length = k := hk c (by simp)
    rw [List.flatten_cons, List.getElem?_append_right (by rw [hc, Nat.add_mul]; omega), hc, show (i + 1) * k + j - k = i * k + j by rw [Nat.add_mul]; omega]
    exact flatten_get css (fun c hc => hk c (by simp [hc])) i cs j u (by simpa using h) hu
section
variable {α : Type} {k : Nat} {R : Reader α} {B : Nat} {e : TypeId} {S : Nat → Prop} {w w' : World} {v v' : Value} {l : List α}
theorem Owned.nil : Owned k R B e S w (.slice none 0 0) ([] : List α) :=
  ⟨[], rfl, by simp, World.ownsRow_nil w B e k, by simp⟩
theorem Owned.made {cur : Array Value} {cap : Nat} (hb : B ≤ w.heap.size) (hm : cap ≤ maxLen) (hs : cur.size = cap * k) :
    Owned k R B e S (w.alloc (.cells cur e)) (.slice (some ⟨w.heap.size, 0, none⟩) 0 cap) ([] : List α) :=
  ⟨[], rfl, by simp, World.ownsRow_made w cur cap hb hm hs, by simp⟩
theorem Owned.row_lt (h : Owned k R B e S w v l) {g : Nat} (hg : v.ownBlock = some g) : B ≤ g ∧ g < w.heap.size := by
  obtain ⟨css, _, _, ho, _⟩ := h
  exact ho.lt g hg
theorem Owned.keep (hR : Steady R) (h : Owned k R B e S w v l) (ha : Agree S w w') (hrow : ∀ g, v.ownBlock = some g → w'.heap[g]? = w.heap[g]?) : Owned k R B e S w' v l := by
  obtain ⟨css, h1, h2, ho, h3⟩ := h
  refine ⟨css, h1, h2, ⟨ho.1, ?_⟩, fun i cs x hc hx => hR.agree ⟨ha.1, fun b hb hlt => ha.2 b hb.1 hlt⟩ (h3 i cs x hc hx)⟩
  rcases ho.2 with hn | ⟨g, cap, cur, rfl, hb, hgg, rest⟩
  · exact .inl hn
  · exact .inr ⟨g, cap, cur, rfl, hb, by rw [hrow g rfl]; exact hgg, rest⟩
theorem Owned.below (hR : Steady R) (h : Owned k R B e S w v l) (hb : Below w.heap.size w w') : Owned k R B e S w' v l :=
  h.keep hR (Below.agree hb) fun g hg => hb.block g (h.row_lt hg).2
theorem Owned.alloc (hR : Steady R) (h : Owned k R B e S w v l) (o : Obj) : Owned k R B e S (w.alloc o) v l :=
  h.below hR ((Below.refl _ _).alloc (Nat.le_refl _) o)
theorem Owned.drew (hR : Steady R) (h : Owned k R B e S w v l) : Owned k R B e S w.drew v l := h.below hR (Below.refl _ _).drew
theorem Owned.setCell (hR : Steady R) (h : Owned k R B e S w v l) {p : Addr} (hp : ¬ S p.block) (ho : v.ownBlock ≠ some p.block) (u : Value) : Owned k R B e S (w.setCell p u) v l :=
  h.keep hR ⟨by simp [World.setCell], fun b hb _ => Below.heap_setCell _ _ _ _ (fun e => hp (by rw [← e]; exact hb))⟩ fun g hg => Below.heap_setCell _ _ _ _ (fun e => ho (by rw [hg, e]))
theorem Owned.read (hR : Steady R) (h : Owned k R B e S w v l) : RdSlice k R (fun b => S b ∨ B ≤ b) w v l := by
  obtain ⟨css, h1, h2, ho, h3⟩ := h
  have hmore : ∀ {cs x}, R (fun b => S b ∧ some b ≠ v.ownBlock) w cs x → R (fun b => S b ∨ B ≤ b) w cs x := fun hr => hR.more (fun b hb _ => .inl hb.1) hr
  rcases ho.2 with ⟨rfl, h0⟩ | ⟨g, cap, cur, rfl, hb, hgg, hnc, hcm, hcs, htake⟩
  · refine ⟨none, 0, by rw [h0], by omega, Nat.zero_le _, fun _ => rfl, fun i x hx => ?_⟩
    have := (List.getElem?_eq_some_iff.1 hx).1
    omega
  · refine ⟨some ⟨g, 0, none⟩, cap, rfl, hnc, hcm, (fun h => by cases h), fun i x hx => ?_⟩
    have hi := (List.getElem?_eq_some_iff.1 hx).1
    obtain ⟨cs, hcss⟩ : ∃ cs, css[i]? = some cs := ⟨_, List.getElem?_eq_getElem (by omega)⟩
    refine ⟨g, 0, cs, rfl, .inr hb, (Array.getElem?_eq_some_iff.1 hgg).1, h2 cs (List.mem_of_getElem? hcss), fun j u hu => ?_, hmore (h3 i cs x hcss hx)⟩
    have := ho.cells (g := g) rfl (i * k + j) u (flatten_get css h2 i cs j u hcss hu)
    have hadd : (⟨g, 0, none⟩ : Addr).add (i * k + j) = ⟨g, 0 + i * k + j, none⟩ := by unfold Addr.add; split <;> simp_all
    rwa [hadd] at this
theorem Owned.snoc (hR : Steady R) (h : Owned k R B e S w v l) {cs : List Value} {x : α} (hk : cs.length = k) (hr : R (fun b => S b ∧ some b ≠ v.ownBlock) w cs x)
    (hown : ∀ xs, w.ownsRow B e k v l.length xs → w'.ownsRow B e k v' (l.length + 1) (xs ++ cs)) (hg : w.grownBy w' v.ownBlock) (hat : v'.ownBlock = v.ownBlock ∨ v'.ownBlock = some w.heap.size) :
    Owned k R B e S w' v' (l ++ [x]) := by
  obtain ⟨css, h1, h2, ho, h3⟩ := h
  have hmore : ∀ {cs x}, R (fun b => S b ∧ some b ≠ v.ownBlock) w cs x → R (fun b => S b ∧ some b ≠ v'.ownBlock) w' cs x := fun {cs x} hr => by
    have r1 : R (fun b => (S b ∧ some b ≠ v.ownBlock) ∧ b < w.heap.size) w cs x := hR.more (fun b hb hlt => ⟨hb, hlt⟩) hr
    have r2 := hR.agree (w' := w') ⟨hg.size, fun b hb hlt => hg.block b hlt hb.1.2⟩ r1
    refine hR.more (fun b hb hlt => ⟨hb.1.1, fun e => ?_⟩) r2
    rcases hat with hat | hat
    · exact hb.1.2 (e.trans hat)
    · have : b = w.heap.size := Option.some.inj (e.trans hat)
      have := hb.2
      omega
  refine ⟨css ++ [cs], by simp [h1], ?_, ?_, ?_⟩
  · intro c hc
    rcases List.mem_append.1 hc with hc | hc
    · exact h2 c hc
    · obtain rfl := List.mem_singleton.1 hc; exact hk
  · have := hown _ ho
    simpa using this
  · intro i c y hc hy
    by_cases hi : i < css.length
    · rw [List.getElem?_append_left hi] at hc
      rw [List.getElem?_append_left (by omega)] at hy
      exact hmore (h3 i c y hc hy)
    · rw [List.getElem?_append_right (by omega)] at hc
      rw [List.getElem?_append_right (by omega)] at hy
      have hi0 : i - css.length = 0 := by
        have := (List.getElem?_eq_some_iff.1 hc).1
        simp at this
        omega
      rw [hi0] at hc
      rw [← h1, hi0] at hy
      obtain rfl : cs = c := by simpa using hc
      obtain rfl : x = y := by simpa using hy
      exact hmore hr
theorem Owned.append (hR : Steady R) (h : Owned k R B e S w v l) {css2 : List (List Value)} {l2 : List α} (hl : css2.length = l2.length) (hk : ∀ cs ∈ css2, cs.length = k)
    (hr : ∀ (i : Nat) (cs : List Value) (x : α), css2[i]? = some cs → l2[i]? = some x → R (fun b => S b ∧ some b ≠ v.ownBlock) w cs x)
    (hown : ∀ xs, w.ownsRow B e k v l.length xs → w'.ownsRow B e k v' (l.length + l2.length) (xs ++ css2.flatten)) (hg : w.grownBy w' v.ownBlock) (hat : v'.ownBlock = v.ownBlock ∨ v'.ownBlock = some w.heap.size) :
    Owned k R B e S w' v' (l ++ l2) := by
  obtain ⟨css, h1, h2, ho, h3⟩ := h
  have hmore : ∀ {cs x}, R (fun b => S b ∧ some b ≠ v.ownBlock) w cs x → R (fun b => S b ∧ some b ≠ v'.ownBlock) w' cs x := fun {cs x} hr => by
    have r1 : R (fun b => (S b ∧ some b ≠ v.ownBlock) ∧ b < w.heap.size) w cs x := hR.more (fun b hb hlt => ⟨hb, hlt⟩) hr
    have r2 := hR.agree (w' := w') ⟨hg.size, fun b hb hlt => hg.block b hlt hb.1.2⟩ r1
    refine hR.more (fun b hb hlt => ⟨hb.1.1, fun e => ?_⟩) r2
    rcases hat with hat | hat
    · exact hb.1.2 (e.trans hat)
    · have : b = w.heap.size := Option.some.inj (e.trans hat)
      have := hb.2
      omega
  refine ⟨css ++ css2, by simp [h1, hl], ?_, ?_, ?_⟩
  · intro c hc
    rcases List.mem_append.1 hc with hc | hc
    · exact h2 c hc
    · exact hk c hc
  · have := hown _ ho
    simpa using this
  · intro i c y hc hy
    by_cases hi : i < css.length
    · rw [List.getElem?_append_left hi] at hc
      rw [List.getElem?_append_left (by omega)] at hy
      exact hmore (h3 i c y hc hy)
    · rw [List.getElem?_append_right (by omega)] at hc
      rw [List.getElem?_append_right (by omega)] at hy
      rw [← h1] at hy
      exact hmore (hr _ c y hc hy)
end
section
variable {P : Program} {w : World} {α : Type} {k : Nat} {R : Reader α} {B : Nat} {e : TypeId} {S : Nat → Prop}
theorem run_append_one (hR : Steady R) {t ty : TypeId} (T : RowT P t e k) {v : Value} {l : List α} (hown : Owned k R B e S w v l) (bx c : Nat) (cs : Array Value) (te : TypeId) (fr : Nat × Nat) (x : α)
    (hblk : w.heap[bx]? = some (.cells cs te fr)) (hk : cs.size = k) (h1 : ∀ u ∈ cs.toList, u.oneCell' = true) (hr : R (fun b => S b ∧ some b ≠ v.ownBlock) w cs.toList x) (hlen : l.length < 1099511627776) (hbase : B ≤ w.heap.size) :
    ∃ v' w', (Builtin.append_ #[t, t] ty #[v, .slice (some ⟨bx, 0, none⟩) 1 c]).run P w = .ok v' w' ∧ Owned k R B e S w' v' (l ++ [x]) ∧ w.grownBy w' v.ownBlock ∧ (v'.ownBlock = v.ownBlock ∨ v'.ownBlock = some w.heap.size) := by
  obtain ⟨i, z, hi, hz, hsize, hby, hzs⟩ := T.ex
  have h := hown
  obtain ⟨css, _, _, ho, _⟩ := h
  obtain ⟨v', w', hrun, h2, h3, _, h5⟩ := run_append_own_at (P := P) w B t ty e i z k i.bytes T.ht hi hz hsize rfl hzs T.pos v l.length css.flatten ho ⟨bx, 0, none⟩ 1 c cs.toList (by simp [hk])
    (World.news_of_block hblk) h1 (by unfold maxLen; omega) (by have : (l.length + 1) * i.bytes ≤ 1099511627776 * 128 := Nat.mul_le_mul (by omega) hby; omega) hbase
  refine ⟨v', w', hrun, ?_, h3, h5⟩
  refine hown.snoc hR (by simpa using hk) hr (fun xs hxs => ?_) h3 h5
  have e1 : xs = css.flatten := by
    rcases hxs.2 with ⟨hv, hn⟩ | ⟨g, cap, cur, hv, hb, hg, _, _, _, ht⟩
    · have a1 : xs = [] := List.eq_nil_of_length_eq_zero (by rw [hxs.1, hn, Nat.zero_mul])
      have a2 : css.flatten = [] := List.eq_nil_of_length_eq_zero (by rw [ho.1, hn, Nat.zero_mul])
      rw [a1, a2]
    · rcases ho.2 with ⟨hv', hn⟩ | ⟨g', cap', cur', hv', hb', hg', _, _, _, ht'⟩
      · have a1 : xs = [] := List.eq_nil_of_length_eq_zero (by rw [hxs.1, hn, Nat.zero_mul])
        have a2 : css.flatten = [] := List.eq_nil_of_length_eq_zero (by rw [ho.1, hn, Nat.zero_mul])
        rw [a1, a2]
      · rw [hv] at hv'
        injection hv' with q1 q2 q3
        injection q1 with q1
        injection q1 with q1 _ _
        subst q1
        rw [hg] at hg'
        injection hg' with q
        injection q with q _ _
        subst q
        rw [← ht, ← ht']
  rw [e1]
  exact h2
theorem Owned.ext_row {v : Value} {n : Nat} {xs ys : List Value} (hx : w.ownsRow B e k v n xs) (hy : w.ownsRow B e k v n ys) : xs = ys := by
  rcases hx.2 with ⟨hv, hn⟩ | ⟨g, cap, cur, hv, hb, hg, _, _, _, ht⟩
  · have a1 : xs = [] := List.eq_nil_of_length_eq_zero (by rw [hx.1, hn, Nat.zero_mul])
    have a2 : ys = [] := List.eq_nil_of_length_eq_zero (by rw [hy.1, hn, Nat.zero_mul])
    rw [a1, a2]
  · rcases hy.2 with ⟨hv', hn⟩ | ⟨g', cap', cur', hv', hb', hg', _, _, _, ht'⟩
    · have a1 : xs = [] := List.eq_nil_of_length_eq_zero (by rw [hx.1, hn, Nat.zero_mul])
      have a2 : ys = [] := List.eq_nil_of_length_eq_zero (by rw [hy.1, hn, Nat.zero_mul])
      rw [a1, a2]
    · rw [hv] at hv'
      injection hv' with q1 q2 q3
      injection q1 with q1
      injection q1 with q1 _ _
      subst q1
      rw [hg] at hg'
      injection hg' with q
      injection q with q _ _
      subst q
      rw [← ht, ← ht']
theorem wpList_append_one {ops : Array Oper} {rest : List Oper} {o : Oper} {a : Act} {Q : Exit → Act → World → Prop} (hgd : o.guard = none) (s x : Operand) (t : TypeId)
    (ho : o.op = .call { callee := .builtin .append, args := #[s, x], argTypes := #[t, t] }) (hR : Steady R) (T : RowT P t e k) (v : Value) (l : List α) (hs : a.eval s = v) (hown : Owned k R B e S w v l)
    (bx c : Nat) (cs : Array Value) (te : TypeId) (fr : Nat × Nat) (y : α) (hx : a.eval x = .slice (some ⟨bx, 0, none⟩) 1 c) (hblk : w.heap[bx]? = some (.cells cs te fr)) (hk : cs.size = k) (h1 : ∀ u ∈ cs.toList, u.oneCell' = true)
    (hr : R (fun b => S b ∧ some b ≠ v.ownBlock) w cs.toList y) (hlen : l.length < 1099511627776) (hbase : B ≤ w.heap.size)
    (h : ∀ v' w', Owned k R B e S w' v' (l ++ [y]) → w.grownBy w' v.ownBlock → (v'.ownBlock = v.ownBlock ∨ v'.ownBlock = some w.heap.size) → wpList P ops Q rest (a.put o.dst v') w') : wpList P ops Q (o :: rest) a w :=
  wpList_plain hgd fun K hK => by
    obtain ⟨v', w', hrun, h2, h3, h4⟩ := run_append_one (P := P) (ty := o.type) hR T hown bx c cs te fr y hblk hk h1 hr hlen hbase
    unfold Oper.wp execOp
    simp only [ho, resolve, invoke, builtin, Sem.run_bind, Sem.run_pure, Result.andThen_ok, List.map_toArray, List.map_cons, List.map_nil, hs, hx, hrun]
    exact hK _ _ (h v' w' h2 h3 h4)
theorem step_append_one {ops : Array Oper} {o : Oper} {a : Act} {K : Act → World → Prop} {Q : Exit → Act → World → Prop} {E : Prop} (hgd : o.guard = none) (s x : Operand) (t : TypeId)
    (ho : o.op = .call { callee := .builtin .append, args := #[s, x], argTypes := #[t, t] }) (hR : Steady R) (T : RowT P t e k) (v : Value) (l : List α) (hs : a.eval s = v) (hown : Owned k R B e S w v l)
    (bx c : Nat) (cs : Array Value) (te : TypeId) (fr : Nat × Nat) (y : α) (hx : a.eval x = .slice (some ⟨bx, 0, none⟩) 1 c) (hblk : w.heap[bx]? = some (.cells cs te fr)) (hk : cs.size = k) (h1 : ∀ u ∈ cs.toList, u.oneCell' = true)
    (hr : R (fun b => S b ∧ some b ≠ v.ownBlock) w cs.toList y) (hlen : l.length < 1099511627776) (hbase : B ≤ w.heap.size)
    (h : ∀ v' w', Owned k R B e S w' v' (l ++ [y]) → w.grownBy w' v.ownBlock → (v'.ownBlock = v.ownBlock ∨ v'.ownBlock = some w.heap.size) → K (a.put o.dst v') w') :
    if Region.wanted o (yielded ops a.tmps) = true then Oper.wp P o a w K Q else E := by
  have hw : Region.wanted o (yielded ops a.tmps) = true := by simp [Region.wanted, hgd]
  rw [if_pos hw]
  obtain ⟨v', w', hrun, h2, h3, h4⟩ := run_append_one (P := P) (ty := o.type) hR T hown bx c cs te fr y hblk hk h1 hr hlen hbase
  unfold Oper.wp execOp
  simp only [ho, resolve, invoke, builtin, Sem.run_bind, Sem.run_pure, Result.andThen_ok, List.map_toArray, List.map_cons, List.map_nil, hs, hx, hrun]
  exact h v' w' h2 h3 h4
theorem run_append_many (hR : Steady R) (hcell : ∀ {S w cs x}, R S w cs x → ∀ u ∈ cs, u.oneCell' = true) {t ty : TypeId} (T : RowT P t e k) {v : Value} {l : List α} (hown : Owned k R B e S w v l) {v2 : Value} {l2 : List α}
    {S2 : Nat → Prop} (h2 : RdSlice k R S2 w v2 l2) (hm : ∀ cs x, R S2 w cs x → R (fun b => S b ∧ some b ≠ v.ownBlock) w cs x) (hlen : l.length + l2.length < 1099511627776) (hbase : B ≤ w.heap.size) :
    ∃ v' w', (Builtin.append_ #[t, t] ty #[v, v2]).run P w = .ok v' w' ∧ Owned k R B e S w' v' (l ++ l2) ∧ w.grownBy w' v.ownBlock ∧ (v'.ownBlock = v.ownBlock ∨ v'.ownBlock = some w.heap.size) := by
  obtain ⟨i, z, hi, hz, hsize, hby, hzs⟩ := T.ex
  have h := hown
  obtain ⟨css, _, _, ho, _⟩ := h
  obtain ⟨a2, c2, rfl, hl2, hc2, hnil, hel⟩ := h2
  cases a2 with
  | none =>
    have hl : l2 = [] := by
      cases l2 with
      | nil => rfl
      | cons x r => obtain ⟨b, off, cs, ha, _⟩ := hel 0 x rfl; cases ha
    subst hl
    obtain rfl := hnil rfl
    refine ⟨v, w, run_append_owned_none (P := P) (w := w) B t ty e i k T.ht hi v l.length css.flatten ho, by simpa using hown, ⟨rfl, rfl, rfl, Nat.le_refl _, fun _ _ _ => rfl⟩, .inl rfl⟩
  | some a2 =>
    have hpick : ∀ j, j < l2.length → ∃ b off cs, a2 = ⟨b, off, none⟩ ∧ cs.length = k ∧ (∀ q u, cs[q]? = some u → w.cell? ⟨b, off + j * k + q, none⟩ = some u) ∧ ∃ x, l2[j]? = some x ∧ R (fun b => S b ∧ some b ≠ v.ownBlock) w cs x := fun j hj => by
      obtain ⟨b, off, cs, ha, _, _, hk, hc, hr⟩ := hel j l2[j] (List.getElem?_eq_getElem hj)
      exact ⟨b, off, cs, Option.some.inj ha, hk, hc, _, List.getElem?_eq_getElem hj, hm _ _ hr⟩
    obtain ⟨css2, hlen2, hk2, hcells, hr2⟩ : ∃ css2 : List (List Value), css2.length = l2.length ∧ (∀ cs ∈ css2, cs.length = k) ∧ (∀ (j : Nat) (u : Value), css2.flatten[j]? = some u → w.cell? (a2.add j) = some u) ∧
        (∀ (j : Nat) (cs : List Value) (x : α), css2[j]? = some cs → l2[j]? = some x → R (fun b => S b ∧ some b ≠ v.ownBlock) w cs x) := by
      have main : ∀ n, n ≤ l2.length → ∃ css2 : List (List Value), css2.length = n ∧ (∀ cs ∈ css2, cs.length = k) ∧ (∀ (j : Nat) (u : Value), css2.flatten[j]? = some u → w.cell? (a2.add j) = some u) ∧
          (∀ (j : Nat) (cs : List Value) (x : α), css2[j]? = some cs → l2[j]? = some x → R (fun b => S b ∧ some b ≠ v.ownBlock) w cs x) := by
        intro n
        induction n with
        | zero => exact fun _ => ⟨[], rfl, by simp, by simp, by simp⟩
        | succ n ih =>
          intro hn
          obtain ⟨css2, g1, g2, g3, g4⟩ := ih (by omega)
          obtain ⟨b, off, cs, ha, hk, hc, x, hx, hr⟩ := hpick n (by omega)
          have hfl : css2.flatten.length = n * k := by
            rw [← g1]
            clear g3 g4 g1 ih
            induction css2 with
            | nil => simp
            | cons c r ih => rw [List.flatten_cons, List.length_append, ih (fun c hc => g2 c (by simp [hc])), g2 c (by simp), List.length_cons, Nat.add_mul]; omega
          refine ⟨css2 ++ [cs], by simp [g1], ?_, ?_, ?_⟩
          · intro c hcm
            rcases List.mem_append.1 hcm with hcm | hcm
            · exact g2 c hcm
            · obtain rfl := List.mem_singleton.1 hcm; exact hk
          · intro j u hu
            rw [List.flatten_append, List.flatten_singleton] at hu
            by_cases hj : j < css2.flatten.length
            · rw [List.getElem?_append_left hj] at hu; exact g3 j u hu
            · rw [List.getElem?_append_right (by omega)] at hu
              have := hc _ _ hu
              rw [ha]
              have hadd : (⟨b, off, none⟩ : Addr).add j = ⟨b, off + n * k + (j - css2.flatten.length), none⟩ := by
                unfold Addr.add
                split
                · rename_i h0
                  subst h0
                  simp only [Addr.mk.injEq, and_true, true_and]; omega
                · simp only [Addr.mk.injEq, and_true, true_and]; omega
              rw [hadd]
              exact this
          · intro j c y hcj hy
            by_cases hj : j < css2.length
            · rw [List.getElem?_append_left hj] at hcj; exact g4 j c y hcj hy
            · rw [List.getElem?_append_right (by omega)] at hcj
              have hj0 : j - css2.length = 0 := by
                have := (List.getElem?_eq_some_iff.1 hcj).1
                simp at this; omega
              rw [hj0] at hcj
              obtain rfl : cs = c := by simpa using hcj
              have : j = n := by omega
              subst this
              rw [hx] at hy
              obtain rfl := Option.some.inj hy
              exact hr
      exact main l2.length (Nat.le_refl _)
    have hone : ∀ u ∈ css2.flatten, u.oneCell' = true := by
      intro u hu
      obtain ⟨cs, hcs, huc⟩ := List.mem_flatten.1 hu
      obtain ⟨j, hj⟩ := List.mem_iff_getElem?.1 hcs
      have hjl : j < l2.length := by have := (List.getElem?_eq_some_iff.1 hj).1; omega
      exact hcell (hr2 j cs l2[j] hj (List.getElem?_eq_getElem hjl)) u huc
    have hfl : css2.flatten.length = l2.length * k := by
      rw [← hlen2]
      clear hcells hr2 hone hlen2
      induction css2 with
      | nil => simp
      | cons c r ih => rw [List.flatten_cons, List.length_append, ih (fun c hc => hk2 c (by simp [hc])), hk2 c (by simp), List.length_cons, Nat.add_mul]; omega
    obtain ⟨v', w', hrun, q2, q3, _, q5⟩ := run_append_own_at (P := P) w B t ty e i z k i.bytes T.ht hi hz hsize rfl hzs T.pos v l.length css.flatten ho a2 l2.length c2 css2.flatten hfl hcells hone
      (by unfold maxLen; omega) (by have : (l.length + l2.length) * i.bytes ≤ 1099511627776 * 128 := Nat.mul_le_mul (by omega) hby; omega) hbase
    exact ⟨v', w', hrun, hown.append hR hlen2 hk2 hr2 (fun xs hxs => by rw [Owned.ext_row hxs ho]; exact q2) q3 q5, q3, q5⟩
theorem wpList_append_many {ops : Array Oper} {rest : List Oper} {o : Oper} {a : Act} {Q : Exit → Act → World → Prop} (hgd : o.guard = none) (s x : Operand) (t : TypeId)
    (ho : o.op = .call { callee := .builtin .append, args := #[s, x], argTypes := #[t, t] }) (hR : Steady R) (hcell : ∀ {S w cs x}, R S w cs x → ∀ u ∈ cs, u.oneCell' = true) (T : RowT P t e k) (v : Value) (l : List α) (hs : a.eval s = v) (hown : Owned k R B e S w v l)
    (v2 : Value) (l2 : List α) (hx : a.eval x = v2) {S2 : Nat → Prop} (h2 : RdSlice k R S2 w v2 l2) (hm : ∀ cs x, R S2 w cs x → R (fun b => S b ∧ some b ≠ v.ownBlock) w cs x) (hlen : l.length + l2.length < 1099511627776) (hbase : B ≤ w.heap.size)
    (h : ∀ v' w', Owned k R B e S w' v' (l ++ l2) → w.grownBy w' v.ownBlock → (v'.ownBlock = v.ownBlock ∨ v'.ownBlock = some w.heap.size) → wpList P ops Q rest (a.put o.dst v') w') : wpList P ops Q (o :: rest) a w :=
  wpList_plain hgd fun K hK => by
    obtain ⟨v', w', hrun, q2, q3, q4⟩ := run_append_many (P := P) (ty := o.type) hR hcell T hown h2 hm hlen hbase
    unfold Oper.wp execOp
    simp only [ho, resolve, invoke, builtin, Sem.run_bind, Sem.run_pure, Result.andThen_ok, List.map_toArray, List.map_cons, List.map_nil, hs, hx, hrun]
    exact hK _ _ (h v' w' q2 q3 q4)
end
theorem Agree.drew {S : Nat → Prop} {w w' : World} (h : Agree S w w') : Agree S w w'.drew := h
theorem Agree.below {S : Nat → Prop} {w w1 w2 : World} (h : Agree S w w1) (hb : Below w1.heap.size w1 w2) : Agree S w w2 := h.trans (Below.agree hb)
abbrev New (w : World) : Nat → Prop := fun b => w.heap.size ≤ b
theorem kept_cell {W1 w1 w2 : World} {o : Obj} {r : Option Nat} {c : Nat} (hb1 : Below W1.heap.size W1 w1) (hg2 : (w1.alloc o).grownBy w2 r) (hc : c < W1.heap.size) (hr : r ≠ some c) (off : Nat) : w2.cell? ⟨c, off, none⟩ = W1.cell? ⟨c, off, none⟩ := by
  have hlt : c < w1.heap.size := Nat.lt_of_lt_of_le hc hb1.size
  rw [hg2.cell_far ⟨c, off, none⟩ (by simp; omega) (fun e => hr e.symm)]
  exact (World.cell?_of_block (Below.heap_alloc _ _ _ hlt)).trans (hb1.cell (p := ⟨c, off, none⟩) hc)
theorem RStr.one {S : Nat → Prop} {w : World} {cs : List Value} {x : Str} (h : RStr S w cs x) : ∀ u ∈ cs, u.oneCell' = true := by
  have h' : cs = [.string x] := h
  subst h'; simp [Value.oneCell']
theorem RFact.one {S : Nat → Prop} {w : World} {cs : List Value} {x : PFact} (h : RFact S w cs x) : ∀ u ∈ cs, u.oneCell' = true := by
  obtain ⟨av, rfl, hr⟩ := h
  obtain ⟨a, c, rfl, -⟩ := hr.form
  simp [Value.oneCell']
theorem rowStrs : RowT Try.prog 39 9 1 := RowT.mk' (b := 16) (z := .string ⟨#[]⟩) Try.underlying39 (by kernel_rfl) (by omega) rfl (by omega)
end Go.Proofs.Ythieomebngiabaa
namespace Go.Proofs.Ythieomebngiabaa
abbrev Bytes := List UInt8
abbrev Got (α : Type) := Except (Int × Bytes) (α × Bytes)
def Got.left {α : Type} : Got α → Bytes
  | .ok (_, r) => r
  | .error (_, r) => r
end Go.Proofs.Ythieomebngiabaa
namespace Go.Proofs.Ythieomebngiabaa
open Go.RowKit
def bytesOf (s : Str) : Bytes := s.data.toList
theorem bytesOf_length (s : Str) : (bytesOf s).length = s.size := by unfold bytesOf; rw [Array.length_toList]; rfl
def rest (s : Str) (k : Nat) : Bytes := (bytesOf s).drop k
theorem rest_cons (s : Str) (k : Nat) (h : k < s.size) : rest s k = s[k] :: rest s (k + 1) := drop_bytes s k h
section
variable {B : Nat} {s : Str} {k : Nat} {w w' : World}
end
abbrev But (B : Nat) (w w' : World) : Prop := w.grownBy w' (some B)
theorem But.refl (B : Nat) (w : World) : But B w w := World.grownBy.refl w _
theorem But.trans {B : Nat} {a b c : World} (h : But B a b) (k : But B b c) : But B a c :=
  ⟨h.os ▸ k.os ▸ rfl, h.tape ▸ k.tape ▸ rfl, h.output ▸ k.output ▸ rfl, Nat.le_trans h.size k.size, fun i hi hne => (k.block i (Nat.lt_of_lt_of_le hi h.size) hne).trans (h.block i hi hne)⟩
theorem But.drew {B : Nat} {a w : World} (h : But B a w) : But B a w.drew := ⟨h.os, h.tape, h.output, h.size, h.block⟩
theorem But.drewN {B : Nat} {a w : World} (h : But B a w) (n : Nat) : But B a (w.drewN n) := ⟨h.os, h.tape, h.output, h.size, h.block⟩
theorem But.alloc {B : Nat} {a w : World} (h : But B a w) (o : Obj) : But B a (w.alloc o) :=
  ⟨h.os, h.tape, h.output, Nat.le_trans h.size (by simp), fun i hi hne => (Below.heap_alloc w o i (Nat.lt_of_lt_of_le hi h.size)).trans (h.block i hi hne)⟩
theorem But.setCell {B : Nat} {a w : World} (h : But B a w) {p : Addr} (hp : p.block = B ∨ a.heap.size ≤ p.block) (u : Value) : But B a (w.setCell p u) :=
  ⟨h.os, h.tape, h.output, by simpa [World.setCell] using h.size, fun i hi hne => (Below.heap_setCell w p u i (by
    rintro rfl
    rcases hp with hp | hp
    · exact hne (by rw [hp])
    · omega)).trans (h.block i hi hne)⟩
theorem But.of_below {B : Nat} {a w : World} (h : Below a.heap.size a w) : But B a w := ⟨h.os, h.tape, h.output, h.size, fun i hi _ => h.block i hi⟩
theorem But.below {B : Nat} {a w w' : World} (h : But B a w) (k : Below w.heap.size w w') : But B a w' := h.trans (But.of_below k)
theorem But.cell {B : Nat} {a w : World} (h : But B a w) {c : Nat} (hc : c < a.heap.size) (hne : c ≠ B) (off : Nat) : w.cell? ⟨c, off, none⟩ = a.cell? ⟨c, off, none⟩ :=
  World.cell?_of_block (h.block c hc (fun e => hne (Option.some.inj e)))
theorem But.frozen {B : Nat} {a w : World} (h : But B a w) {c : Nat} (hc : c < a.heap.size) (hne : c ≠ B) (off : Nat) : w.frozen? ⟨c, off, none⟩ = a.frozen? ⟨c, off, none⟩ := by
  have := h.block c hc (fun e => hne (Option.some.inj e))
  simp [World.frozen?, this]
attribute [local go_sem ↓] Go.wp_at_zero Go.wp_at_succ
end Go.Proofs.Ythieomebngiabaa
namespace Go.Proofs.Ythieomebngiabaa
open Go.RowKit
theorem named_a (t : Str) : named (⟨#[97]⟩ ++ t) = (decide (t.size ≤ 11) && (bytesOf t).all signB) := by
  have e : (⟨#[97]⟩ ++ t : ByteArray).data.toList = 97 :: bytesOf t := by
    show (⟨#[97]⟩ ++ t : ByteArray).data.toList = _
    rw [ByteArray.data_append]
    simp [bytesOf]
  unfold named
  rw [e]
  unfold nameL
  simp only [List.length_cons, bytesOf_length]
  rw [show smallB 97 = true from by decide]
  simp only [Bool.true_and]
  congr 1
  simp
theorem variableS_cons (s : Str) (h : 0 < s.size) (h2 : s.size ≤ 12) : variableS s = (upperB s[0] && (bytesOf (s.extract 1 s.size)).all signB) := by
  have e : bytesOf s = s[0] :: rest s 1 := by have := rest_cons s 0 h; simpa [rest] using this
  have e2 : bytesOf (s.extract 1 s.size) = rest s 1 := Lib.extract_to_end s 1
  unfold variableS
  rw [show s.data.toList = bytesOf s from rfl, e, e2]
  unfold varL
  have hl : (s[0] :: rest s 1).length = s.size := by rw [← e, bytesOf_length]
  rw [hl, decide_eq_true h2]
  rfl
set_option maxHeartbeats 2000000 in
theorem variableCalls (s : Str) (w : World) (hs : s.size ≤ 1099511627776) : Calls Try.prog 52 #[.string s] w fun e w' => e = .returned (.bool (variableS s)) ∧ w = w' := by
  by_cases h0 : s.size < 1
  · have i1 : (s.size : Int) < 1 := by omega
    have HE := Lib.hid (show variableS s = false by
      have : bytesOf s = [] := List.eq_nil_of_length_eq_zero (by rw [bytesOf_length]; omega)
      unfold variableS
      rw [show s.data.toList = bytesOf s from rfl, this]
      rfl)
    go_enter Try.func52, Try.ntmps52
    go_wp2
    go_ret
    exact ⟨ret_bool HE.out.symm, rfl⟩
  by_cases h12 : 12 < s.size
  · have i1 : ¬ (s.size : Int) < 1 := by omega
    have i2 : (12 : Int) < (s.size : Int) := by omega
    have HE := Lib.hid (show variableS s = false by
      unfold variableS varL
      rw [show s.data.toList = bytesOf s from rfl, bytesOf_length, decide_eq_false (by omega)]
      rfl)
    go_enter Try.func52, Try.ntmps52
    go_wp2
    go_ret
    exact ⟨ret_bool HE.out.symm, rfl⟩
  have i1 : ¬ (s.size : Int) < 1 := by omega
  have i2 : ¬ (12 : Int) < (s.size : Int) := by omega
  have i3 : (0 : Int) < (s.size : Int) := by omega
  have h1 : 0 < s.size := by omega
  have HV := Lib.hid (variableS_cons s h1 (by omega))
  by_cases hlo : s[0].toNat < 65
  · have i4 : (s[0].toNat : Int) < 65 := by omega
    have HE := Lib.hid (show variableS s = false by rw [HV.out]; simp [upperB]; omega)
    go_enter Try.func52, Try.ntmps52
    go_wp2
    go_ret
    exact ⟨ret_bool HE.out.symm, rfl⟩
  by_cases hhi : 90 < s[0].toNat
  · have i4 : ¬ (s[0].toNat : Int) < 65 := by omega
    have i5 : (90 : Int) < (s[0].toNat : Int) := by omega
    have HE := Lib.hid (show variableS s = false by rw [HV.out]; simp [upperB]; omega)
    go_enter Try.func52, Try.ntmps52
    go_wp2
    go_ret
    exact ⟨ret_bool HE.out.symm, rfl⟩
  have i4 : ¬ (s[0].toNat : Int) < 65 := by omega
  have i5 : ¬ (90 : Int) < (s[0].toNat : Int) := by omega
  have i6 : (1 : Int) ≤ (s.size : Int) := by omega
  have HE := Lib.hid (show variableS s = named (⟨#[97]⟩ ++ s.extract 1 s.size) by
    rw [HV.out, named_a, show upperB s[0] = true from decide_eq_true ⟨by omega, by omega⟩, ByteArray.size_extract, decide_eq_true (by omega)])
  go_enter Try.func52, Try.ntmps52
  go_wp2_with fail
  refine (namedCalls _ _).mono ?_
  rintro e w' ⟨rfl, rfl⟩
  go_wp2
  go_ret
  exact ⟨ret_bool HE.out.symm, rfl⟩
end Go.Proofs.Ythieomebngiabaa
namespace Go.Proofs.Ythieomebngiabaa
open Go.RowKit
theorem drop_cons {α : Type} {x : α} {l : List α} {k : Nat} (h : l[k]? = some x) : l.drop k = x :: l.drop (k + 1) := by
  obtain ⟨hk, rfl⟩ := List.getElem?_eq_some_iff.1 h
  exact List.drop_eq_getElem_cons hk
theorem drop_end {α : Type} {l : List α} {k : Nat} (h : l.length ≤ k) : l.drop k = [] := List.drop_eq_nil_of_le h
theorem beq_toList (x y : Str) : (x.toList == y.toList) = decide (x = y) := by
  by_cases h : x = y
  · subst h; simp
  · rw [decide_eq_false h, beq_eq_false_iff_ne]; exact fun e => h (toList_inj e)
def idxFrom (x : Str) : Nat → List Str → Int
  | _, [] => -1
  | k, y :: l => if x = y then k else idxFrom x (k + 1) l
theorem idxFrom_ge (x : Str) : ∀ l k, decide (0 ≤ idxFrom x k l) = memS x l
  | [], k => by simp [idxFrom, memS]
  | y :: l, k => by
    by_cases h : x = y
    · simp [idxFrom, memS, h]
    · simp only [idxFrom, if_neg h, memS, decide_eq_false h, Bool.false_or]
      exact idxFrom_ge x l (k + 1)
set_option maxHeartbeats 400000 in
theorem indexStr {S : Nat → Prop} (v : Value) (l : List Str) (s : Str) (w : World) (h : RdStrs S w v l) (n1 : l.length ≤ 1125899906842624) :
    Calls Try.prog 53 #[v, .string s] w fun e w' => e = .returned (.int .i64 (idxFrom s 0 l)) ∧ w = w' := by
  obtain ⟨a, c, rfl, -, -, -⟩ := h.form
  have H := Lib.hid h
  clear h
  go_enter Try.func53, Try.ntmps53
  go_wp2
  go_loop [8, 5] (fun i _ => ∃ k : Nat, k ≤ l.length ∧ i = .int .i64 k ∧ idxFrom s 0 l = idxFrom s k (l.drop k)) (fun i _ => l.length - (intOf i).toNat)
  case atStart => exact ⟨0, Nat.zero_le _, rfl, rfl⟩
  case round =>
    obtain ⟨k, hk, rfl, hr⟩ := hrel
    have HR := Lib.hid hr
    clear hr
    by_cases hlt : k < l.length
    · obtain ⟨x, hx⟩ : ∃ x, l[k]? = some x := ⟨_, List.getElem?_eq_getElem hlt⟩
      obtain ⟨b, o, rfl, -, -, hc⟩ := H.out.at hx
      have HX := Lib.hid hx
      clear hx
      by_cases hz : s = x
      · have gz : (s.toList == x.toList) = true := by rw [hz]; simp
        have HZ := Lib.hid hz
        clear hz
        go_wp2
        go_ret
        refine ⟨ret_int ?_, rfl⟩
        rw [HR.out, drop_cons HX.out]
        simp [idxFrom, HZ.out]
      · have gz : (s.toList == x.toList) = false := by rw [beq_toList]; exact decide_eq_false hz
        have HZ := Lib.hid hz
        clear hz
        go_wp2
        go_round
        case rel =>
          refine ⟨k + 1, by omega, by go_num, ?_⟩
          rw [HR.out, drop_cons HX.out]
          simp [idxFrom, HZ.out]
        case measure => simp [intOf]; omega
    · go_wp2
      go_ret
      refine ⟨ret_int ?_, rfl⟩
      rw [HR.out, drop_end (by omega : l.length ≤ k)]
      rfl
theorem containsStr {S : Nat → Prop} (v : Value) (l : List Str) (s : Str) (w : World) (h : RdStrs S w v l) (n1 : l.length ≤ 1125899906842624) :
    Calls Try.prog 31 #[v, .string s] w fun e w' => e = .returned (.bool (memS s l)) ∧ w = w' := by
  have K := indexStr v l s w h n1
  have e := idxFrom_ge s l 0
  rw [← e]
  clear e
  generalize idxFrom s 0 l = r at *
  clear h
  go_enter Try.func31, Try.ntmps31
  go_wp2_with (go_at_call 53; refine K.mono ?_; rintro e w' ⟨rfl, rfl⟩)
  go_ret
  exact ⟨rfl, rfl⟩
theorem wrong1Calls (s : Str) (w : World) : Calls Try.prog 55 #[.string s] w fun e w' => e = .returned (.bool (!named s)) ∧ w = w' := by
  go_enter Try.func55, Try.ntmps55
  go_wp2_with (go_at_call 51; refine (namedCalls _ _).mono ?_; rintro e w' ⟨rfl, rfl⟩)
  go_ret
  exact ⟨rfl, rfl⟩
def badFrom : Nat → List Str → Int
  | _, [] => -1
  | k, y :: l => if named y then badFrom (k + 1) l else k
theorem badFrom_ge : ∀ l k, decide (0 ≤ badFrom k l) = !l.all named
  | [], k => by simp [badFrom]
  | y :: l, k => by
    cases h : named y
    · simp [badFrom, h]
    · simp only [badFrom, h, if_true, List.all_cons, Bool.true_and]
      exact badFrom_ge l (k + 1)
set_option maxHeartbeats 400000 in
theorem indexFuncStr {S : Nat → Prop} (v : Value) (l : List Str) (w : World) (h : RdStrs S w v l) (n1 : l.length ≤ 1125899906842624) :
    Calls Try.prog 65 #[v, .func (.func 55) #[] #[]] w fun e w' => e = .returned (.int .i64 (badFrom 0 l)) ∧ w = w' := by
  obtain ⟨a, c, rfl, -, -, -⟩ := h.form
  have H := Lib.hid h
  clear h
  go_enter Try.func65, Try.ntmps65
  go_wp2
  go_loop [8, 5] (fun i _ => ∃ k : Nat, k ≤ l.length ∧ i = .int .i64 k ∧ badFrom 0 l = badFrom k (l.drop k)) (fun i _ => l.length - (intOf i).toNat)
  case atStart => exact ⟨0, Nat.zero_le _, rfl, rfl⟩
  case round =>
    obtain ⟨k, hk, rfl, hr⟩ := hrel
    have HR := Lib.hid hr
    clear hr
    by_cases hlt : k < l.length
    · obtain ⟨x, hx⟩ : ∃ x, l[k]? = some x := ⟨_, List.getElem?_eq_getElem hlt⟩
      obtain ⟨b, o, rfl, -, -, hc⟩ := H.out.at hx
      have HX := Lib.hid hx
      clear hx
      cases hz : named x
      · have HZ := Lib.hid hz
        have K : Calls Try.prog 55 #[.string x] w fun e w' => e = .returned (.bool true) ∧ w = w' := by have := wrong1Calls x w; rwa [hz] at this
        clear hz
        go_wp2_with (go_at_call 55; refine K.mono ?_; rintro e w' ⟨rfl, rfl⟩)
        go_ret
        refine ⟨ret_int ?_, rfl⟩
        rw [HR.out, drop_cons HX.out]
        simp [badFrom, HZ.out]
      · have HZ := Lib.hid hz
        have K : Calls Try.prog 55 #[.string x] w fun e w' => e = .returned (.bool false) ∧ w = w' := by have := wrong1Calls x w; rwa [hz] at this
        clear hz
        go_wp2_with (go_at_call 55; refine K.mono ?_; rintro e w' ⟨rfl, rfl⟩)
        go_round
        case rel =>
          refine ⟨k + 1, by omega, by go_num, ?_⟩
          rw [HR.out, drop_cons HX.out]
          simp [badFrom, HZ.out]
        case measure => simp [intOf]; omega
    · go_wp2
      go_ret
      refine ⟨ret_int ?_, rfl⟩
      rw [HR.out, drop_end (by omega : l.length ≤ k)]
      rfl
theorem containsFuncStr {S : Nat → Prop} (v : Value) (l : List Str) (w : World) (h : RdStrs S w v l) (n1 : l.length ≤ 1125899906842624) :
    Calls Try.prog 54 #[v, .func (.func 55) #[] #[]] w fun e w' => e = .returned (.bool (!l.all named)) ∧ w = w' := by
  have K := indexFuncStr v l w h n1
  have e := badFrom_ge l 0
  rw [← e]
  clear e
  generalize badFrom 0 l = r at *
  clear h
  go_enter Try.func54, Try.ntmps54
  go_wp2_with (go_at_call 65; refine K.mono ?_; rintro e w' ⟨rfl, rfl⟩)
  go_ret
  exact ⟨rfl, rfl⟩
def wrongF (f : PFact) : Int := if !named f.name then 7 else if 4 < f.args.length then 5 else if f.args.all named then 0 else 7
set_option maxHeartbeats 1000000 in
theorem wrongFact {S : Nat → Prop} (f : PFact) (av : Value) (w : World) (h : RdStrs S w av f.args) (n1 : f.args.length ≤ 1125899906842624) :
    Calls Try.prog 32 #[.agg #[.string f.name, av]] w fun e w' => e = .returned (.int .i64 (wrongF f)) ∧ Fresh w w' := by
  have K : ∀ w', Agree (fun _ => True) w w' → Calls Try.prog 54 #[av, .func (.func 55) #[] #[]] w' fun e w'' => e = .returned (.bool (!f.args.all named)) ∧ w' = w'' :=
    fun w' ha => containsFuncStr av f.args w' ((h.more RStr.steady (fun _ _ _ => trivial)).agree RStr.steady ha) n1
  obtain ⟨a, c, rfl, -, -, -⟩ := h.form
  have e : wrongF f = if !named f.name then 7 else if 4 < f.args.length then 5 else if f.args.all named then 0 else 7 := rfl
  rw [e]
  clear e h
  cases h1 : named f.name
  · have K1 : ∀ w', Calls Try.prog 51 #[.string f.name] w' fun e w'' => e = .returned (.bool false) ∧ w' = w'' := fun w' => by have := namedCalls f.name w'; rwa [h1] at this
    clear h1 K
    go_enter Try.func32, Try.ntmps32
    go_wp2_with (go_at_call 51; refine (K1 _).mono ?_; rintro e w' ⟨rfl, rfl⟩)
    go_ret
    exact ⟨rfl, (Fresh.refl _).alloc _⟩
  · have K1 : ∀ w', Calls Try.prog 51 #[.string f.name] w' fun e w'' => e = .returned (.bool true) ∧ w' = w'' := fun w' => by have := namedCalls f.name w'; rwa [h1] at this
    clear h1
    by_cases h4 : 4 < f.args.length
    · rw [if_neg (by simp), if_pos h4]
      clear K
      go_enter Try.func32, Try.ntmps32
      go_wp2_with (go_at_call 51; refine (K1 _).mono ?_; rintro e w' ⟨rfl, rfl⟩)
      go_ret
      exact ⟨rfl, (Fresh.refl _).alloc _⟩
    · rw [if_neg (by simp), if_neg h4]
      cases h5 : f.args.all named
      · rw [h5] at K
        have HK := Lib.hid K
        clear K h5
        go_enter Try.func32, Try.ntmps32
        go_wp2_with (first | (go_at_call 51; refine (K1 _).mono ?_; rintro e w' ⟨rfl, rfl⟩) | (go_at_call 54; refine (HK.out _ ((Agree.refl _ _).alloc _)).mono ?_; rintro e w' ⟨rfl, rfl⟩))
        go_ret
        exact ⟨rfl, (Fresh.refl _).alloc _⟩
      · rw [h5] at K
        have HK := Lib.hid K
        clear K h5
        go_enter Try.func32, Try.ntmps32
        go_wp2_with (first | (go_at_call 51; refine (K1 _).mono ?_; rintro e w' ⟨rfl, rfl⟩) | (go_at_call 54; refine (HK.out _ ((Agree.refl _ _).alloc _)).mono ?_; rintro e w' ⟨rfl, rfl⟩))
        go_ret
        exact ⟨rfl, (Fresh.refl _).alloc _⟩
end Go.Proofs.Ythieomebngiabaa
namespace Go.Proofs.Ythieomebngiabaa
def termOk (t : PTerm) : Bool := if t.var then variableS t.name else named t.name
def atomBad (a : PAtom) : Int := if named a.name = false then 7 else if 4 < a.terms.length then 5 else if a.terms.all termOk then 0 else 7
def varsF : List Str → List PTerm → List Str
  | acc, [] => acc
  | acc, t :: l => varsF (if t.var && !memS t.name acc then acc ++ [t.name] else acc) l
def varsOf (a : PAtom) : List Str := varsF [] a.terms
def heldOf (l : List PAtom) : List Str := l.flatMap fun a => if a.neg then [] else varsOf a
def firstBad : List PAtom → Int
  | [] => 0
  | a :: l => if atomBad a ≠ 0 then atomBad a else firstBad l
def freeIn (held : List Str) (l : List PAtom) : Bool := l.all fun a => (varsOf a).all fun v => memS v held
def bodyBad (l : List PAtom) : Int := if 5 < l.length then 5 else if firstBad l ≠ 0 then firstBad l else if freeIn (heldOf l) l then 0 else 9
theorem varsF_snoc (t : PTerm) : ∀ (l : List PTerm) (acc : List Str), varsF acc (l ++ [t]) = if t.var && !memS t.name (varsF acc l) then varsF acc l ++ [t.name] else varsF acc l
  | [], acc => rfl
  | x :: l, acc => by
    rw [List.cons_append, varsF, varsF]
    exact varsF_snoc t l _
theorem varsF_length : ∀ (l : List PTerm) (acc : List Str), (varsF acc l).length ≤ acc.length + l.length
  | [], acc => by simp [varsF]
  | t :: l, acc => by
    have := varsF_length l (if t.var && !memS t.name acc then acc ++ [t.name] else acc)
    rw [varsF]
    split at this
    · simp only [List.length_append, List.length_cons, List.length_nil] at this
      rw [if_pos (by assumption)]
      simp only [List.length_cons]; omega
    · rw [if_neg (by assumption)]
      simp only [List.length_cons]; omega
theorem heldOf_snoc (l : List PAtom) (a : PAtom) : heldOf (l ++ [a]) = if a.neg then heldOf l else heldOf l ++ varsOf a := by
  unfold heldOf
  rw [List.flatMap_append]
  cases h : a.neg <;> simp [h]
theorem firstBad_take (l : List PAtom) (k : Nat) (h : ∀ i a, i < k → l[i]? = some a → atomBad a = 0) : firstBad l = firstBad (l.drop k) := by
  induction k generalizing l with
  | zero => rfl
  | succ k ih =>
    cases l with
    | nil => rfl
    | cons a l =>
      have h0 := h 0 a (by omega) rfl
      rw [firstBad, if_neg (by simpa using h0), List.drop_succ_cons]
      exact ih l fun i b hi hb => h (i + 1) b (by omega) (by simpa using hb)
end Go.Proofs.Ythieomebngiabaa
namespace Go.Proofs.Ythieomebngiabaa
open Go.RowKit
theorem RdTerms.at {S : Nat → Prop} {w : World} {a : Option Addr} {n cap : Nat} {l : List PTerm} (h : RdTerms S w (.slice a n cap) l) {i : Nat} {x : PTerm} (hx : l[i]? = some x) :
    ∃ b off, a = some ⟨b, off, none⟩ ∧ S b ∧ b < w.heap.size ∧ w.cell? ⟨b, off + i * 2, none⟩ = some (.bool x.var) ∧ w.cell? ⟨b, off + i * 2 + 1, none⟩ = some (.string x.name) := by
  obtain ⟨a', cap', hv, _, _, _, h3⟩ := h
  obtain ⟨b, off, cs, ha, hS, hb, hk, hc, hr⟩ := h3 i x hx
  injection hv with e1 e2 e3
  subst e1
  have hr' : cs = [.bool x.var, .string x.name] := hr
  subst hr'
  exact ⟨b, off, ha, hS, hb, by simpa using hc 0 _ rfl, by simpa using hc 1 _ rfl⟩
theorem RdAtoms.at {S : Nat → Prop} {w : World} {a : Option Addr} {n cap : Nat} {l : List PAtom} (h : RdAtoms S w (.slice a n cap) l) {i : Nat} {x : PAtom} (hx : l[i]? = some x) :
    ∃ b off tv, a = some ⟨b, off, none⟩ ∧ S b ∧ b < w.heap.size ∧ w.cell? ⟨b, off + i * 3, none⟩ = some (.bool x.neg) ∧ w.cell? ⟨b, off + i * 3 + 1, none⟩ = some (.string x.name) ∧ w.cell? ⟨b, off + i * 3 + 2, none⟩ = some tv ∧ RdTerms S w tv x.terms := by
  obtain ⟨a', cap', hv, _, _, _, h3⟩ := h
  obtain ⟨b, off, cs, ha, hS, hb, hk, hc, tv, hr, hq⟩ := h3 i x hx
  injection hv with e1 e2 e3
  subst e1
  subst hr
  exact ⟨b, off, tv, ha, hS, hb, by simpa using hc 0 _ rfl, by simpa using hc 1 _ rfl, by simpa using hc 2 _ rfl, hq⟩
theorem RdRules.at {S : Nat → Prop} {w : World} {a : Option Addr} {n cap : Nat} {l : List PRule} (h : RdRules S w (.slice a n cap) l) {i : Nat} {x : PRule} (hx : l[i]? = some x) :
    ∃ b off tv bv, a = some ⟨b, off, none⟩ ∧ S b ∧ b < w.heap.size ∧ w.cell? ⟨b, off + i * 4, none⟩ = some (.bool x.head.neg) ∧ w.cell? ⟨b, off + i * 4 + 1, none⟩ = some (.string x.head.name) ∧ w.cell? ⟨b, off + i * 4 + 2, none⟩ = some tv ∧ w.cell? ⟨b, off + i * 4 + 3, none⟩ = some bv ∧ RdTerms S w tv x.head.terms ∧ RdAtoms S w bv x.body := by
  obtain ⟨a', cap', hv, _, _, _, h3⟩ := h
  obtain ⟨b, off, cs, ha, hS, hb, hk, hc, tv, bv, hr, hq, hq2⟩ := h3 i x hx
  injection hv with e1 e2 e3
  subst e1
  subst hr
  exact ⟨b, off, tv, bv, ha, hS, hb, by simpa using hc 0 _ rfl, by simpa using hc 1 _ rfl, by simpa using hc 2 _ rfl, by simpa using hc 3 _ rfl, hq, hq2⟩
theorem RdTerms.up {S : Nat → Prop} {w w' : World} {v : Value} {l : List PTerm} (h : RdTerms S w v l) (hb : Below w.heap.size w w') : RdTerms (fun _ => True) w' v l := (h.more RTerm.steady (fun _ _ _ => trivial)).agree RTerm.steady (Below.agree hb)
theorem RdAtoms.up {S : Nat → Prop} {w w' : World} {v : Value} {l : List PAtom} (h : RdAtoms S w v l) (hb : Below w.heap.size w w') : RdAtoms (fun _ => True) w' v l := (h.more RAtom.steady (fun _ _ _ => trivial)).agree RAtom.steady (Below.agree hb)
theorem RdRules.up {S : Nat → Prop} {w w' : World} {v : Value} {l : List PRule} (h : RdRules S w v l) (hb : Below w.heap.size w w') : RdRules (fun _ => True) w' v l := (h.more RRule.steady (fun _ _ _ => trivial)).agree RRule.steady (Below.agree hb)
theorem RdStrs.up {S : Nat → Prop} {w w' : World} {v : Value} {l : List Str} (h : RdStrs S w v l) (hb : Below w.heap.size w w') : RdStrs (fun _ => True) w' v l := (h.more RStr.steady (fun _ _ _ => trivial)).agree RStr.steady (Below.agree hb)
theorem atomBad_ok {a : PAtom} (h1 : named a.name = true) (h2 : ¬ 4 < a.terms.length) (h : ∀ t ∈ a.terms, termOk t = true) : atomBad a = 0 := by
  unfold atomBad
  rw [h1, if_neg (by simp), if_neg h2, if_pos (List.all_eq_true.2 h)]
theorem atomBad_term {a : PAtom} (h1 : named a.name = true) (h2 : ¬ 4 < a.terms.length) {t : PTerm} (ht : t ∈ a.terms) (h : termOk t = false) : atomBad a = 7 := by
  unfold atomBad
  rw [h1, if_neg (by simp), if_neg h2, if_neg (fun hh => by have := List.all_eq_true.1 hh t ht; rw [h] at this; cases this)]
set_option maxRecDepth 100000 in
set_option maxHeartbeats 4000000 in
theorem checkAtom {S : Nat → Prop} (b o : Nat) (x : PAtom) (tv : Value) (w : World) (c0 : w.cell? ⟨b, o + 1, none⟩ = some (.string x.name)) (c1 : w.cell? ⟨b, o + 2, none⟩ = some tv) (h : RdTerms S w tv x.terms)
    (n1 : x.terms.length ≤ 1073741824) (n2 : ∀ t ∈ x.terms, t.name.size ≤ 1099511627776) :
    Calls Try.prog 29 #[.pointer (some ⟨b, o, none⟩)] w fun e w' => e = .returned (.int .i64 (atomBad x)) ∧ Below w.heap.size w w' := by
  obtain ⟨a, c, rfl, -, -, -⟩ := id h.form
  have H := Lib.hid h
  have N2 := Lib.hid n2
  clear h n2
  have KN := Lib.hid (fun W => namedCalls x.name W)
  cases hn : named x.name
  · rw [hn] at KN
    have HE := Lib.hid (show atomBad x = 7 by unfold atomBad; rw [hn]; rfl)
    clear hn
    go_enter Try.func29, Try.ntmps29
    go_wp2_with (go_at_call 51; refine (KN.out _).mono ?_; rintro e w' ⟨rfl, rfl⟩)
    go_ret
    exact ⟨ret_int HE.out.symm, Below.refl _ _⟩
  rw [hn] at KN
  have HN := Lib.hid hn
  clear hn
  by_cases h4 : 4 < x.terms.length
  · have i4 : (4 : Int) < (x.terms.length : Int) := by omega
    have HE := Lib.hid (show atomBad x = 5 by unfold atomBad; rw [HN.out, if_neg (by simp), if_pos h4])
    go_enter Try.func29, Try.ntmps29
    go_wp2_with (go_at_call 51; refine (KN.out _).mono ?_; rintro e w' ⟨rfl, rfl⟩)
    go_ret
    exact ⟨ret_int HE.out.symm, Below.refl _ _⟩
  have i4 : ¬ (4 : Int) < (x.terms.length : Int) := by omega
  go_enter Try.func29, Try.ntmps29
  go_wp2_with (go_at_call 51; refine (KN.out _).mono ?_; rintro e w' ⟨rfl, rfl⟩)
  go_loopw [22] (fun i wr => ∃ k : Nat, k ≤ x.terms.length ∧ i = .int .i64 k ∧ Hid (∀ t ∈ x.terms.take k, termOk t = true) ∧ Hid (Below w.heap.size w wr)) (fun i _ => x.terms.length - (intOf i).toNat)
  case atStart => exact ⟨0, Nat.zero_le _, rfl, Lib.hid (by simp), Below.refl _ _⟩
  case round =>
    obtain ⟨k, hk, rfl, HO, HB⟩ := hrel
    by_cases hlt : k < x.terms.length
    · obtain ⟨t, ht⟩ : ∃ t, x.terms[k]? = some t := ⟨_, List.getElem?_eq_getElem hlt⟩
      obtain ⟨b1, o1, rfl, -, -, d0, d1⟩ := RdTerms.at (H.out.up HB.out) ht
      have hsz := HB.out.size
      have hbb := HB.out.alloc hsz (.cells #[.bool t.var, .string t.name] 67)
      have HB1 := Lib.hid hbb
      have HS1 := Lib.hid (show termOk t = true → ∀ y ∈ x.terms.take (k + 1), termOk y = true from fun hy y hm => by
        rw [List.take_add_one, ht] at hm
        rcases List.mem_append.1 hm with hm | hm
        · exact HO.out y hm
        · obtain rfl : y = t := by simpa using hm
          exact hy)
      have HBD := Lib.hid (show termOk t = false → atomBad x = 7 from fun hy => atomBad_term HN.out h4 (List.mem_of_getElem? ht) hy)
      have KV := Lib.hid (fun W => variableCalls t.name W (N2.out t (List.mem_of_getElem? ht)))
      have KM := Lib.hid (fun W => namedCalls t.name W)
      clear ht hbb
      have hto : termOk t = if t.var then variableS t.name else named t.name := rfl
      rw [hto] at HS1 HBD
      clear hto
      cases hv : t.var
      all_goals
        rw [hv] at HS1 HBD d0 HB1
        clear hv
      · have hm : named t.name = true ∨ named t.name = false := by cases named t.name <;> simp
        rcases hm with hm | hm
        · rw [hm] at KM
          have HO1 := Lib.hid (HS1.out (by simpa using hm))
          clear hm HS1 HBD
          go_wp2_with (go_at_call 51; refine (KM.out _).mono ?_; rintro e w' ⟨rfl, rfl⟩)
          go_roundw
          case rel => exact ⟨k + 1, by omega, by go_num, HO1, HB1⟩
          case measure => simp [intOf]; omega
        · rw [hm] at KM
          have HE := Lib.hid (HBD.out (by simpa using hm))
          clear hm HS1 HBD
          go_wp2_with (go_at_call 51; refine (KM.out _).mono ?_; rintro e w' ⟨rfl, rfl⟩)
          go_ret
          exact ⟨ret_int HE.out.symm, HB1.out⟩
      · have hm : variableS t.name = true ∨ variableS t.name = false := by cases variableS t.name <;> simp
        rcases hm with hm | hm
        · rw [hm] at KV
          have HO1 := Lib.hid (HS1.out (by simpa using hm))
          clear hm HS1 HBD
          go_wp2_with (go_at_call 52; refine (KV.out _).mono ?_; rintro e w' ⟨rfl, rfl⟩)
          go_roundw
          case rel => exact ⟨k + 1, by omega, by go_num, HO1, HB1⟩
          case measure => simp [intOf]; omega
        · rw [hm] at KV
          have HE := Lib.hid (HBD.out (by simpa using hm))
          clear hm HS1 HBD
          go_wp2_with (go_at_call 52; refine (KV.out _).mono ?_; rintro e w' ⟨rfl, rfl⟩)
          go_ret
          exact ⟨ret_int HE.out.symm, HB1.out⟩
    · have HE := Lib.hid (show atomBad x = 0 from atomBad_ok HN.out h4 (by have := HO.out; rwa [List.take_of_length_le (by omega)] at this))
      go_wp2
      go_ret
      exact ⟨ret_int HE.out.symm, HB.out⟩
set_option maxRecDepth 100000 in
set_option maxHeartbeats 4000000 in
theorem varsCalls {S : Nat → Prop} (x : PAtom) (tv : Value) (w : World) (h : RdTerms S w tv x.terms) (n1 : x.terms.length ≤ 1073741824) :
    Calls Try.prog 30 #[.agg #[.bool x.neg, .string x.name, tv]] w fun e w' => (∃ v, e = .returned v ∧ Owned 1 RStr w.heap.size 9 (fun _ => False) w' v (varsOf x)) ∧ Below w.heap.size w w' := by
  obtain ⟨a, c, rfl, -, -, -⟩ := id h.form
  have H := Lib.hid h
  clear h
  go_enter Try.func30, Try.ntmps30
  go_wp2
  go_loopw [9, 3] (fun i v wr => ∃ k : Nat, k ≤ x.terms.length ∧ i = .int .i64 k ∧ Hid (Owned 1 RStr w.heap.size 9 (fun _ => False) wr v (varsF [] (x.terms.take k))) ∧ Hid (Below w.heap.size w wr)) (fun i _ _ => x.terms.length - (intOf i).toNat)
  case atStart => exact ⟨0, Nat.zero_le _, rfl, Lib.hid Owned.nil, Lib.hid ((Below.refl _ _).alloc (Nat.le_refl _) _)⟩
  case round =>
    obtain ⟨k, hk, rfl, HO, HB⟩ := hrel
    by_cases hlt : k < x.terms.length
    · obtain ⟨t, ht⟩ : ∃ t, x.terms[k]? = some t := ⟨_, List.getElem?_eq_getElem hlt⟩
      obtain ⟨b1, o1, rfl, -, -, d0, d1⟩ := RdTerms.at (H.out.up HB.out) ht
      have hsz := HB.out.size
      have HT := Lib.hid (show varsF [] (x.terms.take (k + 1)) = if t.var && !memS t.name (varsF [] (x.terms.take k)) then varsF [] (x.terms.take k) ++ [t.name] else varsF [] (x.terms.take k) by rw [List.take_add_one, ht]; exact varsF_snoc t _ _)
      have HLL := Lib.hid (show (varsF [] (x.terms.take k)).length ≤ x.terms.length by have := varsF_length (x.terms.take k) []; rw [List.length_take] at this; simp at this; omega)
      generalize varsF [] (x.terms.take k) = vs at *
      obtain ⟨va, vc, rfl, -, -, -⟩ := id (HO.out.read RStr.steady).form
      have KC := Lib.hid (containsStr (.slice va vs.length vc) vs t.name (wr.alloc (.cells #[.bool t.var, .string t.name] 67)) ((HO.out.read RStr.steady).agree RStr.steady ((Agree.refl _ _).alloc _)) (by have := HLL.out; omega))
      have HB1 := Lib.hid (HB.out.alloc hsz (.cells #[.bool t.var, .string t.name] 67))
      have HO1 := Lib.hid (HO.out.alloc RStr.steady (.cells #[.bool t.var, .string t.name] 67))
      clear ht
      cases hv : t.var
      · rw [hv] at HT KC HB1 HO1 d0
        have HO2 := Lib.hid (show Owned 1 RStr w.heap.size 9 (fun _ => False) _ _ (varsF [] (x.terms.take (k + 1))) by rw [HT.out, if_neg (by simp)]; exact HO1.out)
        clear hv
        go_wp2
        go_roundw
        case rel => exact ⟨k + 1, by omega, by go_num, HO2, HB1⟩
        case measure => simp [intOf]; omega
      · rw [hv] at HT KC HB1 HO1 d0
        clear hv
        have hm : memS t.name vs = true ∨ memS t.name vs = false := by cases memS t.name vs <;> simp
        rcases hm with hm | hm
        · rw [hm] at KC HT
          have HO2 := Lib.hid (show Owned 1 RStr w.heap.size 9 (fun _ => False) _ _ (varsF [] (x.terms.take (k + 1))) by rw [HT.out, if_neg (by simp)]; exact HO1.out)
          clear hm
          go_wp2_with (go_at_call 31; refine (KC.out).mono ?_; rintro e w' ⟨rfl, rfl⟩)
          go_roundw
          case rel => exact ⟨k + 1, by omega, by go_num, HO2, HB1⟩
          case measure => simp [intOf]; omega
        · rw [hm, if_pos (by rfl)] at HT
          rw [hm] at KC
          clear hm
          go_wp2_with (first
            | (go_at_call 31; refine (KC.out).mono ?_; rintro e w' ⟨rfl, rfl⟩)
            | (at_builtin; refine wpList_append_one (B := w.heap.size) (e := 9) (S := fun _ => False) (by rfl) _ _ 39 (by rfl) RStr.steady rowStrs _ vs (by rfl) (HO1.out.alloc RStr.steady _) (wr.heap.size + 1) 1 #[.string t.name] 9 (0, 0) t.name (by rfl) (heap_new_at (by simp)) rfl (by simp [Value.oneCell']) rfl (by have := HLL.out; omega) (by simp; omega) ?_; intro v2 w2 hown2 hg2 hat2; have HO2 := Lib.hid (show Owned 1 RStr w.heap.size 9 (fun _ => False) w2 v2 (varsF [] (x.terms.take (k + 1))) by rw [HT.out]; exact hown2); have HB2 := Lib.hid ((HB1.out.alloc (by simp; omega) _).grown hg2 (by simp; omega) (fun q hq => (HO1.out.row_lt hq).1)); clear hown2 hg2 hat2))
          go_wp2
          go_roundw
          case rel => exact ⟨k + 1, by omega, by go_num, HO2, HB2⟩
          case measure => simp [intOf]; omega
    · have htk : x.terms.take k = x.terms := List.take_of_length_le (by omega)
      rw [htk] at HO
      clear htk
      go_wp2
      go_ret
      exact ⟨⟨_, rfl, HO.out⟩, HB.out⟩
end Go.Proofs.Ythieomebngiabaa
