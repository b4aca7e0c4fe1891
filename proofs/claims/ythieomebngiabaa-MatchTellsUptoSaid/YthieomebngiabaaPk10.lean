/-
  THE TEXTS BindsP, Clone, Ref1Add, one behind the other.
-/
import Derived.Test.YthieomebngiabaaPk2
import Derived.Test.YthieomebngiabaaPk3
import Derived.Test.YthieomebngiabaaPk5
import Derived.Test.YthieomebngiabaaPk9
import Derived.Deep.QuietTactic
import Derived.BigQuiet
namespace Go.Proofs.Ythieomebngiabaa
theorem cmpBind_lt {x y : PBind} (h : strLt x.var y.var = true) : ltC cmpBind x y = true := by
  unfold ltC
  rw [decide_eq_true_eq, cmpBind_eq]
  have hne : x.var ≠ y.var := fun e => by rw [e, strLt_irrefl] at h; cases h
  rw [if_pos (cmpStr3.ne_zero hne)]
  exact (cmpStr_lt _ _).2 h
def RiseV (l : Binds) : Prop := l.Pairwise fun a b => strLt a.var b.var = true
theorem RiseV.rising {l : Binds} (h : RiseV l) : RisingC cmpBind l := h.imp fun {_ _} hab => cmpBind_lt hab
theorem RiseV.nd {l : Binds} (h : RiseV l) : Nd l := by
  unfold Nd Vs
  rw [List.nodup_iff_pairwise_ne, List.pairwise_map]
  exact h.imp fun {a b} hab e => by rw [e, strLt_irrefl] at hab; cases hab
def insAt (k : Nat) (x : PBind) (l : Binds) : Binds := l.take k ++ x :: l.drop k
theorem mem_insAt {k : Nat} {x y : PBind} {l : Binds} : y ∈ insAt k x l ↔ y = x ∨ y ∈ l := by
  unfold insAt
  rw [List.mem_append, List.mem_cons]
  constructor
  · rintro (h | h | h)
    · exact .inr (List.mem_of_mem_take h)
    · exact .inl h
    · exact .inr (List.mem_of_mem_drop h)
  · rintro (h | h)
    · exact .inr (.inl h)
    · rw [← List.take_append_drop k l] at h
      rcases List.mem_append.1 h with h | h
      · exact .inl h
      · exact .inr (.inr h)
theorem insAt_len {k : Nat} {x : PBind} {l : Binds} : (insAt k x l).length = l.length + 1 := by
  unfold insAt
  rw [List.length_append, List.length_cons, List.length_take, List.length_drop]
  omega
theorem riseV_ins {l : Binds} {k : Nat} {x : PBind} (h : RiseV l) (h1 : ∀ y ∈ l.take k, strLt y.var x.var = true) (h2 : ∀ y, l[k]? = some y → strLt y.var x.var = false) (h3 : x.var ∉ Vs l) : RiseV (insAt k x l) := by
  have hs : RiseV (l.take k ++ l.drop k) := by rw [List.take_append_drop]; exact h
  obtain ⟨g1, g2, g3⟩ := List.pairwise_append.1 hs
  have hx : ∀ y ∈ l.drop k, strLt x.var y.var = true := by
    intro y hy
    have hne : ∀ z ∈ l, z.var ≠ x.var := fun z hz e => h3 (by unfold Vs; rw [← e]; exact List.mem_map.2 ⟨z, hz, rfl⟩)
    cases hd : l.drop k with
    | nil => rw [hd] at hy; cases hy
    | cons z r =>
      have hz : l[k]? = some z := by have := congrArg List.head? hd; rwa [List.head?_drop] at this
      have hxz : strLt x.var z.var = true := by
        cases e : strLt x.var z.var
        · exact absurd (strLt_tri (h2 z hz) e) (hne z (List.mem_of_getElem? hz))
        · rfl
      rw [hd] at hy g2
      rcases List.mem_cons.1 hy with rfl | hy
      · exact hxz
      · exact strLt_trans hxz ((List.pairwise_cons.1 g2).1 y hy)
  refine List.pairwise_append.2 ⟨g1, List.pairwise_cons.2 ⟨hx, g2⟩, fun a ha b hb => ?_⟩
  rcases List.mem_cons.1 hb with rfl | hb
  · exact h1 a ha
  · exact g3 a ha b hb
theorem getB_insAt {l : Binds} {k : Nat} {x : PBind} (_ : RiseV l) (hn : RiseV (insAt k x l)) (h3 : x.var ∉ Vs l) (t : Str) : getB t (insAt k x l) = if t = x.var then some x.name else getB t l := by
  by_cases e : t = x.var
  · subst e
    rw [if_pos rfl]
    exact getB_of_mem hn.nd (mem_insAt.2 (.inl rfl))
  · rw [if_neg e]
    cases hg : getB t l with
    | some n => exact getB_of_mem hn.nd (mem_insAt.2 (.inr (getB_mem hg)))
    | none =>
      refine getB_none.2 fun hm => ?_
      obtain ⟨y, hy, hv⟩ := List.mem_map.1 hm
      rcases mem_insAt.1 hy with rfl | hy
      · exact e hv.symm
      · exact getB_none.1 hg (List.mem_map.2 ⟨y, hy, hv⟩)
theorem riseV_all {l o : Binds} {M : Nat} (hl : Nd l) (hs : ∀ y ∈ l, y.var.size ≤ M) (ho : RiseV o) (hz : ∀ y ∈ o, y.var.size ≤ M) (hg : ∀ v : Str, v.size ≤ M → getB v o = getB v l) : o = ofC cmpBind l :=
  risingC_ext cmpBind3 ho.rising (ofC_rising cmpBind3 l) fun y => by
    rw [mem_ofC cmpBind3]
    constructor
    · intro hy
      have h1 := hg y.var (hz y hy)
      rw [getB_of_mem ho.nd (v := y.var) (n := y.name) hy] at h1
      exact getB_mem h1.symm
    · intro hy
      have h1 := hg y.var (hs y hy)
      rw [getB_of_mem hl (v := y.var) (n := y.name) hy] at h1
      exact getB_mem h1
section
variable {α : Type} {c : α → α → Int}
structure Mrg (c : α → α → Int) (T : List α) (o a b : List α) : Prop where
  ro : RisingC c o
  ra : RisingC c a
  rb : RisingC c b
  low : ∀ x ∈ o, ∀ y, y ∈ a ∨ y ∈ b → ltC c y x = false
  mem : ∀ x, (x ∈ o ∨ x ∈ a ∨ x ∈ b) ↔ x ∈ T
theorem Mrg.swap {T o a b : List α} (h : Mrg c T o a b) : Mrg c T o b a := ⟨h.ro, h.rb, h.ra, fun x hx y hy => h.low x hx y hy.symm, fun x => by rw [← h.mem x]; constructor <;> (rintro (h | h | h) <;> simp [h])⟩
theorem ofC_short [DecidableEq α] {l : List α} (h : l.length < 2) : ofC c l = l := match l, h with
  | [], _ => rfl
  | [_], _ => rfl
end
section
variable {α : Type} {c : α → α → Int} (h3 : Cmp3 c)
include h3
theorem Mrg.step {T o a b : List α} {x : α} (h : Mrg c T o (x :: a) b) (hb : ∀ y ∈ b, ltC c y x = false) :
    ((o = [] ∨ ∃ z, o.getLast? = some z ∧ ltC c z x = true) → Mrg c T (o ++ [x]) a b) ∧ (∀ z, o.getLast? = some z → ltC c z x = false → Mrg c T o a b) := by
  have ha := List.pairwise_cons.1 h.ra
  have hlow : ∀ y, y ∈ a ∨ y ∈ b → ltC c y x = false := fun y hy => hy.elim (fun hy => ltC_asymm h3 (ha.1 y hy)) (hb y)
  have key : (o = [] ∨ (∃ z, o.getLast? = some z ∧ ltC c z x = true)) → Mrg c T (o ++ [x]) a b := fun hz => by
    have hox : ∀ y ∈ o, ltC c y x = true := by
      intro y hy
      rcases hz with e | ⟨z, hl, hzx⟩
      · rw [e] at hy; cases hy
      · obtain ⟨ys, rfl⟩ := List.getLast?_eq_some_iff.1 hl
        have hp := List.pairwise_append.1 h.ro
        rcases List.mem_append.1 hy with hy | hy
        · exact ltC_trans h3 (hp.2.2 y hy z (by simp)) hzx
        · obtain rfl := List.mem_singleton.1 hy; exact hzx
    refine ⟨List.pairwise_append.2 ⟨h.ro, List.pairwise_singleton .., fun y hy z hz => ?_⟩, ha.2, h.rb, fun y hy z hzz => ?_, fun y => ?_⟩
    · obtain rfl := List.mem_singleton.1 hz; exact hox y hy
    · rcases List.mem_append.1 hy with hy | hy
      · exact h.low y hy z (hzz.elim (fun hz => .inl (List.mem_cons_of_mem _ hz)) .inr)
      · obtain rfl := List.mem_singleton.1 hy; exact hlow z hzz
    · rw [← h.mem y]
      simp only [List.mem_append, List.mem_cons, List.not_mem_nil, or_false]
      constructor
      · rintro ((h | h) | h | h) <;> simp [h]
      · rintro (h | (h | h) | h) <;> simp [h]
  refine ⟨key, fun z hl hzx => ?_⟩
  · have hzo : z ∈ o := List.mem_of_getLast? hl
    have hxz : ltC c x z = false := h.low z hzo x (.inl (List.mem_cons_self ..))
    obtain rfl := ltC_tri h3 hzx hxz
    refine ⟨h.ro, ha.2, h.rb, fun y hy w hw => h.low y hy w (hw.elim (fun hw => .inl (List.mem_cons_of_mem _ hw)) .inr), fun y => ?_⟩
    rw [← h.mem y]
    simp only [List.mem_cons]
    constructor
    · rintro (h | h | h) <;> simp [h]
    · rintro (h | (rfl | h) | h)
      · exact .inl h
      · exact .inl hzo
      · exact .inr (.inl h)
      · exact .inr (.inr h)
theorem head_low {l : List α} {y x : α} (h : RisingC c (y :: l)) (hy : ltC c y x = false) : ∀ z ∈ y :: l, ltC c z x = false := fun z hz => by
  rcases List.mem_cons.1 hz with rfl | hz
  · exact hy
  · cases e : ltC c z x
    · rfl
    · rw [ltC_trans h3 ((List.pairwise_cons.1 h).1 z hz) e] at hy; cases hy
end
section
variable {α : Type} [DecidableEq α] {c : α → α → Int} (h3 : Cmp3 c)
include h3
theorem Mrg.start {p q : List α} : Mrg c (p ++ q) [] (ofC c p) (ofC c q) :=
  ⟨List.Pairwise.nil, ofC_rising h3 p, ofC_rising h3 q, (fun x hx => by cases hx), fun x => by rw [List.mem_append, mem_ofC h3, mem_ofC h3]; simp⟩
theorem Mrg.done {T o : List α} (h : Mrg c T o [] []) : o = ofC c T :=
  risingC_ext h3 h.ro (ofC_rising h3 T) fun x => by rw [mem_ofC h3, ← h.mem x]; simp
end
end Go.Proofs.Ythieomebngiabaa
namespace Go.Proofs.Ythieomebngiabaa
open Go.RowKit
theorem RFact.fresh {B : Nat} {w W1 w1 w2 : World} {v v1 : Value} {l : List PFact} {x : PFact} (hown : Owned 2 RFact B 41 (fun b => B ≤ b) w v l) (hB : B ≤ w.heap.size) (hle : w.heap.size ≤ W1.heap.size) (hr1 : RdStrs (New W1) w1 v1 x.args) (ha : Agree (New W1) w1 w2) :
    RFact (fun b => B ≤ b ∧ some b ≠ v.ownBlock) w2 [.string x.name, v1] x :=
  ⟨v1, rfl, (hr1.agree RStr.steady ha).more RStr.steady fun b hb _ => ⟨by omega, fun e => by have := (hown.row_lt e.symm).2; omega⟩⟩
attribute [local go_sem ↓] Go.wp_at_zero Go.wp_at_succ
end Go.Proofs.Ythieomebngiabaa
namespace Go.Proofs.Ythieomebngiabaa
open Go.RowKit
theorem Owned.empty {α : Type} {k : Nat} {R : Reader α} {B : Nat} {e : TypeId} {S : Nat → Prop} {w : World} {g : Nat} (h : w.heap[g]? = some (.cells #[] e (0, 0))) (hb : B ≤ g) : Owned k R B e S w (.slice (some ⟨g, 0, none⟩) 0 0) ([] : List α) := by
  exact ⟨[], rfl, by simp, ⟨by simp, .inr ⟨g, 0, #[], rfl, hb, h, Nat.le_refl _, Nat.zero_le _, by simp, by simp⟩⟩, by simp⟩
theorem step_append_many {P : Program} {w : World} {α : Type} {k : Nat} {R : Reader α} {B : Nat} {e : TypeId} {S : Nat → Prop} {ops : Array Oper} {o : Oper} {a : Act} {K : Act → World → Prop} {Q : Exit → Act → World → Prop} {E : Prop} (hgd : o.guard = none) (s x : Operand) (t : TypeId)
    (ho : o.op = .call { callee := .builtin .append, args := #[s, x], argTypes := #[t, t] }) (hR : Steady R) (hcell : ∀ {S w cs x}, R S w cs x → ∀ u ∈ cs, u.oneCell' = true) (T : RowT P t e k) (v : Value) (l : List α) (hs : a.eval s = v) (hown : Owned k R B e S w v l)
    (v2 : Value) (l2 : List α) (hx : a.eval x = v2) {S2 : Nat → Prop} (h2 : RdSlice k R S2 w v2 l2) (hm : ∀ cs x, R S2 w cs x → R (fun b => S b ∧ some b ≠ v.ownBlock) w cs x) (hlen : l.length + l2.length < 1099511627776) (hbase : B ≤ w.heap.size)
    (h : ∀ v' w', Owned k R B e S w' v' (l ++ l2) → w.grownBy w' v.ownBlock → (v'.ownBlock = v.ownBlock ∨ v'.ownBlock = some w.heap.size) → K (a.put o.dst v') w') :
    if Region.wanted o (yielded ops a.tmps) = true then Oper.wp P o a w K Q else E := by
  have hw : Region.wanted o (yielded ops a.tmps) = true := by simp [Region.wanted, hgd]
  rw [if_pos hw]
  obtain ⟨v', w', hrun, q2, q3, q4⟩ := run_append_many (P := P) (ty := o.type) hR hcell T hown h2 hm hlen hbase
  unfold Oper.wp execOp
  simp only [ho, resolve, invoke, builtin, Sem.run_bind, Sem.run_pure, Result.andThen_ok, List.map_toArray, List.map_cons, List.map_nil, hs, hx, hrun]
  exact h v' w' q2 q3 q4
attribute [local go_sem ↓] Go.wp_at_zero Go.wp_at_succ
end Go.Proofs.Ythieomebngiabaa
