/-
  THE TEXTS MapW, RowCut, one behind the other.
-/
import Derived.Test.YtiiicochdidolaaGreatPk1
import Derived.Maps.OwnSet
import Derived.Maps.OwnOps
namespace Go.Proofs.YtiiicochdidolaaGreat
open Go.RowKit Go.Maps
theorem lawStr : Keyed Tryz.prog 9 := string_keyed Tryz.underlying9
theorem zeroInt (w : World) : (zeroValue 3).run Tryz.prog w = .ok (.int .i64 0) w := by kernel_rfl
theorem zeroBool (w : World) : (zeroValue 4).run Tryz.prog w = .ok (.bool false) w := by kernel_rfl
def keyL (s : Str) : Lit := .string s.data.toList
theorem keyStr {s : Str} (h : s.size ≤ maxLen) : keyOf Tryz.prog 9 (.string s) = some (keyL s) := WideMaps.keyOf_string_mk Tryz.underlying9 h
theorem keyL_inj {s t : Str} (h : keyL s = keyL t) : s = t := by
  unfold keyL at h
  injection h with h
  cases s; cases t
  simpa [Array.toList_inj] using h
def MapI (w : World) (b n : Nat) (f : Str → Option Int) : Prop :=
  ∃ D : DataW Unit, w.ownsMap Tryz.prog 9 (plainElem Tryz.prog 3) b n D ∧ ∀ s, s.size ≤ maxLen → Maps.has D (keyL s) = (f s).isSome ∧ D.atKey (keyL s) (.lit (.int .i64 0)) = .lit (.int .i64 ((f s).getD 0))
section
variable {w w' : World} {b n : Nat} {f : Str → Option Int}
theorem MapI.lt (h : MapI w b n f) : b < w.heap.size := let ⟨_, h1, _⟩ := h; h1.lt
theorem MapI.kept {row : Option Nat} (h : MapI w b n f) (hg : w.grownBy w' row) (hne : some b ≠ row) : MapI w' b n f := let ⟨D, h1, h2⟩ := h; ⟨D, h1.kept hg hne, h2⟩
theorem MapI.below {B : Nat} (h : MapI w b n f) (hb : Below B w w') (hB : b < B) : MapI w' b n f := by
  obtain ⟨D, ⟨es, clock, h1, h2⟩, h3⟩ := h
  exact ⟨D, ⟨es, clock, (hb.block b hB).trans h1, h2⟩, h3⟩
theorem MapI.alloc (h : MapI w b n f) (o : Obj) : MapI (w.alloc o) b n f := h.kept (World.grownBy_alloc w o none) (by simp)
theorem MapI.drew (h : MapI w b n f) : MapI w.drew b n f := let ⟨D, h1, h2⟩ := h; ⟨D, h1.drew, h2⟩
theorem MapI.drewN (h : MapI w b n f) (k : Nat) : MapI (w.drewN k) b n f := h
theorem MapI.setCell (h : MapI w b n f) {a : Addr} (ha : b ≠ a.block) (u : Value) : MapI (w.setCell a u) b n f := let ⟨D, h1, h2⟩ := h; ⟨D, h1.setCell ha u, h2⟩
theorem MapI.made (w : World) : MapI (w.alloc (.map #[] 0)) w.heap.size 0 (fun _ => none) := ⟨.map [], World.ownsMap_made _ _ _ _, fun _ _ => ⟨rfl, rfl⟩⟩
set_option maxRecDepth 100000 in
theorem MapI.get (h : MapI w b n f) {s : Str} (hs : s.size ≤ maxLen) : (Instr.lookup 161 (.map (some b)) (.string s) false).run Tryz.prog w = .ok (.int .i64 ((f s).getD 0)) w := by
  obtain ⟨D, h1, h2⟩ := h
  obtain ⟨c, hrun, hat, _⟩ := h1.lookup_int lawStr Tryz.underlying161 Tryz.underlying3 (zeroInt w) (keyStr hs)
  rw [(h2 s hs).2] at hat
  injection hat with hat
  injection hat with _ hat
  rw [hrun, hat]
set_option maxRecDepth 100000 in
theorem MapI.getOk (h : MapI w b n f) {s : Str} (hs : s.size ≤ maxLen) : (Instr.lookup 161 (.map (some b)) (.string s) true).run Tryz.prog w = .ok (.tuple #[.int .i64 ((f s).getD 0), .bool (f s).isSome]) w := by
  obtain ⟨D, h1, h2⟩ := h
  obtain ⟨v, ps, hrun, hv⟩ := h1.look_ok lawStr Tryz.underlying161 (zeroInt w) (zd := .lit (.int .i64 0)) (zp := []) (plainElem_int Tryz.underlying3 (by decide)) (keyStr hs)
  rw [(h2 s hs).2] at hv
  obtain ⟨c, rfl, hc, _⟩ := plainElem_int_inv Tryz.underlying3 hv
  injection hc with hc _
  injection hc with hc
  injection hc with _ hc
  rw [hrun, (h2 s hs).1, hc]
set_option maxRecDepth 100000 in
theorem MapI.put (h : MapI w b n f) (hn : n < maxLen) {s : Str} (hs : s.size ≤ maxLen) {x : Int} (hx : (Lit.int .i64 x).wf = true) :
    ∃ w', (Instr.mapUpdate 161 (.map (some b)) (.string s) (.int .i64 x)).run Tryz.prog w = .ok () w' ∧ MapI w' b (n + 1) (fun t => if t = s then some x else f t) ∧ w.grownBy w' (some b) := by
  obtain ⟨D, h1, h2⟩ := h
  have hM := h1.isMap
  obtain ⟨w', hrun, h3, h4⟩ := h1.update lawStr Tryz.underlying161 hn (keyStr hs) (plainElem_int Tryz.underlying3 hx)
  refine ⟨w', hrun, ⟨_, h3, fun t ht => ?_⟩, h4⟩
  by_cases e : t = s
  · subst e
    simp only [if_true]
    exact ⟨Maps.has_put_same hM (by trivial) _, Maps.atKey_put_same hM (by trivial) _ _⟩
  · simp only [if_neg e]
    have hne : keyL t ≠ keyL s := fun h => e (keyL_inj h)
    rw [Maps.has_put_other hne, Maps.atKey_put_other hne]
    exact h2 t ht
end
def onceS (ks : List Str) : List Str := ks.foldl (fun acc x => if memS x acc then acc else acc ++ [x]) []
theorem any_key (s : Str) : ∀ ks : List Str, (ks.map keyL).any (fun y => y.sameKey (keyL s)) = memS s ks
  | [] => rfl
  | k :: ks => by
    rw [List.map_cons, List.any_cons, any_key s ks, memS]
    congr 1
    by_cases e : s = k
    · subst e
      rw [decide_eq_true rfl]
      simp [keyL, Lit.sameKey]
    · rw [decide_eq_false e]
      cases h : (keyL k).sameKey (keyL s)
      · rfl
      · exact absurd (keyL_inj (WideAt.sameKey_eq h)).symm e
theorem fold_addKey : ∀ (ks acc : List Str), (ks.map keyL).foldl Maps.addKey (acc.map keyL) = (ks.foldl (fun acc x => if memS x acc then acc else acc ++ [x]) acc).map keyL
  | [], acc => rfl
  | k :: ks, acc => by
    rw [List.map_cons, List.foldl_cons, List.foldl_cons]
    have : Maps.addKey (acc.map keyL) (keyL k) = (if memS k acc then acc else acc ++ [k]).map keyL := by
      unfold Maps.addKey
      rw [any_key]
      split <;> simp
    rw [this]
    exact fold_addKey ks _
theorem mem_onceS_aux (x : Str) : ∀ (ks acc : List Str), x ∈ ks.foldl (fun acc x => if memS x acc then acc else acc ++ [x]) acc ↔ x ∈ ks ∨ x ∈ acc
  | [], acc => by simp
  | k :: ks, acc => by
    rw [List.foldl_cons, mem_onceS_aux x ks]
    by_cases h : memS k acc = true
    · rw [if_pos h]
      have := (memS_iff k acc).1 h
      simp only [List.mem_cons]
      constructor
      · rintro (h | h)
        · exact .inl (.inr h)
        · exact .inr h
      · rintro ((rfl | h) | h)
        · exact .inr this
        · exact .inl h
        · exact .inr h
    · rw [if_neg h]
      simp only [List.mem_cons, List.mem_append, List.not_mem_nil, or_false]
      constructor
      · rintro (h | h | h)
        · exact .inl (.inr h)
        · exact .inr h
        · exact .inl (.inl h)
      · rintro ((h | h) | h)
        · exact .inr (.inr h)
        · exact .inl h
        · exact .inr (.inl h)
theorem mem_onceS (x : Str) (ks : List Str) : x ∈ onceS ks ↔ x ∈ ks := by
  unfold onceS
  rw [mem_onceS_aux]
  simp
def MapB (w : World) (b : Nat) (ks : List Str) : Prop :=
  w.ownsMap (H := Unit) Tryz.prog 9 (plainElem Tryz.prog 4) b ks.length (Maps.setOf (.lit (.bool true)) (ks.map keyL))
theorem keys_ok (ks : List Str) : ∀ x ∈ ks.map keyL, WideAt.IsKeyLit x := fun x hx => by
  obtain ⟨s, _, rfl⟩ := List.mem_map.1 hx
  trivial
theorem atKey_setOf (s : Str) (z : DataW Unit) (ks : List Str) : (Maps.setOf (.lit (.bool true)) (ks.map keyL)).atKey (keyL s) z = if memS s ks then .lit (.bool true) else z := by
  cases h : memS s ks
  · rw [Maps.atKey_of_not_has]
    · rfl
    · rw [Maps.has_setOf _ _ _ (keys_ok ks), any_key, h]
  · have main : ∀ (ks : List Str), memS s ks = true → (Maps.setOf (.lit (.bool true)) (ks.map keyL)).atKey (keyL s) z = .lit (.bool true) := by
      intro ks
      rw [← List.reverse_reverse ks]
      induction ks.reverse with
      | nil => intro h; simp [memS] at h
      | cons k r ih =>
        intro h
        rw [List.reverse_cons, List.map_append, List.map_cons, List.map_nil, Maps.setOf_snoc]
        by_cases e : s = k
        · subst e
          exact Maps.atKey_put_same (Maps.tidy_setOf _ _ (keys_ok _)).isMap (by trivial) _ _
        · rw [Maps.atKey_put_other (fun h => e (keyL_inj h))]
          refine ih ?_
          rw [memS_iff, List.reverse_cons, List.mem_append, List.mem_singleton] at h
          rw [memS_iff]
          exact h.elim id (fun h => absurd h e)
    exact main ks h
section
variable {w w' : World} {b : Nat} {ks : List Str}
theorem MapB.lt (h : MapB w b ks) : b < w.heap.size := World.ownsMap.lt h
theorem MapB.kept {row : Option Nat} (h : MapB w b ks) (hg : w.grownBy w' row) (hne : some b ≠ row) : MapB w' b ks := World.ownsMap.kept h hg hne
theorem MapB.below {B : Nat} (h : MapB w b ks) (hb : Below B w w') (hB : b < B) : MapB w' b ks := by
  obtain ⟨es, clock, h1, h2⟩ := h
  exact ⟨es, clock, (hb.block b hB).trans h1, h2⟩
theorem MapB.alloc (h : MapB w b ks) (o : Obj) : MapB (w.alloc o) b ks := h.kept (World.grownBy_alloc w o none) (by simp)
theorem MapB.setCell (h : MapB w b ks) {a : Addr} (ha : b ≠ a.block) (u : Value) : MapB (w.setCell a u) b ks := World.ownsMap.setCell h ha u
theorem MapB.made (w : World) : MapB (w.alloc (.map #[] 0)) w.heap.size [] := World.ownsMap_made _ _ _ _
set_option maxRecDepth 100000 in
theorem MapB.get (h : MapB w b ks) {s : Str} (hs : s.size ≤ maxLen) : (Instr.lookup 57 (.map (some b)) (.string s) false).run Tryz.prog w = .ok (.bool (memS s ks)) w := by
  obtain ⟨v, ps, hrun, hv⟩ := World.ownsMap.lookup h lawStr Tryz.underlying57 (zeroBool w) (zd := .lit (.bool false)) (zp := []) (plainElem_bool Tryz.underlying4 false) (keyStr hs)
  rw [atKey_setOf] at hv
  rw [hrun]
  have hb : ∃ x, v = .bool x ∧ (.lit (.bool x), []) = (if memS s ks then (.lit (.bool true) : DataW Unit) else .lit (.bool false), ps) := by
    have hu : Tryz.prog.underlying 4 = some .bool := Tryz.underlying4
    unfold plainElem at hv
    rw [hu] at hv
    cases v <;> simp at hv
    rename_i x
    exact ⟨x, rfl, by rw [Prod.mk.injEq]; exact ⟨hv.1, hv.2.symm⟩⟩
  obtain ⟨x, rfl, hx⟩ := hb
  injection hx with hx _
  cases hm : memS s ks <;> rw [hm] at hx <;> simp at hx <;> rw [hx]
theorem MapB.len (h : MapB w b ks) (ty : TypeId) : (Builtin.len_ #[57] ty #[.map (some b)]).run Tryz.prog w = .ok (.int .i64 ((onceS ks).length : Int)) w := by
  have := World.ownsMap.len h Tryz.underlying57 ty
  rw [Maps.size_setOf _ _ (keys_ok ks)] at this
  have e := fold_addKey ks []
  rw [List.map_nil] at e
  rw [e, List.length_map] at this
  exact this
set_option maxRecDepth 100000 in
theorem MapB.put (h : MapB w b ks) (hn : ks.length < maxLen) {s : Str} (hs : s.size ≤ maxLen) :
    ∃ w', (Instr.mapUpdate 57 (.map (some b)) (.string s) (.bool true)).run Tryz.prog w = .ok () w' ∧ MapB w' b (ks ++ [s]) ∧ w.grownBy w' (some b) := by
  obtain ⟨w', hrun, h3, h4⟩ := World.ownsMap.update h lawStr Tryz.underlying57 hn (keyStr hs) (plainElem_bool Tryz.underlying4 true)
  refine ⟨w', hrun, ?_, h4⟩
  unfold MapB
  rw [List.map_append, List.map_cons, List.map_nil, Maps.setOf_snoc, List.length_append]
  exact h3
end
end Go.Proofs.YtiiicochdidolaaGreat
namespace Go.Proofs.YtiiicochdidolaaGreat
open Go.RowKit
theorem RdSlice.take {α : Type} {k : Nat} {R : Reader α} {S : Nat → Prop} {w : World} {a : Option Addr} {n cap : Nat} {l : List α} (h : RdSlice k R S w (.slice a n cap) l) {j : Nat} (hj : j ≤ l.length) : RdSlice k R S w (.slice a j cap) (l.take j) := by
  obtain ⟨a', cap', hv, h1, h2, h0, h3⟩ := h
  injection hv with e1 e2 e3
  subst e1 e3
  have hl : (l.take j).length = j := by rw [List.length_take]; omega
  refine ⟨a, cap, by rw [hl], by omega, h2, h0, fun i x hx => ?_⟩
  have hi : i < j := by have := (List.getElem?_eq_some_iff.1 hx).1; omega
  rw [List.getElem?_take_of_lt hi] at hx
  exact h3 i x hx
theorem RdSlice.drop {α : Type} {k : Nat} {R : Reader α} {S : Nat → Prop} {w : World} {a : Option Addr} {n cap : Nat} {l : List α} (h : RdSlice k R S w (.slice a n cap) l) {j : Nat} (hj : j ≤ l.length) :
    RdSlice k R S w (.slice (if cap = j then a else a.map (·.add (j * k))) (l.length - j) (cap - j)) (l.drop j) := by
  obtain ⟨a', cap', hv, h1, h2, h0, h3⟩ := h
  injection hv with e1 e2 e3
  subst e1 e3
  have hl : (l.drop j).length = l.length - j := List.length_drop
  refine ⟨_, cap - j, by rw [hl], by omega, by omega, fun e => ?_, fun i x hx => ?_⟩
  · split at e
    · omega
    · cases a with
      | none => rw [h0 rfl]; omega
      | some p => simp at e
  · rw [List.getElem?_drop] at hx
    have hi := (List.getElem?_eq_some_iff.1 hx).1
    obtain ⟨b, off, cs, ha, hS, hb, hk, hc, hr⟩ := h3 (j + i) x hx
    subst ha
    refine ⟨b, off + j * k, cs, ?_, hS, hb, hk, fun t u hu => ?_, hr⟩
    · rw [if_neg (by omega)]
      simp only [Option.map_some, Addr.add]
      split
      · rename_i hz; rw [hz]; rfl
      · rfl
    · have := hc t u hu
      rwa [show off + (j + i) * k + t = off + j * k + i * k + t by rw [Nat.add_mul]; omega] at this
theorem RdSlice.drop_some {α : Type} {k : Nat} {R : Reader α} {S : Nat → Prop} {w : World} {b o : Nat} {n cap : Nat} {l : List α} (h : RdSlice k R S w (.slice (some ⟨b, o, none⟩) n cap) l) {j : Nat} (hj : j ≤ l.length) :
    RdSlice k R S w (.slice (if cap = j then some ⟨b, o, none⟩ else some ⟨b, o + j * k, none⟩) (l.length - j) (cap - j)) (l.drop j) := by
  have := h.drop hj
  simp only [Option.map_some, Addr.add] at this
  split at this
  · split
    · assumption
    · rename_i h1 h2; exact absurd h1 h2
  · rename_i hne
    rw [if_neg hne]
    split at this
    · rename_i h0
      rw [h0]
      exact this
    · exact this
theorem RdSlice.nothing {α : Type} {k : Nat} {R : Reader α} {S : Nat → Prop} {w : World} {a : Option Addr} {cap : Nat} (hm : cap ≤ maxLen) (h0 : a = none → cap = 0) : RdSlice k R S w (.slice a 0 cap) ([] : List α) :=
  ⟨a, cap, rfl, Nat.zero_le _, hm, h0, fun i x hx => by simp at hx⟩
end Go.Proofs.YtiiicochdidolaaGreat
