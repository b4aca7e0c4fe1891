/-
  A SET OF NUMBERS IN A MAP THAT THE CALL MAKES: 'MapN'.
-/
import Derived.Test.YtobbjapmdpkogaaMapW
import Derived.Test.YtobbjapmdpkogaaStrataQ
namespace Go.Proofs.Ytobbjapmdpkogaa
open Go.RowKit Go.Maps

theorem lawInt : Keyed Try.prog 3 := int_keyed Try.underlying3
def keyI (n : Int) : Lit := .int .i64 n
theorem keyInt {n : Int} (h : (Lit.int .i64 n).wf = true) : keyOf Try.prog 3 (.int .i64 n) = some (keyI n) := keyOf_int_mk Try.underlying3 h
theorem keyI_inj {a b : Int} (h : keyI a = keyI b) : a = b := by
  unfold keyI at h
  injection h
/-- Each once, as they come first. -/
def onceD {α : Type} [DecidableEq α] (ks : List α) : List α := ks.foldl (fun acc x => if x ∈ acc then acc else acc ++ [x]) []
theorem any_keyI (s : Int) : ∀ ks : List Int, (ks.map keyI).any (fun y => y.sameKey (keyI s)) = decide (s ∈ ks)
  | [] => rfl
  | k :: ks => by
    rw [List.map_cons, List.any_cons, any_keyI s ks]
    by_cases e : s = k
    · subst e
      simp [keyI, Lit.sameKey]
    · have : (keyI k).sameKey (keyI s) = false := by
        cases h : (keyI k).sameKey (keyI s)
        · rfl
        · exact absurd (keyI_inj (WideAt.sameKey_eq h)).symm e
      rw [this]
      simp [e]
theorem fold_addKeyI : ∀ (ks acc : List Int), (ks.map keyI).foldl Maps.addKey (acc.map keyI) = (ks.foldl (fun acc x => if x ∈ acc then acc else acc ++ [x]) acc).map keyI
  | [], acc => rfl
  | k :: ks, acc => by
    rw [List.map_cons, List.foldl_cons, List.foldl_cons]
    have : Maps.addKey (acc.map keyI) (keyI k) = (if k ∈ acc then acc else acc ++ [k]).map keyI := by
      unfold Maps.addKey
      rw [any_keyI]
      by_cases h : k ∈ acc <;> simp [h]
    rw [this]
    exact fold_addKeyI ks _
theorem onceD_aux {α : Type} [DecidableEq α] (x : α) : ∀ (ks acc : List α), acc.Nodup → (ks.foldl (fun acc x => if x ∈ acc then acc else acc ++ [x]) acc).Nodup ∧ (x ∈ ks.foldl (fun acc x => if x ∈ acc then acc else acc ++ [x]) acc ↔ x ∈ ks ∨ x ∈ acc)
  | [], acc, h => ⟨h, by simp⟩
  | k :: ks, acc, h => by
    rw [List.foldl_cons]
    by_cases hk : k ∈ acc
    · rw [if_pos hk]
      obtain ⟨h1, h2⟩ := onceD_aux x ks acc h
      refine ⟨h1, h2.trans ?_⟩
      simp only [List.mem_cons]
      constructor
      · rintro (h | h)
        · exact .inl (.inr h)
        · exact .inr h
      · rintro ((rfl | h) | h)
        · exact .inr hk
        · exact .inl h
        · exact .inr h
    · rw [if_neg hk]
      obtain ⟨h1, h2⟩ := onceD_aux x ks (acc ++ [k]) (by
        rw [List.nodup_append]
        refine ⟨h, by simp, fun a ha b hb => ?_⟩
        obtain rfl := List.mem_singleton.1 hb
        exact fun e => hk (e ▸ ha))
      refine ⟨h1, h2.trans ?_⟩
      simp only [List.mem_cons, List.mem_append, List.not_mem_nil, or_false]
      constructor
      · rintro (h | h | h)
        · exact .inl (.inr h)
        · exact .inr h
        · exact .inl (.inl h)
      · rintro ((h | h) | h)
        · exact .inr (.inr h)
        · exact .inl h
        · exact .inr (.inl h)
theorem onceD_nodup {α : Type} [DecidableEq α] (ks : List α) : (onceD ks).Nodup := by
  cases ks with
  | nil => exact List.nodup_nil
  | cons k ks => exact (onceD_aux k (k :: ks) [] List.nodup_nil).1
theorem mem_onceD {α : Type} [DecidableEq α] (x : α) (ks : List α) : x ∈ onceD ks ↔ x ∈ ks := by
  have := (onceD_aux x ks [] List.nodup_nil).2
  simpa [onceD] using this

/-- Block b is a map that holds true at each of ks. -/
def MapN (w : World) (b : Nat) (ks : List Int) : Prop :=
  w.ownsMap (H := Unit) Try.prog 3 (plainElem Try.prog 4) b ks.length (Maps.setOf (.lit (.bool true)) (ks.map keyI))
theorem keysI_ok (ks : List Int) : ∀ x ∈ ks.map keyI, WideAt.IsKeyLit x := fun x hx => by
  obtain ⟨s, _, rfl⟩ := List.mem_map.1 hx
  trivial
theorem atKeyI_setOf (s : Int) (z : DataW Unit) (ks : List Int) : (Maps.setOf (.lit (.bool true)) (ks.map keyI)).atKey (keyI s) z = if s ∈ ks then .lit (.bool true) else z := by
  by_cases h : s ∈ ks
  · rw [if_pos h]
    have main : ∀ (ks : List Int), s ∈ ks → (Maps.setOf (.lit (.bool true)) (ks.map keyI)).atKey (keyI s) z = .lit (.bool true) := by
      intro ks
      rw [← List.reverse_reverse ks]
      induction ks.reverse with
      | nil => intro h; simp at h
      | cons k r ih =>
        intro h
        rw [List.reverse_cons, List.map_append, List.map_cons, List.map_nil, Maps.setOf_snoc]
        by_cases e : s = k
        · subst e
          exact Maps.atKey_put_same (Maps.tidy_setOf _ _ (keysI_ok _)).isMap (by trivial) _ _
        · rw [Maps.atKey_put_other (fun h => e (keyI_inj h))]
          refine ih ?_
          rw [List.reverse_cons, List.mem_append, List.mem_singleton] at h
          exact h.elim id (fun h => absurd h e)
    exact main ks h
  · rw [if_neg h, Maps.atKey_of_not_has]
    rw [Maps.has_setOf _ _ _ (keysI_ok ks), any_keyI, decide_eq_false h]
section
variable {w w' : World} {b : Nat} {ks : List Int}
theorem MapN.lt (h : MapN w b ks) : b < w.heap.size := World.ownsMap.lt h
theorem MapN.kept {row : Option Nat} (h : MapN w b ks) (hg : w.grownBy w' row) (hne : some b ≠ row) : MapN w' b ks := World.ownsMap.kept h hg hne
theorem MapN.below {B : Nat} (h : MapN w b ks) (hb : Below B w w') (hB : b < B) : MapN w' b ks := by
  obtain ⟨es, clock, h1, h2⟩ := h
  exact ⟨es, clock, (hb.block b hB).trans h1, h2⟩
theorem MapN.alloc (h : MapN w b ks) (o : Obj) : MapN (w.alloc o) b ks := h.kept (World.grownBy_alloc w o none) (by simp)
theorem MapN.drewN (h : MapN w b ks) (n : Nat) : MapN (w.drewN n) b ks := h
theorem MapN.made (w : World) : MapN (w.alloc (.map #[] 0)) w.heap.size [] := World.ownsMap_made _ _ _ _
set_option maxRecDepth 100000 in
theorem MapN.get (h : MapN w b ks) {n : Int} (hs : (Lit.int .i64 n).wf = true) : (Instr.lookup 53 (.map (some b)) (.int .i64 n) false).run Try.prog w = .ok (.bool (decide (n ∈ ks))) w := by
  obtain ⟨v, ps, hrun, hv⟩ := World.ownsMap.lookup h lawInt Try.underlying53 (zeroBool w) (zd := .lit (.bool false)) (zp := []) (plainElem_bool Try.underlying4 false) (keyInt hs)
  rw [atKeyI_setOf] at hv
  rw [hrun]
  have hb : ∃ x, v = .bool x ∧ (.lit (.bool x), []) = (if n ∈ ks then (.lit (.bool true) : DataW Unit) else .lit (.bool false), ps) := by
    have hu : Try.prog.underlying 4 = some .bool := Try.underlying4
    unfold plainElem at hv
    rw [hu] at hv
    cases v <;> simp at hv
    rename_i x
    exact ⟨x, rfl, by rw [Prod.mk.injEq]; exact ⟨hv.1, hv.2.symm⟩⟩
  obtain ⟨x, rfl, hx⟩ := hb
  injection hx with hx _
  by_cases hm : n ∈ ks
  · rw [if_pos hm] at hx
    simp at hx
    rw [hx, decide_eq_true hm]
  · rw [if_neg hm] at hx
    simp at hx
    rw [hx, decide_eq_false hm]
theorem MapN.len (h : MapN w b ks) (ty : TypeId) : (Builtin.len_ #[53] ty #[.map (some b)]).run Try.prog w = .ok (.int .i64 ((onceD ks).length : Int)) w := by
  have := World.ownsMap.len h Try.underlying53 ty
  rw [Maps.size_setOf _ _ (keysI_ok ks)] at this
  have e := fold_addKeyI ks []
  rw [List.map_nil] at e
  rw [e, List.length_map] at this
  exact this
set_option maxRecDepth 100000 in
theorem MapN.put (h : MapN w b ks) (hn : ks.length < maxLen) {n : Int} (hs : (Lit.int .i64 n).wf = true) :
    ∃ w', (Instr.mapUpdate 53 (.map (some b)) (.int .i64 n) (.bool true)).run Try.prog w = .ok () w' ∧ MapN w' b (ks ++ [n]) ∧ w.grownBy w' (some b) := by
  obtain ⟨w', hrun, h3, h4⟩ := World.ownsMap.update h lawInt Try.underlying53 hn (keyInt hs) (plainElem_bool Try.underlying4 true)
  refine ⟨w', hrun, ?_, h4⟩
  unfold MapN
  rw [List.map_append, List.map_cons, List.map_nil, Maps.setOf_snoc, List.length_append]
  exact h3
end

/-- No stratum is left out. -/
theorem levels_full {p : List PRule} {L : Str → Nat} (h : Least p L) {k : Nat} (hk : k < (onceD (p.map fun r => (L r.head.name : Int))).length) : (k : Int) ∈ p.map fun r => (L r.head.name : Int) := by
  apply Classical.byContradiction
  intro hno
  have hlt : ∀ r ∈ p, L r.head.name < k := fun r hr => by
    rcases Nat.lt_trichotomy (L r.head.name) k with h1 | h1 | h1
    · exact h1
    · exact absurd (List.mem_map.2 ⟨r, hr, by rw [h1]⟩) hno
    · obtain ⟨x, hx, e⟩ := h.no_gap h1
      obtain ⟨q, hq, rfl⟩ := List.mem_map.1 hx
      exact absurd (List.mem_map.2 ⟨q, hq, by rw [e]⟩) hno
  have h1 := nodup_le (l := onceD (p.map fun r => (L r.head.name : Int))) (m := (List.range k).map Int.ofNat) (onceD_nodup _) (fun x hx => by
    obtain ⟨r, hr, rfl⟩ := List.mem_map.1 ((mem_onceD x _).1 hx)
    exact List.mem_map.2 ⟨L r.head.name, List.mem_range.2 (hlt r hr), rfl⟩)
  rw [List.length_map, List.length_range] at h1
  omega
end Go.Proofs.Ytobbjapmdpkogaa
