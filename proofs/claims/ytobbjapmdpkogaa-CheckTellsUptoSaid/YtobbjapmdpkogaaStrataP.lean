/-
  PLAIN: strata: the least way to lay heads so that nothing hangs on what comes later.
-/
import Derived.Test.YtobbjapmdpkogaaPure
namespace Go.Proofs.Ytobbjapmdpkogaa

instance decMemS (s : Str) (l : List Str) : Decidable (s ∈ l) := decidable_of_iff _ (memS_iff s l)

def headsOf (p : List PRule) : List Str := p.map fun r => r.head.name
/-- One step more, where what must not be so is a head's. -/
def dl (p : List PRule) (a : PAtom) : Nat := if a.neg = true ∧ a.name ∈ headsOf p then 1 else 0
structure Sol (p : List PRule) (M : Str → Nat) : Prop where
  out : ∀ s, s ∉ headsOf p → M s = 0
  up : ∀ r ∈ p, ∀ a ∈ r.body, M a.name + dl p a ≤ M r.head.name
structure Least (p : List PRule) (L : Str → Nat) : Prop where
  sol : Sol p L
  least : ∀ M, Sol p M → ∀ s, L s ≤ M s

theorem Least.unique {p : List PRule} {L M : Str → Nat} (h : Least p L) (k : Least p M) : L = M :=
  funext fun s => Nat.le_antisymm (h.least M k.sol s) (k.least L h.sol s)

theorem exists_min (P : Nat → Prop) : ∀ n, P n → ∃ m, P m ∧ ∀ k, P k → m ≤ k := by
  intro n
  induction n using Nat.strongRecOn with
  | ind n ih =>
    intro h
    by_cases hk : ∃ k, k < n ∧ P k
    · obtain ⟨k, hlt, hp⟩ := hk
      exact ih k hlt hp
    · exact ⟨n, h, fun k hp => by
        rcases Nat.lt_or_ge k n with hlt | hge
        · exact absurd ⟨k, hlt, hp⟩ hk
        · exact hge⟩

theorem exists_least {p : List PRule} {M : Str → Nat} (h : Sol p M) : ∃ L, Least p L := by
  have hm : ∀ s, ∃ m, (∃ M, Sol p M ∧ M s = m) ∧ ∀ k, (∃ M, Sol p M ∧ M s = k) → m ≤ k := fun s => exists_min (fun m => ∃ M, Sol p M ∧ M s = m) (M s) ⟨M, h, rfl⟩
  have hl : ∀ s, ∃ M, Sol p M ∧ M s = Classical.choose (hm s) := fun s => (Classical.choose_spec (hm s)).1
  have hle : ∀ s M, Sol p M → Classical.choose (hm s) ≤ M s := fun s M hM => (Classical.choose_spec (hm s)).2 _ ⟨M, hM, rfl⟩
  refine ⟨fun s => Classical.choose (hm s), ⟨fun s hs => ?_, fun r hr a ha => ?_⟩, fun M hM s => hle s M hM⟩
  · have := hle s M h
    rw [h.out s hs] at this
    exact Nat.le_zero.1 this
  · obtain ⟨N, hN, e⟩ := hl r.head.name
    have h1 := hle a.name N hN
    have h2 := hN.up r hr a ha
    show Classical.choose (hm a.name) + dl p a ≤ Classical.choose (hm r.head.name)
    rw [← e]
    omega

/-- No stratum is left out. -/
theorem Least.no_gap {p : List PRule} {L : Str → Nat} (h : Least p L) {s : Str} {n : Nat} (hn : n < L s) : ∃ x ∈ headsOf p, L x = n := by
  apply Classical.byContradiction
  intro hno
  have hno' : ∀ x ∈ headsOf p, L x ≠ n := fun x hx e => hno ⟨x, hx, e⟩
  have hsol : Sol p (fun x => if n < L x then L x - 1 else L x) := by
    refine ⟨fun x hx => ?_, fun r hr a ha => ?_⟩
    · have := h.sol.out x hx
      simp [this]
    · have h1 := h.sol.up r hr a ha
      have hr' : r.head.name ∈ headsOf p := List.mem_map.2 ⟨r, hr, rfl⟩
      have h2 := hno' _ hr'
      by_cases ha' : a.name ∈ headsOf p
      · have h3 := hno' _ ha'
        have hd : dl p a ≤ 1 := by unfold dl; split <;> omega
        show (if n < L a.name then L a.name - 1 else L a.name) + dl p a ≤ (if n < L r.head.name then L r.head.name - 1 else L r.head.name)
        split <;> split <;> omega
      · have h3 := h.sol.out _ ha'
        have hd : dl p a = 0 := by unfold dl; rw [if_neg (fun hh => ha' hh.2)]
        show (if n < L a.name then L a.name - 1 else L a.name) + dl p a ≤ (if n < L r.head.name then L r.head.name - 1 else L r.head.name)
        rw [h3, hd]
        simp
  have := h.least _ hsol s
  simp only [hn, if_true] at this
  omega

theorem nodup_le {α : Type} [DecidableEq α] : ∀ {l m : List α}, l.Nodup → (∀ x ∈ l, x ∈ m) → l.length ≤ m.length
  | [], _, _, _ => Nat.zero_le _
  | x :: l, m, hn, hs => by
    have hx : x ∈ m := hs x (by simp)
    have hn' := List.nodup_cons.1 hn
    have h1 : ∀ y ∈ l, y ∈ m.erase x := fun y hy => (List.mem_erase_of_ne (fun e => hn'.1 (by rw [← e]; exact hy))).2 (hs y (by simp [hy]))
    have h2 := nodup_le hn'.2 h1
    rw [List.length_erase_of_mem hx] at h2
    have h3 := List.length_pos_of_mem hx
    simp only [List.length_cons]
    omega

/-- As many strata as heads are enough. -/
theorem Least.bound {p : List PRule} {L : Str → Nat} (h : Least p L) {D : List Str} (hD : ∀ x ∈ headsOf p, x ∈ D) {s : Str} (hs : s ∈ headsOf p) : L s < D.length := by
  have h1 : ∀ n ∈ List.range (L s + 1), n ∈ D.map L := by
    intro n hn
    have hn' : n < L s + 1 := List.mem_range.1 hn
    by_cases e : n = L s
    · exact List.mem_map.2 ⟨s, hD s hs, e.symm⟩
    · obtain ⟨x, hx, e⟩ := h.no_gap (s := s) (n := n) (by omega)
      exact List.mem_map.2 ⟨x, hD x hx, e⟩
  have h2 := nodup_le List.nodup_range h1
  simp only [List.length_range, List.length_map] at h2
  omega

/-- A rule less is no worse. -/
theorem Sol.take {p : List PRule} {M : Str → Nat} (h : Sol p M) (n : Nat) : Sol (p.take n) (fun s => if s ∈ headsOf (p.take n) then M s else 0) := by
  have hsub : ∀ s, s ∈ headsOf (p.take n) → s ∈ headsOf p := fun s hs => by
    obtain ⟨r, hr, e⟩ := List.mem_map.1 hs
    exact List.mem_map.2 ⟨r, List.mem_of_mem_take hr, e⟩
  refine ⟨fun s hs => if_neg hs, fun r hr a ha => ?_⟩
  have hr' : r.head.name ∈ headsOf (p.take n) := List.mem_map.2 ⟨r, hr, rfl⟩
  have h1 := h.up r (List.mem_of_mem_take hr) a ha
  show (if a.name ∈ headsOf (p.take n) then M a.name else 0) + dl (p.take n) a ≤ (if r.head.name ∈ headsOf (p.take n) then M r.head.name else 0)
  rw [if_pos hr']
  by_cases ha' : a.name ∈ headsOf (p.take n)
  · rw [if_pos ha']
    have : dl (p.take n) a ≤ dl p a := by
      unfold dl
      split
      · rename_i h2; rw [if_pos ⟨h2.1, hsub _ h2.2⟩]; exact Nat.le_refl _
      · exact Nat.zero_le _
    omega
  · rw [if_neg ha']
    have : dl (p.take n) a = 0 := by unfold dl; rw [if_neg (fun hh => ha' hh.2)]
    omega

theorem Least.take {p : List PRule} {L K : Str → Nat} (h : Least p L) {n : Nat} (hk : Least (p.take n) K) (s : Str) : K s ≤ L s := by
  have := hk.least _ (h.sol.take n) s
  refine Nat.le_trans this ?_
  show (if s ∈ headsOf (p.take n) then L s else 0) ≤ L s
  split <;> omega

/-- What asks for nothing not to be so has one stratum. -/
theorem least_plain {p : List PRule} (h : ∀ r ∈ p, ∀ a ∈ r.body, a.neg = false) : Least p (fun _ => 0) := by
  refine ⟨⟨fun _ _ => rfl, fun r hr a ha => ?_⟩, fun _ _ _ => Nat.zero_le _⟩
  have : dl p a = 0 := by unfold dl; rw [if_neg (by rw [h r hr a ha]; simp)]
  show 0 + dl p a ≤ 0
  omega

end Go.Proofs.Ytobbjapmdpkogaa
