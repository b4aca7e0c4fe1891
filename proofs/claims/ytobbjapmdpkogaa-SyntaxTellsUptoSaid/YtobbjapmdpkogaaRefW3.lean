/-
  THE REFERENCE's WALK, GOOD OR BAD: one contract for both.
-/
import Derived.Test.YtobbjapmdpkogaaRefW2
import Derived.Test.YtobbjapmdpkogaaSynW5
namespace Go.Proofs.Ytobbjapmdpkogaa
open Go.RowKit

/-- What is left; or what is wrong, and what was left there. -/
abbrev St := Except (Int × Bytes) Bytes
def stOf {α : Type} : Got α → St
  | .ok (_, r) => .ok r
  | .error e => .error e
def WS (B : Nat) (s : Str) (w : World) : St → Prop
  | .ok r => r <:+ bytesOf s ∧ Wk B s (posF s r) 0 0 w
  | .error (e, r) => e ≠ 0 ∧ ∃ k, Wk B s k e ((posF s r : Nat) : Int) w
def isOk : St → Bool
  | .ok _ => true
  | .error _ => false
def eatσB (sign : Bytes) : St → Bool
  | .ok r => eatsF sign r
  | .error _ => false
def eatσ (sign : Bytes) : St → St
  | .ok r => .ok (eatF sign r)
  | .error e => .error e
def needσ (sign : Bytes) : St → St
  | .ok r => stOf (mustF sign r)
  | .error e => .error e
def stopσ (e : Int) : St → St
  | .ok r => .error (e, r)
  | .error e => .error e
section
variable {B : Nat} {s : Str} {w w' : World} {σ : St}
theorem WS.lt (h : WS B s w σ) : B < w.heap.size := by
  cases σ with
  | error e => obtain ⟨e, r⟩ := e; obtain ⟨_, k, hk⟩ := h; exact hk.lt
  | ok r => exact h.2.lt
theorem WS.far (h : WS B s w σ) {p : Addr} (hp : B ≠ p.block) (u : Value) : WS B s (w.setCell p u) σ := by
  cases σ with
  | error e => obtain ⟨e, r⟩ := e; obtain ⟨he, k, hk⟩ := h; exact ⟨he, k, hk.far hp u⟩
  | ok r => exact ⟨h.1, h.2.far hp u⟩
theorem WS.grown {row : Option Nat} (h : WS B s w σ) (hb : w.grownBy w' row) (hg : some B ≠ row) : WS B s w' σ := by
  cases σ with
  | error e => obtain ⟨e, r⟩ := e; obtain ⟨he, k, hk⟩ := h; exact ⟨he, k, hk.grown hb hg⟩
  | ok r => exact ⟨h.1, h.2.grown hb hg⟩
theorem WS.below {C : Nat} (h : WS B s w σ) (hb : Below C w w') (hC : B < C) : WS B s w' σ := by
  cases σ with
  | error e => obtain ⟨e, r⟩ := e; obtain ⟨he, k, hk⟩ := h; exact ⟨he, k, hk.below hb hC⟩
  | ok r => exact ⟨h.1, h.2.below hb hC⟩
theorem WS.alloc (h : WS B s w σ) (o : Obj) : WS B s (w.alloc o) σ := by
  cases σ with
  | error e => obtain ⟨e, r⟩ := e; obtain ⟨he, k, hk⟩ := h; exact ⟨he, k, hk.alloc o⟩
  | ok r => exact ⟨h.1, h.2.alloc o⟩
theorem WS.drewN (h : WS B s w σ) (n : Nat) : WS B s (w.drewN n) σ := by
  cases σ with
  | error e => obtain ⟨e, r⟩ := e; obtain ⟨he, k, hk⟩ := h; exact ⟨he, k, hk.drewN n⟩
  | ok r => exact ⟨h.1, h.2.drewN n⟩
theorem WS.drew (h : WS B s w σ) : WS B s w.drew σ := h.drewN 1
end

theorem okW (B : Nat) (s : Str) (σ : St) (w : World) (h : WS B s w σ) :
    Calls Try.prog 44 #[.pointer (some ⟨B, 0, none⟩)] w fun en w' => en = .returned (.bool (isOk σ)) ∧ w = w' := by
  cases σ with
  | error e =>
    obtain ⟨e, r⟩ := e
    obtain ⟨he, k, hk⟩ := h
    have := okRef B s k e _ w hk
    rwa [decide_eq_false he] at this
  | ok r =>
    have := okRef B s _ 0 0 w h.2
    rwa [decide_eq_true (rfl : (0 : Int) = 0)] at this
theorem stopW (B : Nat) (s : Str) (σ : St) (er : Int) (her : er ≠ 0) (w : World) (h : WS B s w σ) :
    Calls Try.prog 45 #[.pointer (some ⟨B, 0, none⟩), .int .i64 er] w fun en w' => en = .returned (.tuple #[]) ∧ WS B s w' (stopσ er σ) ∧ But B w w' := by
  cases σ with
  | error e =>
    obtain ⟨e, r⟩ := e
    obtain ⟨he, k, hk⟩ := h
    refine (stopBad B s k e _ er he w hk).mono ?_
    rintro en w' ⟨h1, rfl⟩
    exact ⟨h1, ⟨he, k, hk⟩, But.refl _ _⟩
  | ok r =>
    refine (stopGood B s _ 0 er w h.2).mono ?_
    rintro en w' ⟨h1, h2, h3⟩
    exact ⟨h1, ⟨her, _, h2⟩, h3⟩
theorem eatW (B : Nat) (s : Str) (σ : St) (sign : Str) (w : World) (hs : s.size ≤ 1099511627776) (hg : sign.size ≤ 1048576) (h : WS B s w σ) :
    Calls Try.prog 47 #[.pointer (some ⟨B, 0, none⟩), .string sign] w fun en w' => en = .returned (.bool (eatσB (bytesOf sign) σ)) ∧ WS B s w' (eatσ (bytesOf sign) σ) ∧ But B w w' := by
  cases σ with
  | error e =>
    obtain ⟨e, r⟩ := e
    obtain ⟨he, k, hk⟩ := h
    refine (eatBad B s k e _ he sign w hk).mono ?_
    rintro en w' ⟨h1, rfl⟩
    exact ⟨h1, ⟨he, k, hk⟩, But.refl _ _⟩
  | ok r =>
    have hr := rest_posF h.1
    have := eatRef B s _ 0 sign w hs hg h.2
    rw [hr] at this
    exact this.mono fun en w' ⟨h1, h2, h3⟩ => ⟨h1, ⟨(eatF_suffix _ _).trans h.1, h2⟩, h3⟩
theorem needW (B : Nat) (s : Str) (σ : St) (sign : Str) (w : World) (hs : s.size ≤ 1099511627776) (hg : sign.size ≤ 1048576) (h : WS B s w σ) :
    Calls Try.prog 49 #[.pointer (some ⟨B, 0, none⟩), .string sign] w fun en w' => en = .returned (.tuple #[]) ∧ WS B s w' (needσ (bytesOf sign) σ) ∧ But B w w' := by
  cases σ with
  | error e =>
    obtain ⟨e, r⟩ := e
    obtain ⟨he, k, hk⟩ := h
    refine (needBad B s k e _ he sign w hk).mono ?_
    rintro en w' ⟨h1, rfl⟩
    exact ⟨h1, ⟨he, k, hk⟩, But.refl _ _⟩
  | ok r =>
    have hr := rest_posF h.1
    have := needRef B s _ sign w hs hg h.2
    rw [hr] at this
    refine this.mono fun en w' h4 => ?_
    rcases hm : mustF (bytesOf sign) r with ⟨e, r'⟩ | ⟨u, r'⟩
    · obtain ⟨hb, v, x, k, h1, h2, h3⟩ := h4.error hm
      have h2' : v = .tuple #[] := h2
      subst h2'
      refine ⟨h1, ?_, hb⟩
      show WS B s w' (stOf (mustF (bytesOf sign) r))
      rw [hm]
      have := mustF_bad (bytesOf sign) r
      rw [hm] at this
      exact ⟨this, k, h3⟩
    · obtain ⟨hb, v, h1, h2, h3⟩ := h4.ok hm
      have h2' : v = .tuple #[] := h2
      subst h2'
      refine ⟨h1, ?_, hb⟩
      show WS B s w' (stOf (mustF (bytesOf sign) r))
      rw [hm]
      refine ⟨?_, h3⟩
      have := mustF_suffix (bytesOf sign) r
      rw [hm] at this
      exact List.IsSuffix.trans this h.1
theorem wordR_suffix (vars : Bool) (r : Bytes) : (wordR vars r).left <:+ r := by
  unfold wordR
  split
  · exact blankF_suffix _ _
  · split
    · exact (List.drop_suffix _ _).trans (blankF_suffix _ _)
    · exact blankF_suffix _ _
theorem wordR_bad (vars : Bool) (r : Bytes) : (wordR vars r).bad := by
  unfold wordR
  split
  · show (2 : Int) ≠ 0; decide
  · split
    · trivial
    · show (7 : Int) ≠ 0; decide
theorem wordW (B : Nat) (s : Str) (r : Bytes) (vars : Bool) (w : World) (hs : s.size ≤ 1099511627776) (h : WS B s w (.ok r)) :
    Calls Try.prog 65 #[.pointer (some ⟨B, 0, none⟩), .bool vars] w fun en w' => But B w w' ∧ WS B s w' (stOf (wordR vars r)) ∧ ∃ x : Str, en = .returned (.string x) ∧ x.size ≤ 1099511627776 ∧ ∀ y r', wordR vars r = .ok (y, r') → y = x := by
  have hr := rest_posF h.1
  have := walkWord B s _ vars w hs h.2
  rw [hr] at this
  refine this.mono fun en w' h4 => ?_
  have hsf := wordR_suffix vars r
  have hbd := wordR_bad vars r
  rcases hm : wordR vars r with ⟨e, r'⟩ | ⟨u, r'⟩
  · obtain ⟨hb, v, x, k, h1, h2, h3⟩ := h4.error hm
    obtain ⟨rfl, hxs⟩ := h2
    rw [hm] at hbd
    exact ⟨hb, ⟨hbd, k, h3⟩, x, h1, hxs, fun y r' h => by cases h⟩
  · obtain ⟨hb, v, h1, h2, h3⟩ := h4.ok hm
    obtain ⟨rfl, hxs⟩ := h2
    rw [hm] at hsf
    exact ⟨hb, ⟨List.IsSuffix.trans (l₂ := r) hsf h.1, h3⟩, u, h1, hxs, fun y r' h => by cases h; rfl⟩

/-- What a reading of the reference's leaves. -/
def EndsS {α : Type} (B : Nat) (s : Str) (w : World) (V : α → Value → World → Prop) (g : Got α) (en : Ending) (w' : World) : Prop :=
  But B w w' ∧ WS B s w' (stOf g) ∧ ∃ v y, en = .returned v ∧ V y v w' ∧ ∀ x r, g = .ok (x, r) → x = y
end Go.Proofs.Ytobbjapmdpkogaa
