/-
  THE TEXTS StrataR, MapP, StrataS1, one behind the other.
-/
import Derived.Test.YtbbiapgkcekabaaGreatPr8
import Derived.Test.YtbbiapgkcekabaaGreatPr9
import Derived.Test.YtbbiapgkcekabaaGreatPr10
import Derived.Test.YtbbiapgkcekabaaGreatPr15
import Derived.DeepKeys4
/-
  PLAIN: what hangs on what, all ways: from it whether there are strata; and the levels, round by round.
-/
namespace Go.Proofs.YtbbiapgkcekabaaGreat

abbrev Rel := Str × Str → Bool
def Rel.set (R : Rel) (a b : Str) : Rel := fun t => if t = (a, b) then true else R t
theorem Rel.set_same (R : Rel) (a b : Str) : R.set a b (a, b) = true := by simp [Rel.set]
theorem Rel.set_le (R : Rel) (a b : Str) {t : Str × Str} (h : R t = true) : R.set a b t = true := by unfold Rel.set; split <;> first | rfl | exact h
theorem Rel.set_or {R : Rel} {a b x y : Str} (h : R.set a b (x, y) = true) : (x = a ∧ y = b) ∨ R (x, y) = true := by
  unfold Rel.set at h
  split at h
  · rename_i e; injection e with e1 e2; exact .inl ⟨e1, e2⟩
  · exact .inr h

/-- What is told is so of whatever strata there are. -/
structure Snd (p : List PRule) (R O : Rel) : Prop where
  reach : ∀ N, Sol p N → ∀ a b, R (a, b) = true → N b ≤ N a
  over : ∀ N, Sol p N → ∀ a b, O (a, b) = true → N b + 1 ≤ N a
theorem Snd.empty (p : List PRule) : Snd p (fun _ => false) (fun _ => false) := ⟨fun _ _ _ _ h => (by cases h), fun _ _ _ _ h => (by cases h)⟩
theorem Snd.edge {p : List PRule} {R O : Rel} (h : Snd p R O) {r : PRule} (hr : r ∈ p) {x : PAtom} (hx : x ∈ r.body) : Snd p (R.set r.head.name x.name) O :=
  ⟨fun N hN a b hab => (Rel.set_or hab).elim (fun e => by obtain ⟨rfl, rfl⟩ := e; have := hN.up r hr x hx; omega) (h.reach N hN a b), h.over⟩
theorem Snd.nedge {p : List PRule} {R O : Rel} (h : Snd p R O) {r : PRule} (hr : r ∈ p) {x : PAtom} (hx : x ∈ r.body) (hn : x.neg = true) (hh : x.name ∈ headsOf p) : Snd p R (O.set r.head.name x.name) :=
  ⟨h.reach, fun N hN a b hab => (Rel.set_or hab).elim (fun e => by obtain ⟨rfl, rfl⟩ := e; have := hN.up r hr x hx; unfold dl at this; rw [if_pos ⟨hn, hh⟩] at this; exact this) (h.over N hN a b)⟩
theorem Snd.join {p : List PRule} {R O : Rel} (h : Snd p R O) {a k b : Str} (h1 : R (a, k) = true) (h2 : R (k, b) = true) : Snd p (R.set a b) O :=
  ⟨fun N hN x y hxy => (Rel.set_or hxy).elim (fun e => by obtain ⟨rfl, rfl⟩ := e; have := h.reach N hN _ _ h1; have := h.reach N hN _ _ h2; omega) (h.reach N hN x y), h.over⟩
theorem Snd.joinO {p : List PRule} {R O : Rel} (h : Snd p R O) {a k b : Str} (h1 : R (a, k) = true) (h2 : R (k, b) = true) (h3 : O (a, k) = true ∨ O (k, b) = true) : Snd p R (O.set a b) :=
  ⟨h.reach, fun N hN x y hxy => (Rel.set_or hxy).elim (fun e => by
    obtain ⟨rfl, rfl⟩ := e
    have := h.reach N hN _ _ h1; have := h.reach N hN _ _ h2
    rcases h3 with h3 | h3 <;> have := h.over N hN _ _ h3 <;> omega) (h.over N hN x y)⟩
theorem Snd.loop {p : List PRule} {R O : Rel} (h : Snd p R O) {a : Str} (ha : O (a, a) = true) : ∀ N, ¬ Sol p N := fun N hN => by have := h.over N hN a a ha; omega

/-! ### Ways -/
def EdgeP (p : List PRule) (a b : Str) : Prop := ∃ r ∈ p, r.head.name = a ∧ ∃ x ∈ r.body, x.name = b ∧ b ∈ headsOf p
def NEdgeP (p : List PRule) (a b : Str) : Prop := ∃ r ∈ p, r.head.name = a ∧ ∃ x ∈ r.body, x.name = b ∧ b ∈ headsOf p ∧ x.neg = true
theorem NEdgeP.edge {p : List PRule} {a b : Str} (h : NEdgeP p a b) : EdgeP p a b := let ⟨r, hr, e, x, hx, e2, hh, _⟩ := h; ⟨r, hr, e, x, hx, e2, hh⟩
inductive Way (E : Str → Str → Prop) (K : Str → Prop) : Str → Str → Prop
  | edge {a b : Str} : E a b → Way E K a b
  | step {a c b : Str} : E a c → K c → Way E K c b → Way E K a b
inductive NWay (E N : Str → Str → Prop) (K : Str → Prop) : Str → Str → Prop
  | edge {a b : Str} : N a b → NWay E N K a b
  | here {a c b : Str} : N a c → K c → Way E K c b → NWay E N K a b
  | later {a c b : Str} : E a c → K c → NWay E N K c b → NWay E N K a b
section
variable {E N : Str → Str → Prop} {K : Str → Prop} {k : Str}
theorem Way.split {a b : Str} (h : Way E (fun c => K c ∨ c = k) a b) : Way E K a b ∨ (Way E K a k ∧ Way E K k b) := by
  induction h with
  | edge h => exact .inl (.edge h)
  | step h hc _ ih =>
    rcases hc with hc | rfl
    · rcases ih with ih | ⟨i1, i2⟩
      · exact .inl (.step h hc ih)
      · exact .inr ⟨.step h hc i1, i2⟩
    · rcases ih with ih | ⟨_, i2⟩
      · exact .inr ⟨.edge h, ih⟩
      · exact .inr ⟨.edge h, i2⟩
theorem NWay.split (hEN : ∀ a b, N a b → E a b) {a b : Str} (h : NWay E N (fun c => K c ∨ c = k) a b) : NWay E N K k k ∨ NWay E N K a b ∨ (NWay E N K a k ∧ Way E K k b) ∨ (Way E K a k ∧ NWay E N K k b) := by
  induction h with
  | edge h => exact .inr (.inl (.edge h))
  | here h hc hw =>
    rcases hc with hc | rfl
    · rcases hw.split with ih | ⟨i1, i2⟩
      · exact .inr (.inl (.here h hc ih))
      · exact .inr (.inr (.inl ⟨.here h hc i1, i2⟩))
    · rcases hw.split with ih | ⟨_, i2⟩
      · exact .inr (.inr (.inl ⟨.edge h, ih⟩))
      · exact .inr (.inr (.inl ⟨.edge h, i2⟩))
  | later h hc _ ih =>
    rcases ih with ih | ih | ⟨i1, i2⟩ | ⟨i1, i2⟩
    · exact .inl ih
    · rcases hc with hc | rfl
      · exact .inr (.inl (.later h hc ih))
      · exact .inr (.inr (.inr ⟨.edge h, ih⟩))
    · rcases hc with hc | rfl
      · exact .inr (.inr (.inl ⟨.later h hc i1, i2⟩))
      · exact .inl i1
    · rcases hc with hc | rfl
      · exact .inr (.inr (.inr ⟨.step h hc i1, i2⟩))
      · exact .inr (.inr (.inr ⟨.edge h, i2⟩))
theorem Way.more {L : Str → Prop} (hKL : ∀ c, K c → L c) {a b : Str} (h : Way E K a b) : Way E L a b := by
  induction h with
  | edge h => exact .edge h
  | step h hc _ ih => exact .step h (hKL _ hc) ih
theorem NWay.more {L : Str → Prop} (hKL : ∀ c, K c → L c) {a b : Str} (h : NWay E N K a b) : NWay E N L a b := by
  induction h with
  | edge h => exact .edge h
  | here h hc hw => exact .here h (hKL _ hc) (hw.more hKL)
  | later h hc _ ih => exact .later h (hKL _ hc) ih
end

/-- Behind the phases of m heads. -/
structure Wsh (p : List PRule) (m : Nat) (R O : Rel) : Prop where
  way : ∀ a b, a ∈ headsOf p → b ∈ headsOf p → Way (EdgeP p) (fun c => c ∈ (headsOf p).take m) a b → R (a, b) = true
  nway : ∀ a b, a ∈ headsOf p → b ∈ headsOf p → NWay (EdgeP p) (NEdgeP p) (fun c => c ∈ (headsOf p).take m) a b → O (a, b) = true ∨ ∃ x ∈ headsOf p, O (x, x) = true
/-- In a phase: what there was ahead of it, and what has been looked at. -/
structure Mid (R0 O0 R O : Rel) (k : Str) (P : Str → Str → Prop) : Prop where
  le : ∀ t, R0 t = true → R t = true
  leO : ∀ t, O0 t = true → O t = true
  done : ∀ a b, P a b → R0 (a, k) = true → R0 (k, b) = true → R (a, b) = true ∧ (O0 (a, k) = true ∨ O0 (k, b) = true → O (a, b) = true)
theorem Mid.start (R O : Rel) (k : Str) : Mid R O R O k (fun _ _ => False) := ⟨fun _ h => h, fun _ h => h, fun _ _ h => h.elim⟩
theorem Mid.weak {R0 O0 R O : Rel} {k : Str} {P Q : Str → Str → Prop} (h : Mid R0 O0 R O k P) (hq : ∀ a b, Q a b → P a b) : Mid R0 O0 R O k Q := ⟨h.le, h.leO, fun a b hab => h.done a b (hq a b hab)⟩
theorem Mid.skip {R0 O0 R O : Rel} {k a b : Str} {P : Str → Str → Prop} (h : Mid R0 O0 R O k P) (hno : (R (a, k) && R (k, b)) = false) : Mid R0 O0 R O k (fun x y => P x y ∨ (x = a ∧ y = b)) :=
  ⟨h.le, h.leO, fun x y hxy h1 h2 => hxy.elim (fun hp => h.done x y hp h1 h2) (fun e => by
    obtain ⟨rfl, rfl⟩ := e
    rw [h.le _ h1, h.le _ h2] at hno
    cases hno)⟩
theorem Mid.reach {R0 O0 R O : Rel} {k a b : Str} {P : Str → Str → Prop} (h : Mid R0 O0 R O k P) (hO : (O (a, k) || O (k, b)) = false) : Mid R0 O0 (R.set a b) O k (fun x y => P x y ∨ (x = a ∧ y = b)) :=
  ⟨fun t ht => R.set_le a b (h.le t ht), h.leO, fun x y hxy h1 h2 => hxy.elim (fun hp => ⟨R.set_le a b (h.done x y hp h1 h2).1, (h.done x y hp h1 h2).2⟩) (fun e => by
    obtain ⟨rfl, rfl⟩ := e
    refine ⟨R.set_same _ _, fun h3 => ?_⟩
    rcases h3 with h3 | h3 <;> rw [h.leO _ h3] at hO <;> simp at hO)⟩
theorem Mid.over {R0 O0 R O : Rel} {k a b : Str} {P : Str → Str → Prop} (h : Mid R0 O0 R O k P) : Mid R0 O0 (R.set a b) (O.set a b) k (fun x y => P x y ∨ (x = a ∧ y = b)) :=
  ⟨fun t ht => R.set_le a b (h.le t ht), fun t ht => O.set_le a b (h.leO t ht), fun x y hxy h1 h2 => hxy.elim (fun hp => ⟨R.set_le a b (h.done x y hp h1 h2).1, fun h3 => O.set_le a b ((h.done x y hp h1 h2).2 h3)⟩) (fun e => by
    obtain ⟨rfl, rfl⟩ := e
    exact ⟨R.set_same _ _, fun _ => O.set_same _ _⟩)⟩
theorem Wsh.next {p : List PRule} {m : Nat} {k : Str} {R0 O0 R O : Rel} (h : Wsh p m R0 O0) (hk : (headsOf p)[m]? = some k) (hm : Mid R0 O0 R O k (fun a b => a ∈ headsOf p ∧ b ∈ headsOf p)) : Wsh p (m + 1) R O := by
  have hkh : k ∈ headsOf p := List.mem_of_getElem? hk
  have ht : ∀ c, c ∈ (headsOf p).take (m + 1) → c ∈ (headsOf p).take m ∨ c = k := fun c hc => by
    rw [List.take_add_one, hk] at hc
    rcases List.mem_append.1 hc with hc | hc
    · exact .inl hc
    · exact .inr (by simpa using hc)
  refine ⟨fun a b ha hb hw => ?_, fun a b ha hb hw => ?_⟩
  · rcases (hw.more ht).split with h1 | ⟨h1, h2⟩
    · exact hm.le _ (h.way a b ha hb h1)
    · exact (hm.done a b ⟨ha, hb⟩ (h.way a k ha hkh h1) (h.way k b hkh hb h2)).1
  · have up : (∃ x ∈ headsOf p, O0 (x, x) = true) → ∃ x ∈ headsOf p, O (x, x) = true := fun ⟨x, hx, hh⟩ => ⟨x, hx, hm.leO _ hh⟩
    have wayOf : ∀ {a b : Str}, NWay (EdgeP p) (NEdgeP p) (fun c => c ∈ (headsOf p).take m) a b → Way (EdgeP p) (fun c => c ∈ (headsOf p).take m) a b := fun hn => by
      induction hn with
      | edge h => exact .edge h.edge
      | here h hc hw => exact .step h.edge hc hw
      | later h hc _ ih => exact .step h hc ih
    rcases (hw.more ht).split (fun _ _ h => h.edge) with h1 | h1 | ⟨h1, h2⟩ | ⟨h1, h2⟩
    · rcases h.nway k k hkh hkh h1 with h1 | h1
      · exact .inr ⟨k, hkh, hm.leO _ h1⟩
      · exact .inr (up h1)
    · rcases h.nway a b ha hb h1 with h1 | h1
      · exact .inl (hm.leO _ h1)
      · exact .inr (up h1)
    · rcases h.nway a k ha hkh h1 with h3 | h3
      · exact .inl ((hm.done a b ⟨ha, hb⟩ (h.way a k ha hkh (wayOf h1)) (h.way k b hkh hb h2)).2 (.inl h3))
      · exact .inr (up h3)
    · rcases h.nway k b hkh hb h2 with h3 | h3
      · exact .inl ((hm.done a b ⟨ha, hb⟩ (h.way a k ha hkh h1) (h.way k b hkh hb (wayOf h2))).2 (.inr h3))
      · exact .inr (up h3)
/-- All edges told. -/
def Cov (p : List PRule) (l : List PRule) (R O : Rel) : Prop := ∀ r ∈ l, ∀ x ∈ r.body, x.name ∈ headsOf p → R (r.head.name, x.name) = true ∧ (x.neg = true → O (r.head.name, x.name) = true)
def CovA (p : List PRule) (r : PRule) (l : List PAtom) (R O : Rel) : Prop := ∀ x ∈ l, x.name ∈ headsOf p → R (r.head.name, x.name) = true ∧ (x.neg = true → O (r.head.name, x.name) = true)
theorem CovA.more {p : List PRule} {r : PRule} {l : List PAtom} {R O R' O' : Rel} (h : CovA p r l R O) (h1 : ∀ t, R t = true → R' t = true) (h2 : ∀ t, O t = true → O' t = true) : CovA p r l R' O' :=
  fun x hx hh => ⟨h1 _ (h x hx hh).1, fun hn => h2 _ ((h x hx hh).2 hn)⟩
theorem CovA.snoc {p : List PRule} {r : PRule} {l : List PAtom} {R O : Rel} (h : CovA p r l R O) {y : PAtom} (hy : y.name ∈ headsOf p → R (r.head.name, y.name) = true ∧ (y.neg = true → O (r.head.name, y.name) = true)) : CovA p r (l ++ [y]) R O :=
  fun x hx hh => (List.mem_append.1 hx).elim (fun hx => h x hx hh) (fun hx => by obtain rfl := List.mem_singleton.1 hx; exact hy hh)
theorem Cov.snoc {p l : List PRule} {R O : Rel} (h : Cov p l R O) {r : PRule} (hr : CovA p r r.body R O) : Cov p (l ++ [r]) R O :=
  fun q hq => (List.mem_append.1 hq).elim (fun hq => h q hq) (fun hq => by obtain rfl := List.mem_singleton.1 hq; exact hr)
theorem Cov.more {p l : List PRule} {R O R' O' : Rel} (h : Cov p l R O) (h1 : ∀ t, R t = true → R' t = true) (h2 : ∀ t, O t = true → O' t = true) : Cov p l R' O' :=
  fun r hr x hx hh => ⟨h1 _ (h r hr x hx hh).1, fun hn => h2 _ ((h r hr x hx hh).2 hn)⟩
theorem Wsh.start {p : List PRule} {R O : Rel} (h : Cov p p R O) : Wsh p 0 R O := by
  refine ⟨fun a b ha hb hw => ?_, fun a b ha hb hw => ?_⟩
  · cases hw with
    | edge h1 => obtain ⟨r, hr, rfl, x, hx, rfl, hh⟩ := h1; exact (h r hr x hx hh).1
    | step _ hc _ => simp at hc
  · cases hw with
    | edge h1 => obtain ⟨r, hr, rfl, x, hx, rfl, hh, hn⟩ := h1; exact .inl ((h r hr x hx hh).2 hn)
    | here _ hc _ => simp at hc
    | later _ hc _ => simp at hc

theorem filter_le {α : Type} (P Q : α → Bool) (h : ∀ x, P x = true → Q x = true) : ∀ l : List α, (l.filter P).length ≤ (l.filter Q).length
  | [] => Nat.le_refl _
  | x :: l => by
    have ih := filter_le P Q h l
    rw [List.filter_cons, List.filter_cons]
    cases hp : P x
    · split
      · rename_i e; cases e
      · split
        · simp only [List.length_cons]; omega
        · exact ih
    · rw [h x hp]; simpa using ih
theorem filter_lt {α : Type} (P Q : α → Bool) (h : ∀ x, P x = true → Q x = true) {y : α} (hQ : Q y = true) (hP : P y = false) : ∀ l : List α, y ∈ l → (l.filter P).length + 1 ≤ (l.filter Q).length
  | [], hy => by simp at hy
  | x :: l, hy => by
    rw [List.filter_cons, List.filter_cons]
    rcases List.mem_cons.1 hy with rfl | hy
    · rw [hP, hQ]
      have := filter_le P Q h l
      simpa using this
    · have ih := filter_lt P Q h hQ hP l hy
      cases hp : P x
      · split
        · rename_i e; cases e
        · split
          · simp only [List.length_cons]; omega
          · exact ih
      · rw [h x hp]; simpa using ih

open Classical in
/-- Where nothing hangs on its own not being so there are strata. -/
theorem Wsh.sol {p : List PRule} {R O : Rel} (h : Wsh p (headsOf p).length R O) (hno : ∀ x ∈ headsOf p, O (x, x) = false) : ∃ N, Sol p N := by
  let Ov : Str → Str → Prop := NWay (EdgeP p) (NEdgeP p) (fun c => c ∈ headsOf p)
  have hirr : ∀ a ∈ headsOf p, ¬ Ov a a := fun a ha hw => by
    rcases h.nway a a ha ha (hw.more (fun c hc => by rwa [List.take_length])) with h1 | ⟨x, hx, h1⟩
    · rw [hno a ha] at h1; cases h1
    · rw [hno x hx] at h1; cases h1
  refine ⟨fun a => ((headsOf p).filter (fun c => decide (Ov a c))).length, fun s hs => ?_, fun r hr x hx => ?_⟩
  · rw [List.filter_eq_nil_iff.2]
    · rfl
    · intro c _ hc
      have hc := of_decide_eq_true hc
      have : s ∈ headsOf p := by
        cases hc with
        | edge h1 => obtain ⟨r, hr, e, _⟩ := h1; exact List.mem_map.2 ⟨r, hr, e⟩
        | here h1 => obtain ⟨r, hr, e, _⟩ := h1; exact List.mem_map.2 ⟨r, hr, e⟩
        | later h1 => obtain ⟨r, hr, e, _⟩ := h1; exact List.mem_map.2 ⟨r, hr, e⟩
      exact hs this
  · have hrh : r.head.name ∈ headsOf p := List.mem_map.2 ⟨r, hr, rfl⟩
    show ((headsOf p).filter (fun c => decide (Ov x.name c))).length + dl p x ≤ ((headsOf p).filter (fun c => decide (Ov r.head.name c))).length
    by_cases hh : x.name ∈ headsOf p
    · have hle : ∀ c, decide (Ov x.name c) = true → decide (Ov r.head.name c) = true := fun c hc => decide_eq_true (NWay.later ⟨r, hr, rfl, x, hx, rfl, hh⟩ hh (of_decide_eq_true hc))
      cases hn : x.neg
      · have : dl p x = 0 := by unfold dl; rw [if_neg (by rw [hn]; simp)]
        rw [this]
        exact filter_le _ _ hle _
      · have hd : dl p x = 1 := by unfold dl; rw [if_pos ⟨hn, hh⟩]
        rw [hd]
        exact filter_lt _ _ hle (y := x.name) (decide_eq_true (NWay.edge ⟨r, hr, rfl, x, hx, rfl, hh, hn⟩)) (decide_eq_false (hirr _ hh)) _ hh
    · have hd : dl p x = 0 := by unfold dl; rw [if_neg (fun e => hh e.2)]
      rw [hd]
      rw [List.filter_eq_nil_iff.2]
      · exact Nat.zero_le _
      · intro c _ hc
        have hc := of_decide_eq_true hc
        have : x.name ∈ headsOf p := by
          cases hc with
          | edge h1 => obtain ⟨r, hr, e, _⟩ := h1; exact List.mem_map.2 ⟨r, hr, e⟩
          | here h1 => obtain ⟨r, hr, e, _⟩ := h1; exact List.mem_map.2 ⟨r, hr, e⟩
          | later h1 => obtain ⟨r, hr, e, _⟩ := h1; exact List.mem_map.2 ⟨r, hr, e⟩
        exact hh this

/-! ### Levels, round by round -/
/-- How many are not yet what they come to. -/
def unset (p : List PRule) (L M : Str → Nat) : Nat := ((onceS (headsOf p)).filter (fun h => decide (M h < L h))).length
def lift (M : Str → Nat) (s : Str) (n : Nat) : Str → Nat := fun t => if t = s then max (M s) n else M t
/-- In a round: what there was ahead of it, and the rules that have been looked at. -/
structure Rnd (p : List PRule) (L M0 M : Str → Nat) (l : List (PRule × PAtom)) : Prop where
  ge : ∀ s, M0 s ≤ M s
  le : ∀ s, M s ≤ L s
  done : ∀ q ∈ l, M0 q.2.name + dl p q.2 ≤ M q.1.head.name
theorem Rnd.start {p : List PRule} {L M : Str → Nat} (h : ∀ s, M s ≤ L s) : Rnd p L M M [] := ⟨fun _ => Nat.le_refl _, h, by simp⟩
theorem Rnd.step {p : List PRule} {L M0 M : Str → Nat} {l : List (PRule × PAtom)} (hL : Sol p L) (h : Rnd p L M0 M l) {r : PRule} (hr : r ∈ p) {x : PAtom} (hx : x ∈ r.body) : Rnd p L M0 (lift M r.head.name (M x.name + dl p x)) (l ++ [(r, x)]) := by
  have hm : ∀ s, M s ≤ lift M r.head.name (M x.name + dl p x) s := fun s => by
    unfold lift
    split
    · rename_i e; rw [e]; exact Nat.le_max_left _ _
    · exact Nat.le_refl _
  refine ⟨fun s => Nat.le_trans (h.ge s) (hm s), fun s => ?_, fun q hq => ?_⟩
  · unfold lift
    split
    · rename_i e
      have h1 := hL.up r hr x hx
      have h2 := h.le x.name
      have h3 := h.le r.head.name
      rw [e]
      exact Nat.max_le.2 ⟨h3, by omega⟩
    · exact h.le s
  · rcases List.mem_append.1 hq with hq | hq
    · exact Nat.le_trans (h.done q hq) (hm _)
    · obtain rfl := List.mem_singleton.1 hq
      have : lift M r.head.name (M x.name + dl p x) r.head.name = max (M r.head.name) (M x.name + dl p x) := by unfold lift; rw [if_pos rfl]
      show M0 x.name + dl p x ≤ lift M r.head.name _ r.head.name
      rw [this]
      have := h.ge x.name
      exact Nat.le_trans (by omega) (Nat.le_max_right _ _)
theorem unset_le {p : List PRule} {L M0 M : Str → Nat} (h : ∀ s, M0 s ≤ M s) : unset p L M ≤ unset p L M0 :=
  filter_le _ _ (fun x hx => decide_eq_true (by have := of_decide_eq_true hx; have := h x; omega)) _
theorem Least.tight {p : List PRule} {L M : Str → Nat} (h : Least p L) (hle : ∀ s, M s ≤ L s) {s : Str} (hs : M s < L s) :
    ∃ r ∈ p, ∃ x ∈ r.body, M r.head.name < L r.head.name ∧ M x.name = L x.name ∧ L x.name + dl p x = L r.head.name := by
  apply Classical.byContradiction
  intro hno
  have hsol : Sol p (fun t => if M t < L t then L t - 1 else L t) := by
    refine ⟨fun t ht => ?_, fun r hr x hx => ?_⟩
    · have := h.sol.out t ht
      simp [this]
    · have h1 := h.sol.up r hr x hx
      have h2 := hle x.name
      have h3 := hle r.head.name
      show (if M x.name < L x.name then L x.name - 1 else L x.name) + dl p x ≤ (if M r.head.name < L r.head.name then L r.head.name - 1 else L r.head.name)
      by_cases e1 : M r.head.name < L r.head.name
      · rw [if_pos e1]
        by_cases e2 : M x.name < L x.name
        · rw [if_pos e2]; omega
        · rw [if_neg e2]
          have : L x.name + dl p x ≠ L r.head.name := fun e => hno ⟨r, hr, x, hx, e1, by omega, e⟩
          omega
      · rw [if_neg e1]
        split <;> omega
  have := h.least _ hsol s
  simp only [hs, if_true] at this
  omega
/-- A round leaves one less, if there is one. -/
theorem Rnd.finish {p : List PRule} {L M0 M : Str → Nat} {l : List (PRule × PAtom)} (hL : Least p L) (h : Rnd p L M0 M l) (hl : ∀ r ∈ p, ∀ x ∈ r.body, (r, x) ∈ l) {n : Nat} (hn : unset p L M0 ≤ n) : unset p L M ≤ n - 1 := by
  by_cases hz : unset p L M0 = 0
  · have := unset_le (p := p) (L := L) h.ge
    omega
  · have : ∃ s ∈ onceS (headsOf p), M0 s < L s := by
      apply Classical.byContradiction
      intro hno
      apply hz
      unfold unset
      rw [List.filter_eq_nil_iff.2]
      · rfl
      · intro s hs hc
        exact hno ⟨s, hs, of_decide_eq_true hc⟩
    obtain ⟨s, _, hs⟩ := this
    obtain ⟨r, hr, x, hx, h1, h2, h3⟩ := hL.tight (fun t => Nat.le_trans (h.ge t) (h.le t)) hs
    have h4 := h.done (r, x) (hl r hr x hx)
    have h5 : unset p L M + 1 ≤ unset p L M0 := filter_lt (fun t => decide (M t < L t)) (fun t => decide (M0 t < L t)) (fun t ht => decide_eq_true (by have := of_decide_eq_true ht; have := h.ge t; omega)) (y := r.head.name) (decide_eq_true h1) (decide_eq_false (by have h4 : M0 x.name + dl p x ≤ M r.head.name := h4; omega)) _ ((mem_onceS _ _).2 (List.mem_map.2 ⟨r, hr, rfl⟩))
    omega
theorem unset_start {p : List PRule} {L M : Str → Nat} : unset p L M ≤ p.length := Nat.le_trans (List.length_filter_le _ _) (Dh_le p)
theorem unset_none {p : List PRule} {L M : Str → Nat} (hL : Least p L) (hle : ∀ s, M s ≤ L s) (h : unset p L M = 0) : M = L := by
  funext s
  by_cases hs : s ∈ headsOf p
  · apply Nat.le_antisymm (hle s)
    apply Nat.le_of_not_lt
    intro hlt
    have := List.length_eq_zero_iff.1 h
    rw [List.filter_eq_nil_iff] at this
    exact this s ((mem_onceS _ _).2 hs) (decide_eq_true hlt)
  · have := hle s
    rw [hL.sol.out s hs] at this ⊢
    omega
end Go.Proofs.YtbbiapgkcekabaaGreat

/-
  A MAP FROM TWO TEXTS TO TRUE OR FALSE, that the call makes: 'MapP'.
-/
namespace Go.Proofs.YtbbiapgkcekabaaGreat
open Go.RowKit Go.Maps

set_option maxRecDepth 100000 in
theorem laidOk : laidOutB Tryz.prog = true := by kernel_rfl
set_option maxRecDepth 100000 in
theorem lawPair : Keyed Tryz.prog 86 := Keyed.of_law (deep_law_laid laidOk (m := 3) (by decide) (of_decide_eq_true (by kernel_rfl)) (by kernel_rfl) (by kernel_rfl))
def pairV (t : Str × Str) : Value := .agg #[.string t.1, .string t.2]
def keyQ (t : Str × Str) : Lit := .string (keyBytes [.string t.1.data.toList, .string t.2.data.toList])
structure PairOk (t : Str × Str) : Prop where
  a : t.1.size ≤ maxLen
  b : t.2.size ≤ maxLen
set_option maxRecDepth 100000 in
theorem keyPair {t : Str × Str} (h : PairOk t) : keyOf Tryz.prog 86 (pairV t) = some (keyQ t) := by
  have hu := Tryz.underlying86
  have he := Tryz.underlying9
  have hk : Tryz.prog.keyType 86 = true := by kernel_rfl
  have hc : Tryz.prog.cellsOf 86 = 2 := by kernel_rfl
  have hc1 : Tryz.prog.cellsOf 9 = 1 := by kernel_rfl
  have hn : 0 < Tryz.prog.types.size := of_decide_eq_true (by kernel_rfl)
  obtain ⟨m, hm⟩ : ∃ m, Tryz.prog.types.size = m + 1 := ⟨Tryz.prog.types.size - 1, by omega⟩
  unfold keyOf
  simp only [hu]
  rw [if_pos (by simp [hk, Value.formed, hu, hc, pairV]), hm]
  unfold Program.keyLits
  simp only [hu, Value.cells, pairV]
  rw [if_pos (by rw [hc]; rfl), show List.range 2 = [0, 1] from rfl, List.mapM_cons, List.mapM_cons, List.mapM_nil]
  simp [hc1, Program.keyLits, he, h.a, h.b, keyQ]
set_option maxRecDepth 100000 in
theorem keyQ_inj {s t : Str × Str} (hs : PairOk s) (ht : PairOk t) (h : keyQ s = keyQ t) : s = t := by
  have h1 := keyPair hs
  rw [h] at h1
  have := lawPair.inj h1 (keyPair ht)
  unfold pairV at this
  injection this with this
  simp only [Array.mk.injEq, List.cons.injEq, Value.string.injEq, and_true] at this
  exact Prod.ext this.1 this.2

/-- Block b is a map of at most n entries that holds R. -/
def MapP (w : World) (b n : Nat) (R : Rel) : Prop :=
  ∃ D : DataW Unit, w.ownsMap Tryz.prog 86 (plainElem Tryz.prog 4) b n D ∧ ∀ s, PairOk s → D.atKey (keyQ s) (.lit (.bool false)) = .lit (.bool (R s))
section
variable {w w' : World} {b n : Nat} {R : Rel}
theorem MapP.lt (h : MapP w b n R) : b < w.heap.size := let ⟨_, h1, _⟩ := h; h1.lt
theorem MapP.kept {row : Option Nat} (h : MapP w b n R) (hg : w.grownBy w' row) (hne : some b ≠ row) : MapP w' b n R := let ⟨D, h1, h2⟩ := h; ⟨D, h1.kept hg hne, h2⟩
theorem MapP.below {B : Nat} (h : MapP w b n R) (hb : Below B w w') (hB : b < B) : MapP w' b n R := by
  obtain ⟨D, ⟨es, clock, h1, h2⟩, h3⟩ := h
  exact ⟨D, ⟨es, clock, (hb.block b hB).trans h1, h2⟩, h3⟩
theorem MapP.made (w : World) : MapP (w.alloc (.map #[] 0)) w.heap.size 0 (fun _ => false) := ⟨.map [], World.ownsMap_made _ _ _ _, fun _ _ => rfl⟩
theorem MapP.wider (h : MapP w b n R) {m : Nat} (hm : n ≤ m) : MapP w b m R := let ⟨D, ⟨es, clock, h1, h2, h3, h4⟩, h5⟩ := h; ⟨D, ⟨es, clock, h1, h2, Nat.le_trans h3 hm, h4⟩, h5⟩
set_option maxRecDepth 100000 in
theorem MapP.get (h : MapP w b n R) {s : Str × Str} (hs : PairOk s) : (Instr.lookup 85 (.map (some b)) (.agg #[.string s.1, .string s.2]) false).run Tryz.prog w = .ok (.bool (R s)) w := by
  obtain ⟨D, h1, h2⟩ := h
  obtain ⟨v, ps, hrun, hv⟩ := World.ownsMap.lookup h1 lawPair Tryz.underlying85 (zeroBool w) (zd := .lit (.bool false)) (zp := []) (plainElem_bool Tryz.underlying4 false) (keyPair hs)
  rw [h2 s hs] at hv
  have hrun' : (Instr.lookup 85 (.map (some b)) (.agg #[.string s.1, .string s.2]) false).run Tryz.prog w = .ok v w := hrun
  rw [hrun']
  have hu : Tryz.prog.underlying 4 = some .bool := Tryz.underlying4
  unfold plainElem at hv
  rw [hu] at hv
  cases v <;> simp at hv
  rename_i x
  rw [hv.1]
set_option maxRecDepth 100000 in
theorem MapP.put (h : MapP w b n R) (hn : n < maxLen) {x y : Str} (hs : PairOk (x, y)) :
    ∃ w', (Instr.mapUpdate 85 (.map (some b)) (.agg #[.string x, .string y]) (.bool true)).run Tryz.prog w = .ok () w' ∧ MapP w' b (n + 1) (R.set x y) ∧ w.grownBy w' (some b) := by
  obtain ⟨D, h1, h2⟩ := h
  have hM := h1.isMap
  obtain ⟨w', hrun, h3, h4⟩ := h1.update lawPair Tryz.underlying85 hn (keyPair hs) (plainElem_bool Tryz.underlying4 true)
  refine ⟨w', hrun, ⟨_, h3, fun t ht => ?_⟩, h4⟩
  unfold Rel.set
  by_cases e : t = (x, y)
  · subst e
    rw [if_pos rfl]
    exact Maps.atKey_put_same hM (by trivial) _ _
  · rw [if_neg e]
    have hne : keyQ t ≠ keyQ (x, y) := fun h => e (keyQ_inj ht hs h)
    rw [Maps.atKey_put_other hne]
    exact h2 t ht
end
end Go.Proofs.YtbbiapgkcekabaaGreat

/-
  THE WALK OF cororef1.Strata's closure: is it a head?
-/
namespace Go.Proofs.YtbbiapgkcekabaaGreat
open Go.RowKit Go.Maps

set_option maxRecDepth 100000 in
set_option maxHeartbeats 4000000 in
theorem headRef {S : Nat → Prop} (s : Str) (C n : Nat) (ha : Option Addr) (hc : Nat) (H : List Str) (w : World) (hn : H.length = n) (h : Blk w C 59 #[.slice ha n hc]) (hr : RdStrs S w (.slice ha n hc) H) (h1 : n ≤ 1048576) :
    Calls Tryz.prog 57 #[.string s, .pointer (some ⟨C, 0, none⟩)] w fun e w' => e = .returned (.bool (memS s H)) ∧ w = w' := by
  subst hn
  have HR := Lib.hid hr
  have c0 := h.cell 0
  simp only [List.getElem?_toArray, List.getElem?_cons_zero] at c0
  clear h hr
  go_enter Tryz.func57, Tryz.ntmps57
  go_wp2
  go_loopw [8] (fun i wr => ∃ k : Nat, k ≤ H.length ∧ i = .int .i64 k ∧ wr = w ∧ Hid (memS s (H.take k) = false)) (fun i _ => H.length - (intOf i).toNat)
  case atStart => exact ⟨0, Nat.zero_le _, rfl, rfl, Lib.hid rfl⟩
  case round =>
    obtain ⟨k, hk, rfl, rfl, HM⟩ := hrel
    by_cases hlt : k < H.length
    · obtain ⟨x, hx⟩ : ∃ x, H[k]? = some x := ⟨_, List.getElem?_eq_getElem hlt⟩
      obtain ⟨b1, o1, rfl, -, -, d0⟩ := RdStrs.at HR.out hx
      have hmm : x ∈ H := List.mem_of_getElem? hx
      have HM2 := Lib.hid (show decide (s = x) = false → memS s (H.take (k + 1)) = false from fun h => by
        rw [List.take_add_one, hx]
        show memS s (H.take k ++ [x]) = false
        rw [memS_snoc, HM.out, h]; rfl)
      by_cases e : s = x
      · have g1 : (x.toList == s.toList) = true := by rw [beq_toList]; exact decide_eq_true e.symm
        have HF := Lib.hid (show memS s H = true from (memS_iff _ _).2 (by rw [e]; exact hmm))
        clear hx e hmm HM2
        go_wp2
        go_ret
        exact ⟨ret_bool HF.out.symm, by trivial⟩
      · have g1 : (x.toList == s.toList) = false := by rw [beq_toList]; exact decide_eq_false (fun h => e h.symm)
        have HM3 := Lib.hid (HM2.out (decide_eq_false e))
        clear hx e hmm HM2
        go_wp2
        go_roundw
        case rel => exact ⟨k + 1, by omega, by go_num, by first | rfl | trivial, HM3⟩
        case measure => simp [intOf]; omega
    · have HF := Lib.hid (show memS s H = false from by have := HM.out; rwa [List.take_of_length_le (by omega)] at this)
      go_wp2
      go_ret
      exact ⟨ret_bool HF.out.symm, by trivial⟩
end Go.Proofs.YtbbiapgkcekabaaGreat
