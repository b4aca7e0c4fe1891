/-
  THE TEXTS NaiveP, StrataQ, NaiveQ, NaiveA, NaiveR, NaiveM, RoundP, one behind the other.
-/
import Derived.Test.YtiiicochdidolaaGreatPk3
import Derived.Test.YtiiicochdidolaaGreatPk4
import Derived.Test.YtiiicochdidolaaGreatPk7
namespace Go.Proofs.YtiiicochdidolaaGreat
def headsP (r : PRule) (l : List PFact) : List PFact × Int :=
  if (allP r.body l).2 ≠ 0 then ([], (allP r.body l).2) else (ofF ((allP r.body l).1.filterMap fun b => fillP r.head b), 0)
def onceP (n : Int) (l : List PFact) : List (PRule × Int) → List PFact → List PFact × Int
  | [], out => (out, 0)
  | (r, s) :: p, out => if s ≠ n then onceP n l p out else if (headsP r l).2 ≠ 0 then ([], (headsP r l).2)
    else if 200 < (joinF out (headsP r l).1).length then ([], 5) else onceP n l p (joinF out (headsP r l).1)
def fixP (p : List (PRule × Int)) (n : Int) : Nat → List PFact → List PFact × Int
  | 0, out => (out, 0)
  | k + 1, out => if (onceP n out p out).2 ≠ 0 then ([], (onceP n out p out).2) else if (onceP n out p out).1.length = out.length then (out, 0) else fixP p n k (onceP n out p out).1
def runP (p : List (PRule × Int)) : Nat → Int → List PFact → List PFact × Int
  | 0, _, out => (out, 0)
  | k + 1, i, out => if (fixP p i 201 out).2 ≠ 0 then ([], (fixP p i 201 out).2) else runP p k (i + 1) (fixP p i 201 out).1
def atomsOf (p : List PRule) : List PAtom := p.flatMap fun r => r.head :: r.body
def arityF (m : Str → Option Int) (a : PAtom) : Str → Option Int := fun t => if t = a.name then some (a.terms.length : Int) else m t
def arityP (p : List PRule) : Str → Option Int := (atomsOf p).foldl arityF fun _ => none
def misfit (p : List PRule) (f : PFact) : Bool := match arityP p f.name with
  | none => false
  | some k => k != (f.args.length : Int)
def factsBad (p : List PRule) (l : List PFact) : Int × Int :=
  if (setF l).1 ≠ 0 then setF l else match l.findIdx? (misfit p) with
    | some i => (8, (i : Int))
    | none => (0, 0)
def countP (st : List Int) : Int := match st with
  | [] => 0
  | x :: r => r.foldl max x + 1
def naiveP (st : List Int) (q : Int) (p : List PRule) (l : List PFact) : List PFact × Int :=
  if q ≠ 0 then ([], q) else if (factsBad p l).1 ≠ 0 then ([], (factsBad p l).1) else runP (p.zip st) (countP st).toNat 0 l
theorem heads_zero {r : PRule} {l : List PFact} (h : (headsP r l).2 = 0) : (allP r.body l).2 = 0 ∧ (headsP r l).1 = ofF ((allP r.body l).1.filterMap fun b => fillP r.head b) := by
  unfold headsP at *
  by_cases h1 : (allP r.body l).2 = 0
  · rw [if_neg (by simpa using h1)]; exact ⟨h1, rfl⟩
  · rw [if_pos h1] at h; exact absurd h h1
theorem heads_err {r : PRule} {l : List PFact} (h : (headsP r l).2 ≠ 0) : headsP r l = ([], (allP r.body l).2) ∧ (allP r.body l).2 ≠ 0 := by
  unfold headsP at *
  by_cases h1 : (allP r.body l).2 = 0
  · rw [if_neg (by simpa using h1)] at h; exact absurd rfl h
  · rw [if_pos h1]; exact ⟨rfl, h1⟩
theorem mem_heads {r : PRule} {l : List PFact} (h : (headsP r l).2 = 0) (f : PFact) : f ∈ (headsP r l).1 ↔ ∃ m, Told (fun _ => l) r.body m ∧ fillP r.head m = some f := by
  obtain ⟨h1, h2⟩ := heads_zero h
  rw [h2, mem_ofF, List.mem_filterMap]
  rcases allP_cases r.body l with ⟨h3, -⟩ | ⟨-, -, -, -, h4⟩
  · exact absurd h1 h3
  · exact exists_congr fun m => and_congr_left fun _ => h4 m
theorem heads_set {r : PRule} {l : List PFact} (h : (headsP r l).2 = 0) : (setF l).1 = 0 ∧ bodyBad r.body = 0 := by
  rcases allP_cases r.body l with ⟨h3, -⟩ | ⟨-, h4, h5, -⟩
  · exact absurd (heads_zero h).1 h3
  · exact ⟨h5, h4⟩
theorem heads_much {r : PRule} {l : List PFact} (hb : bodyBad r.body = 0) (hs : (setF l).1 = 0) (h : (headsP r l).2 ≠ 0) : (headsP r l).2 = 4 := by
  obtain ⟨h1, h2⟩ := heads_err h
  rw [h1]
  show (withP r.body l (-1) []).2 = 4
  have h2' : (withP r.body l (-1) []).2 ≠ 0 := h2
  unfold withP at *
  rw [if_neg (by simpa using hb), if_neg (by simpa using hs), if_neg (by simp [setF_nil])] at *
  cases hg : goP (pickP l [] (-1)) 0 [[]] r.body with
  | none => rfl
  | some ls => rw [hg] at h2'; exact absurd rfl h2'
theorem told_agree {l l' : List PFact} {b : List PAtom} (h : ∀ a ∈ b, ∀ f : PFact, f.name = a.name → (f ∈ l ↔ f ∈ l')) {m : Binds} (ht : Told (fun _ => l) b m) : Told (fun _ => l') b m := by
  obtain ⟨h1, h2, h3, h4⟩ := ht
  refine ⟨h1, h2, h3, fun j a ha => ?_⟩
  obtain ⟨f, k1, k2⟩ := h4 j a ha
  refine ⟨f, k1, ?_⟩
  rw [← k2, Bool.eq_iff_iff, memF_iff, memF_iff]
  exact (h a (List.mem_of_getElem? ha) f (fillP_name k1).1.symm).symm
theorem mem_joinF (a b : List PFact) (x : PFact) : x ∈ joinF a b ↔ x ∈ a ∨ x ∈ b := by unfold joinF; rw [mem_ofF, List.mem_append]
theorem nodup_rising {l : List PFact} (h : Rising l) : l.Nodup := h.imp fun {a b} hab e => by subst e; rw [ltF_irrefl] at hab; cases hab
structure Round (n : Int) (l : List PFact) (p : List (PRule × Int)) (out out' : List PFact) : Prop where
  ok : ∀ r s, (r, s) ∈ p → s = n → (headsP r l).2 = 0
  mem : ∀ x, x ∈ out' ↔ x ∈ out ∨ ∃ r s, (r, s) ∈ p ∧ s = n ∧ x ∈ (headsP r l).1
  rise : Rising out'
  len : out'.length ≤ 200
theorem once_round {n : Int} {l : List PFact} : ∀ {p : List (PRule × Int)} {out : List PFact}, (onceP n l p out).2 = 0 → Rising out → out.length ≤ 200 → Round n l p out (onceP n l p out).1
  | [], out, _, hr, hl => ⟨fun _ _ h => by simp at h, fun x => by simp [onceP], hr, hl⟩
  | (r, s) :: p, out, h, hr, hl => by
    rw [onceP] at h ⊢
    by_cases hs : s = n
    case neg =>
      rw [if_pos hs] at h ⊢
      have ih := once_round h hr hl
      refine ⟨fun r' s' hm e => ?_, fun x => ?_, ih.rise, ih.len⟩
      · rcases List.mem_cons.1 hm with hm | hm
        · injection hm with _ h2; subst h2; exact absurd e hs
        · exact ih.ok r' s' hm e
      · rw [ih.mem]
        constructor
        · rintro (h1 | ⟨r', s', h1, h2, h3⟩)
          · exact .inl h1
          · exact .inr ⟨r', s', List.mem_cons_of_mem _ h1, h2, h3⟩
        · rintro (h1 | ⟨r', s', h1, h2, h3⟩)
          · exact .inl h1
          · rcases List.mem_cons.1 h1 with h1 | h1
            · injection h1 with _ h4; subst h4; exact absurd h2 hs
            · exact .inr ⟨r', s', h1, h2, h3⟩
    rw [if_neg (by simpa using hs)] at h ⊢
    by_cases he : (headsP r l).2 = 0
    case neg => rw [if_pos he] at h; exact absurd h he
    rw [if_neg (by simpa using he)] at h ⊢
    by_cases hm : 200 < (joinF out (headsP r l).1).length
    · rw [if_pos hm] at h; exact absurd h (by decide)
    rw [if_neg hm] at h ⊢
    have ih := once_round h (ofF_rising _) (by omega)
    refine ⟨fun r' s' hm' e => ?_, fun x => ?_, ih.rise, ih.len⟩
    · rcases List.mem_cons.1 hm' with h1 | h1
      · injection h1 with h2 _; subst h2; exact he
      · exact ih.ok r' s' h1 e
    · rw [ih.mem, mem_joinF]
      constructor
      · rintro ((h1 | h1) | ⟨r', s', h1, h2, h3⟩)
        · exact .inl h1
        · exact .inr ⟨r, s, by simp, hs, h1⟩
        · exact .inr ⟨r', s', List.mem_cons_of_mem _ h1, h2, h3⟩
      · rintro (h1 | ⟨r', s', h1, h2, h3⟩)
        · exact .inl (.inl h1)
        · rcases List.mem_cons.1 h1 with h1 | h1
          · injection h1 with h4 _; subst h4; exact .inl (.inr h3)
          · exact .inr ⟨r', s', h1, h2, h3⟩
theorem rising_sub_len {a b : List PFact} (ha : Rising a) (hb : Rising b) (h : ∀ x ∈ a, x ∈ b) (hl : b.length = a.length) : a = b := by
  refine rising_ext ha hb fun x => ⟨h x, fun hx => Classical.byContradiction fun hn => ?_⟩
  have h1 : (x :: a).Nodup := List.nodup_cons.2 ⟨hn, nodup_rising ha⟩
  have h2 := nodup_le h1 (m := b) fun y hy => by
    rcases List.mem_cons.1 hy with rfl | hy
    · exact hx
    · exact h y hy
  simp only [List.length_cons] at h2
  omega
theorem rising_sub_le {a b : List PFact} (ha : Rising a) (h : ∀ x ∈ a, x ∈ b) : a.length ≤ b.length := nodup_le (nodup_rising ha) h
structure Fixed (p : List (PRule × Int)) (n : Int) (out M : List PFact) : Prop where
  ok : ∀ r s, (r, s) ∈ p → s = n → (headsP r M).2 = 0 ∧ ∀ x ∈ (headsP r M).1, x ∈ M
  sub : ∀ x ∈ out, x ∈ M
  made : ∀ x ∈ M, x ∈ out ∨ ∃ O r s, (∀ y ∈ out, y ∈ O) ∧ (∀ y ∈ O, y ∈ M) ∧ (r, s) ∈ p ∧ s = n ∧ (headsP r O).2 = 0 ∧ x ∈ (headsP r O).1
  rise : Rising M
  len : M.length ≤ 200
theorem fix_fixed {p : List (PRule × Int)} {n : Int} : ∀ {k : Nat} {out : List PFact}, 200 < k + out.length → (fixP p n k out).2 = 0 → Rising out → out.length ≤ 200 → Fixed p n out (fixP p n k out).1
  | 0, out, hk, _, _, hl => by omega
  | k + 1, out, hk, h, hr, hl => by
    rw [fixP] at h ⊢
    by_cases he : (onceP n out p out).2 = 0
    case neg => rw [if_pos he] at h; exact absurd h he
    rw [if_neg (by simpa using he)] at h ⊢
    have hR := once_round he hr hl
    by_cases hle : (onceP n out p out).1.length = out.length
    · rw [if_pos hle]
      have heq : out = (onceP n out p out).1 := rising_sub_len hr hR.rise (fun x hx => (hR.mem x).2 (.inl hx)) hle
      refine ⟨fun r s hm e => ⟨hR.ok r s hm e, fun x hx => ?_⟩, fun x hx => hx, fun x hx => .inl hx, hr, hl⟩
      have := (hR.mem x).2 (.inr ⟨r, s, hm, e, hx⟩)
      rwa [← heq] at this
    · rw [if_neg hle] at h ⊢
      have hge : out.length ≤ (onceP n out p out).1.length := rising_sub_le hr fun x hx => (hR.mem x).2 (.inl hx)
      have ih := fix_fixed (k := k) (by omega) h hR.rise hR.len
      refine ⟨ih.ok, fun x hx => ih.sub x ((hR.mem x).2 (.inl hx)), fun x hx => ?_, ih.rise, ih.len⟩
      rcases ih.made x hx with h1 | ⟨O, r, s, h1, h2, h3⟩
      · rcases (hR.mem x).1 h1 with h1 | ⟨r, s, h1, h2, h3⟩
        · exact .inl h1
        · exact .inr ⟨out, r, s, fun y hy => hy, fun y hy => ih.sub y ((hR.mem y).2 (.inl hy)), h1, h2, hR.ok r s h1 h2, h3⟩
      · exact .inr ⟨O, r, s, fun y hy => h1 y ((hR.mem y).2 (.inl hy)), h2, h3⟩
theorem run_step {p : List (PRule × Int)} {k : Nat} {i : Int} {out : List PFact} (h : (runP p (k + 1) i out).2 = 0) : (fixP p i 201 out).2 = 0 ∧ runP p (k + 1) i out = runP p k (i + 1) (fixP p i 201 out).1 := by
  rw [runP] at h ⊢
  by_cases he : (fixP p i 201 out).2 = 0
  · rw [if_neg (by simpa using he)]; exact ⟨he, rfl⟩
  · rw [if_pos he] at h; exact absurd h he
end Go.Proofs.YtiiicochdidolaaGreat
namespace Go.Proofs.YtiiicochdidolaaGreat
def Dh (p : List PRule) : Nat := (onceS (headsOf p)).length
def tot (p : List PRule) (M : Str → Nat) : Nat := ((onceS (headsOf p)).map M).sum
structure Sub (p : List PRule) (M : Str → Nat) : Prop where
  under : ∀ N, Sol p N → ∀ s, M s ≤ N s
  out : ∀ s, s ∉ headsOf p → M s = 0
  lt : ∀ s, M s < Dh p ∨ M s = 0
def raise (p : List PRule) (M : Str → Nat) (r : PRule) (a : PAtom) : Str → Nat := fun t => if t = r.head.name then M a.name + dl p a else M t
theorem Sub.zero (p : List PRule) : Sub p (fun _ => 0) := ⟨fun _ _ _ => Nat.zero_le _, fun _ _ => rfl, fun _ => .inr rfl⟩
theorem sum_up : ∀ (l : List Str) (M N : Str → Nat) (s : Str), s ∈ l → (∀ t, M t ≤ N t) → M s < N s → (l.map M).sum + 1 ≤ (l.map N).sum
  | [], _, _, _, h, _, _ => by simp at h
  | x :: l, M, N, s, h, hle, hlt => by
    have hmono : ∀ l : List Str, (l.map M).sum ≤ (l.map N).sum := fun l => by
      induction l with
      | nil => simp
      | cons y l ih => simp only [List.map_cons, List.sum_cons]; have := hle y; omega
    simp only [List.map_cons, List.sum_cons]
    rcases List.mem_cons.1 h with rfl | h
    · have := hmono l; omega
    · have := sum_up l M N s h hle hlt; have := hle x; omega
theorem sum_le : ∀ (l : List Str) (M : Str → Nat) (d : Nat), (∀ t, M t ≤ d) → (l.map M).sum ≤ l.length * d
  | [], _, _, _ => by simp
  | x :: l, M, d, h => by
    have := sum_le l M d h
    have := h x
    simp only [List.map_cons, List.sum_cons, List.length_cons, Nat.add_mul]
    omega
theorem Sub.tot_le {p : List PRule} {M : Str → Nat} (h : Sub p M) : tot p M ≤ Dh p * Dh p := sum_le _ _ _ fun t => by have := h.lt t; omega
theorem Sub.step {p : List PRule} {M : Str → Nat} (h : Sub p M) {r : PRule} (hr : r ∈ p) {a : PAtom} (ha : a ∈ r.body) (hd : M a.name + dl p a < Dh p) (hup : ¬ M a.name + dl p a ≤ M r.head.name) : Sub p (raise p M r a) ∧ tot p M + 1 ≤ tot p (raise p M r a) := by
  have hh : r.head.name ∈ headsOf p := List.mem_map.2 ⟨r, hr, rfl⟩
  refine ⟨⟨fun N hN s => ?_, fun s hs => ?_, fun s => ?_⟩, ?_⟩
  · unfold raise
    split
    · rename_i e
      have h1 := h.under N hN a.name
      have h2 := hN.up r hr a ha
      rw [e]; omega
    · exact h.under N hN s
  · unfold raise
    rw [if_neg (fun e => hs (by rw [e]; exact hh))]
    exact h.out s hs
  · unfold raise
    split
    · exact .inl hd
    · exact h.lt s
  · refine sum_up _ _ _ r.head.name ((mem_onceS _ _).2 hh) (fun t => ?_) ?_
    · unfold raise
      split
      · rename_i e; rw [e]; omega
      · exact Nat.le_refl _
    · unfold raise
      rw [if_pos rfl]; omega
theorem Sub.fail {p : List PRule} {M : Str → Nat} (h : Sub p M) {r : PRule} (hr : r ∈ p) {a : PAtom} (ha : a ∈ r.body) (hd : ¬ M a.name + dl p a < Dh p) : ∀ N, ¬ Sol p N := by
  intro N hN
  obtain ⟨L, hL⟩ := exists_least hN
  have h1 := h.under L hL.sol a.name
  have h2 := hL.sol.up r hr a ha
  have h3 := hL.bound (D := onceS (headsOf p)) (fun x hx => (mem_onceS x _).2 hx) (s := r.head.name) (List.mem_map.2 ⟨r, hr, rfl⟩)
  have h4 : Dh p = (onceS (headsOf p)).length := rfl
  omega
theorem Sub.done {p : List PRule} {M : Str → Nat} (h : Sub p M) (hk : ∀ r ∈ p, ∀ a ∈ r.body, M a.name + dl p a ≤ M r.head.name) : Least p M := ⟨⟨h.out, hk⟩, fun N hN s => h.under N hN s⟩
theorem onceS_length : ∀ (ks acc : List Str), (ks.foldl (fun acc x => if memS x acc then acc else acc ++ [x]) acc).length ≤ acc.length + ks.length
  | [], acc => by simp
  | k :: ks, acc => by
    rw [List.foldl_cons]
    refine Nat.le_trans (onceS_length ks _) ?_
    split
    · simp
    · simp only [List.length_append, List.length_cons, List.length_nil]; omega
theorem Dh_le (p : List PRule) : Dh p ≤ p.length := by
  have := onceS_length (headsOf p) []
  simpa [Dh, onceS, headsOf] using this
def StrataIs (p : List PRule) (l : List Int) (q : Int × Int) : Prop :=
  (wrongP p).1 ≠ 0 ∧ l = [] ∧ q = wrongP p ∨
  (wrongP p).1 = 0 ∧ ((∃ L, Least p L ∧ l = p.map (fun r => (L r.head.name : Int)) ∧ q = (0, 0)) ∨ ((∀ N, ¬ Sol p N) ∧ l = [] ∧ q = (10, 0)))
theorem StrataIs.unique {p : List PRule} {l m : List Int} {q r : Int × Int} (h : StrataIs p l q) (k : StrataIs p m r) : l = m ∧ q = r := by
  rcases h with ⟨h1, rfl, rfl⟩ | ⟨h1, ⟨L, hL, rfl, rfl⟩ | ⟨h2, rfl, rfl⟩⟩ <;> rcases k with ⟨k1, rfl, rfl⟩ | ⟨k1, ⟨M, hM, rfl, rfl⟩ | ⟨k2, rfl, rfl⟩⟩
  · exact ⟨rfl, rfl⟩
  · exact absurd k1 h1
  · exact absurd k1 h1
  · exact absurd h1 k1
  · rw [hL.unique hM]; exact ⟨rfl, rfl⟩
  · exact absurd hL.sol (k2 L)
  · exact absurd h1 k1
  · exact absurd hM.sol (h2 M)
  · exact ⟨rfl, rfl⟩
end Go.Proofs.YtiiicochdidolaaGreat
namespace Go.Proofs.YtiiicochdidolaaGreat
def Derives (r : PRule) (O : List PFact) (x : PFact) : Prop := ∃ m, Told (fun _ => O) r.body m ∧ fillP r.head m = some x
theorem Derives.name {r : PRule} {O : List PFact} {x : PFact} (h : Derives r O x) : x.name = r.head.name := by
  obtain ⟨m, -, h⟩ := h
  exact (fillP_name h).1.symm
theorem Derives.agree {r : PRule} {O M : List PFact} {x : PFact} (h : Derives r O x) (ha : ∀ a ∈ r.body, ∀ f : PFact, f.name = a.name → (f ∈ O ↔ f ∈ M)) : Derives r M x := by
  obtain ⟨m, h1, h2⟩ := h
  exact ⟨m, told_agree ha h1, h2⟩
theorem Derives.grow {r : PRule} {O M : List PFact} {x : PFact} (h : Derives r O x) (hp : ∀ f ∈ O, f ∈ M) (hn : ∀ a ∈ r.body, a.neg = true → ∀ f : PFact, f.name = a.name → f ∈ M → f ∈ O) : Derives r M x := by
  obtain ⟨m, ⟨h1, h2, h3, h4⟩, h5⟩ := h
  refine ⟨m, ⟨h1, h2, h3, fun j a ha => ?_⟩, h5⟩
  obtain ⟨f, k1, k2⟩ := h4 j a ha
  refine ⟨f, k1, ?_⟩
  have hm := List.mem_of_getElem? ha
  cases hneg : a.neg
  · rw [hneg] at k2
    have : f ∈ O := (memF_iff _ _).1 (by simpa using k2)
    rw [(memF_iff _ _).2 (hp f this)]; rfl
  · rw [hneg] at k2
    have hno : ¬ f ∈ O := fun hf => by rw [(memF_iff _ _).2 hf] at k2; simp at k2
    have hno' : ¬ f ∈ M := fun hf => hno (hn a hm hneg f (fillP_name k1).1.symm hf)
    cases hmf : memF f M
    · rfl
    · exact absurd ((memF_iff _ _).1 hmf) hno'
theorem fillArgs_of {l : Binds} : ∀ {ts : List PTerm} {ns : List Str}, fillArgs l ts = some ns → ∀ n ∈ ns, ∃ t ∈ ts, valT l t = some n
  | [], ns, h, n, hn => by obtain rfl := Option.some.inj h; simp at hn
  | u :: ts, ns, h, n, hn => by
    unfold fillArgs at h
    cases hu : valT l u with
    | none => rw [hu] at h; cases h
    | some m =>
      rw [hu] at h
      dsimp only at h
      cases hr : fillArgs l ts with
      | none => rw [hr] at h; cases h
      | some r =>
        rw [hr] at h
        obtain rfl := Option.some.inj h
        rcases List.mem_cons.1 hn with rfl | hn
        · exact ⟨u, by simp, hu⟩
        · obtain ⟨t, h1, h2⟩ := fillArgs_of hr n hn
          exact ⟨t, by simp [h1], h2⟩
theorem fillArgs_to {l : Binds} : ∀ {ts : List PTerm} {ns : List Str}, fillArgs l ts = some ns → ∀ t ∈ ts, ∃ n ∈ ns, valT l t = some n
  | u :: ts, ns, h, t, ht => by
    unfold fillArgs at h
    cases hu : valT l u with
    | none => rw [hu] at h; cases h
    | some m =>
      rw [hu] at h
      dsimp only at h
      cases hr : fillArgs l ts with
      | none => rw [hr] at h; cases h
      | some r =>
        rw [hr] at h
        obtain rfl := Option.some.inj h
        rcases List.mem_cons.1 ht with rfl | ht
        · exact ⟨m, by simp, hu⟩
        · obtain ⟨n, h1, h2⟩ := fillArgs_to hr t ht
          exact ⟨n, by simp [h1], h2⟩
theorem wrongF_zero {f : PFact} : wrongF f = 0 ↔ named f.name = true ∧ f.args.length ≤ 4 ∧ ∀ n ∈ f.args, named n = true := by
  unfold wrongF
  cases h1 : named f.name
  · simp
  · rw [if_neg (by simp)]
    by_cases h2 : 4 < f.args.length
    · rw [if_pos h2]; simp; omega
    · rw [if_neg h2]
      cases h3 : f.args.all named
      · rw [if_neg (by simp)]
        simp only [true_and]
        constructor
        · intro h; exact absurd h (by decide)
        · rintro ⟨-, h⟩
          rw [List.all_eq_true.2 h] at h3; cases h3
      · rw [if_pos rfl]
        simp only [true_and, true_iff]
        exact ⟨by omega, List.all_eq_true.1 h3⟩
theorem atomBad_zero {a : PAtom} (h : atomBad a = 0) : named a.name = true ∧ a.terms.length ≤ 4 ∧ ∀ t ∈ a.terms, termOk t = true := by
  unfold atomBad at h
  cases h1 : named a.name
  · rw [if_pos h1] at h; exact absurd h (by decide)
  · rw [if_neg (by simp [h1])] at h
    by_cases h2 : 4 < a.terms.length
    · rw [if_pos h2] at h; exact absurd h (by decide)
    · rw [if_neg h2] at h
      by_cases h3 : a.terms.all termOk = true
      · exact ⟨rfl, by omega, List.all_eq_true.1 h3⟩
      · rw [if_neg h3] at h; exact absurd h (by decide)
theorem ruleBad_zero {r : PRule} (h : ruleBad r = 0) : atomBad r.head = 0 ∧ r.head.neg = false ∧ bodyBad r.body = 0 ∧ ∀ v ∈ varsOf r.head, ∃ a ∈ r.body, v ∈ varsOf a := by
  unfold ruleBad at h
  by_cases h1 : atomBad r.head = 0
  case neg => rw [if_pos h1] at h; exact absurd h h1
  rw [if_neg (by simpa using h1)] at h
  cases h2 : r.head.neg
  case true => rw [if_pos h2] at h; exact absurd h (by decide)
  rw [if_neg (by simp [h2])] at h
  by_cases h3 : bodyBad r.body = 0
  case neg => rw [if_pos h3] at h; exact absurd h h3
  rw [if_neg (by simpa using h3)] at h
  refine ⟨h1, rfl, h3, fun v hv => ?_⟩
  by_cases h4 : (varsOf r.head).all (fun v => memS v (allVars r.body)) = true
  · have := List.all_eq_true.1 h4 v hv
    have hm := (memS_iff _ _).1 this
    unfold allVars at hm
    obtain ⟨a, ha, hva⟩ := List.mem_flatMap.1 hm
    exact ⟨a, ha, hva⟩
  · rw [if_neg h4] at h; exact absurd h (by decide)
theorem derives_good {r : PRule} {O : List PFact} {x : PFact} (hr : ruleBad r = 0) (hO : ∀ f ∈ O, wrongF f = 0) (h : Derives r O x) : wrongF x = 0 := by
  obtain ⟨m, ⟨-, hnd, hvs, htold⟩, hf⟩ := h
  obtain ⟨h1, -, h3, -⟩ := ruleBad_zero hr
  obtain ⟨g1, g2, g3⟩ := atomBad_zero h1
  obtain ⟨k1, k2⟩ := fillP_name hf
  refine wrongF_zero.2 ⟨by rw [← k1]; exact g1, by have := fillArgs_len k2; omega, fun n hn => ?_⟩
  obtain ⟨t, ht, hv⟩ := fillArgs_of k2 n hn
  have hok := g3 t ht
  unfold valT at hv
  cases htv : t.var
  · rw [htv] at hv
    obtain rfl : t.name = n := by simpa using hv
    unfold termOk at hok
    rw [htv] at hok
    simpa using hok
  · rw [htv] at hv
    simp only [if_true] at hv
    have hm : t.name ∈ Vs m := List.mem_map.2 ⟨_, getB_mem hv, rfl⟩
    obtain ⟨a, ha, hva⟩ := (hvs _).1 hm
    obtain ⟨a, ha, hneg, hva⟩ := (mem_heldOf _ _).1 (body_free h3 ha hva)
    obtain ⟨j, hj⟩ := List.mem_iff_getElem?.1 ha
    obtain ⟨f, q1, q2⟩ := htold j a hj
    rw [hneg] at q2
    have hfO : f ∈ O := (memF_iff _ _).1 (by simpa using q2)
    obtain ⟨u, hu, huv, hun⟩ := (mem_varsOf _ a).1 hva
    obtain ⟨n', hn', hv'⟩ := fillArgs_to (fillP_name q1).2 u hu
    unfold valT at hv'
    rw [if_pos huv, hun, hv] at hv'
    obtain rfl := Option.some.inj hv'
    exact (wrongF_zero.1 (hO f hfO)).2.2 _ hn'
def withL (L : Str → Nat) (p : List PRule) : List (PRule × Int) := p.map fun r => (r, (L r.head.name : Int))
theorem zip_withL (L : Str → Nat) (p : List PRule) : p.zip (p.map fun r => (L r.head.name : Int)) = withL L p := by
  unfold withL
  induction p with
  | nil => rfl
  | cons r p ih => rw [List.map_cons, List.zip_cons_cons, ih, List.map_cons]
theorem mem_withL {L : Str → Nat} {p : List PRule} {r : PRule} {s : Int} : (r, s) ∈ withL L p ↔ r ∈ p ∧ s = (L r.head.name : Int) := by
  unfold withL
  rw [List.mem_map]
  constructor
  · rintro ⟨q, hq, e⟩
    injection e with e1 e2
    subst e1
    exact ⟨hq, e2.symm⟩
  · rintro ⟨h, rfl⟩
    exact ⟨r, h, rfl⟩
structure Upto (p : List PRule) (L : Str → Nat) (l : List PFact) (i : Nat) (out : List PFact) : Prop where
  sub : ∀ x ∈ l, x ∈ out
  closed : ∀ r ∈ p, L r.head.name < i → ∀ x, Derives r out x → x ∈ out
  made : ∀ x ∈ out, x ∈ l ∨ ∃ r ∈ p, L r.head.name < i ∧ Derives r out x
  good : ∀ x ∈ out, wrongF x = 0
  rise : Rising out
  len : out.length ≤ 200
theorem Upto.step {p : List PRule} {L : Str → Nat} (hS : Sol p L) (hR : ∀ r ∈ p, ruleBad r = 0) {l : List PFact} {i : Nat} {out : List PFact} (h : Upto p L l i out) (he : (fixP (withL L p) i 201 out).2 = 0) : Upto p L l (i + 1) (fixP (withL L p) i 201 out).1 := by
  have hF := fix_fixed (by omega) he h.rise h.len
  generalize (fixP (withL L p) i 201 out).1 = M at *
  have hnew : ∀ x ∈ M, x ∈ out ∨ ∃ r ∈ p, L r.head.name = i ∧ x.name = r.head.name := fun x hx => by
    rcases hF.made x hx with h1 | ⟨O, r, s, -, -, h3, h4, h5, h6⟩
    · exact .inl h1
    · obtain ⟨h7, rfl⟩ := mem_withL.1 h3
      exact .inr ⟨r, h7, by omega, Derives.name ((mem_heads h5 x).1 h6)⟩
  have hag : ∀ r ∈ p, L r.head.name < i → ∀ a ∈ r.body, ∀ f : PFact, f.name = a.name → (f ∈ out ↔ f ∈ M) := fun r hr hlt a ha f hf => ⟨hF.sub f, fun hm => by
    rcases hnew f hm with h1 | ⟨r', h1, h2, h3⟩
    · exact h1
    · have := hS.up r hr a ha
      rw [← hf, h3] at this
      omega⟩
  refine ⟨fun x hx => hF.sub x (h.sub x hx), fun r hr hlt x hx => ?_, fun x hx => ?_, fun x hx => ?_, hF.rise, hF.len⟩
  · by_cases hi : L r.head.name < i
    · exact hF.sub x (h.closed r hr hi x (hx.agree fun a ha f hf => (hag r hr hi a ha f hf).symm))
    · obtain ⟨h1, h2⟩ := hF.ok r (L r.head.name) (mem_withL.2 ⟨hr, rfl⟩) (by omega)
      exact h2 x ((mem_heads h1 x).2 hx)
  · rcases hF.made x hx with h1 | ⟨O, r, s, h1, h2, h3, h4, h5, h6⟩
    · rcases h.made x h1 with h2 | ⟨r, hr, hlt, hd⟩
      · exact .inl h2
      · exact .inr ⟨r, hr, by omega, hd.agree (hag r hr hlt)⟩
    · obtain ⟨h7, rfl⟩ := mem_withL.1 h3
      refine .inr ⟨r, h7, by omega, (show Derives r O x from (mem_heads h5 x).1 h6).grow h2 fun a ha hneg f hf hm => ?_⟩
      rcases hnew f hm with k1 | ⟨r', k1, k2, k3⟩
      · exact h1 f k1
      · exfalso
        have hup := hS.up r h7 a ha
        have hdl : dl p a = 1 := by
          unfold dl
          rw [if_pos ⟨hneg, List.mem_map.2 ⟨r', k1, by rw [← hf, k3]⟩⟩]
        rw [hdl, ← hf, k3] at hup
        omega
  · rcases hF.made x hx with h1 | ⟨O, r, s, h1, h2, h3, h4, h5, h6⟩
    · exact h.good x h1
    · obtain ⟨h7, rfl⟩ := mem_withL.1 h3
      exact derives_good (hR r h7) (setF_set (heads_set h5).1).2.2 ((mem_heads h5 x).1 h6)
theorem run_upto {p : List PRule} {L : Str → Nat} (hS : Sol p L) (hR : ∀ r ∈ p, ruleBad r = 0) {l : List PFact} : ∀ {k i : Nat} {out : List PFact}, Upto p L l i out → (runP (withL L p) k i out).2 = 0 → Upto p L l (i + k) (runP (withL L p) k i out).1
  | 0, i, out, h, _ => h
  | k + 1, i, out, h, he => by
    obtain ⟨h1, h2⟩ := run_step he
    rw [h2] at he ⊢
    have := run_upto (k := k) (i := i + 1) hS hR (h.step hS hR h1) he
    rwa [show i + 1 + k = i + (k + 1) by omega] at this
theorem max_le : ∀ (l : List Int) (x : Int), x ≤ l.foldl max x ∧ ∀ y ∈ l, y ≤ l.foldl max x
  | [], x => ⟨Int.le_refl _, by simp⟩
  | z :: l, x => by
    obtain ⟨h1, h2⟩ := max_le l (max x z)
    rw [List.foldl_cons]
    refine ⟨by omega, fun y hy => ?_⟩
    rcases List.mem_cons.1 hy with rfl | hy
    · omega
    · exact h2 y hy
theorem count_gt {st : List Int} {x : Int} (h : x ∈ st) : x < countP st := by
  cases st with
  | nil => simp at h
  | cons y l =>
    show x < l.foldl max y + 1
    obtain ⟨h1, h2⟩ := max_le l y
    rcases List.mem_cons.1 h with rfl | h
    · omega
    · have := h2 x h; omega
structure Follows (p : List PRule) (l M : List PFact) : Prop where
  sub : ∀ x ∈ l, x ∈ M
  closed : ∀ r ∈ p, ∀ x, Derives r M x → x ∈ M
  made : ∀ x ∈ M, x ∈ l ∨ ∃ r ∈ p, Derives r M x
  good : ∀ x ∈ M, wrongF x = 0
  rise : Rising M
  len : M.length ≤ 200
theorem setF_of {l : List PFact} (h1 : l.length ≤ 200) (h2 : Rising l) (h3 : ∀ f ∈ l, wrongF f = 0) : setF l = (0, 0) := by
  unfold setF
  rw [if_neg (by omega)]
  have : (List.range l.length).find? (fun i => badAt l i != 0) = none := by
    rw [List.find?_range_eq_none]
    intro i hi
    obtain ⟨f, hf⟩ : ∃ f, l[i]? = some f := ⟨_, List.getElem?_eq_getElem hi⟩
    have hw := h3 f (List.mem_of_getElem? hf)
    rcases i with _ | i
    · simp [badAt_zero hf hw]
    · obtain ⟨g, hg⟩ : ∃ g, l[i]? = some g := ⟨_, List.getElem?_eq_getElem (by omega)⟩
      rw [badAt_succ hf hg hw, if_pos]
      · simp
      · obtain ⟨a1, a2⟩ := List.getElem?_eq_some_iff.1 hg
        obtain ⟨b1, b2⟩ := List.getElem?_eq_some_iff.1 hf
        have := List.pairwise_iff_getElem.1 h2 i (i + 1) a1 b1 (by omega)
        rw [a2, b2] at this
        simpa [ltF] using this
  rw [this]
theorem wrongFrom_rules : ∀ {p : List PRule} {m : Known} {i : Int}, (wrongFrom m i p).1 = 0 → ∀ r ∈ p, ruleBad r = 0
  | q :: p, m, i, h, r, hr => by
    unfold wrongFrom at h
    by_cases h1 : ruleBad q = 0
    case neg => rw [if_pos h1] at h; exact absurd h h1
    rw [if_neg (by simpa using h1)] at h
    split at h
    · rcases List.mem_cons.1 hr with rfl | hr
      · exact h1
      · exact wrongFrom_rules h r hr
    · exact absurd h (by simp)
theorem wrongP_rules {p : List PRule} (h : (wrongP p).1 = 0) : ∀ r ∈ p, ruleBad r = 0 := by
  unfold wrongP at h
  split at h
  · exact absurd h (by decide)
  · exact wrongFrom_rules h
theorem naive_zero {st : List Int} {q : Int} {p : List PRule} {l : List PFact} (h : (naiveP st q p l).2 = 0) : q = 0 ∧ (factsBad p l).1 = 0 ∧ naiveP st q p l = runP (p.zip st) (countP st).toNat 0 l := by
  unfold naiveP at *
  by_cases h1 : q = 0
  case neg => rw [if_pos h1] at h; exact absurd h h1
  rw [if_neg (by simpa using h1)] at h ⊢
  by_cases h2 : (factsBad p l).1 = 0
  case neg => rw [if_pos h2] at h; exact absurd h h2
  rw [if_neg (by simpa using h2)] at h ⊢
  exact ⟨h1, h2, rfl⟩
theorem factsBad_set {p : List PRule} {l : List PFact} (h : (factsBad p l).1 = 0) : (setF l).1 = 0 := by
  unfold factsBad at h
  by_cases h1 : (setF l).1 = 0
  · exact h1
  · rw [if_pos h1] at h; exact absurd h h1
theorem strata_zero {p : List PRule} {st : List Int} {q : Int × Int} (hs : StrataIs p st q) (hq : q.1 = 0) : (∀ r ∈ p, ruleBad r = 0) ∧ (wrongP p).1 = 0 ∧ ∃ L, Least p L ∧ st = p.map (fun r => (L r.head.name : Int)) := by
  rcases hs with ⟨h1, -, rfl⟩ | ⟨h1, ⟨L, hL, h2, -⟩ | ⟨-, -, rfl⟩⟩
  · exact absurd hq h1
  · exact ⟨wrongP_rules h1, h1, L, hL, h2⟩
  · exact absurd hq (by decide)
theorem naive_follows {p : List PRule} {l : List PFact} {st : List Int} {q : Int × Int} (hs : StrataIs p st q) (h : (naiveP st q.1 p l).2 = 0) : Follows p l (naiveP st q.1 p l).1 ∧ (setF l).1 = 0 ∧ ∀ r ∈ p, ruleBad r = 0 := by
  obtain ⟨h1, h2, h3⟩ := naive_zero h
  obtain ⟨hR, hW, L, hL, rfl⟩ := strata_zero hs h1
  have hset := factsBad_set h2
  obtain ⟨g1, g2, g3⟩ := setF_set hset
  rw [h3] at h ⊢
  rw [zip_withL] at h ⊢
  have h0 : Upto p L l 0 l := ⟨fun x hx => hx, fun r _ hlt => by omega, fun x hx => .inl hx, g3, g2, g1⟩
  have hU := run_upto (k := (countP (p.map fun r => (L r.head.name : Int))).toNat) (i := 0) hL.sol hR h0 h
  have hcnt : ∀ r ∈ p, L r.head.name < 0 + (countP (p.map fun r => (L r.head.name : Int))).toNat := fun r hr => by
    have := count_gt (st := p.map fun r => (L r.head.name : Int)) (List.mem_map.2 ⟨r, hr, rfl⟩)
    omega
  refine ⟨⟨hU.sub, fun r hr x hx => hU.closed r hr (hcnt r hr) x hx, fun x hx => ?_, hU.good, hU.rise, hU.len⟩, hset, hR⟩
  · rcases hU.made x hx with h | ⟨r, hr, -, hd⟩
    · exact .inl h
    · exact .inr ⟨r, hr, hd⟩
theorem Follows.set {p : List PRule} {l M : List PFact} (h : Follows p l M) : setF M = (0, 0) := setF_of h.len h.rise h.good
end Go.Proofs.YtiiicochdidolaaGreat
namespace Go.Proofs.YtiiicochdidolaaGreat
theorem fitAll_append : ∀ (l k : List PAtom) (m : Known), fitAll m (l ++ k) = (fitAll m l && fitAll (learnAll m l) k)
  | [], k, m => by simp [fitAll, learnAll]
  | a :: l, k, m => by rw [List.cons_append, fitAll, fitAll, learnAll, fitAll_append l k, Bool.and_assoc]
theorem wrongFrom_iff : ∀ (p : List PRule) (m : Known) (i : Int), (wrongFrom m i p).1 = 0 ↔ (∀ r ∈ p, ruleBad r = 0) ∧ fitAll m (atomsOf p) = true
  | [], m, i => by simp [wrongFrom, atomsOf, fitAll]
  | r :: p, m, i => by
    have ha : atomsOf (r :: p) = (r.head :: r.body) ++ atomsOf p := by simp [atomsOf]
    rw [ha, fitAll_append, wrongFrom]
    by_cases h1 : ruleBad r = 0
    · rw [if_neg (by simpa using h1)]
      by_cases h2 : fitAll m (r.head :: r.body) = true
      · rw [if_pos h2, wrongFrom_iff p, h2, Bool.true_and]
        simp [h1]
      · rw [if_neg h2]
        simp only [Bool.not_eq_true] at h2
        rw [h2]
        simp
    · rw [if_pos h1]
      simp [h1]
theorem fits_learn {m : Known} {a b : PAtom} (h : fits m a = true) : fits (learn m a) b = true ↔ fits m b = true ∧ (a.name = b.name → a.terms.length = b.terms.length) := by
  unfold learn
  cases hm : m a.name with
  | some n =>
    rw [if_pos (by simp)]
    refine ⟨fun hb => ⟨hb, fun e => ?_⟩, fun hb => hb.1⟩
    unfold fits at h hb
    rw [hm] at h
    rw [← e, hm] at hb
    simp at h hb
    omega
  | none =>
    rw [if_neg (by simp)]
    unfold fits
    by_cases e : b.name = a.name
    · dsimp only
      rw [if_pos e, e, hm]
      simp only [true_and, forall_const, beq_iff_eq]
      omega
    · dsimp only
      rw [if_neg e]
      simp [Ne.symm e]
theorem fitAll_iff : ∀ (l : List PAtom) (m : Known), fitAll m l = true ↔ (∀ a ∈ l, fits m a = true) ∧ ∀ a ∈ l, ∀ b ∈ l, a.name = b.name → a.terms.length = b.terms.length
  | [], m => by simp [fitAll]
  | a :: l, m => by
    rw [fitAll, Bool.and_eq_true, fitAll_iff l]
    constructor
    · rintro ⟨h1, h2, h3⟩
      have h4 := fun b hb => (fits_learn h1).1 (h2 b hb)
      refine ⟨fun b hb => ?_, fun b hb c hc e => ?_⟩
      · rcases List.mem_cons.1 hb with rfl | hb
        · exact h1
        · exact (h4 b hb).1
      · rcases List.mem_cons.1 hb with hb | hb <;> rcases List.mem_cons.1 hc with hc | hc
        · rw [hb, hc]
        · rw [hb] at e ⊢; exact (h4 c hc).2 e
        · rw [hc] at e ⊢; exact ((h4 b hb).2 e.symm).symm
        · exact h3 b hb c hc e
    · rintro ⟨h1, h2⟩
      have ha := h1 a (by simp)
      exact ⟨ha, fun b hb => (fits_learn ha).2 ⟨h1 b (by simp [hb]), fun e => h2 a (by simp) b (by simp [hb]) e⟩, fun b hb c hc e => h2 b (by simp [hb]) c (by simp [hc]) e⟩
def Arity (p : List PRule) : Prop := ∀ a ∈ atomsOf p, ∀ b ∈ atomsOf p, a.name = b.name → a.terms.length = b.terms.length
theorem wrongP_iff {p : List PRule} : (wrongP p).1 = 0 ↔ p.length ≤ 16 ∧ (∀ r ∈ p, ruleBad r = 0) ∧ Arity p := by
  unfold wrongP
  by_cases h : 16 < p.length
  · rw [if_pos h]
    constructor
    · intro h1; exact absurd h1 (by decide)
    · rintro ⟨h1, -⟩; omega
  · rw [if_neg h, wrongFrom_iff, fitAll_iff]
    exact ⟨fun h1 => ⟨by omega, h1.1, h1.2.2⟩, fun h1 => ⟨h1.2.1, fun a _ => by simp [fits], h1.2.2⟩⟩
theorem arityF_fold : ∀ (l : List PAtom) (m : Str → Option Int) (t : Str), ((∀ a ∈ l, a.name ≠ t) → l.foldl arityF m t = m t) ∧ ((∃ a ∈ l, a.name = t) → ∃ a ∈ l, a.name = t ∧ l.foldl arityF m t = some (a.terms.length : Int))
  | [], m, t => ⟨fun _ => rfl, fun ⟨a, ha, _⟩ => by simp at ha⟩
  | b :: l, m, t => by
    obtain ⟨h1, h2⟩ := arityF_fold l (arityF m b) t
    rw [List.foldl_cons]
    refine ⟨fun h => ?_, fun h => ?_⟩
    · rw [h1 fun a ha => h a (by simp [ha])]
      have := h b (by simp)
      unfold arityF
      rw [if_neg (fun e => this e.symm)]
    · by_cases hl : ∃ a ∈ l, a.name = t
      · obtain ⟨a, ha, e, hf⟩ := h2 hl
        exact ⟨a, by simp [ha], e, hf⟩
      · have hl' : ∀ a ∈ l, a.name ≠ t := fun a ha e => hl ⟨a, ha, e⟩
        obtain ⟨a, ha, e⟩ := h
        rcases List.mem_cons.1 ha with rfl | ha
        · refine ⟨a, by simp, e, ?_⟩
          rw [h1 hl']
          unfold arityF
          rw [if_pos e.symm]
        · exact absurd e (hl' a ha)
theorem misfit_iff {p : List PRule} (h : Arity p) (f : PFact) : misfit p f = true ↔ ∃ a ∈ atomsOf p, a.name = f.name ∧ a.terms.length ≠ f.args.length := by
  unfold misfit arityP
  obtain ⟨h1, h2⟩ := arityF_fold (atomsOf p) (fun _ => none) f.name
  by_cases hx : ∃ a ∈ atomsOf p, a.name = f.name
  · obtain ⟨a, ha, e, hf⟩ := h2 hx
    rw [hf]
    constructor
    · intro hk
      exact ⟨a, ha, e, fun e2 => by simp [e2] at hk⟩
    · rintro ⟨b, hb, e3, hk⟩
      have := h a ha b hb (e.trans e3.symm)
      simp; omega
  · rw [h1 fun a ha e => hx ⟨a, ha, e⟩]
    constructor
    · intro hk; cases hk
    · rintro ⟨b, hb, e3, -⟩
      exact absurd ⟨b, hb, e3⟩ hx
theorem factsBad_iff {p : List PRule} {l : List PFact} : (factsBad p l).1 = 0 ↔ (setF l).1 = 0 ∧ ∀ f ∈ l, misfit p f = false := by
  unfold factsBad
  by_cases h1 : (setF l).1 = 0
  · rw [if_neg (by simpa using h1)]
    cases hf : l.findIdx? (misfit p) with
    | none =>
      rw [List.findIdx?_eq_none_iff] at hf
      exact ⟨fun _ => ⟨h1, fun f hm => by simpa using hf f hm⟩, fun _ => rfl⟩
    | some i =>
      constructor
      · intro h; exact absurd h (by simp)
      · rintro ⟨-, h⟩
        obtain ⟨hlt, h2, -⟩ := List.findIdx?_eq_some_iff_getElem.1 hf
        rw [h _ (List.getElem_mem hlt)] at h2
        cases h2
  · rw [if_pos h1]
    exact ⟨fun h => absurd h h1, fun h => absurd h.1 h1⟩
theorem head_mem {p : List PRule} {r : PRule} (h : r ∈ p) : r.head ∈ atomsOf p := List.mem_flatMap.2 ⟨r, h, by simp⟩
theorem fillP_len {a : PAtom} {m : Binds} {f : PFact} (h : fillP a m = some f) : f.args.length = a.terms.length := by
  have := fillArgs_len (fillP_name h).2; omega
theorem derives_fit {p : List PRule} (h : Arity p) {r : PRule} (hr : r ∈ p) {O : List PFact} {x : PFact} (hd : Derives r O x) : misfit p x = false := by
  obtain ⟨m, -, hf⟩ := hd
  have h1 := fillP_len hf
  have h2 := (fillP_name hf).1
  cases hm : misfit p x
  · rfl
  · obtain ⟨a, ha, e, hk⟩ := (misfit_iff h x).1 hm
    have := h a ha _ (head_mem hr) (e.trans h2.symm)
    omega
theorem Follows.fit {p : List PRule} {l M : List PFact} (hA : Arity p) (h : Follows p l M) (hl : (factsBad p l).1 = 0) : (factsBad p M).1 = 0 := by
  rw [factsBad_iff] at hl ⊢
  refine ⟨by rw [h.set], fun f hf => ?_⟩
  rcases h.made f hf with h1 | ⟨r, hr, hd⟩
  · exact hl.2 f h1
  · exact derives_fit hA hr hd
theorem count_is (st : List Int) : st = [] ∧ countP st = 0 ∨ ∃ x ∈ st, countP st = x + 1 := by
  cases st with
  | nil => exact .inl ⟨rfl, rfl⟩
  | cons y l =>
    refine .inr ?_
    have : ∀ (l : List Int) (x : Int), l.foldl max x = x ∨ l.foldl max x ∈ l := by
      intro l
      induction l with
      | nil => intro x; exact .inl rfl
      | cons z l ih =>
        intro x
        rw [List.foldl_cons]
        rcases ih (max x z) with h | h
        · rw [h]
          by_cases hx : x ≤ z
          · exact .inr (by rw [Int.max_eq_right hx]; simp)
          · exact .inl (Int.max_eq_left (by omega))
        · exact .inr (by simp [h])
    rcases this l y with h | h
    · exact ⟨y, by simp, by show l.foldl max y + 1 = _; rw [h]⟩
    · exact ⟨_, List.mem_cons_of_mem _ h, rfl⟩
end Go.Proofs.YtiiicochdidolaaGreat
namespace Go.Proofs.YtiiicochdidolaaGreat
structure Good (l : List PFact) : Prop where
  rise : Rising l
  len : l.length ≤ 200
  fine : ∀ f ∈ l, wrongF f = 0
theorem Good.set {l : List PFact} (h : Good l) : setF l = (0, 0) := setF_of h.len h.rise h.fine
theorem good_of {l : List PFact} (h : (setF l).1 = 0) : Good l := ⟨(setF_set h).2.1, (setF_set h).1, (setF_set h).2.2⟩
theorem once_good {n : Int} {l : List PFact} (hl : Good l) {ps : List (PRule × Int)} (hR : ∀ r s, (r, s) ∈ ps → ruleBad r = 0) {out : List PFact} (ho : Good out) (h : (onceP n l ps out).2 = 0) : Good (onceP n l ps out).1 := by
  have hr := once_round h ho.rise ho.len
  refine ⟨hr.rise, hr.len, fun x hx => ?_⟩
  rcases (hr.mem x).1 hx with h1 | ⟨r, s, h1, h2, h3⟩
  · exact ho.fine x h1
  · exact derives_good (hR r s h1) hl.fine ((mem_heads (hr.ok r s h1 h2) x).1 h3)
end Go.Proofs.YtiiicochdidolaaGreat
namespace Go.Proofs.YtiiicochdidolaaGreat
theorem Derives.up {r : PRule} {O M : List PFact} {x : PFact} (hn : ∀ a ∈ r.body, a.neg = false) (h : Derives r O x) (hp : ∀ f ∈ O, f ∈ M) : Derives r M x :=
  h.grow hp fun a ha e => absurd (hn a ha) (by rw [e]; decide)
end Go.Proofs.YtiiicochdidolaaGreat
namespace Go.Proofs.YtiiicochdidolaaGreat
structure PRun where
  known : List PFact
  new : List PFact
  stratum : Int
  rounds : Int
  done : Bool
  deriving DecidableEq
def zeroRun : PRun := ⟨[], [], 0, 0, false⟩
def rangeBad (r : PRun) (n : Int) : Bool := decide (r.rounds < 0) || decide (1000 < r.rounds) || decide (r.stratum < 0) || decide (n < r.stratum) || (r.done != (r.stratum == n))
def runBad (st : List Int) (q : Int) (p : List PRule) (r : PRun) : Int :=
  if q ≠ 0 then q else if (factsBad p r.known).1 ≠ 0 then (factsBad p r.known).1 else if (setF r.new).1 ≠ 0 then (setF r.new).1 else if rangeBad r (countP st) then 3 else if lessF r.new r.known ≠ [] then 8 else 0
def beginP (st : List Int) (q : Int) (p : List PRule) (l : List PFact) : PRun × Int :=
  if q ≠ 0 then (zeroRun, q) else if (factsBad p l).1 ≠ 0 then (zeroRun, (factsBad p l).1) else (⟨l, l, 0, 0, countP st == 0⟩, 0)
def fillAll (h : PAtom) (ls : List Binds) : List PFact := ls.filterMap fun b => fillP h b
def newP (x : PRule) (known new : List PFact) : Nat → List PAtom → List PFact → Bool → List PFact × Int
  | _, [], out, sm => if sm then (out, 0) else headsP x known
  | i, a :: b, out, sm => if a.neg then newP x known new (i + 1) b out sm
    else if (withP x.body known i new).2 ≠ 0 then ([], (withP x.body known i new).2) else newP x known new (i + 1) b (out ++ fillAll x.head (withP x.body known i new).1) true
def newHeads (x : PRule) (known new : List PFact) : List PFact × Int := newP x known new 0 x.body [] false
def makeP (s : Int) (known new : List PFact) : List (PRule × Int) → List PFact → List PFact × Int
  | [], made => (made, 0)
  | (r, t) :: ps, made => if t ≠ s then makeP s known new ps made else if (newHeads r known new).2 ≠ 0 then ([], (newHeads r known new).2) else makeP s known new ps (made ++ (newHeads r known new).1)
def nextRun (n : Int) (r : PRun) (made : List PFact) : PRun :=
  if lessF (ofF made) r.known = [] then ⟨joinF r.known (lessF (ofF made) r.known), joinF r.known (lessF (ofF made) r.known), r.stratum + 1, r.rounds + 1, r.stratum + 1 == n⟩
  else ⟨joinF r.known (lessF (ofF made) r.known), lessF (ofF made) r.known, r.stratum, r.rounds + 1, false⟩
def goodStep (st : List Int) (p : List PRule) (r : PRun) : PRun × Int :=
  if r.done then (r, 0) else if r.rounds = 1000 then (zeroRun, 5)
  else if (makeP r.stratum r.known r.new (p.zip st) []).2 ≠ 0 then (zeroRun, (makeP r.stratum r.known r.new (p.zip st) []).2)
  else if 200 < (joinF r.known (lessF (ofF (makeP r.stratum r.known r.new (p.zip st) []).1) r.known)).length then (zeroRun, 5)
  else (nextRun (countP st) r (makeP r.stratum r.known r.new (p.zip st) []).1, 0)
def stepRun (st : List Int) (q : Int) (p : List PRule) (r : PRun) : PRun × Int := if runBad st q p r ≠ 0 then (zeroRun, runBad st q p r) else goodStep st p r
def iterP (st : List Int) (q : Int) (p : List PRule) : Nat → PRun → PRun × Int
  | 0, r => (r, 0)
  | k + 1, r => if r.done then (r, 0) else if (stepRun st q p r).2 ≠ 0 then (zeroRun, (stepRun st q p r).2) else iterP st q p k (stepRun st q p r).1
def stepsRun (st : List Int) (q : Int) (p : List PRule) (r : PRun) (n : Int) : PRun × Int :=
  if runBad st q p r ≠ 0 then (zeroRun, runBad st q p r) else if n < 0 ∨ 1000 < n then (zeroRun, 3) else iterP st q p n.toNat r
theorem run_bad1 {st : List Int} {q : Int} {p : List PRule} {r : PRun} (h : q ≠ 0) : runBad st q p r = q := by unfold runBad; rw [if_pos h]
theorem run_bad2 {st : List Int} {p : List PRule} {r : PRun} (h : (factsBad p r.known).1 ≠ 0) : runBad st 0 p r = (factsBad p r.known).1 := by unfold runBad; rw [if_neg (by simp), if_pos h]
theorem run_bad3 {st : List Int} {p : List PRule} {r : PRun} (h : (factsBad p r.known).1 = 0) (h2 : (setF r.new).1 ≠ 0) : runBad st 0 p r = (setF r.new).1 := by unfold runBad; rw [if_neg (by simp), if_neg (by simpa using h), if_pos h2]
theorem run_bad4 {st : List Int} {p : List PRule} {r : PRun} (h : (factsBad p r.known).1 = 0) (h2 : (setF r.new).1 = 0) : runBad st 0 p r = if rangeBad r (countP st) then 3 else if lessF r.new r.known ≠ [] then 8 else 0 := by
  unfold runBad; rw [if_neg (by simp), if_neg (by simpa using h), if_neg (by simpa using h2)]
structure RunOk (st : List Int) (p : List PRule) (r : PRun) : Prop where
  known : Good r.known
  fit : (factsBad p r.known).1 = 0
  new : Good r.new
  r0 : 0 ≤ r.rounds
  r1 : r.rounds ≤ 1000
  s0 : 0 ≤ r.stratum
  s1 : r.stratum ≤ countP st
  done : r.done = (r.stratum == countP st)
  sub : ∀ x ∈ r.new, x ∈ r.known
theorem rangeBad_iff {r : PRun} {n : Int} : rangeBad r n = false ↔ 0 ≤ r.rounds ∧ r.rounds ≤ 1000 ∧ 0 ≤ r.stratum ∧ r.stratum ≤ n ∧ r.done = (r.stratum == n) := by
  unfold rangeBad
  simp only [Bool.or_eq_false_iff, decide_eq_false_iff_not, bne_eq_false_iff_eq]
  constructor
  · rintro ⟨⟨⟨⟨h1, h2⟩, h3⟩, h4⟩, h5⟩; exact ⟨by omega, by omega, by omega, by omega, h5⟩
  · rintro ⟨h1, h2, h3, h4, h5⟩; exact ⟨⟨⟨⟨by omega, by omega⟩, by omega⟩, by omega⟩, h5⟩
theorem lessF_nil_iff {l m : List PFact} : lessF l m = [] ↔ ∀ x ∈ l, x ∈ m := by
  unfold lessF
  rw [List.filter_eq_nil_iff]
  constructor
  · intro h x hx
    have := h x hx
    simp only [Bool.not_eq_true', Bool.not_eq_false] at this
    exact (memF_iff x m).1 this
  · intro h x hx
    rw [(memF_iff x m).2 (h x hx)]; decide
theorem runBad_zero {st : List Int} {q : Int} {p : List PRule} {r : PRun} : runBad st q p r = 0 ↔ q = 0 ∧ RunOk st p r := by
  by_cases hq : q = 0
  case neg => rw [run_bad1 hq]; exact ⟨fun h => absurd h hq, fun h => absurd h.1 hq⟩
  subst hq
  by_cases hf : (factsBad p r.known).1 = 0
  case neg => rw [run_bad2 hf]; exact ⟨fun h => absurd h hf, fun h => absurd h.2.fit hf⟩
  by_cases hs : (setF r.new).1 = 0
  case neg => rw [run_bad3 hf hs]; exact ⟨fun h => absurd h hs, fun h => absurd (by rw [h.2.new.set]) hs⟩
  rw [run_bad4 hf hs]
  cases hr : rangeBad r (countP st)
  · obtain ⟨h1, h2, h3, h4, h5⟩ := rangeBad_iff.1 hr
    by_cases hl : lessF r.new r.known = []
    · rw [if_neg (by simp), if_neg (by simpa using hl)]
      exact ⟨fun _ => ⟨rfl, good_of (factsBad_set hf), hf, good_of hs, h1, h2, h3, h4, h5, lessF_nil_iff.1 hl⟩, fun _ => rfl⟩
    · rw [if_neg (by simp), if_pos hl]
      exact ⟨fun h => absurd h (by decide), fun h => absurd (lessF_nil_iff.2 h.2.sub) hl⟩
  · rw [if_pos rfl]
    refine ⟨fun h => absurd h (by decide), fun h => ?_⟩
    have := rangeBad_iff.2 ⟨h.2.r0, h.2.r1, h.2.s0, h.2.s1, h.2.done⟩
    rw [hr] at this; cases this
end Go.Proofs.YtiiicochdidolaaGreat
