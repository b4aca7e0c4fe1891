/-
  THE TEXTS StrataQ, NaiveQ, NaiveA, NaiveR, NaiveM, ProofP, Lit, SynP, one behind the other.
-/
import Derived.Test.YtoffggiaecclmaaGreatPk1
import Derived.Test.YtoffggiaecclmaaGreatPk2
import Derived.Test.YtoffggiaecclmaaGreatPk3
/-
  PLAIN: raising the strata step by step comes to the least ones, or to no end.
-/
namespace Go.Proofs.YtoffggiaecclmaaGreat

def Dh (p : List PRule) : Nat := (onceS (headsOf p)).length
def tot (p : List PRule) (M : Str → Nat) : Nat := ((onceS (headsOf p)).map M).sum
/-- What has been raised so far. -/
structure Sub (p : List PRule) (M : Str → Nat) : Prop where
  under : ∀ N, Sol p N → ∀ s, M s ≤ N s
  out : ∀ s, s ∉ headsOf p → M s = 0
  lt : ∀ s, M s < Dh p ∨ M s = 0
def raise (p : List PRule) (M : Str → Nat) (r : PRule) (a : PAtom) : Str → Nat := fun t => if t = r.head.name then M a.name + dl p a else M t

theorem Sub.zero (p : List PRule) : Sub p (fun _ => 0) := ⟨fun _ _ _ => Nat.zero_le _, fun _ _ => rfl, fun _ => .inr rfl⟩
theorem sum_up : ∀ (l : List Str) (M N : Str → Nat) (s : Str), s ∈ l → (∀ t, M t ≤ N t) → M s < N s → (l.map M).sum + 1 ≤ (l.map N).sum
  | [], _, _, _, h, _, _ => by simp at h
  | x :: l, M, N, s, h, hle, hlt => by
    have hmono : ∀ l : List Str, (l.map M).sum ≤ (l.map N).sum := fun l => by
      induction l with
      | nil => simp
      | cons y l ih => simp only [List.map_cons, List.sum_cons]; have := hle y; omega
    simp only [List.map_cons, List.sum_cons]
    rcases List.mem_cons.1 h with rfl | h
    · have := hmono l; omega
    · have := sum_up l M N s h hle hlt; have := hle x; omega
theorem sum_le : ∀ (l : List Str) (M : Str → Nat) (d : Nat), (∀ t, M t ≤ d) → (l.map M).sum ≤ l.length * d
  | [], _, _, _ => by simp
  | x :: l, M, d, h => by
    have := sum_le l M d h
    have := h x
    simp only [List.map_cons, List.sum_cons, List.length_cons, Nat.add_mul]
    omega
theorem Sub.tot_le {p : List PRule} {M : Str → Nat} (h : Sub p M) : tot p M ≤ Dh p * Dh p := sum_le _ _ _ fun t => by have := h.lt t; omega
theorem Sub.step {p : List PRule} {M : Str → Nat} (h : Sub p M) {r : PRule} (hr : r ∈ p) {a : PAtom} (ha : a ∈ r.body) (hd : M a.name + dl p a < Dh p) (hup : ¬ M a.name + dl p a ≤ M r.head.name) : Sub p (raise p M r a) ∧ tot p M + 1 ≤ tot p (raise p M r a) := by
  have hh : r.head.name ∈ headsOf p := List.mem_map.2 ⟨r, hr, rfl⟩
  refine ⟨⟨fun N hN s => ?_, fun s hs => ?_, fun s => ?_⟩, ?_⟩
  · unfold raise
    split
    · rename_i e
      have h1 := h.under N hN a.name
      have h2 := hN.up r hr a ha
      rw [e]; omega
    · exact h.under N hN s
  · unfold raise
    rw [if_neg (fun e => hs (by rw [e]; exact hh))]
    exact h.out s hs
  · unfold raise
    split
    · exact .inl hd
    · exact h.lt s
  · refine sum_up _ _ _ r.head.name ((mem_onceS _ _).2 hh) (fun t => ?_) ?_
    · unfold raise
      split
      · rename_i e; rw [e]; omega
      · exact Nat.le_refl _
    · unfold raise
      rw [if_pos rfl]; omega
theorem Sub.fail {p : List PRule} {M : Str → Nat} (h : Sub p M) {r : PRule} (hr : r ∈ p) {a : PAtom} (ha : a ∈ r.body) (hd : ¬ M a.name + dl p a < Dh p) : ∀ N, ¬ Sol p N := by
  intro N hN
  obtain ⟨L, hL⟩ := exists_least hN
  have h1 := h.under L hL.sol a.name
  have h2 := hL.sol.up r hr a ha
  have h3 := hL.bound (D := onceS (headsOf p)) (fun x hx => (mem_onceS x _).2 hx) (s := r.head.name) (List.mem_map.2 ⟨r, hr, rfl⟩)
  have h4 : Dh p = (onceS (headsOf p)).length := rfl
  omega
theorem Sub.done {p : List PRule} {M : Str → Nat} (h : Sub p M) (hk : ∀ r ∈ p, ∀ a ∈ r.body, M a.name + dl p a ≤ M r.head.name) : Least p M := ⟨⟨h.out, hk⟩, fun N hN s => h.under N hN s⟩

theorem onceS_length : ∀ (ks acc : List Str), (ks.foldl (fun acc x => if memS x acc then acc else acc ++ [x]) acc).length ≤ acc.length + ks.length
  | [], acc => by simp
  | k :: ks, acc => by
    rw [List.foldl_cons]
    refine Nat.le_trans (onceS_length ks _) ?_
    split
    · simp
    · simp only [List.length_append, List.length_cons, List.length_nil]; omega
theorem Dh_le (p : List PRule) : Dh p ≤ p.length := by
  have := onceS_length (headsOf p) []
  simpa [Dh, onceS, headsOf] using this

/-- What check.Strata answers. -/
def StrataIs (p : List PRule) (l : List Int) (q : Int × Int) : Prop :=
  (wrongP p).1 ≠ 0 ∧ l = [] ∧ q = wrongP p ∨
  (wrongP p).1 = 0 ∧ ((∃ L, Least p L ∧ l = p.map (fun r => (L r.head.name : Int)) ∧ q = (0, 0)) ∨ ((∀ N, ¬ Sol p N) ∧ l = [] ∧ q = (10, 0)))
theorem StrataIs.unique {p : List PRule} {l m : List Int} {q r : Int × Int} (h : StrataIs p l q) (k : StrataIs p m r) : l = m ∧ q = r := by
  rcases h with ⟨h1, rfl, rfl⟩ | ⟨h1, ⟨L, hL, rfl, rfl⟩ | ⟨h2, rfl, rfl⟩⟩ <;> rcases k with ⟨k1, rfl, rfl⟩ | ⟨k1, ⟨M, hM, rfl, rfl⟩ | ⟨k2, rfl, rfl⟩⟩
  · exact ⟨rfl, rfl⟩
  · exact absurd k1 h1
  · exact absurd k1 h1
  · exact absurd h1 k1
  · rw [hL.unique hM]; exact ⟨rfl, rfl⟩
  · exact absurd hL.sol (k2 L)
  · exact absurd h1 k1
  · exact absurd hM.sol (h2 M)
  · exact ⟨rfl, rfl⟩
end Go.Proofs.YtoffggiaecclmaaGreat

/-
  PLAIN: what comes of all strata is closed, and each fact in it was told, or a rule makes it of what is there.
-/
namespace Go.Proofs.YtoffggiaecclmaaGreat

/-- A rule makes x of O. -/
def Derives (r : PRule) (O : List PFact) (x : PFact) : Prop := ∃ m, Told (fun _ => O) r.body m ∧ fillP r.head m = some x
theorem Derives.name {r : PRule} {O : List PFact} {x : PFact} (h : Derives r O x) : x.name = r.head.name := by
  obtain ⟨m, -, h⟩ := h
  exact (fillP_name h).1.symm
theorem Derives.agree {r : PRule} {O M : List PFact} {x : PFact} (h : Derives r O x) (ha : ∀ a ∈ r.body, ∀ f : PFact, f.name = a.name → (f ∈ O ↔ f ∈ M)) : Derives r M x := by
  obtain ⟨m, h1, h2⟩ := h
  exact ⟨m, told_agree ha h1, h2⟩
/-- More that is there, and nothing more of what must not be so. -/
theorem Derives.grow {r : PRule} {O M : List PFact} {x : PFact} (h : Derives r O x) (hp : ∀ f ∈ O, f ∈ M) (hn : ∀ a ∈ r.body, a.neg = true → ∀ f : PFact, f.name = a.name → f ∈ M → f ∈ O) : Derives r M x := by
  obtain ⟨m, ⟨h1, h2, h3, h4⟩, h5⟩ := h
  refine ⟨m, ⟨h1, h2, h3, fun j a ha => ?_⟩, h5⟩
  obtain ⟨f, k1, k2⟩ := h4 j a ha
  refine ⟨f, k1, ?_⟩
  have hm := List.mem_of_getElem? ha
  cases hneg : a.neg
  · rw [hneg] at k2
    have : f ∈ O := (memF_iff _ _).1 (by simpa using k2)
    rw [(memF_iff _ _).2 (hp f this)]; rfl
  · rw [hneg] at k2
    have hno : ¬ f ∈ O := fun hf => by rw [(memF_iff _ _).2 hf] at k2; simp at k2
    have hno' : ¬ f ∈ M := fun hf => hno (hn a hm hneg f (fillP_name k1).1.symm hf)
    cases hmf : memF f M
    · rfl
    · exact absurd ((memF_iff _ _).1 hmf) hno'

theorem fillArgs_of {l : Binds} : ∀ {ts : List PTerm} {ns : List Str}, fillArgs l ts = some ns → ∀ n ∈ ns, ∃ t ∈ ts, valT l t = some n
  | [], ns, h, n, hn => by obtain rfl := Option.some.inj h; simp at hn
  | u :: ts, ns, h, n, hn => by
    unfold fillArgs at h
    cases hu : valT l u with
    | none => rw [hu] at h; cases h
    | some m =>
      rw [hu] at h
      dsimp only at h
      cases hr : fillArgs l ts with
      | none => rw [hr] at h; cases h
      | some r =>
        rw [hr] at h
        obtain rfl := Option.some.inj h
        rcases List.mem_cons.1 hn with rfl | hn
        · exact ⟨u, by simp, hu⟩
        · obtain ⟨t, h1, h2⟩ := fillArgs_of hr n hn
          exact ⟨t, by simp [h1], h2⟩
theorem fillArgs_to {l : Binds} : ∀ {ts : List PTerm} {ns : List Str}, fillArgs l ts = some ns → ∀ t ∈ ts, ∃ n ∈ ns, valT l t = some n
  | u :: ts, ns, h, t, ht => by
    unfold fillArgs at h
    cases hu : valT l u with
    | none => rw [hu] at h; cases h
    | some m =>
      rw [hu] at h
      dsimp only at h
      cases hr : fillArgs l ts with
      | none => rw [hr] at h; cases h
      | some r =>
        rw [hr] at h
        obtain rfl := Option.some.inj h
        rcases List.mem_cons.1 ht with rfl | ht
        · exact ⟨m, by simp, hu⟩
        · obtain ⟨n, h1, h2⟩ := fillArgs_to hr t ht
          exact ⟨n, by simp [h1], h2⟩

/-! ### What is made is a fact -/
theorem wrongF_zero {f : PFact} : wrongF f = 0 ↔ named f.name = true ∧ f.args.length ≤ 4 ∧ ∀ n ∈ f.args, named n = true := by
  unfold wrongF
  cases h1 : named f.name
  · simp
  · rw [if_neg (by simp)]
    by_cases h2 : 4 < f.args.length
    · rw [if_pos h2]; simp; omega
    · rw [if_neg h2]
      cases h3 : f.args.all named
      · rw [if_neg (by simp)]
        simp only [true_and]
        constructor
        · intro h; exact absurd h (by decide)
        · rintro ⟨-, h⟩
          rw [List.all_eq_true.2 h] at h3; cases h3
      · rw [if_pos rfl]
        simp only [true_and, true_iff]
        exact ⟨by omega, List.all_eq_true.1 h3⟩
theorem atomBad_zero {a : PAtom} (h : atomBad a = 0) : named a.name = true ∧ a.terms.length ≤ 4 ∧ ∀ t ∈ a.terms, termOk t = true := by
  unfold atomBad at h
  cases h1 : named a.name
  · rw [if_pos h1] at h; exact absurd h (by decide)
  · rw [if_neg (by simp [h1])] at h
    by_cases h2 : 4 < a.terms.length
    · rw [if_pos h2] at h; exact absurd h (by decide)
    · rw [if_neg h2] at h
      by_cases h3 : a.terms.all termOk = true
      · exact ⟨rfl, by omega, List.all_eq_true.1 h3⟩
      · rw [if_neg h3] at h; exact absurd h (by decide)
theorem ruleBad_zero {r : PRule} (h : ruleBad r = 0) : atomBad r.head = 0 ∧ r.head.neg = false ∧ bodyBad r.body = 0 ∧ ∀ v ∈ varsOf r.head, ∃ a ∈ r.body, v ∈ varsOf a := by
  unfold ruleBad at h
  by_cases h1 : atomBad r.head = 0
  case neg => rw [if_pos h1] at h; exact absurd h h1
  rw [if_neg (by simpa using h1)] at h
  cases h2 : r.head.neg
  case true => rw [if_pos h2] at h; exact absurd h (by decide)
  rw [if_neg (by simp [h2])] at h
  by_cases h3 : bodyBad r.body = 0
  case neg => rw [if_pos h3] at h; exact absurd h h3
  rw [if_neg (by simpa using h3)] at h
  refine ⟨h1, rfl, h3, fun v hv => ?_⟩
  by_cases h4 : (varsOf r.head).all (fun v => memS v (allVars r.body)) = true
  · have := List.all_eq_true.1 h4 v hv
    have hm := (memS_iff _ _).1 this
    unfold allVars at hm
    obtain ⟨a, ha, hva⟩ := List.mem_flatMap.1 hm
    exact ⟨a, ha, hva⟩
  · rw [if_neg h4] at h; exact absurd h (by decide)
theorem derives_good {r : PRule} {O : List PFact} {x : PFact} (hr : ruleBad r = 0) (hO : ∀ f ∈ O, wrongF f = 0) (h : Derives r O x) : wrongF x = 0 := by
  obtain ⟨m, ⟨-, hnd, hvs, htold⟩, hf⟩ := h
  obtain ⟨h1, -, h3, -⟩ := ruleBad_zero hr
  obtain ⟨g1, g2, g3⟩ := atomBad_zero h1
  obtain ⟨k1, k2⟩ := fillP_name hf
  refine wrongF_zero.2 ⟨by rw [← k1]; exact g1, by have := fillArgs_len k2; omega, fun n hn => ?_⟩
  obtain ⟨t, ht, hv⟩ := fillArgs_of k2 n hn
  have hok := g3 t ht
  unfold valT at hv
  cases htv : t.var
  · rw [htv] at hv
    obtain rfl : t.name = n := by simpa using hv
    unfold termOk at hok
    rw [htv] at hok
    simpa using hok
  · rw [htv] at hv
    simp only [if_true] at hv
    have hm : t.name ∈ Vs m := List.mem_map.2 ⟨_, getB_mem hv, rfl⟩
    obtain ⟨a, ha, hva⟩ := (hvs _).1 hm
    obtain ⟨a, ha, hneg, hva⟩ := (mem_heldOf _ _).1 (body_free h3 ha hva)
    obtain ⟨j, hj⟩ := List.mem_iff_getElem?.1 ha
    obtain ⟨f, q1, q2⟩ := htold j a hj
    rw [hneg] at q2
    have hfO : f ∈ O := (memF_iff _ _).1 (by simpa using q2)
    obtain ⟨u, hu, huv, hun⟩ := (mem_varsOf _ a).1 hva
    obtain ⟨n', hn', hv'⟩ := fillArgs_to (fillP_name q1).2 u hu
    unfold valT at hv'
    rw [if_pos huv, hun, hv] at hv'
    obtain rfl := Option.some.inj hv'
    exact (wrongF_zero.1 (hO f hfO)).2.2 _ hn'

/-! ### All strata -/
def withL (L : Str → Nat) (p : List PRule) : List (PRule × Int) := p.map fun r => (r, (L r.head.name : Int))
theorem zip_withL (L : Str → Nat) (p : List PRule) : p.zip (p.map fun r => (L r.head.name : Int)) = withL L p := by
  unfold withL
  induction p with
  | nil => rfl
  | cons r p ih => rw [List.map_cons, List.zip_cons_cons, ih, List.map_cons]
theorem mem_withL {L : Str → Nat} {p : List PRule} {r : PRule} {s : Int} : (r, s) ∈ withL L p ↔ r ∈ p ∧ s = (L r.head.name : Int) := by
  unfold withL
  rw [List.mem_map]
  constructor
  · rintro ⟨q, hq, e⟩
    injection e with e1 e2
    subst e1
    exact ⟨hq, e2.symm⟩
  · rintro ⟨h, rfl⟩
    exact ⟨r, h, rfl⟩

/-- What holds once the strata below i are done. -/
structure Upto (p : List PRule) (L : Str → Nat) (l : List PFact) (i : Nat) (out : List PFact) : Prop where
  sub : ∀ x ∈ l, x ∈ out
  closed : ∀ r ∈ p, L r.head.name < i → ∀ x, Derives r out x → x ∈ out
  made : ∀ x ∈ out, x ∈ l ∨ ∃ r ∈ p, L r.head.name < i ∧ Derives r out x
  good : ∀ x ∈ out, wrongF x = 0
  rise : Rising out
  len : out.length ≤ 200

theorem Upto.step {p : List PRule} {L : Str → Nat} (hS : Sol p L) (hR : ∀ r ∈ p, ruleBad r = 0) {l : List PFact} {i : Nat} {out : List PFact} (h : Upto p L l i out) (he : (fixP (withL L p) i 201 out).2 = 0) : Upto p L l (i + 1) (fixP (withL L p) i 201 out).1 := by
  have hF := fix_fixed (by omega) he h.rise h.len
  generalize (fixP (withL L p) i 201 out).1 = M at *
  have hnew : ∀ x ∈ M, x ∈ out ∨ ∃ r ∈ p, L r.head.name = i ∧ x.name = r.head.name := fun x hx => by
    rcases hF.made x hx with h1 | ⟨O, r, s, -, -, h3, h4, h5, h6⟩
    · exact .inl h1
    · obtain ⟨h7, rfl⟩ := mem_withL.1 h3
      exact .inr ⟨r, h7, by omega, Derives.name ((mem_heads h5 x).1 h6)⟩
  have hag : ∀ r ∈ p, L r.head.name < i → ∀ a ∈ r.body, ∀ f : PFact, f.name = a.name → (f ∈ out ↔ f ∈ M) := fun r hr hlt a ha f hf => ⟨hF.sub f, fun hm => by
    rcases hnew f hm with h1 | ⟨r', h1, h2, h3⟩
    · exact h1
    · have := hS.up r hr a ha
      rw [← hf, h3] at this
      omega⟩
  refine ⟨fun x hx => hF.sub x (h.sub x hx), fun r hr hlt x hx => ?_, fun x hx => ?_, fun x hx => ?_, hF.rise, hF.len⟩
  · by_cases hi : L r.head.name < i
    · exact hF.sub x (h.closed r hr hi x (hx.agree fun a ha f hf => (hag r hr hi a ha f hf).symm))
    · obtain ⟨h1, h2⟩ := hF.ok r (L r.head.name) (mem_withL.2 ⟨hr, rfl⟩) (by omega)
      exact h2 x ((mem_heads h1 x).2 hx)
  · rcases hF.made x hx with h1 | ⟨O, r, s, h1, h2, h3, h4, h5, h6⟩
    · rcases h.made x h1 with h2 | ⟨r, hr, hlt, hd⟩
      · exact .inl h2
      · exact .inr ⟨r, hr, by omega, hd.agree (hag r hr hlt)⟩
    · obtain ⟨h7, rfl⟩ := mem_withL.1 h3
      refine .inr ⟨r, h7, by omega, (show Derives r O x from (mem_heads h5 x).1 h6).grow h2 fun a ha hneg f hf hm => ?_⟩
      rcases hnew f hm with k1 | ⟨r', k1, k2, k3⟩
      · exact h1 f k1
      · exfalso
        have hup := hS.up r h7 a ha
        have hdl : dl p a = 1 := by
          unfold dl
          rw [if_pos ⟨hneg, List.mem_map.2 ⟨r', k1, by rw [← hf, k3]⟩⟩]
        rw [hdl, ← hf, k3] at hup
        omega
  · rcases hF.made x hx with h1 | ⟨O, r, s, h1, h2, h3, h4, h5, h6⟩
    · exact h.good x h1
    · obtain ⟨h7, rfl⟩ := mem_withL.1 h3
      exact derives_good (hR r h7) (setF_set (heads_set h5).1).2.2 ((mem_heads h5 x).1 h6)
theorem run_upto {p : List PRule} {L : Str → Nat} (hS : Sol p L) (hR : ∀ r ∈ p, ruleBad r = 0) {l : List PFact} : ∀ {k i : Nat} {out : List PFact}, Upto p L l i out → (runP (withL L p) k i out).2 = 0 → Upto p L l (i + k) (runP (withL L p) k i out).1
  | 0, i, out, h, _ => h
  | k + 1, i, out, h, he => by
    obtain ⟨h1, h2⟩ := run_step he
    rw [h2] at he ⊢
    have := run_upto (k := k) (i := i + 1) hS hR (h.step hS hR h1) he
    rwa [show i + 1 + k = i + (k + 1) by omega] at this
theorem max_le : ∀ (l : List Int) (x : Int), x ≤ l.foldl max x ∧ ∀ y ∈ l, y ≤ l.foldl max x
  | [], x => ⟨Int.le_refl _, by simp⟩
  | z :: l, x => by
    obtain ⟨h1, h2⟩ := max_le l (max x z)
    rw [List.foldl_cons]
    refine ⟨by omega, fun y hy => ?_⟩
    rcases List.mem_cons.1 hy with rfl | hy
    · omega
    · exact h2 y hy
theorem count_gt {st : List Int} {x : Int} (h : x ∈ st) : x < countP st := by
  cases st with
  | nil => simp at h
  | cons y l =>
    show x < l.foldl max y + 1
    obtain ⟨h1, h2⟩ := max_le l y
    rcases List.mem_cons.1 h with rfl | h
    · omega
    · have := h2 x h; omega

/-- What follows from l by p: nothing is lacking, and nothing else is there. -/
structure Follows (p : List PRule) (l M : List PFact) : Prop where
  sub : ∀ x ∈ l, x ∈ M
  closed : ∀ r ∈ p, ∀ x, Derives r M x → x ∈ M
  made : ∀ x ∈ M, x ∈ l ∨ ∃ r ∈ p, Derives r M x
  good : ∀ x ∈ M, wrongF x = 0
  rise : Rising M
  len : M.length ≤ 200

theorem setF_of {l : List PFact} (h1 : l.length ≤ 200) (h2 : Rising l) (h3 : ∀ f ∈ l, wrongF f = 0) : setF l = (0, 0) := by
  unfold setF
  rw [if_neg (by omega)]
  have : (List.range l.length).find? (fun i => badAt l i != 0) = none := by
    rw [List.find?_range_eq_none]
    intro i hi
    obtain ⟨f, hf⟩ : ∃ f, l[i]? = some f := ⟨_, List.getElem?_eq_getElem hi⟩
    have hw := h3 f (List.mem_of_getElem? hf)
    rcases i with _ | i
    · simp [badAt_zero hf hw]
    · obtain ⟨g, hg⟩ : ∃ g, l[i]? = some g := ⟨_, List.getElem?_eq_getElem (by omega)⟩
      rw [badAt_succ hf hg hw, if_pos]
      · simp
      · obtain ⟨a1, a2⟩ := List.getElem?_eq_some_iff.1 hg
        obtain ⟨b1, b2⟩ := List.getElem?_eq_some_iff.1 hf
        have := List.pairwise_iff_getElem.1 h2 i (i + 1) a1 b1 (by omega)
        rw [a2, b2] at this
        simpa [ltF] using this
  rw [this]
theorem wrongFrom_rules : ∀ {p : List PRule} {m : Known} {i : Int}, (wrongFrom m i p).1 = 0 → ∀ r ∈ p, ruleBad r = 0
  | q :: p, m, i, h, r, hr => by
    unfold wrongFrom at h
    by_cases h1 : ruleBad q = 0
    case neg => rw [if_pos h1] at h; exact absurd h h1
    rw [if_neg (by simpa using h1)] at h
    split at h
    · rcases List.mem_cons.1 hr with rfl | hr
      · exact h1
      · exact wrongFrom_rules h r hr
    · exact absurd h (by simp)
theorem wrongP_rules {p : List PRule} (h : (wrongP p).1 = 0) : ∀ r ∈ p, ruleBad r = 0 := by
  unfold wrongP at h
  split at h
  · exact absurd h (by decide)
  · exact wrongFrom_rules h

theorem naive_zero {st : List Int} {q : Int} {p : List PRule} {l : List PFact} (h : (naiveP st q p l).2 = 0) : q = 0 ∧ (factsBad p l).1 = 0 ∧ naiveP st q p l = runP (p.zip st) (countP st).toNat 0 l := by
  unfold naiveP at *
  by_cases h1 : q = 0
  case neg => rw [if_pos h1] at h; exact absurd h h1
  rw [if_neg (by simpa using h1)] at h ⊢
  by_cases h2 : (factsBad p l).1 = 0
  case neg => rw [if_pos h2] at h; exact absurd h h2
  rw [if_neg (by simpa using h2)] at h ⊢
  exact ⟨h1, h2, rfl⟩
theorem factsBad_set {p : List PRule} {l : List PFact} (h : (factsBad p l).1 = 0) : (setF l).1 = 0 := by
  unfold factsBad at h
  by_cases h1 : (setF l).1 = 0
  · exact h1
  · rw [if_pos h1] at h; exact absurd h h1
theorem strata_zero {p : List PRule} {st : List Int} {q : Int × Int} (hs : StrataIs p st q) (hq : q.1 = 0) : (∀ r ∈ p, ruleBad r = 0) ∧ (wrongP p).1 = 0 ∧ ∃ L, Least p L ∧ st = p.map (fun r => (L r.head.name : Int)) := by
  rcases hs with ⟨h1, -, rfl⟩ | ⟨h1, ⟨L, hL, h2, -⟩ | ⟨-, -, rfl⟩⟩
  · exact absurd hq h1
  · exact ⟨wrongP_rules h1, h1, L, hL, h2⟩
  · exact absurd hq (by decide)
/-- ALL THAT FOLLOWS. -/
theorem naive_follows {p : List PRule} {l : List PFact} {st : List Int} {q : Int × Int} (hs : StrataIs p st q) (h : (naiveP st q.1 p l).2 = 0) : Follows p l (naiveP st q.1 p l).1 ∧ (setF l).1 = 0 ∧ ∀ r ∈ p, ruleBad r = 0 := by
  obtain ⟨h1, h2, h3⟩ := naive_zero h
  obtain ⟨hR, hW, L, hL, rfl⟩ := strata_zero hs h1
  have hset := factsBad_set h2
  obtain ⟨g1, g2, g3⟩ := setF_set hset
  rw [h3] at h ⊢
  rw [zip_withL] at h ⊢
  have h0 : Upto p L l 0 l := ⟨fun x hx => hx, fun r _ hlt => by omega, fun x hx => .inl hx, g3, g2, g1⟩
  have hU := run_upto (k := (countP (p.map fun r => (L r.head.name : Int))).toNat) (i := 0) hL.sol hR h0 h
  have hcnt : ∀ r ∈ p, L r.head.name < 0 + (countP (p.map fun r => (L r.head.name : Int))).toNat := fun r hr => by
    have := count_gt (st := p.map fun r => (L r.head.name : Int)) (List.mem_map.2 ⟨r, hr, rfl⟩)
    omega
  refine ⟨⟨hU.sub, fun r hr x hx => hU.closed r hr (hcnt r hr) x hx, fun x hx => ?_, hU.good, hU.rise, hU.len⟩, hset, hR⟩
  · rcases hU.made x hx with h | ⟨r, hr, -, hd⟩
    · exact .inl h
    · exact .inr ⟨r, hr, hd⟩
theorem Follows.set {p : List PRule} {l M : List PFact} (h : Follows p l M) : setF M = (0, 0) := setF_of h.len h.rise h.good
end Go.Proofs.YtoffggiaecclmaaGreat

/-
  PLAIN: a right program's atoms of one name have as many terms; facts that fit a program.
-/
namespace Go.Proofs.YtoffggiaecclmaaGreat

theorem fitAll_append : ∀ (l k : List PAtom) (m : Known), fitAll m (l ++ k) = (fitAll m l && fitAll (learnAll m l) k)
  | [], k, m => by simp [fitAll, learnAll]
  | a :: l, k, m => by rw [List.cons_append, fitAll, fitAll, learnAll, fitAll_append l k, Bool.and_assoc]
theorem wrongFrom_iff : ∀ (p : List PRule) (m : Known) (i : Int), (wrongFrom m i p).1 = 0 ↔ (∀ r ∈ p, ruleBad r = 0) ∧ fitAll m (atomsOf p) = true
  | [], m, i => by simp [wrongFrom, atomsOf, fitAll]
  | r :: p, m, i => by
    have ha : atomsOf (r :: p) = (r.head :: r.body) ++ atomsOf p := by simp [atomsOf]
    rw [ha, fitAll_append, wrongFrom]
    by_cases h1 : ruleBad r = 0
    · rw [if_neg (by simpa using h1)]
      by_cases h2 : fitAll m (r.head :: r.body) = true
      · rw [if_pos h2, wrongFrom_iff p, h2, Bool.true_and]
        simp [h1]
      · rw [if_neg h2]
        simp only [Bool.not_eq_true] at h2
        rw [h2]
        simp
    · rw [if_pos h1]
      simp [h1]
theorem fits_learn {m : Known} {a b : PAtom} (h : fits m a = true) : fits (learn m a) b = true ↔ fits m b = true ∧ (a.name = b.name → a.terms.length = b.terms.length) := by
  unfold learn
  cases hm : m a.name with
  | some n =>
    rw [if_pos (by simp)]
    refine ⟨fun hb => ⟨hb, fun e => ?_⟩, fun hb => hb.1⟩
    unfold fits at h hb
    rw [hm] at h
    rw [← e, hm] at hb
    simp at h hb
    omega
  | none =>
    rw [if_neg (by simp)]
    unfold fits
    by_cases e : b.name = a.name
    · dsimp only
      rw [if_pos e, e, hm]
      simp only [true_and, forall_const, beq_iff_eq]
      omega
    · dsimp only
      rw [if_neg e]
      simp [Ne.symm e]
theorem fitAll_iff : ∀ (l : List PAtom) (m : Known), fitAll m l = true ↔ (∀ a ∈ l, fits m a = true) ∧ ∀ a ∈ l, ∀ b ∈ l, a.name = b.name → a.terms.length = b.terms.length
  | [], m => by simp [fitAll]
  | a :: l, m => by
    rw [fitAll, Bool.and_eq_true, fitAll_iff l]
    constructor
    · rintro ⟨h1, h2, h3⟩
      have h4 := fun b hb => (fits_learn h1).1 (h2 b hb)
      refine ⟨fun b hb => ?_, fun b hb c hc e => ?_⟩
      · rcases List.mem_cons.1 hb with rfl | hb
        · exact h1
        · exact (h4 b hb).1
      · rcases List.mem_cons.1 hb with hb | hb <;> rcases List.mem_cons.1 hc with hc | hc
        · rw [hb, hc]
        · rw [hb] at e ⊢; exact (h4 c hc).2 e
        · rw [hc] at e ⊢; exact ((h4 b hb).2 e.symm).symm
        · exact h3 b hb c hc e
    · rintro ⟨h1, h2⟩
      have ha := h1 a (by simp)
      exact ⟨ha, fun b hb => (fits_learn ha).2 ⟨h1 b (by simp [hb]), fun e => h2 a (by simp) b (by simp [hb]) e⟩, fun b hb c hc e => h2 b (by simp [hb]) c (by simp [hc]) e⟩

/-- Of one name each atom has as many terms. -/
def Arity (p : List PRule) : Prop := ∀ a ∈ atomsOf p, ∀ b ∈ atomsOf p, a.name = b.name → a.terms.length = b.terms.length
theorem wrongP_iff {p : List PRule} : (wrongP p).1 = 0 ↔ p.length ≤ 16 ∧ (∀ r ∈ p, ruleBad r = 0) ∧ Arity p := by
  unfold wrongP
  by_cases h : 16 < p.length
  · rw [if_pos h]
    constructor
    · intro h1; exact absurd h1 (by decide)
    · rintro ⟨h1, -⟩; omega
  · rw [if_neg h, wrongFrom_iff, fitAll_iff]
    exact ⟨fun h1 => ⟨by omega, h1.1, h1.2.2⟩, fun h1 => ⟨h1.2.1, fun a _ => by simp [fits], h1.2.2⟩⟩

theorem arityF_fold : ∀ (l : List PAtom) (m : Str → Option Int) (t : Str), ((∀ a ∈ l, a.name ≠ t) → l.foldl arityF m t = m t) ∧ ((∃ a ∈ l, a.name = t) → ∃ a ∈ l, a.name = t ∧ l.foldl arityF m t = some (a.terms.length : Int))
  | [], m, t => ⟨fun _ => rfl, fun ⟨a, ha, _⟩ => by simp at ha⟩
  | b :: l, m, t => by
    obtain ⟨h1, h2⟩ := arityF_fold l (arityF m b) t
    rw [List.foldl_cons]
    refine ⟨fun h => ?_, fun h => ?_⟩
    · rw [h1 fun a ha => h a (by simp [ha])]
      have := h b (by simp)
      unfold arityF
      rw [if_neg (fun e => this e.symm)]
    · by_cases hl : ∃ a ∈ l, a.name = t
      · obtain ⟨a, ha, e, hf⟩ := h2 hl
        exact ⟨a, by simp [ha], e, hf⟩
      · have hl' : ∀ a ∈ l, a.name ≠ t := fun a ha e => hl ⟨a, ha, e⟩
        obtain ⟨a, ha, e⟩ := h
        rcases List.mem_cons.1 ha with rfl | ha
        · refine ⟨a, by simp, e, ?_⟩
          rw [h1 hl']
          unfold arityF
          rw [if_pos e.symm]
        · exact absurd e (hl' a ha)
theorem misfit_iff {p : List PRule} (h : Arity p) (f : PFact) : misfit p f = true ↔ ∃ a ∈ atomsOf p, a.name = f.name ∧ a.terms.length ≠ f.args.length := by
  unfold misfit arityP
  obtain ⟨h1, h2⟩ := arityF_fold (atomsOf p) (fun _ => none) f.name
  by_cases hx : ∃ a ∈ atomsOf p, a.name = f.name
  · obtain ⟨a, ha, e, hf⟩ := h2 hx
    rw [hf]
    constructor
    · intro hk
      exact ⟨a, ha, e, fun e2 => by simp [e2] at hk⟩
    · rintro ⟨b, hb, e3, hk⟩
      have := h a ha b hb (e.trans e3.symm)
      simp; omega
  · rw [h1 fun a ha e => hx ⟨a, ha, e⟩]
    constructor
    · intro hk; cases hk
    · rintro ⟨b, hb, e3, -⟩
      exact absurd ⟨b, hb, e3⟩ hx
theorem misfit_same {p q : List PRule} (hp : Arity p) (hq : Arity q) (h : ∀ a, a ∈ atomsOf p ↔ a ∈ atomsOf q) : misfit p = misfit q := funext fun f => by
  rw [Bool.eq_iff_iff, misfit_iff hp, misfit_iff hq]
  exact exists_congr fun a => and_congr_left fun _ => h a
theorem factsBad_iff {p : List PRule} {l : List PFact} : (factsBad p l).1 = 0 ↔ (setF l).1 = 0 ∧ ∀ f ∈ l, misfit p f = false := by
  unfold factsBad
  by_cases h1 : (setF l).1 = 0
  · rw [if_neg (by simpa using h1)]
    cases hf : l.findIdx? (misfit p) with
    | none =>
      rw [List.findIdx?_eq_none_iff] at hf
      exact ⟨fun _ => ⟨h1, fun f hm => by simpa using hf f hm⟩, fun _ => rfl⟩
    | some i =>
      constructor
      · intro h; exact absurd h (by simp)
      · rintro ⟨-, h⟩
        obtain ⟨hlt, h2, -⟩ := List.findIdx?_eq_some_iff_getElem.1 hf
        rw [h _ (List.getElem_mem hlt)] at h2
        cases h2
  · rw [if_pos h1]
    exact ⟨fun h => absurd h h1, fun h => absurd h.1 h1⟩
theorem head_mem {p : List PRule} {r : PRule} (h : r ∈ p) : r.head ∈ atomsOf p := List.mem_flatMap.2 ⟨r, h, by simp⟩
theorem body_mem {p : List PRule} {r : PRule} (h : r ∈ p) {a : PAtom} (ha : a ∈ r.body) : a ∈ atomsOf p := List.mem_flatMap.2 ⟨r, h, by simp [ha]⟩
theorem fillP_len {a : PAtom} {m : Binds} {f : PFact} (h : fillP a m = some f) : f.args.length = a.terms.length := by
  have := fillArgs_len (fillP_name h).2; omega
/-- What a rule makes fits. -/
theorem derives_fit {p : List PRule} (h : Arity p) {r : PRule} (hr : r ∈ p) {O : List PFact} {x : PFact} (hd : Derives r O x) : misfit p x = false := by
  obtain ⟨m, -, hf⟩ := hd
  have h1 := fillP_len hf
  have h2 := (fillP_name hf).1
  cases hm : misfit p x
  · rfl
  · obtain ⟨a, ha, e, hk⟩ := (misfit_iff h x).1 hm
    have := h a ha _ (head_mem hr) (e.trans h2.symm)
    omega
theorem Follows.fit {p : List PRule} {l M : List PFact} (hA : Arity p) (h : Follows p l M) (hl : (factsBad p l).1 = 0) : (factsBad p M).1 = 0 := by
  rw [factsBad_iff] at hl ⊢
  refine ⟨by rw [h.set], fun f hf => ?_⟩
  rcases h.made f hf with h1 | ⟨r, hr, hd⟩
  · exact hl.2 f h1
  · exact derives_fit hA hr hd

/-! ### Countings -/
theorem count_is (st : List Int) : st = [] ∧ countP st = 0 ∨ ∃ x ∈ st, countP st = x + 1 := by
  cases st with
  | nil => exact .inl ⟨rfl, rfl⟩
  | cons y l =>
    refine .inr ?_
    have : ∀ (l : List Int) (x : Int), l.foldl max x = x ∨ l.foldl max x ∈ l := by
      intro l
      induction l with
      | nil => intro x; exact .inl rfl
      | cons z l ih =>
        intro x
        rw [List.foldl_cons]
        rcases ih (max x z) with h | h
        · rw [h]
          by_cases hx : x ≤ z
          · exact .inr (by rw [Int.max_eq_right hx]; simp)
          · exact .inl (Int.max_eq_left (by omega))
        · exact .inr (by simp [h])
    rcases this l y with h | h
    · exact ⟨y, by simp, by show l.foldl max y + 1 = _; rw [h]⟩
    · exact ⟨_, List.mem_cons_of_mem _ h, rfl⟩
theorem count_same {a b : List Int} (h : ∀ x, x ∈ a ↔ x ∈ b) : countP a = countP b := by
  rcases count_is a with ⟨rfl, h1⟩ | ⟨x, hx, h1⟩ <;> rcases count_is b with ⟨rfl, k1⟩ | ⟨y, hy, k1⟩
  · rfl
  · have := (h y).2 hy; simp at this
  · have := (h x).1 hx; simp at this
  · have h2 := count_gt ((h x).1 hx)
    have h3 := count_gt ((h y).2 hy)
    omega
end Go.Proofs.YtoffggiaecclmaaGreat

/-
  PLAIN: rules in whatever order make the same of the same.
-/
namespace Go.Proofs.YtoffggiaecclmaaGreat

/-- Two answers are alike: one of them is that there is too much, or they are the same. -/
def Alike (a b : List PFact × Int) : Prop := a.2 = 4 ∨ b.2 = 4 ∨ a = b
/-- A set. -/
structure Good (l : List PFact) : Prop where
  rise : Rising l
  len : l.length ≤ 200
  fine : ∀ f ∈ l, wrongF f = 0
theorem Good.set {l : List PFact} (h : Good l) : setF l = (0, 0) := setF_of h.len h.rise h.fine
theorem good_of {l : List PFact} (h : (setF l).1 = 0) : Good l := ⟨(setF_set h).2.1, (setF_set h).1, (setF_set h).2.2⟩
def ReachF (n : Int) (l : List PFact) (ps : List (PRule × Int)) (out : List PFact) (x : PFact) : Prop := x ∈ out ∨ ∃ r s, (r, s) ∈ ps ∧ s = n ∧ x ∈ (headsP r l).1

theorem once_cases {n : Int} {l : List PFact} (hl : (setF l).1 = 0) : ∀ {ps : List (PRule × Int)} {out : List PFact}, (∀ r s, (r, s) ∈ ps → bodyBad r.body = 0) →
    (onceP n l ps out).2 = 0 ∨ onceP n l ps out = ([], 4) ∧ (∃ r s, (r, s) ∈ ps ∧ s = n ∧ (headsP r l).2 ≠ 0) ∨
      onceP n l ps out = ([], 5) ∧ ∀ M, Rising M → (∀ x, ReachF n l ps out x → x ∈ M) → 200 < M.length
  | [], out, _ => .inl rfl
  | (r, s) :: ps, out, hb => by
    have hb' : ∀ r s, (r, s) ∈ ps → bodyBad r.body = 0 := fun r s h => hb r s (List.mem_cons_of_mem _ h)
    rw [onceP]
    by_cases hs : s = n
    case neg =>
      rw [if_pos hs]
      rcases once_cases hl (ps := ps) (out := out) hb' with h | ⟨h1, r', s', h2, h3, h4⟩ | ⟨h1, h2⟩
      · exact .inl h
      · exact .inr (.inl ⟨h1, r', s', List.mem_cons_of_mem _ h2, h3, h4⟩)
      · refine .inr (.inr ⟨h1, fun M hM hx => h2 M hM fun x hr => hx x ?_⟩)
        rcases hr with hr | ⟨r', s', g1, g2, g3⟩
        · exact .inl hr
        · exact .inr ⟨r', s', List.mem_cons_of_mem _ g1, g2, g3⟩
    rw [if_neg (by simpa using hs)]
    by_cases he : (headsP r l).2 = 0
    case neg =>
      rw [if_pos he]
      exact .inr (.inl ⟨by rw [heads_much (hb r s (by simp)) hl he], r, s, by simp, hs, he⟩)
    rw [if_neg (by simpa using he)]
    by_cases hm : 200 < (joinF out (headsP r l).1).length
    · rw [if_pos hm]
      refine .inr (.inr ⟨rfl, fun M hM hx => ?_⟩)
      have : (joinF out (headsP r l).1).length ≤ M.length := rising_sub_le (ofF_rising _) fun x hxj => hx x ?_
      · omega
      · rcases (mem_joinF _ _ x).1 hxj with h | h
        · exact .inl h
        · exact .inr ⟨r, s, by simp, hs, h⟩
    · rw [if_neg hm]
      rcases once_cases hl (ps := ps) (out := joinF out (headsP r l).1) hb' with h | ⟨h1, r', s', h2, h3, h4⟩ | ⟨h1, h2⟩
      · exact .inl h
      · exact .inr (.inl ⟨h1, r', s', List.mem_cons_of_mem _ h2, h3, h4⟩)
      · refine .inr (.inr ⟨h1, fun M hM hx => h2 M hM fun x hr => hx x ?_⟩)
        rcases hr with hr | ⟨r', s', g1, g2, g3⟩
        · rcases (mem_joinF _ _ x).1 hr with h | h
          · exact .inl h
          · exact .inr ⟨r, s, by simp, hs, h⟩
        · exact .inr ⟨r', s', List.mem_cons_of_mem _ g1, g2, g3⟩
theorem reach_same {n : Int} {l : List PFact} {ps qs : List (PRule × Int)} (h : ∀ x, x ∈ ps ↔ x ∈ qs) {out : List PFact} {x : PFact} : ReachF n l ps out x ↔ ReachF n l qs out x :=
  or_congr_right (exists_congr fun r => exists_congr fun s => and_congr_left fun _ => h (r, s))
theorem once_zero_five {n : Int} {l : List PFact} {ps qs : List (PRule × Int)} (h : ∀ x, x ∈ ps ↔ x ∈ qs) {out : List PFact} (hr : Rising out) (hn : out.length ≤ 200) (h0 : (onceP n l ps out).2 = 0)
    (h5 : ∀ M, Rising M → (∀ x, ReachF n l qs out x → x ∈ M) → 200 < M.length) : False := by
  have hR := once_round h0 hr hn
  have := h5 _ hR.rise fun x hx => (hR.mem x).2 ((reach_same h).2 hx)
  have := hR.len
  omega
theorem once_alike {n : Int} {l : List PFact} (hl : (setF l).1 = 0) {ps qs : List (PRule × Int)} (h : ∀ x, x ∈ ps ↔ x ∈ qs) (hb : ∀ r s, (r, s) ∈ ps → bodyBad r.body = 0) {out : List PFact} (hr : Rising out) (hn : out.length ≤ 200) :
    Alike (onceP n l ps out) (onceP n l qs out) := by
  have hb' : ∀ r s, (r, s) ∈ qs → bodyBad r.body = 0 := fun r s hm => hb r s ((h _).2 hm)
  rcases once_cases hl (n := n) (out := out) hb with h0 | ⟨h4, -⟩ | ⟨h5, h6⟩
  · rcases once_cases hl (n := n) (out := out) hb' with k0 | ⟨k4, -⟩ | ⟨k5, k6⟩
    · have hR := once_round h0 hr hn
      have kR := once_round k0 hr hn
      refine .inr (.inr (Prod.ext (rising_ext hR.rise kR.rise fun x => ?_) (h0.trans k0.symm)))
      rw [hR.mem, kR.mem]
      exact reach_same h
    · exact .inr (.inl (by rw [k4]))
    · exact absurd (once_zero_five h hr hn h0 k6) id
  · exact .inl (by rw [h4])
  · rcases once_cases hl (n := n) (out := out) hb' with k0 | ⟨k4, -⟩ | ⟨k5, k6⟩
    · exact absurd (once_zero_five (fun x => (h x).symm) hr hn k0 h6) id
    · exact .inr (.inl (by rw [k4]))
    · exact .inr (.inr (h5.trans k5.symm))
theorem once_good {n : Int} {l : List PFact} (hl : Good l) {ps : List (PRule × Int)} (hR : ∀ r s, (r, s) ∈ ps → ruleBad r = 0) {out : List PFact} (ho : Good out) (h : (onceP n l ps out).2 = 0) : Good (onceP n l ps out).1 := by
  have hr := once_round h ho.rise ho.len
  refine ⟨hr.rise, hr.len, fun x hx => ?_⟩
  rcases (hr.mem x).1 hx with h1 | ⟨r, s, h1, h2, h3⟩
  · exact ho.fine x h1
  · exact derives_good (hR r s h1) hl.fine ((mem_heads (hr.ok r s h1 h2) x).1 h3)
theorem fix_alike {n : Int} {ps qs : List (PRule × Int)} (h : ∀ x, x ∈ ps ↔ x ∈ qs) (hR : ∀ r s, (r, s) ∈ ps → ruleBad r = 0) : ∀ {k : Nat} {out : List PFact}, Good out → Alike (fixP ps n k out) (fixP qs n k out) ∧ ((fixP ps n k out).2 = 0 → Good (fixP ps n k out).1)
  | 0, out, ho => ⟨.inr (.inr rfl), fun _ => ho⟩
  | k + 1, out, ho => by
    have hl : (setF out).1 = 0 := by rw [ho.set]
    have ha := once_alike hl (n := n) h (fun r s hm => (ruleBad_zero (hR r s hm)).2.2.1) ho.rise ho.len
    have hg := once_good (n := n) ho hR ho
    rw [fixP, fixP]
    generalize onceP n out ps out = x at *
    generalize onceP n out qs out = y at *
    by_cases hx : x.2 = 0
    case neg =>
      rw [if_pos hx]
      refine ⟨?_, fun e => absurd e hx⟩
      rcases ha with h4 | h4 | rfl
      · exact .inl h4
      · rw [if_pos (by rw [h4]; decide)]
        exact .inr (.inl h4)
      · rw [if_pos hx]
        exact .inr (.inr rfl)
    rw [if_neg (by simpa using hx)]
    have hgx := hg hx
    rcases ha with h4 | h4 | rfl
    · rw [hx] at h4; exact absurd h4 (by decide)
    · rw [if_pos (show y.2 ≠ 0 by rw [h4]; decide)]
      refine ⟨.inr (.inl h4), ?_⟩
      split
      · exact fun _ => ho
      · exact (fix_alike h hR (k := k) hgx).2
    · rw [if_neg (show ¬ x.2 ≠ 0 by simpa using hx)]
      by_cases hle : x.1.length = out.length
      · simp only [if_pos hle]
        exact ⟨.inr (.inr rfl), fun _ => ho⟩
      · simp only [if_neg hle]
        exact fix_alike h hR (k := k) hgx
theorem run_alike {ps qs : List (PRule × Int)} (h : ∀ x, x ∈ ps ↔ x ∈ qs) (hR : ∀ r s, (r, s) ∈ ps → ruleBad r = 0) : ∀ {k : Nat} {i : Int} {out : List PFact}, Good out → Alike (runP ps k i out) (runP qs k i out)
  | 0, i, out, _ => .inr (.inr rfl)
  | k + 1, i, out, ho => by
    obtain ⟨ha, hg⟩ := fix_alike (n := i) h hR (k := 201) ho
    rw [runP, runP]
    generalize fixP ps i 201 out = x at *
    generalize fixP qs i 201 out = y at *
    by_cases hx : x.2 = 0
    case neg =>
      rw [if_pos hx]
      rcases ha with h4 | h4 | rfl
      · exact .inl h4
      · rw [if_pos (by rw [h4]; decide)]
        exact .inr (.inl h4)
      · rw [if_pos hx]
        exact .inr (.inr rfl)
    rw [if_neg (by simpa using hx)]
    rcases ha with h4 | h4 | rfl
    · rw [hx] at h4; exact absurd h4 (by decide)
    · rw [if_pos (show y.2 ≠ 0 by rw [h4]; decide)]
      exact .inr (.inl h4)
    · rw [if_neg (by simpa using hx)]
      exact run_alike h hR (k := k) (hg hx)

theorem headsOf_reverse {p : List PRule} {s : Str} : s ∈ headsOf p.reverse ↔ s ∈ headsOf p := by unfold headsOf; simp
theorem dl_reverse (p : List PRule) (a : PAtom) : dl p.reverse a = dl p a := by
  unfold dl
  by_cases h : a.neg = true ∧ a.name ∈ headsOf p
  · rw [if_pos h, if_pos ⟨h.1, headsOf_reverse.2 h.2⟩]
  · rw [if_neg h, if_neg fun k => h ⟨k.1, headsOf_reverse.1 k.2⟩]
theorem sol_reverse {p : List PRule} {M : Str → Nat} (h : Sol p M) : Sol p.reverse M :=
  ⟨fun s hs => h.out s fun k => hs (headsOf_reverse.2 k), fun r hr a ha => by rw [dl_reverse]; exact h.up r (List.mem_reverse.1 hr) a ha⟩
theorem sol_reverse_iff {p : List PRule} {M : Str → Nat} : Sol p.reverse M ↔ Sol p M := ⟨fun h => by have := sol_reverse h; rwa [List.reverse_reverse] at this, sol_reverse⟩
theorem least_reverse {p : List PRule} {L : Str → Nat} (h : Least p L) : Least p.reverse L := ⟨sol_reverse h.sol, fun M hM s => h.least M (sol_reverse_iff.1 hM) s⟩
theorem atomsOf_reverse {p : List PRule} {a : PAtom} : a ∈ atomsOf p.reverse ↔ a ∈ atomsOf p := by unfold atomsOf; simp [List.mem_flatMap]
theorem arity_reverse {p : List PRule} (h : Arity p) : Arity p.reverse := fun a ha b hb e => h a (atomsOf_reverse.1 ha) b (atomsOf_reverse.1 hb) e
theorem factsBad_reverse {p : List PRule} (h : Arity p) (l : List PFact) : factsBad p.reverse l = factsBad p l := by
  unfold factsBad
  rw [misfit_same (arity_reverse h) h fun a => atomsOf_reverse]
theorem wrongP_reverse {p : List PRule} (h : (wrongP p).1 = 0) : (wrongP p.reverse).1 = 0 := by
  obtain ⟨h1, h2, h3⟩ := wrongP_iff.1 h
  exact wrongP_iff.2 ⟨by simpa using h1, fun r hr => h2 r (List.mem_reverse.1 hr), arity_reverse h3⟩
/-- RULES IN WHATEVER ORDER. -/
theorem naive_reverse {p : List PRule} {l : List PFact} {st st' : List Int} {q q' : Int × Int} (hs : StrataIs p st q) (hs' : StrataIs p.reverse st' q') (hw : (wrongP p).1 = 0) : Alike (naiveP st q.1 p l) (naiveP st' q'.1 p.reverse l) := by
  have hw' := wrongP_reverse hw
  obtain ⟨h1, h2, h3⟩ := wrongP_iff.1 hw
  rcases hs with ⟨h, -⟩ | ⟨-, ⟨L, hL, rfl, rfl⟩ | ⟨hno, rfl, rfl⟩⟩
  · exact absurd hw h
  · rcases hs' with ⟨h, -⟩ | ⟨-, ⟨L', hL', rfl, rfl⟩ | ⟨hno, -⟩⟩
    · exact absurd hw' h
    · have e : L' = L := hL'.unique (least_reverse hL)
      subst e
      unfold naiveP
      have hz : ¬ ((0, 0) : Int × Int).1 ≠ 0 := by simp
      rw [if_neg hz, if_neg hz, factsBad_reverse h3]
      by_cases hf : (factsBad p l).1 = 0
      · rw [if_neg (by simpa using hf), if_neg (by simpa using hf), zip_withL, zip_withL]
        rw [count_same (a := p.reverse.map fun r => (L' r.head.name : Int)) (b := p.map fun r => (L' r.head.name : Int)) (fun x => by simp)]
        exact run_alike (fun ⟨r, s⟩ => by rw [mem_withL, mem_withL, List.mem_reverse]) (fun r s hm => h2 r (mem_withL.1 hm).1) (good_of (factsBad_set hf))
      · rw [if_pos hf, if_pos hf]
        exact .inr (.inr rfl)
    · exact absurd (sol_reverse hL.sol) (hno L)
  · rcases hs' with ⟨h, -⟩ | ⟨-, ⟨L', hL', rfl, rfl⟩ | ⟨-, rfl, rfl⟩⟩
    · exact absurd hw' h
    · exact absurd (sol_reverse_iff.1 hL'.sol) (hno L')
    · exact .inr (.inr rfl)
end Go.Proofs.YtoffggiaecclmaaGreat

/-
  PLAIN: of a program that asks for nothing not to be so: what follows is the least that is closed; told what follows, nothing more follows.
-/
namespace Go.Proofs.YtoffggiaecclmaaGreat

def Plain (p : List PRule) : Prop := ∀ r ∈ p, ∀ a ∈ r.body, a.neg = false
theorem Derives.up {r : PRule} {O M : List PFact} {x : PFact} (hn : ∀ a ∈ r.body, a.neg = false) (h : Derives r O x) (hp : ∀ f ∈ O, f ∈ M) : Derives r M x :=
  h.grow hp fun a ha e => absurd (hn a ha) (by rw [e]; decide)

theorem fix_under {p : List (PRule × Int)} {n : Int} {N : List PFact} (hc : ∀ r s, (r, s) ∈ p → (∀ a ∈ r.body, a.neg = false) ∧ ∀ x, Derives r N x → x ∈ N) : ∀ {k : Nat} {out : List PFact}, Rising out → out.length ≤ 200 → (∀ x ∈ out, x ∈ N) → (fixP p n k out).2 = 0 → ∀ x ∈ (fixP p n k out).1, x ∈ N
  | 0, out, _, _, ho, _ => ho
  | k + 1, out, hr, hl, ho, h => by
    rw [fixP] at h ⊢
    by_cases he : (onceP n out p out).2 = 0
    case neg => rw [if_pos he] at h; exact absurd h he
    rw [if_neg (by simpa using he)] at h ⊢
    have hR := once_round he hr hl
    by_cases hle : (onceP n out p out).1.length = out.length
    · rw [if_pos hle]; exact ho
    · rw [if_neg hle] at h ⊢
      refine fix_under hc (k := k) hR.rise hR.len (fun x hx => ?_) h
      rcases (hR.mem x).1 hx with h1 | ⟨r, s, h1, h2, h3⟩
      · exact ho x h1
      · obtain ⟨g1, g2⟩ := hc r s h1
        exact g2 x (Derives.up g1 ((mem_heads (hR.ok r s h1 h2) x).1 h3) ho)
theorem fix_set {p : List (PRule × Int)} {n : Int} : ∀ {k : Nat} {out : List PFact}, Rising out → out.length ≤ 200 → (fixP p n k out).2 = 0 → Rising (fixP p n k out).1 ∧ (fixP p n k out).1.length ≤ 200
  | 0, out, h1, h2, _ => ⟨h1, h2⟩
  | k + 1, out, hr, hl, h => by
    rw [fixP] at h ⊢
    by_cases he : (onceP n out p out).2 = 0
    case neg => rw [if_pos he] at h; exact absurd h he
    rw [if_neg (by simpa using he)] at h ⊢
    have hR := once_round he hr hl
    by_cases hle : (onceP n out p out).1.length = out.length
    · rw [if_pos hle]; exact ⟨hr, hl⟩
    · rw [if_neg hle] at h ⊢
      exact fix_set hR.rise hR.len h
theorem run_under {p : List (PRule × Int)} {N : List PFact} (hc : ∀ r s, (r, s) ∈ p → (∀ a ∈ r.body, a.neg = false) ∧ ∀ x, Derives r N x → x ∈ N) : ∀ {k : Nat} {i : Int} {out : List PFact}, Rising out → out.length ≤ 200 → (∀ x ∈ out, x ∈ N) → (runP p k i out).2 = 0 → ∀ x ∈ (runP p k i out).1, x ∈ N
  | 0, i, out, _, _, ho, _ => ho
  | k + 1, i, out, hr, hl, ho, h => by
    obtain ⟨h1, h2⟩ := run_step h
    rw [h2] at h ⊢
    obtain ⟨h3, h4⟩ := fix_set hr hl h1
    exact run_under hc (k := k) h3 h4 (fix_under hc hr hl ho h1) h
/-- What follows is the least. -/
theorem naive_least {p : List PRule} (hp : Plain p) {l N : List PFact} {st : List Int} {q : Int × Int} (hs : StrataIs p st q) (h : (naiveP st q.1 p l).2 = 0) (hl : ∀ x ∈ l, x ∈ N) (hN : ∀ r ∈ p, ∀ x, Derives r N x → x ∈ N) : ∀ x ∈ (naiveP st q.1 p l).1, x ∈ N := by
  obtain ⟨h1, h2, h3⟩ := naive_zero h
  obtain ⟨hR, hW, L, hL, rfl⟩ := strata_zero hs h1
  obtain ⟨g1, g2, g3⟩ := setF_set (factsBad_set h2)
  rw [h3] at h ⊢
  rw [zip_withL] at h ⊢
  exact run_under (fun r s hm => ⟨hp r (mem_withL.1 hm).1, hN r (mem_withL.1 hm).1⟩) g2 g1 hl h

theorem once_closed {n : Int} {M : List PFact} (hM : Good M) {p : List (PRule × Int)} (hR : ∀ r s, (r, s) ∈ p → ruleBad r = 0 ∧ ∀ x, Derives r M x → x ∈ M) : onceP n M p M = (M, 0) ∨ onceP n M p M = ([], 4) := by
  have hb : ∀ r s, (r, s) ∈ p → bodyBad r.body = 0 := fun r s h => (ruleBad_zero (hR r s h).1).2.2.1
  have hr : ∀ x, ReachF n M p M x → (onceP n M p M).2 ≠ 4 → x ∈ M := fun x hx h4 => by
    rcases hx with h | ⟨r, s, h1, h2, h3⟩
    · exact h
    · by_cases he : (headsP r M).2 = 0
      · exact (hR r s h1).2 x ((mem_heads he x).1 h3)
      · rw [(heads_err he).1] at h3
        simp at h3
  rcases once_cases (n := n) (out := M) (by rw [hM.set]) hb with h | ⟨h, -⟩ | ⟨h, h5⟩
  · left
    have hRd := once_round h hM.rise hM.len
    refine Prod.ext (rising_ext hRd.rise hM.rise fun x => ⟨fun hx => hr x ((hRd.mem x).1 hx) (by rw [h]; decide), fun hx => (hRd.mem x).2 (.inl hx)⟩) h
  · exact .inr h
  · have h6 := h5 M hM.rise fun x hx => hr x hx (by rw [h]; decide)
    have := hM.len
    omega
theorem fix_closed {n : Int} {M : List PFact} (hM : Good M) {p : List (PRule × Int)} (hR : ∀ r s, (r, s) ∈ p → ruleBad r = 0 ∧ ∀ x, Derives r M x → x ∈ M) : ∀ k, fixP p n k M = (M, 0) ∨ fixP p n k M = ([], 4)
  | 0 => .inl rfl
  | k + 1 => by
    rw [fixP]
    rcases once_closed (n := n) hM hR with h | h <;> rw [h]
    · rw [if_neg (by simp), if_pos rfl]; exact .inl rfl
    · exact .inr rfl
theorem run_closed {M : List PFact} (hM : Good M) {p : List (PRule × Int)} (hR : ∀ r s, (r, s) ∈ p → ruleBad r = 0 ∧ ∀ x, Derives r M x → x ∈ M) : ∀ k i, runP p k i M = (M, 0) ∨ runP p k i M = ([], 4)
  | 0, _ => .inl rfl
  | k + 1, i => by
    rw [runP]
    rcases fix_closed (n := i) hM hR 201 with h | h <;> rw [h]
    · rw [if_neg (by simp)]; exact run_closed hM hR k (i + 1)
    · exact .inr rfl
/-- Told what follows, nothing more follows. -/
theorem naive_again {p : List PRule} {l : List PFact} {st : List Int} {q : Int × Int} (hs : StrataIs p st q) (h : (naiveP st q.1 p l).2 = 0) :
    naiveP st q.1 p (naiveP st q.1 p l).1 = ((naiveP st q.1 p l).1, 0) ∨ naiveP st q.1 p (naiveP st q.1 p l).1 = ([], 4) := by
  obtain ⟨hF, -, hR⟩ := naive_follows hs h
  obtain ⟨h1, h2, -⟩ := naive_zero h
  obtain ⟨-, hW, L, hL, e⟩ := strata_zero hs h1
  have hA := (wrongP_iff.1 hW).2.2
  generalize (naiveP st q.1 p l).1 = M at *
  have hfit := hF.fit hA h2
  unfold naiveP
  rw [if_neg (by simpa using h1), if_neg (by simpa using hfit), e, zip_withL]
  exact run_closed ⟨hF.rise, hF.len, hF.good⟩ (fun r s hm => ⟨hR r (mem_withL.1 hm).1, hF.closed r (mem_withL.1 hm).1⟩) _ _
end Go.Proofs.YtoffggiaecclmaaGreat

/-
  PLAIN: proofs, how great they are, and what is wrong with one (chapter 7).
-/
namespace Go.Proofs.YtoffggiaecclmaaGreat

inductive PProof where
  | mk (fact : PFact) (rule : Int) (kids : List PProof)
def PProof.fact : PProof → PFact := fun x => match x with | .mk f _ _ => f
def PProof.rule : PProof → Int := fun x => match x with | .mk _ r _ => r
def PProof.kids : PProof → List PProof := fun x => match x with | .mk _ _ k => k

/-- How many proofs one has in all, how deep they are: of proofs no deeper than n. -/
def cntN : Nat → PProof → Nat
  | 0, _ => 0
  | n + 1, x => 1 + (x.kids.map (cntN n)).sum
def depN : Nat → PProof → Nat
  | 0, _ => 0
  | n + 1, x => (x.kids.map (depN n)).foldl max 0 + 1
/-- The body's atoms that must be so, met by facts one behind the other. -/
def bodyMeet : List PAtom → List PFact → Binds → Binds × List PFact × Int
  | [], ks, b => (b, ks, 0)
  | a :: l, ks, b => if a.neg then bodyMeet l ks b else match ks with
    | [] => (b, [], 5)
    | f :: ks => match meetP a f b with
      | none => (b, ks, 8)
      | some m => bodyMeet l ks m
/-- Must not be so, and is. -/
def badNeg (M : List PFact) (b : Binds) (a : PAtom) : Bool := a.neg && (match fillP a b with
  | none => true
  | some f => memF f M)
def firstErr (f : PProof → Int) : List PProof → Int
  | [] => 0
  | x :: l => if f x ≠ 0 then f x else firstErr f l
def leafBad (told : List PFact) (x : PProof) : Int := if x.rule ≠ -1 ∨ x.kids ≠ [] ∨ memF x.fact told = false then 6 else 0
def ruleOf (r : PRule) (M : List PFact) (x : PProof) : Int := match meetP r.head x.fact [] with
  | none => 8
  | some b => if (bodyMeet r.body (x.kids.map PProof.fact) b).2.2 ≠ 0 then (bodyMeet r.body (x.kids.map PProof.fact) b).2.2
    else if (bodyMeet r.body (x.kids.map PProof.fact) b).2.1 ≠ [] then 5
    else if r.body.any (badNeg M (bodyMeet r.body (x.kids.map PProof.fact) b).1) then 10 else 0
/-- (*checker).one, of proofs no deeper than n. -/
def oneN (p : List PRule) (told M : List PFact) : Nat → PProof → Int
  | 0, _ => 6
  | n + 1, x => if x.rule < 0 then leafBad told x else match p[x.rule.toNat]? with
    | none => 1
    | some r => if ruleOf r M x ≠ 0 then ruleOf r M x else firstErr (oneN p told M n) x.kids
/-- proof.Check, of proofs no deeper than n. -/
def checkN (st : List Int) (q : Int) (p : List PRule) (told : List PFact) (n : Nat) (x : PProof) : Int :=
  if (naiveP st q p told).2 ≠ 0 then (naiveP st q p told).2 else if 400 < cntN n x ∨ 60 < depN n x then 4 else oneN p told (naiveP st q p told).1 n x

theorem firstErr_zero {f : PProof → Int} : ∀ {l : List PProof}, firstErr f l = 0 → ∀ x ∈ l, f x = 0
  | [], _, x, hx => by simp at hx
  | y :: l, h, x, hx => by
    rw [firstErr] at h
    by_cases hy : f y = 0
    · rw [if_neg (by simpa using hy)] at h
      rcases List.mem_cons.1 hx with rfl | hx
      · exact hy
      · exact firstErr_zero h x hx
    · rw [if_pos hy] at h; exact absurd h hy
theorem fillArgs_congr {l m : Binds} : ∀ {ts : List PTerm}, (∀ t ∈ ts, t.var = true → getB t.name l = getB t.name m) → fillArgs l ts = fillArgs m ts
  | [], _ => rfl
  | t :: ts, h => by
    have h1 : valT l t = valT m t := by
      unfold valT
      by_cases ht : t.var = true
      · rw [if_pos ht, if_pos ht, h t (by simp) ht]
      · rw [if_neg ht, if_neg ht]
    rw [fillArgs, fillArgs, h1, fillArgs_congr (ts := ts) fun t ht => h t (by simp [ht])]
theorem fillP_congr {l m : Binds} {a : PAtom} (h : ∀ v ∈ varsOf a, getB v l = getB v m) : fillP a l = fillP a m := by
  unfold fillP
  rw [fillArgs_congr fun t ht hv => h t.name ((mem_varsOf t.name a).2 ⟨t, ht, hv, rfl⟩)]
theorem fillP_vars {l : Binds} {a : PAtom} {f : PFact} (h : fillP a l = some f) : ∀ v ∈ varsOf a, v ∈ Vs l := fun v hv => by
  obtain ⟨t, ht, hvar, rfl⟩ := (mem_varsOf v a).1 hv
  exact fillArgs_vars (fillP_name h).2 t ht hvar
theorem nd_filter {l : Binds} (h : Nd l) (q : PBind → Bool) : Nd (l.filter q) := by unfold Nd Vs at *; exact (List.Sublist.map _ List.filter_sublist).nodup h
theorem getB_filter {l : Binds} (h : Nd l) {q : Str → Bool} {v : Str} (hv : q v = true) : getB v (l.filter fun z => q z.var) = getB v l := by
  cases hg : getB v l with
  | none =>
    rw [getB_none] at hg ⊢
    intro hm
    obtain ⟨z, hz, rfl⟩ := List.mem_map.1 hm
    exact hg (List.mem_map.2 ⟨z, (List.mem_filter.1 hz).1, rfl⟩)
  | some n => exact getB_of_mem (nd_filter h _) (List.mem_filter.2 ⟨getB_mem hg, hv⟩)
/-- A rule makes what its head is with any binds with which its body is so. -/
theorem derives_of {r : PRule} {O : List PFact} {x : PFact} {b : Binds} (hR : ruleBad r = 0) (hd : Nd b) (hp : ∀ a ∈ r.body, ∃ f, fillP a b = some f ∧ memF f O = !a.neg) (hh : fillP r.head b = some x) : Derives r O x := by
  let q : Str → Bool := fun v => r.body.any fun a => decide (v ∈ varsOf a)
  have hq : ∀ v, q v = true ↔ ∃ a ∈ r.body, v ∈ varsOf a := fun v => by simp [q]
  have hb : ∀ a ∈ r.body, fillP a (ofC cmpBind (b.filter fun z => q z.var)) = fillP a b := fun a ha => fillP_congr fun v hv => by
    rw [getB_ofC (nd_filter hd _), getB_filter hd ((hq v).2 ⟨a, ha, hv⟩)]
  refine ⟨ofC cmpBind (b.filter fun z => q z.var), ⟨ofC_rising cmpBind3 _, nd_ofC (nd_filter hd _), fun v => ?_, fun j a ha => ?_⟩, ?_⟩
  · rw [vs_ofC]
    constructor
    · intro hm
      obtain ⟨z, hz, rfl⟩ := List.mem_map.1 hm
      exact (hq _).1 (List.mem_filter.1 hz).2
    · rintro ⟨a, ha, hv⟩
      obtain ⟨f, hf, -⟩ := hp a ha
      obtain ⟨z, hz, rfl⟩ := List.mem_map.1 (fillP_vars hf v hv)
      exact List.mem_map.2 ⟨z, List.mem_filter.2 ⟨hz, (hq _).2 ⟨a, ha, hv⟩⟩, rfl⟩
  · obtain ⟨f, h1, h2⟩ := hp a (List.mem_of_getElem? ha)
    exact ⟨f, by rw [hb a (List.mem_of_getElem? ha)]; exact h1, h2⟩
  · rw [← hh]
    exact fillP_congr fun v hv => by
      obtain ⟨a, ha, hva⟩ := (ruleBad_zero hR).2.2.2 v hv
      rw [getB_ofC (nd_filter hd _), getB_filter hd ((hq v).2 ⟨a, ha, hva⟩)]
theorem meetP_spec {a : PAtom} {f : PFact} {l m : Binds} (hd : Nd l) (h : meetP a f l = some m) : SubB l m ∧ Nd m ∧ fillP a m = some f := by
  unfold meetP at h
  split at h
  · rename_i hc
    obtain ⟨h1, h2, h3, -⟩ := meetL_spec a.terms f.args l m hc.2 hd h
    refine ⟨h2, h1, ?_⟩
    unfold fillP
    rw [h3, hc.1]
    rfl
  · cases h
theorem bodyMeet_cons (a : PAtom) (l : List PAtom) (ks : List PFact) (b : Binds) : bodyMeet (a :: l) ks b = if a.neg then bodyMeet l ks b else match ks with
    | [] => (b, [], 5)
    | f :: ks => match meetP a f b with
      | none => (b, ks, 8)
      | some m => bodyMeet l ks m := by cases ks <;> rfl
theorem bodyMeet_spec : ∀ (body : List PAtom) (ks : List PFact) (b : Binds), Nd b → (bodyMeet body ks b).2.2 = 0 → (bodyMeet body ks b).2.1 = [] →
    SubB b (bodyMeet body ks b).1 ∧ Nd (bodyMeet body ks b).1 ∧ ∀ a ∈ body, a.neg = false → ∃ f ∈ ks, fillP a (bodyMeet body ks b).1 = some f
  | [], ks, b, hd, _, _ => ⟨fun v n h => h, hd, fun a ha => by simp at ha⟩
  | a :: l, ks, b, hd, h0, h1 => by
    rw [bodyMeet_cons] at h0 h1 ⊢
    by_cases hn : a.neg = true
    · rw [if_pos hn] at h0 h1 ⊢
      obtain ⟨i1, i2, i3⟩ := bodyMeet_spec l ks b hd h0 h1
      refine ⟨i1, i2, fun y hy hny => ?_⟩
      rcases List.mem_cons.1 hy with rfl | hy
      · rw [hn] at hny; cases hny
      · exact i3 y hy hny
    · rw [if_neg hn] at h0 h1 ⊢
      cases ks with
      | nil => exact absurd h0 (show (5 : Int) ≠ 0 by decide)
      | cons f ks =>
        dsimp only at h0 h1 ⊢
        cases hm : meetP a f b with
        | none => rw [hm] at h0; exact absurd h0 (show (8 : Int) ≠ 0 by decide)
        | some m =>
          rw [hm] at h0 h1
          dsimp only at h0 h1 ⊢
          obtain ⟨j1, j2, j3⟩ := meetP_spec hd hm
          obtain ⟨i1, i2, i3⟩ := bodyMeet_spec l ks m j2 h0 h1
          refine ⟨j1.trans i1, i2, fun y hy hny => ?_⟩
          rcases List.mem_cons.1 hy with rfl | hy
          · exact ⟨f, by simp, i1.fillP j3⟩
          · obtain ⟨g, hg, hf⟩ := i3 y hy hny
            exact ⟨g, by simp [hg], hf⟩
theorem one_sound {p : List PRule} {told M : List PFact} (hF : Follows p told M) (hR : ∀ r ∈ p, ruleBad r = 0) : ∀ (n : Nat) (x : PProof), oneN p told M n x = 0 → x.fact ∈ M
  | 0, x, h => absurd h (show (6 : Int) ≠ 0 by decide)
  | n + 1, x, h => by
    rw [oneN] at h
    by_cases hr : x.rule < 0
    · rw [if_pos hr] at h
      unfold leafBad at h
      split at h
      · exact absurd h (by decide)
      · rename_i hc
        refine hF.sub _ ((memF_iff x.fact told).1 ?_)
        cases hm : memF x.fact told
        · exact absurd (.inr (.inr hm)) hc
        · rfl
    · rw [if_neg hr] at h
      cases hp : p[x.rule.toNat]? with
      | none => rw [hp] at h; exact absurd h (show (1 : Int) ≠ 0 by decide)
      | some r =>
        rw [hp] at h
        dsimp only at h
        have hrp : r ∈ p := List.mem_of_getElem? hp
        by_cases h1 : ruleOf r M x = 0
        case neg => rw [if_pos h1] at h; exact absurd h h1
        rw [if_neg (by simpa using h1)] at h
        have hk := firstErr_zero h
        unfold ruleOf at h1
        cases hm : meetP r.head x.fact [] with
        | none => rw [hm] at h1; exact absurd h1 (show (8 : Int) ≠ 0 by decide)
        | some b =>
          rw [hm] at h1
          dsimp only at h1
          split at h1
          · rename_i hc; exact absurd h1 hc
          · rename_i hc0
            split at h1
            · exact absurd h1 (by decide)
            · rename_i hc1
              split at h1
              · exact absurd h1 (by decide)
              · rename_i hc2
                obtain ⟨j1, j2, j3⟩ := meetP_spec (by simp [Nd, Vs]) hm
                obtain ⟨i1, i2, i3⟩ := bodyMeet_spec r.body _ b j2 (Classical.not_not.1 hc0) (Classical.not_not.1 hc1)
                refine hF.closed r hrp x.fact (derives_of (hR r hrp) i2 (fun a ha => ?_) (i1.fillP j3))
                by_cases hn : a.neg = true
                · rw [Bool.not_eq_true, List.any_eq_false] at hc2
                  have h2 := hc2 a ha
                  unfold badNeg at h2
                  rw [hn, Bool.true_and] at h2
                  cases hf : fillP a (bodyMeet r.body (x.kids.map PProof.fact) b).1 with
                  | none => rw [hf] at h2; exact absurd rfl h2
                  | some f =>
                    rw [hf] at h2
                    refine ⟨f, rfl, ?_⟩
                    rw [hn]
                    simpa using h2
                · have hn' : a.neg = false := by simpa using hn
                  obtain ⟨f, hf, he⟩ := i3 a ha hn'
                  obtain ⟨k, hk1, rfl⟩ := List.mem_map.1 hf
                  refine ⟨_, he, ?_⟩
                  rw [hn', (memF_iff _ _).2 (one_sound hF hR n k (hk k hk1))]
                  rfl
end Go.Proofs.YtoffggiaecclmaaGreat

/-
  A ROW THAT IS LAID WHOLE; rows of nothing; how long sets are.
-/
namespace Go.Proofs.YtoffggiaecclmaaGreat
open Go.RowKit

theorem Owned.lit {α : Type} {k : Nat} {R : Reader α} {B : Nat} {e : TypeId} {S : Nat → Prop} {w : World} {l : List α} (css : List (List Value)) (cs : Array Value) (hl : css.length = l.length) (hk : ∀ c ∈ css, c.length = k) (hc : cs.toList = css.flatten) (hs : cs.size = l.length * k)
    (hb : B ≤ w.heap.size) (hm : l.length ≤ maxLen) (hr : ∀ (i : Nat) (c : List Value) (x : α), css[i]? = some c → l[i]? = some x → R (fun b => S b ∧ some b ≠ some w.heap.size) (w.alloc (.cells cs e)) c x) :
    Owned k R B e S (w.alloc (.cells cs e)) (.slice (some ⟨w.heap.size, 0, none⟩) l.length l.length) l :=
  ⟨css, hl, hk, by have := World.ownsRow_lit (base := B) (size := k) (e := e) w cs l.length hb hm hs; rwa [hc] at this, hr⟩
theorem RAtom.one {S : Nat → Prop} {w : World} {cs : List Value} {x : PAtom} (h : RAtom S w cs x) : ∀ u ∈ cs, u.oneCell' = true := by
  obtain ⟨tv, rfl, hr⟩ := h
  obtain ⟨a, c, rfl, -⟩ := hr.form
  simp [Value.oneCell']
theorem RdStrs.nil {S : Nat → Prop} {w : World} : RdStrs S w (.slice none 0 0) [] := ⟨none, 0, rfl, Nat.le_refl _, Nat.zero_le _, fun _ => rfl, fun i x h => by simp at h⟩
theorem RdFacts.nil {S : Nat → Prop} {w : World} : RdFacts S w (.slice none 0 0) [] := ⟨none, 0, rfl, Nat.le_refl _, Nat.zero_le _, fun _ => rfl, fun i x h => by simp at h⟩
theorem new_at {w : World} {cs : Array Value} {t : TypeId} {n : Nat} (h : w.heap.size = n) (j : Nat) : (w.alloc (.cells cs t)).cell? ⟨n, j, none⟩ = cs[j]? := by
  subst h
  simp only [World.cell?, heap_alloc_new, Option.isSome_none, Bool.false_eq_true, if_false]
theorem addF_length (f : PFact) (l : List PFact) : (addF f l).length ≤ l.length + 1 := by
  induction l with
  | nil => simp [addF]
  | cons g l ih =>
    unfold addF
    split
    · simp
    · split
      · simp
      · simp only [List.length_cons]; omega
theorem ofF_length (l : List PFact) : (ofF l).length ≤ l.length := by
  induction l with
  | nil => simp [ofF]
  | cons f l ih =>
    have := addF_length f (ofF l)
    show (addF f (ofF l)).length ≤ _
    simp only [List.length_cons]; omega
end Go.Proofs.YtoffggiaecclmaaGreat

/-
  PLAIN: how rules are read out of a text (chapter 2): a reading takes what is left of the text; it gives what was read and what is left, or what is wrong and what was left there.
-/
namespace Go.Proofs.YtoffggiaecclmaaGreat

abbrev Bytes := List UInt8
def strOf (l : Bytes) : Str := ⟨l.toArray⟩
/-- What a reading comes to. -/
abbrev Got (α : Type) := Except (Int × Bytes) (α × Bytes)

def blankF : Bool → Bytes → Bytes
  | _, [] => []
  | note, c :: r => if c = 10 then blankF false r else if c = 37 then blankF true r else if c ≠ 32 ∧ note = false then c :: r else blankF note r
def eatsF (sign : Bytes) (r : Bytes) : Bool := sign.isPrefixOf (blankF false r)
def eatF (sign : Bytes) (r : Bytes) : Bytes := if eatsF sign r then (blankF false r).drop sign.length else blankF false r
def mustF (sign : Bytes) (r : Bytes) : Got Unit := if eatsF sign r then .ok ((), eatF sign r) else .error (2, eatF sign r)
def wordOf (r : Bytes) : Bytes := (blankF false r).takeWhile signB
def wordF (r : Bytes) : Got Str :=
  if wordOf r = [] then .error (2, blankF false r) else if nameL (wordOf r) = false ∧ varL (wordOf r) = false then .error (7, blankF false r) else .ok (strOf (wordOf r), (blankF false r).drop (wordOf r).length)
def termsF : Nat → List PTerm → Bytes → Got (List PTerm)
  | 0, _, r => .error (5, r)
  | n + 1, acc, r => match wordF r with
    | .error e => .error e
    | .ok (w, r1) => if eatsF [44] r1 then termsF n (acc ++ [⟨variableS w, w⟩]) (eatF [44] r1) else match mustF [41] (eatF [44] r1) with
      | .error e => .error e
      | .ok (_, r3) => .ok (acc ++ [⟨variableS w, w⟩], r3)
def negOf (no : Bool) (r : Bytes) : Bool := no && eatsF [33] r
def behindNot (no : Bool) (r : Bytes) : Bytes := blankF false (if no then eatF [33] r else r)
def atomF (no : Bool) (r : Bytes) : Got PAtom :=
  match wordF (behindNot no r) with
  | .error e => .error e
  | .ok (w, r2) => if variableS w then .error (7, behindNot no r) else if eatsF [40] r2 then match termsF 4 [] (eatF [40] r2) with
      | .error e => .error e
      | .ok (ts, r4) => .ok (⟨negOf no r, w, ts⟩, r4)
    else .ok (⟨negOf no r, w, []⟩, eatF [40] r2)
def bodyF : Nat → List PAtom → Bytes → Got (List PAtom)
  | 0, _, r => .error (5, r)
  | n + 1, acc, r => match atomF true r with
    | .error e => .error e
    | .ok (a, r1) => if eatsF [44] r1 then bodyF n (acc ++ [a]) (eatF [44] r1) else .ok (acc ++ [a], eatF [44] r1)
def headF (r : Bytes) : Got PAtom := atomF false r
def tailF (r1 : Bytes) : Got (List PAtom) := if eatsF [58, 45] r1 then bodyF 5 [] (eatF [58, 45] r1) else .ok ([], eatF [58, 45] r1)
def ruleF (r : Bytes) : Got PRule := match headF r with
  | .error e => .error e
  | .ok (h, r1) => match tailF r1 with
    | .error e => .error e
    | .ok (b, r3) => match mustF [46] r3 with
      | .error e => .error e
      | .ok (_, r4) => .ok (⟨h, b⟩, r4)
def progF : Nat → List PRule → Bytes → Got (List PRule)
  | 0, acc, r => if blankF false r = [] then .ok (acc, []) else .error (5, blankF false r)
  | n + 1, acc, r => if blankF false r = [] then .ok (acc, []) else match ruleF (blankF false r) with
    | .error e => .error e
    | .ok (x, r1) => progF n (acc ++ [x]) r1
/-- syntax.Parse: the rules; what is wrong (0: nothing), and where. -/
def parseF (s : Str) : List PRule × Int × Int :=
  if 3000 < s.size then ([], 4, 0) else match progF 16 [] s.data.toList with
    | .ok (l, _) => (l, 0, 0)
    | .error (e, r) => ([], e, (s.size : Int) - r.length)
def bodyAllF (r : Bytes) : Got (List PAtom) := match bodyF 5 [] r with
  | .error e => .error e
  | .ok (l, r1) => if blankF false r1 = [] then .ok (l, []) else .error (2, blankF false r1)
/-- syntax.Body. -/
def parseBodyF (s : Str) : List PAtom × Int × Int :=
  if 3000 < s.size then ([], 4, 0) else match bodyAllF s.data.toList with
    | .ok (l, _) => (l, 0, 0)
    | .error (e, r) => ([], e, (s.size : Int) - r.length)

/-! ### What is left is an end of what there was. -/
theorem blankF_suffix : ∀ (note : Bool) (r : Bytes), blankF note r <:+ r
  | _, [] => List.suffix_refl _
  | note, c :: r => by
    unfold blankF
    split
    · exact (blankF_suffix false r).trans (List.suffix_cons _ _)
    · split
      · exact (blankF_suffix true r).trans (List.suffix_cons _ _)
      · split
        · exact List.suffix_refl _
        · exact (blankF_suffix note r).trans (List.suffix_cons _ _)
theorem eatF_suffix (sign r : Bytes) : eatF sign r <:+ r := by
  unfold eatF
  split
  · exact (List.drop_suffix _ _).trans (blankF_suffix _ _)
  · exact blankF_suffix _ _
theorem behindNot_suffix (no : Bool) (r : Bytes) : behindNot no r <:+ r := by
  unfold behindNot
  refine (blankF_suffix _ _).trans ?_
  split
  · exact eatF_suffix _ _
  · exact List.suffix_refl _
theorem blankF_idem : ∀ (note : Bool) (r : Bytes), blankF false (blankF note r) = blankF note r
  | _, [] => rfl
  | note, c :: r => by
    rw [blankF]
    split
    · exact blankF_idem false r
    · split
      · exact blankF_idem true r
      · split
        · rename_i h1 h2 h3
          rw [blankF, if_neg h1, if_neg h2, if_pos ⟨h3.1, rfl⟩]
        · exact blankF_idem note r
/-- What is left where something is read, or is wrong. -/
def Got.left {α : Type} : Got α → Bytes
  | .ok (_, r) => r
  | .error (_, r) => r
theorem wordF_suffix (r : Bytes) : (wordF r).left <:+ r := by
  unfold wordF
  split
  · exact blankF_suffix _ _
  · split
    · exact blankF_suffix _ _
    · exact (List.drop_suffix _ _).trans (blankF_suffix _ _)
theorem mustF_suffix (sign r : Bytes) : (mustF sign r).left <:+ r := by
  unfold mustF
  split <;> exact eatF_suffix _ _
theorem termsF_suffix : ∀ (n : Nat) (acc : List PTerm) (r : Bytes), (termsF n acc r).left <:+ r
  | 0, _, _ => List.suffix_refl _
  | n + 1, acc, r => by
    have hw := wordF_suffix r
    unfold termsF
    split
    · rename_i e h; rw [h] at hw; exact hw
    · rename_i w r1 h
      rw [h] at hw
      have hw' : r1 <:+ r := hw
      split
      · exact (termsF_suffix n _ _).trans ((eatF_suffix _ _).trans hw')
      · have hm := mustF_suffix [41] (eatF [44] r1)
        split
        · rename_i e h2; rw [h2] at hm; exact List.IsSuffix.trans hm ((eatF_suffix _ _).trans hw')
        · rename_i r3 h2; rw [h2] at hm; exact List.IsSuffix.trans (l₂ := eatF [44] r1) hm ((eatF_suffix _ _).trans hw')
theorem atomF_suffix (no : Bool) (r : Bytes) : (atomF no r).left <:+ r := by
  have hb := behindNot_suffix no r
  have hw := wordF_suffix (behindNot no r)
  unfold atomF
  split
  · rename_i e h; rw [h] at hw; exact List.IsSuffix.trans hw hb
  · rename_i w r2 h
    rw [h] at hw
    have hw' : r2 <:+ behindNot no r := hw
    split
    · exact hb
    · split
      · have ht := termsF_suffix 4 [] (eatF [40] r2)
        split
        · rename_i e h2; rw [h2] at ht; exact List.IsSuffix.trans ht ((eatF_suffix _ _).trans (hw'.trans hb))
        · rename_i ts r4 h2; rw [h2] at ht; exact List.IsSuffix.trans (l₂ := eatF [40] r2) ht ((eatF_suffix _ _).trans (hw'.trans hb))
      · exact (eatF_suffix _ _).trans (hw'.trans hb)
theorem bodyF_suffix : ∀ (n : Nat) (acc : List PAtom) (r : Bytes), (bodyF n acc r).left <:+ r
  | 0, _, _ => List.suffix_refl _
  | n + 1, acc, r => by
    have hw := atomF_suffix true r
    unfold bodyF
    split
    · rename_i e h; rw [h] at hw; exact hw
    · rename_i a r1 h
      rw [h] at hw
      have hw' : r1 <:+ r := hw
      split
      · exact (bodyF_suffix n _ _).trans ((eatF_suffix _ _).trans hw')
      · exact (eatF_suffix _ _).trans hw'
theorem tailF_suffix (r : Bytes) : (tailF r).left <:+ r := by
  unfold tailF
  split
  · exact (bodyF_suffix _ _ _).trans (eatF_suffix _ _)
  · exact eatF_suffix _ _
theorem ruleF_suffix (r : Bytes) : (ruleF r).left <:+ r := by
  have hh := atomF_suffix false r
  unfold ruleF headF
  split
  · rename_i e h; rw [h] at hh; exact hh
  · rename_i a r1 h
    rw [h] at hh
    have hh' : r1 <:+ r := hh
    have ht := tailF_suffix r1
    split
    · rename_i e h2; rw [h2] at ht; exact List.IsSuffix.trans ht hh'
    · rename_i b r3 h2
      rw [h2] at ht
      have ht' : r3 <:+ r1 := ht
      have hm := mustF_suffix [46] r3
      split
      · rename_i e h3; rw [h3] at hm; exact List.IsSuffix.trans hm (ht'.trans hh')
      · rename_i r4 h3; rw [h3] at hm; exact List.IsSuffix.trans (l₂ := r3) hm (ht'.trans hh')
end Go.Proofs.YtoffggiaecclmaaGreat
