/-
  THE TEXTS RulesIn, NaiveM, NaiveK, RoundP, RoundW1, EnvM, EnvT, EnvF, one behind the other.
-/
import Derived.Test.YtbbiapgkcekabaaGreatPr4
import Derived.Test.YtbbiapgkcekabaaGreatPr8
import Derived.Test.YtbbiapgkcekabaaGreatPr10
import Derived.Test.YtbbiapgkcekabaaGreatChecked
import Derived.Maps.RangeWalk
import Derived.Maps.StringElems
/-
  PLAIN: rules of little bulk are small.
-/
namespace Go.Proofs.YtbbiapgkcekabaaGreat

theorem atom_small {a : PAtom} : a.name.size ≤ sizeAtom a ∧ a.terms.length ≤ sizeAtom a ∧ ∀ t ∈ a.terms, t.name.size ≤ sizeAtom a := by
  have h2 := sizeL_le (size := sizeTerm) openTerm.one a.terms
  refine ⟨by simp only [sizeAtom, sizeStr]; omega, by simp only [sizeAtom]; omega, fun t ht => ?_⟩
  have h1 := sizeL_mem (size := sizeTerm) ht
  have h3 : t.name.size ≤ sizeTerm t := by simp only [sizeTerm, sizeStr]; omega
  simp only [sizeAtom]; omega
theorem rules_small {p : List PRule} (h : sizeL sizeRule p ≤ 1048576) : p.length ≤ 1048576 ∧ (∀ r ∈ p, RuleSmall r) ∧ ∀ r ∈ p, NameSmall r := by
  have l := sizeL_le (size := sizeRule) openRule.one p
  have hr : ∀ r ∈ p, sizeAtom r.head ≤ 1048576 ∧ sizeL sizeAtom r.body ≤ 1048576 := fun r hr => by
    have h1 := sizeL_mem (size := sizeRule) hr
    simp only [sizeRule] at h1
    constructor <;> omega
  have hb : ∀ r ∈ p, ∀ a ∈ r.body, sizeAtom a ≤ 1048576 := fun r h1 a ha => by
    have h2 := sizeL_mem (size := sizeAtom) ha
    have h3 := (hr r h1).2
    omega
  refine ⟨by omega, fun r h1 => ?_, fun r h1 => ?_⟩
  · have h2 := (hr r h1).1
    have h3 := sizeL_le (size := sizeAtom) openAtom.one r.body
    have h4 := (hr r h1).2
    obtain ⟨g1, g2, g3⟩ := atom_small (a := r.head)
    refine ⟨by omega, fun t ht => by have := g3 t ht; omega, by omega, fun a ha => ?_, fun a ha t ht => ?_⟩
    · have := hb r h1 a ha
      have := (atom_small (a := a)).2.1
      omega
    · have := hb r h1 a ha
      have := (atom_small (a := a)).2.2 t ht
      omega
  · have h2 := (hr r h1).1
    have := (atom_small (a := r.head)).1
    refine ⟨by omega, fun a ha => ?_⟩
    have := hb r h1 a ha
    have := (atom_small (a := a)).1
    omega
end Go.Proofs.YtbbiapgkcekabaaGreat

/-
  PLAIN: of a program that asks for nothing not to be so: what follows is the least that is closed; told what follows, nothing more follows.
-/
namespace Go.Proofs.YtbbiapgkcekabaaGreat

theorem Derives.up {r : PRule} {O M : List PFact} {x : PFact} (hn : ∀ a ∈ r.body, a.neg = false) (h : Derives r O x) (hp : ∀ f ∈ O, f ∈ M) : Derives r M x :=
  h.grow hp fun a ha e => absurd (hn a ha) (by rw [e]; decide)

end Go.Proofs.YtbbiapgkcekabaaGreat

/-
  WHAT THE LAWS OF CHAPTER 5 CALL, its answers being known.
-/
namespace Go.Proofs.YtbbiapgkcekabaaGreat
open Go.RowKit Go.ChangeShapes Go.WideShapes Go.Deep

/-- fact.Less, read. -/
theorem lessReads {S T : Nat → Prop} {va vb : Value} {l m : List PFact} {w : World} (h : RdFacts S w va l) (hm : RdFacts T w vb m) (hs : Rising m) (n1 : l.length ≤ 1048576) (n2 : ∀ x ∈ l, x.args.length ≤ 1048576) (n3 : m.length ≤ 1048576) (n4 : ∀ x ∈ m, x.args.length ≤ 1048576) :
    Calls Tryz.prog 44 #[va, vb] w fun e w' => (∃ a c, e = .returned (.slice a (lessF l m).length c) ∧ RdFacts (fun _ => True) w' (.slice a (lessF l m).length c) (lessF l m)) ∧ Below w.heap.size w w' :=
  (lessCalls va vb l m w h hm hs (by omega) (fun x hx => by have := n2 x hx; omega) (by omega) (fun x hx => by have := n4 x hx; omega)).mono fun e w' ⟨⟨v', he, ho⟩, hb⟩ => by
    have h' := (ho.read RFact.steady).more RFact.steady (S' := fun _ => True) (fun _ _ _ => trivial)
    obtain ⟨a, c, rfl, -, -, -⟩ := id h'.form
    exact ⟨⟨a, c, he, h'⟩, hb⟩
/-- A rule of a program, where it lies. -/
theorem RdRules.pick {S : Nat → Prop} {w : World} {a : Option Addr} {n cap : Nat} {l : List PRule} (h : RdRules S w (.slice a n cap) l) {i : Nat} {x : PRule} (hx : l[i]? = some x) :
    ∃ b o ta tc ba bc, a = some ⟨b, o, none⟩ ∧ RuleAt S w b (o + i * 4) x (.slice ta x.head.terms.length tc) (.slice ba x.body.length bc) := by
  obtain ⟨b1, o1, tv, bv, rfl, -, hb1, d0, d1, d2, d3, htv, hbv⟩ := RdRules.at h hx
  obtain ⟨ta, tc, rfl, -, -, -⟩ := id htv.form
  obtain ⟨ba, bc, rfl, -, -, -⟩ := id hbv.form
  exact ⟨b1, o1, ta, tc, ba, bc, rfl, hb1, d0, d1, d2, d3, htv, hbv⟩
end Go.Proofs.YtbbiapgkcekabaaGreat

/-
  PLAIN: what is new of what was new, round by round (chapter 6).
-/
namespace Go.Proofs.YtbbiapgkcekabaaGreat

structure PRun where
  known : List PFact
  new : List PFact
  stratum : Int
  rounds : Int
  done : Bool
  deriving DecidableEq
def zeroRun : PRun := ⟨[], [], 0, 0, false⟩
/-- Stratum, Rounds, Done that can't be, of n strata. -/
def rangeBad (r : PRun) (n : Int) : Bool := decide (r.rounds < 0) || decide (1000 < r.rounds) || decide (r.stratum < 0) || decide (n < r.stratum) || (r.done != (r.stratum == n))
/-- round.Wrong, the strata being told. -/
def runBad (st : List Int) (q : Int) (p : List PRule) (r : PRun) : Int :=
  if q ≠ 0 then q else if (factsBad p r.known).1 ≠ 0 then (factsBad p r.known).1 else if (setF r.new).1 ≠ 0 then (setF r.new).1 else if rangeBad r (countP st) then 3 else if lessF r.new r.known ≠ [] then 8 else 0
/-- round.Begin. -/
def beginP (st : List Int) (q : Int) (p : List PRule) (l : List PFact) : PRun × Int :=
  if q ≠ 0 then (zeroRun, q) else if (factsBad p l).1 ≠ 0 then (zeroRun, (factsBad p l).1) else (⟨l, l, 0, 0, countP st == 0⟩, 0)
/-- What a rule's head is with each list. -/
def fillAll (h : PAtom) (ls : List Binds) : List PFact := ls.filterMap fun b => fillP h b
/-- round.heads. -/
def newP (x : PRule) (known new : List PFact) : Nat → List PAtom → List PFact → Bool → List PFact × Int
  | _, [], out, sm => if sm then (out, 0) else headsP x known
  | i, a :: b, out, sm => if a.neg then newP x known new (i + 1) b out sm
    else if (withP x.body known i new).2 ≠ 0 then ([], (withP x.body known i new).2) else newP x known new (i + 1) b (out ++ fillAll x.head (withP x.body known i new).1) true
def newHeads (x : PRule) (known new : List PFact) : List PFact × Int := newP x known new 0 x.body [] false
/-- What all rules of a stratum make. -/
def makeP (s : Int) (known new : List PFact) : List (PRule × Int) → List PFact → List PFact × Int
  | [], made => (made, 0)
  | (r, t) :: ps, made => if t ≠ s then makeP s known new ps made else if (newHeads r known new).2 ≠ 0 then ([], (newHeads r known new).2) else makeP s known new ps (made ++ (newHeads r known new).1)
/-- The run then. -/
def nextRun (n : Int) (r : PRun) (made : List PFact) : PRun :=
  if lessF (ofF made) r.known = [] then ⟨joinF r.known (lessF (ofF made) r.known), joinF r.known (lessF (ofF made) r.known), r.stratum + 1, r.rounds + 1, r.stratum + 1 == n⟩
  else ⟨joinF r.known (lessF (ofF made) r.known), lessF (ofF made) r.known, r.stratum, r.rounds + 1, false⟩
/-- A step of a run with which nothing is wrong. -/
def goodStep (st : List Int) (p : List PRule) (r : PRun) : PRun × Int :=
  if r.done then (r, 0) else if r.rounds = 1000 then (zeroRun, 5)
  else if (makeP r.stratum r.known r.new (p.zip st) []).2 ≠ 0 then (zeroRun, (makeP r.stratum r.known r.new (p.zip st) []).2)
  else if 200 < (joinF r.known (lessF (ofF (makeP r.stratum r.known r.new (p.zip st) []).1) r.known)).length then (zeroRun, 5)
  else (nextRun (countP st) r (makeP r.stratum r.known r.new (p.zip st) []).1, 0)
/-- round.Step. -/
def stepRun (st : List Int) (q : Int) (p : List PRule) (r : PRun) : PRun × Int := if runBad st q p r ≠ 0 then (zeroRun, runBad st q p r) else goodStep st p r
def iterP (st : List Int) (q : Int) (p : List PRule) : Nat → PRun → PRun × Int
  | 0, r => (r, 0)
  | k + 1, r => if r.done then (r, 0) else if (stepRun st q p r).2 ≠ 0 then (zeroRun, (stepRun st q p r).2) else iterP st q p k (stepRun st q p r).1
/-- round.Steps. -/
def stepsRun (st : List Int) (q : Int) (p : List PRule) (r : PRun) (n : Int) : PRun × Int :=
  if runBad st q p r ≠ 0 then (zeroRun, runBad st q p r) else if n < 0 ∨ 1000 < n then (zeroRun, 3) else iterP st q p n.toNat r
theorem run_bad1 {st : List Int} {q : Int} {p : List PRule} {r : PRun} (h : q ≠ 0) : runBad st q p r = q := by unfold runBad; rw [if_pos h]
theorem run_bad2 {st : List Int} {p : List PRule} {r : PRun} (h : (factsBad p r.known).1 ≠ 0) : runBad st 0 p r = (factsBad p r.known).1 := by unfold runBad; rw [if_neg (by simp), if_pos h]
theorem run_bad3 {st : List Int} {p : List PRule} {r : PRun} (h : (factsBad p r.known).1 = 0) (h2 : (setF r.new).1 ≠ 0) : runBad st 0 p r = (setF r.new).1 := by unfold runBad; rw [if_neg (by simp), if_neg (by simpa using h), if_pos h2]
theorem run_bad4 {st : List Int} {p : List PRule} {r : PRun} (h : (factsBad p r.known).1 = 0) (h2 : (setF r.new).1 = 0) : runBad st 0 p r = if rangeBad r (countP st) then 3 else if lessF r.new r.known ≠ [] then 8 else 0 := by
  unfold runBad; rw [if_neg (by simp), if_neg (by simpa using h), if_neg (by simpa using h2)]
/-- What is not wrong. -/
structure RunOk (st : List Int) (p : List PRule) (r : PRun) : Prop where
  known : Good r.known
  fit : (factsBad p r.known).1 = 0
  new : Good r.new
  r0 : 0 ≤ r.rounds
  r1 : r.rounds ≤ 1000
  s0 : 0 ≤ r.stratum
  s1 : r.stratum ≤ countP st
  done : r.done = (r.stratum == countP st)
  sub : ∀ x ∈ r.new, x ∈ r.known
theorem rangeBad_iff {r : PRun} {n : Int} : rangeBad r n = false ↔ 0 ≤ r.rounds ∧ r.rounds ≤ 1000 ∧ 0 ≤ r.stratum ∧ r.stratum ≤ n ∧ r.done = (r.stratum == n) := by
  unfold rangeBad
  simp only [Bool.or_eq_false_iff, decide_eq_false_iff_not, bne_eq_false_iff_eq]
  constructor
  · rintro ⟨⟨⟨⟨h1, h2⟩, h3⟩, h4⟩, h5⟩; exact ⟨by omega, by omega, by omega, by omega, h5⟩
  · rintro ⟨h1, h2, h3, h4, h5⟩; exact ⟨⟨⟨⟨by omega, by omega⟩, by omega⟩, by omega⟩, h5⟩
theorem lessF_nil_iff {l m : List PFact} : lessF l m = [] ↔ ∀ x ∈ l, x ∈ m := by
  unfold lessF
  rw [List.filter_eq_nil_iff]
  constructor
  · intro h x hx
    have := h x hx
    simp only [Bool.not_eq_true', Bool.not_eq_false] at this
    exact (memF_iff x m).1 this
  · intro h x hx
    rw [(memF_iff x m).2 (h x hx)]; decide
theorem runBad_zero {st : List Int} {q : Int} {p : List PRule} {r : PRun} : runBad st q p r = 0 ↔ q = 0 ∧ RunOk st p r := by
  by_cases hq : q = 0
  case neg => rw [run_bad1 hq]; exact ⟨fun h => absurd h hq, fun h => absurd h.1 hq⟩
  subst hq
  by_cases hf : (factsBad p r.known).1 = 0
  case neg => rw [run_bad2 hf]; exact ⟨fun h => absurd h hf, fun h => absurd h.2.fit hf⟩
  by_cases hs : (setF r.new).1 = 0
  case neg => rw [run_bad3 hf hs]; exact ⟨fun h => absurd h hs, fun h => absurd (by rw [h.2.new.set]) hs⟩
  rw [run_bad4 hf hs]
  cases hr : rangeBad r (countP st)
  · obtain ⟨h1, h2, h3, h4, h5⟩ := rangeBad_iff.1 hr
    by_cases hl : lessF r.new r.known = []
    · rw [if_neg (by simp), if_neg (by simpa using hl)]
      exact ⟨fun _ => ⟨rfl, good_of (factsBad_set hf), hf, good_of hs, h1, h2, h3, h4, h5, lessF_nil_iff.1 hl⟩, fun _ => rfl⟩
    · rw [if_neg (by simp), if_pos hl]
      exact ⟨fun h => absurd h (by decide), fun h => absurd (lessF_nil_iff.2 h.2.sub) hl⟩
  · rw [if_pos rfl]
    refine ⟨fun h => absurd h (by decide), fun h => ?_⟩
    have := rangeBad_iff.2 ⟨h.2.r0, h.2.r1, h.2.s0, h.2.s1, h.2.done⟩
    rw [hr] at this; cases this
end Go.Proofs.YtbbiapgkcekabaaGreat

/-
  THE WALK OF round.Wrong.
-/
namespace Go.Proofs.YtbbiapgkcekabaaGreat
open Go.RowKit

structure RunRd (w : World) (r : PRun) (kv nv : Value) : Prop where
  known : RdFacts (fun _ => True) w kv r.known
  new : RdFacts (fun _ => True) w nv r.new
theorem RunRd.up {w w' : World} {r : PRun} {kv nv : Value} (h : RunRd w r kv nv) (hb : Below w.heap.size w w') : RunRd w' r kv nv := ⟨h.known.up hb, h.new.up hb⟩
/-- Read in new memory. -/
theorem RdFacts.newer {S : Nat → Prop} {w w' : World} {v : Value} {l : List PFact} (h : RdFacts S w' v l) (hs : ∀ b, S b → w.heap.size ≤ b) : RdFacts (New w) w' v l := h.more RFact.steady (fun b hb _ => hs b hb)
/-- A run, and an error, that a call answers. -/
def RunPost (r : PRun × Int) (w : World) (e : Ending) (w' : World) : Prop :=
  Below w.heap.size w w' ∧ ∃ a c b d, e = .returned (.tuple #[.agg #[.slice a r.1.known.length c, .slice b r.1.new.length d, .int .i64 r.1.stratum, .int .i64 r.1.rounds, .bool r.1.done], .int .i64 r.2]) ∧ RdFacts (New w) w' (.slice a r.1.known.length c) r.1.known ∧ RdFacts (New w) w' (.slice b r.1.new.length d) r.1.new
theorem run_ret_err {r : PRun × Int} {n : Int} {w w' : World} (h : r = (zeroRun, n)) (hb : Below w.heap.size w w') : RunPost r w (.returned (.tuple #[.agg #[.slice none 0 0, .slice none 0 0, .int .i64 0, .int .i64 0, .bool false], .int .i64 n])) w' := by
  subst h; exact ⟨hb, none, 0, none, 0, rfl, RdFacts.nil, RdFacts.nil⟩
theorem run_ret_ok {r : PRun × Int} {k n : List PFact} {s x : Int} {dn : Bool} {w w' : World} {a b : Option Addr} {c d : Nat} (h : r = (⟨k, n, s, x, dn⟩, 0)) (hb : Below w.heap.size w w') (h1 : RdFacts (New w) w' (.slice a k.length c) k) (h2 : RdFacts (New w) w' (.slice b n.length d) n) :
    RunPost r w (.returned (.tuple #[.agg #[.slice a k.length c, .slice b n.length d, .int .i64 s, .int .i64 x, .bool dn], .int .i64 0])) w' := by
  subst h; exact ⟨hb, a, c, b, d, rfl, h1, h2⟩
/-- Small lists. -/
structure RunSmall (r : PRun) : Prop where
  k1 : r.known.length ≤ 1048576
  k2 : ∀ x ∈ r.known, x.args.length ≤ 1048576
  n1 : r.new.length ≤ 1048576
  n2 : ∀ x ∈ r.new, x.args.length ≤ 1048576

theorem range_cases {k l : List PFact} {s x n : Int} {d : Bool} : (rangeBad ⟨k, l, s, x, d⟩ n = true ∧ (x < 0 ∨ ¬ x < 0 ∧ (1000 < x ∨ ¬ 1000 < x ∧ (s < 0 ∨ ¬ s < 0 ∧ (n < s ∨ ¬ n < s ∧ (n = s ∧ d = false ∨ (s == n) = false ∧ d = true)))))) ∨
    (rangeBad ⟨k, l, s, x, d⟩ n = false ∧ ¬ x < 0 ∧ ¬ 1000 < x ∧ ¬ s < 0 ∧ ¬ n < s ∧ (n = s ∧ d = true ∨ (s == n) = false ∧ d = false)) := by
  unfold rangeBad
  dsimp only
  by_cases h1 : x < 0
  · exact .inl ⟨by simp [h1], .inl h1⟩
  by_cases h2 : 1000 < x
  · exact .inl ⟨by simp [h2], .inr ⟨h1, .inl h2⟩⟩
  by_cases h3 : s < 0
  · exact .inl ⟨by simp [h3], .inr ⟨h1, .inr ⟨h2, .inl h3⟩⟩⟩
  by_cases h4 : n < s
  · exact .inl ⟨by simp [h4], .inr ⟨h1, .inr ⟨h2, .inr ⟨h3, .inl h4⟩⟩⟩⟩
  by_cases h5 : n = s
  · subst h5
    cases d
    · exact .inl ⟨by simp, .inr ⟨h1, .inr ⟨h2, .inr ⟨h3, .inr ⟨h4, .inl ⟨rfl, rfl⟩⟩⟩⟩⟩⟩
    · exact .inr ⟨by simp [h1, h2, h3], h1, h2, h3, h4, .inl ⟨rfl, rfl⟩⟩
  · have h6 : (s == n) = false := beq_eq_false_iff_ne.2 fun e => h5 e.symm
    cases d
    · exact .inr ⟨by simp [h1, h2, h3, h4, h6], h1, h2, h3, h4, .inr ⟨h6, rfl⟩⟩
    · exact .inl ⟨by simp [h6], .inr ⟨h1, .inr ⟨h2, .inr ⟨h3, .inr ⟨h4, .inr ⟨h6, rfl⟩⟩⟩⟩⟩⟩

/-- check.Strata, told. -/
theorem strataTold {S : Nat → Prop} {p : List PRule} {v : Value} {st : List Int} {q : Int × Int} {w : World} (hS : StrataIs p st q) (h : RdRules S w v p) (n1 : p.length ≤ 1048576) (n2 : ∀ r ∈ p, RuleSmall r) (n3 : ∀ r ∈ p, NameSmall r) :
    Calls Tryz.prog 53 #[v] w fun e w' => Below w.heap.size w w' ∧ ∃ a c, e = .returned (.tuple #[.slice a st.length c, .agg #[.int .i64 q.1, .int .i64 q.2]]) ∧ RdInts (fun _ => True) w' (.slice a st.length c) st :=
  (strataCalls p v w h n1 n2 n3).mono fun e w' ⟨hb, v', l', q', he, hr, hs⟩ => by
    obtain ⟨rfl, rfl⟩ := hs.unique hS
    obtain ⟨a, c, rfl, -, -, -⟩ := id hr.form
    exact ⟨hb, a, c, he, hr.more RInt.steady (fun _ _ _ => trivial)⟩
/-- fact.Own, read. -/
theorem ownReads {S : Nat → Prop} {v : Value} {l : List PFact} {w : World} (h : RdFacts S w v l) (n1 : l.length ≤ 1048576) (n2 : ∀ x ∈ l, x.args.length ≤ 1048576) :
    Calls Tryz.prog 54 #[v] w fun e w' => (∃ a c, e = .returned (.slice a l.length c) ∧ RdFacts (New w) w' (.slice a l.length c) l) ∧ Below w.heap.size w w' :=
  (ownCalls v l w h (by omega) (fun x hx => by have := n2 x hx; omega)).mono fun e w' ⟨⟨v', he, ho⟩, hb⟩ => by
    have h' := (ho.read RFact.steady).more RFact.steady (S' := New w) (fun b hb _ => hb.elim id id)
    obtain ⟨a, c, rfl, -, -, -⟩ := id h'.form
    exact ⟨⟨a, c, he, h'⟩, hb⟩
/-- A store into another block. -/
theorem RdFacts.set_far {S : Nat → Prop} {w : World} {v : Value} {l : List PFact} (h : RdFacts S w v l) {p : Addr} (hp : ¬ S p.block) (u : Value) : RdFacts S (w.setCell p u) v l :=
  h.agree RFact.steady ⟨by simp [World.setCell], fun b hb _ => Below.heap_setCell _ _ _ _ (fun e => hp (by rw [← e]; exact hb))⟩
theorem RdFacts.new {w W W' : World} {v : Value} {l : List PFact} (h : RdFacts (New W) W' v l) (hw : w.heap.size ≤ W.heap.size) : RdFacts (New w) W' v l := h.more RFact.steady (fun _ hb _ => Nat.le_trans hw hb)
theorem RdFacts.any {S : Nat → Prop} {w : World} {v : Value} {l : List PFact} (h : RdFacts S w v l) : RdFacts (fun _ => True) w v l := h.more RFact.steady (fun _ _ _ => trivial)

set_option maxRecDepth 100000 in
set_option maxHeartbeats 8000000 in
theorem runWrongCalls {S : Nat → Prop} (p : List PRule) (v : Value) (st : List Int) (q : Int × Int) (r : PRun) (kv nv : Value) (w : World) (hS : StrataIs p st q) (h : RdRules S w v p) (hr : RunRd w r kv nv)
    (n1 : p.length ≤ 1048576) (n2 : ∀ r ∈ p, RuleSmall r) (n3 : ∀ r ∈ p, NameSmall r) (ns : RunSmall r) :
    Calls Tryz.prog 30 #[v, .agg #[kv, nv, .int .i64 r.stratum, .int .i64 r.rounds, .bool r.done]] w fun e w' => e = .returned (.int .i64 (runBad st q.1 p r)) ∧ Below w.heap.size w w' := by
  obtain ⟨a, c, rfl, -, -, -⟩ := id h.form
  obtain ⟨ka, kc, rfl, -, -, -⟩ := id hr.known.form
  obtain ⟨na, nc, rfl, -, -, -⟩ := id hr.new.form
  obtain ⟨W0, hW0⟩ : ∃ W0 : World, w.alloc (.cells #[.slice ka r.known.length kc, .slice na r.new.length nc, .int .i64 r.stratum, .int .i64 r.rounds, .bool r.done] 47) = W0 := ⟨_, rfl⟩
  have hb0 : Below w.heap.size w W0 := by subst hW0; exact (Below.refl _ _).alloc (Nat.le_refl _) _
  have hk0 : Blk W0 w.heap.size 47 #[.slice ka r.known.length kc, .slice na r.new.length nc, .int .i64 r.stratum, .int .i64 r.rounds, .bool r.done] := by subst hW0; exact Blk.new w _ _
  have HB0 := Lib.hid hb0
  have HK0 := Lib.hid hk0
  have H := Lib.hid h
  have HR := Lib.hid hr
  have N2 := Lib.hid n2
  have N3 := Lib.hid n3
  have NS := Lib.hid ns
  have HS := Lib.hid hS
  have KS := Lib.hid (strataTold hS (h.up hb0) n1 n2 n3)
  clear h hr n2 n3 ns hb0 hk0 hS
  obtain ⟨q1, q2⟩ := q
  dsimp only at *
  by_cases hq : q1 = 0
  case neg =>
    have g1 : (q1 != 0) = true := by simpa using hq
    have HE := Lib.hid (run_bad1 (st := st) (p := p) (r := r) hq)
    clear hq
    go_enter Tryz.func30, Tryz.ntmps30
    go_wp2_with (go_at_call 53; refine (KS.out).mono ?_; rintro e w1 ⟨hb1, a1, c1, rfl, hr1⟩; have HB1 := Lib.hid (HB0.out.trans (hb1.mono (Below.size HB0.out))); clear hb1 hr1)
    go_ret
    exact ⟨ret_int HE.out.symm, HB1.out.alloc (Below.size HB1.out) _⟩
  obtain ⟨hsl, h16, h5, hz16, -, -⟩ := strata_bd HS.out hq
  have HZ := Lib.hid hz16
  have H5 := Lib.hid h5
  have HSL := Lib.hid hsl
  clear h5 hz16 hsl
  subst hq
  have KF := Lib.hid (fun W (hW : Below w.heap.size w W) => factsCalls p (.slice a p.length c) (.slice ka r.known.length kc) r.known W (H.out.up hW) (HR.out.known.up hW) h16 H5.out N2.out N3.out NS.out.k1 NS.out.k2)
  have KT := Lib.hid (fun W (hW : Below w.heap.size w W) => setCalls (.slice na r.new.length nc) r.new W (HR.out.new.up hW) (by have := NS.out.n1; omega) (fun x hx => by have := NS.out.n2 x hx; omega))
  by_cases hf : (factsBad p r.known).1 = 0
  case neg =>
    have g2 : ((factsBad p r.known).1 != 0) = true := by simpa using hf
    have HE := Lib.hid (run_bad2 (st := st) hf)
    clear hf
    generalize factsBad p r.known = f at *
    obtain ⟨f1, f2⟩ := f
    dsimp only at *
    go_enter Tryz.func30, Tryz.ntmps30
    go_wp2_with (first
      | (go_at_call 15; have hh := HB1.out; clear hh; refine (KF.out _ HB1.out).mono ?_; rintro e w2 ⟨rfl, hb2⟩; have HB2 := Lib.hid (HB1.out.trans (hb2.mono (Below.size HB1.out))); clear hb2)
      | (go_at_call 53; refine (KS.out).mono ?_; rintro e w1 ⟨hb1, a1, c1, rfl, hr1⟩; have HB1 := Lib.hid ((HB0.out.trans (hb1.mono (Below.size HB0.out))).alloc (Nat.le_trans (Below.size HB0.out) hb1.size) (.cells #[.int .i64 0, .int .i64 q2] 27)); have HK1 := Lib.hid ((HK0.out.below hb1 HK0.out.lt).alloc (.cells #[.int .i64 0, .int .i64 q2] 27)); have c0 := HK1.out.cell 0; simp only [List.getElem?_toArray, List.getElem?_cons_zero] at c0; clear hb1 hr1))
    go_ret
    exact ⟨ret_int HE.out.symm, HB2.out.alloc (Below.size HB2.out) _⟩
  have HGK := Lib.hid (good_of (factsBad_set hf))
  rw [hf] at KF
  generalize hf2 : (factsBad p r.known).2 = f2 at *
  clear hf2
  by_cases hs : (setF r.new).1 = 0
  case neg =>
    have g3 : ((setF r.new).1 != 0) = true := by simpa using hs
    have HE := Lib.hid (run_bad3 (st := st) hf hs)
    clear hf hs
    generalize setF r.new = f at *
    obtain ⟨s1, s2⟩ := f
    dsimp only at *
    go_enter Tryz.func30, Tryz.ntmps30
    go_wp2_with (first
      | (go_at_call 45; have hh := HB2.out; clear hh; refine (KT.out _ HB2.out).mono ?_; rintro e w3 ⟨rfl, hb3⟩; have HB3 := Lib.hid (HB2.out.trans (hb3.mono (Below.size HB2.out))); clear hb3)
      | (go_at_call 15; have hh := HB1.out; clear hh; refine (KF.out _ HB1.out).mono ?_; rintro e w2 ⟨rfl, hb2⟩; have HB2 := Lib.hid ((HB1.out.trans (hb2.mono (Below.size HB1.out))).alloc (Nat.le_trans (Below.size HB1.out) hb2.size) (.cells #[.int .i64 0, .int .i64 f2] 27)); have HK2 := Lib.hid ((HK1.out.below hb2 HK1.out.lt).alloc (.cells #[.int .i64 0, .int .i64 f2] 27)); have d1 := HK2.out.cell 1; simp only [List.getElem?_toArray, List.getElem?_cons_zero, List.getElem?_cons_succ] at d1; clear hb2 c0)
      | (go_at_call 53; refine (KS.out).mono ?_; rintro e w1 ⟨hb1, a1, c1, rfl, hr1⟩; have HB1 := Lib.hid ((HB0.out.trans (hb1.mono (Below.size HB0.out))).alloc (Nat.le_trans (Below.size HB0.out) hb1.size) (.cells #[.int .i64 0, .int .i64 q2] 27)); have HK1 := Lib.hid ((HK0.out.below hb1 HK0.out.lt).alloc (.cells #[.int .i64 0, .int .i64 q2] 27)); have c0 := HK1.out.cell 0; simp only [List.getElem?_toArray, List.getElem?_cons_zero] at c0; clear hb1 hr1))
    go_ret
    exact ⟨ret_int HE.out.symm, HB3.out.alloc (Below.size HB3.out) _⟩
  have HGN := Lib.hid (good_of hs)
  have hsz : setF r.new = (0, 0) := (good_of hs).set
  rw [hsz] at KT
  have HE := Lib.hid (run_bad4 (st := st) hf hs)
  have KC := Lib.hid (fun W sv (h1 : RdInts (fun _ => True) W sv st) => countCalls sv st W h1 (by rw [HSL.out]; omega) (fun z hz => by have := HZ.out z hz; omega))
  have KL := Lib.hid (fun W (hW : Below w.heap.size w W) => lessReads (HR.out.new.up hW) (HR.out.known.up hW) HGK.out.rise NS.out.n1 NS.out.n2 NS.out.k1 NS.out.k2)
  clear hf hs hsz
  generalize countP st = cn at *
  obtain ⟨rk, rn, rs, rr, rd⟩ := r
  dsimp only at *
  rcases range_cases (k := rk) (l := rn) (s := rs) (x := rr) (n := cn) (d := rd) with ⟨hx, hc⟩ | ⟨hx, h1, h2, h3, h4, hc⟩
  · rw [hx, if_pos rfl] at HE
    clear hx
    rcases hc with h1 | ⟨h1, h2 | ⟨h2, h3 | ⟨h3, h4 | ⟨h4, ⟨rfl, rfl⟩ | ⟨h5, rfl⟩⟩⟩⟩⟩
    all_goals
      clear KL
      go_enter Tryz.func30, Tryz.ntmps30
      go_wp2_with (first
        | (go_at_call 21; have hh := HB3.out; clear hh; refine (KC.out _ _ HI3.out).mono ?_; rintro e w4 ⟨rfl, rfl⟩; have HB4 := HB3)
        | (go_at_call 45; have hh := HB2.out; clear hh; refine (KT.out _ HB2.out).mono ?_; rintro e w3 ⟨rfl, hb3⟩; have HB3 := Lib.hid ((HB2.out.trans (hb3.mono (Below.size HB2.out))).alloc (Nat.le_trans (Below.size HB2.out) hb3.size) (.cells #[.int .i64 0, .int .i64 0] 27)); have HI3 := Lib.hid (HI2.out.up (hb3.alloc hb3.size (.cells #[.int .i64 0, .int .i64 0] 27))); have HK3 := Lib.hid ((HK2.out.below hb3 HK2.out.lt).alloc (.cells #[.int .i64 0, .int .i64 0] 27)); have k0 := HK3.out.cell 0; have k1 := HK3.out.cell 1; have k2 := HK3.out.cell 2; have k3 := HK3.out.cell 3; have k4 := HK3.out.cell 4; simp only [List.getElem?_toArray, List.getElem?_cons_zero, List.getElem?_cons_succ] at k0 k1 k2 k3 k4; clear hb3 d1)
        | (go_at_call 15; have hh := HB1.out; clear hh; refine (KF.out _ HB1.out).mono ?_; rintro e w2 ⟨rfl, hb2⟩; have HB2 := Lib.hid ((HB1.out.trans (hb2.mono (Below.size HB1.out))).alloc (Nat.le_trans (Below.size HB1.out) hb2.size) (.cells #[.int .i64 0, .int .i64 f2] 27)); have HI2 := Lib.hid (HI1.out.up (hb2.alloc hb2.size (.cells #[.int .i64 0, .int .i64 f2] 27))); have HK2 := Lib.hid ((HK1.out.below hb2 HK1.out.lt).alloc (.cells #[.int .i64 0, .int .i64 f2] 27)); have d1 := HK2.out.cell 1; simp only [List.getElem?_toArray, List.getElem?_cons_zero, List.getElem?_cons_succ] at d1; clear hb2 c0)
        | (go_at_call 53; refine (KS.out).mono ?_; rintro e w1 ⟨hb1, a1, c1, rfl, hr1⟩; have HB1 := Lib.hid ((HB0.out.trans (hb1.mono (Below.size HB0.out))).alloc (Nat.le_trans (Below.size HB0.out) hb1.size) (.cells #[.int .i64 0, .int .i64 q2] 27)); have HI1 := Lib.hid (hr1.up ((Below.refl _ _).alloc (Nat.le_refl _) (.cells #[.int .i64 0, .int .i64 q2] 27))); have HK1 := Lib.hid ((HK0.out.below hb1 HK0.out.lt).alloc (.cells #[.int .i64 0, .int .i64 q2] 27)); have c0 := HK1.out.cell 0; simp only [List.getElem?_toArray, List.getElem?_cons_zero] at c0; clear hb1 hr1))
      go_ret
      exact ⟨ret_int HE.out.symm, HB4.out⟩
  · rw [hx, if_neg (by simp)] at HE
    clear hx
    rcases hc with ⟨rfl, rfl⟩ | ⟨h5, rfl⟩
    all_goals
      by_cases hl : lessF rn rk = []
      · rw [if_neg (by simpa using hl)] at HE
        rw [hl] at KL
        clear hl
        go_enter Tryz.func30, Tryz.ntmps30
        go_wp2_with (first
          | (go_at_call 44; have hh := HB4.out; clear hh; refine (KL.out _ HB4.out).mono ?_; rintro e w5 ⟨⟨a5, c5, rfl, -⟩, hb5⟩; have HB5 := Lib.hid (HB4.out.trans (hb5.mono (Below.size HB4.out))); clear hb5)
          | (go_at_call 21; have hh := HB3.out; clear hh; refine (KC.out _ _ HI3.out).mono ?_; rintro e w4 ⟨rfl, rfl⟩; have HB4 := HB3)
          | (go_at_call 45; have hh := HB2.out; clear hh; refine (KT.out _ HB2.out).mono ?_; rintro e w3 ⟨rfl, hb3⟩; have HB3 := Lib.hid ((HB2.out.trans (hb3.mono (Below.size HB2.out))).alloc (Nat.le_trans (Below.size HB2.out) hb3.size) (.cells #[.int .i64 0, .int .i64 0] 27)); have HI3 := Lib.hid (HI2.out.up (hb3.alloc hb3.size (.cells #[.int .i64 0, .int .i64 0] 27))); have HK3 := Lib.hid ((HK2.out.below hb3 HK2.out.lt).alloc (.cells #[.int .i64 0, .int .i64 0] 27)); have k0 := HK3.out.cell 0; have k1 := HK3.out.cell 1; have k2 := HK3.out.cell 2; have k3 := HK3.out.cell 3; have k4 := HK3.out.cell 4; simp only [List.getElem?_toArray, List.getElem?_cons_zero, List.getElem?_cons_succ] at k0 k1 k2 k3 k4; clear hb3 d1)
          | (go_at_call 15; have hh := HB1.out; clear hh; refine (KF.out _ HB1.out).mono ?_; rintro e w2 ⟨rfl, hb2⟩; have HB2 := Lib.hid ((HB1.out.trans (hb2.mono (Below.size HB1.out))).alloc (Nat.le_trans (Below.size HB1.out) hb2.size) (.cells #[.int .i64 0, .int .i64 f2] 27)); have HI2 := Lib.hid (HI1.out.up (hb2.alloc hb2.size (.cells #[.int .i64 0, .int .i64 f2] 27))); have HK2 := Lib.hid ((HK1.out.below hb2 HK1.out.lt).alloc (.cells #[.int .i64 0, .int .i64 f2] 27)); have d1 := HK2.out.cell 1; simp only [List.getElem?_toArray, List.getElem?_cons_zero, List.getElem?_cons_succ] at d1; clear hb2 c0)
          | (go_at_call 53; refine (KS.out).mono ?_; rintro e w1 ⟨hb1, a1, c1, rfl, hr1⟩; have HB1 := Lib.hid ((HB0.out.trans (hb1.mono (Below.size HB0.out))).alloc (Nat.le_trans (Below.size HB0.out) hb1.size) (.cells #[.int .i64 0, .int .i64 q2] 27)); have HI1 := Lib.hid (hr1.up ((Below.refl _ _).alloc (Nat.le_refl _) (.cells #[.int .i64 0, .int .i64 q2] 27))); have HK1 := Lib.hid ((HK0.out.below hb1 HK0.out.lt).alloc (.cells #[.int .i64 0, .int .i64 q2] 27)); have c0 := HK1.out.cell 0; simp only [List.getElem?_toArray, List.getElem?_cons_zero] at c0; clear hb1 hr1))
        go_ret
        exact ⟨ret_int HE.out.symm, HB5.out⟩
      · rw [if_pos hl] at HE
        have hlp : (0 : Int) < ((lessF rn rk).length : Int) := by have := List.length_pos_iff.2 hl; omega
        clear hl
        generalize (lessF rn rk).length = ll at *
        go_enter Tryz.func30, Tryz.ntmps30
        go_wp2_with (first
          | (go_at_call 44; have hh := HB4.out; clear hh; refine (KL.out _ HB4.out).mono ?_; rintro e w5 ⟨⟨a5, c5, rfl, -⟩, hb5⟩; have HB5 := Lib.hid (HB4.out.trans (hb5.mono (Below.size HB4.out))); clear hb5)
          | (go_at_call 21; have hh := HB3.out; clear hh; refine (KC.out _ _ HI3.out).mono ?_; rintro e w4 ⟨rfl, rfl⟩; have HB4 := HB3)
          | (go_at_call 45; have hh := HB2.out; clear hh; refine (KT.out _ HB2.out).mono ?_; rintro e w3 ⟨rfl, hb3⟩; have HB3 := Lib.hid ((HB2.out.trans (hb3.mono (Below.size HB2.out))).alloc (Nat.le_trans (Below.size HB2.out) hb3.size) (.cells #[.int .i64 0, .int .i64 0] 27)); have HI3 := Lib.hid (HI2.out.up (hb3.alloc hb3.size (.cells #[.int .i64 0, .int .i64 0] 27))); have HK3 := Lib.hid ((HK2.out.below hb3 HK2.out.lt).alloc (.cells #[.int .i64 0, .int .i64 0] 27)); have k0 := HK3.out.cell 0; have k1 := HK3.out.cell 1; have k2 := HK3.out.cell 2; have k3 := HK3.out.cell 3; have k4 := HK3.out.cell 4; simp only [List.getElem?_toArray, List.getElem?_cons_zero, List.getElem?_cons_succ] at k0 k1 k2 k3 k4; clear hb3 d1)
          | (go_at_call 15; have hh := HB1.out; clear hh; refine (KF.out _ HB1.out).mono ?_; rintro e w2 ⟨rfl, hb2⟩; have HB2 := Lib.hid ((HB1.out.trans (hb2.mono (Below.size HB1.out))).alloc (Nat.le_trans (Below.size HB1.out) hb2.size) (.cells #[.int .i64 0, .int .i64 f2] 27)); have HI2 := Lib.hid (HI1.out.up (hb2.alloc hb2.size (.cells #[.int .i64 0, .int .i64 f2] 27))); have HK2 := Lib.hid ((HK1.out.below hb2 HK1.out.lt).alloc (.cells #[.int .i64 0, .int .i64 f2] 27)); have d1 := HK2.out.cell 1; simp only [List.getElem?_toArray, List.getElem?_cons_zero, List.getElem?_cons_succ] at d1; clear hb2 c0)
          | (go_at_call 53; refine (KS.out).mono ?_; rintro e w1 ⟨hb1, a1, c1, rfl, hr1⟩; have HB1 := Lib.hid ((HB0.out.trans (hb1.mono (Below.size HB0.out))).alloc (Nat.le_trans (Below.size HB0.out) hb1.size) (.cells #[.int .i64 0, .int .i64 q2] 27)); have HI1 := Lib.hid (hr1.up ((Below.refl _ _).alloc (Nat.le_refl _) (.cells #[.int .i64 0, .int .i64 q2] 27))); have HK1 := Lib.hid ((HK0.out.below hb1 HK0.out.lt).alloc (.cells #[.int .i64 0, .int .i64 q2] 27)); have c0 := HK1.out.cell 0; simp only [List.getElem?_toArray, List.getElem?_cons_zero] at c0; clear hb1 hr1))
        go_ret
        exact ⟨ret_int HE.out.symm, HB5.out⟩
end Go.Proofs.YtbbiapgkcekabaaGreat

/-
  MAPS FROM TEXTS TO TEXTS (cororef4.Env), in plain words; a range over one.
-/
namespace Go.Proofs.YtbbiapgkcekabaaGreat
open Go.RowKit Go.Maps

theorem zeroStrE (w : World) : (zeroValue 9).run Tryz.prog w = .ok (.string .empty) w := by kernel_rfl
/-- Block b is a map of at most n entries that holds f. -/
def HoldsE (D : DataW Unit) (f : Str → Option Str) : Prop := ∀ s, s.size ≤ maxLen → Maps.has D (keyL s) = (f s).isSome ∧ ∀ x, f s = some x → ∀ z, D.atKey (keyL s) z = .lit (keyL x)
def MapE (w : World) (b n : Nat) (f : Str → Option Str) : Prop :=
  ∃ D : DataW Unit, w.ownsMap Tryz.prog 9 (plainElem Tryz.prog 9) b n D ∧ HoldsE D f
section
variable {w w' : World} {b n : Nat} {f : Str → Option Str}
theorem MapE.lt (h : MapE w b n f) : b < w.heap.size := let ⟨_, h1, _⟩ := h; h1.lt
theorem MapE.kept {row : Option Nat} (h : MapE w b n f) (hg : w.grownBy w' row) (hne : some b ≠ row) : MapE w' b n f := let ⟨D, h1, h2⟩ := h; ⟨D, h1.kept hg hne, h2⟩
theorem MapE.moved (h : MapE w b n f) (hb : w'.heap[b]? = w.heap[b]?) : MapE w' b n f := by
  obtain ⟨D, ⟨es, clock, h1, h2⟩, h3⟩ := h
  exact ⟨D, ⟨es, clock, hb.trans h1, h2⟩, h3⟩
theorem MapE.below {B : Nat} (h : MapE w b n f) (hb : Below B w w') (hB : b < B) : MapE w' b n f := h.moved (hb.block b hB)
theorem MapE.mono (h : MapE w b n f) {m : Nat} (hm : n ≤ m) : MapE w b m f := let ⟨D, h1, h2⟩ := h; ⟨D, h1.mono hm, h2⟩
theorem MapE.alloc (h : MapE w b n f) (o : Obj) : MapE (w.alloc o) b n f := h.kept (World.grownBy_alloc w o none) (by simp)
theorem MapE.setCell (h : MapE w b n f) {a : Addr} (ha : b ≠ a.block) (u : Value) : MapE (w.setCell a u) b n f := h.moved (Below.heap_setCell _ _ _ _ ha)
theorem MapE.made (w : World) : MapE (w.alloc (.map #[] 0)) w.heap.size 0 (fun _ => none) := ⟨.map [], World.ownsMap_made _ _ _ _, fun _ _ => ⟨rfl, fun _ h => by cases h⟩⟩
theorem MapE.like (h : MapE w b n f) {g : Str → Option Str} (hg : ∀ s, s.size ≤ maxLen → f s = g s) : MapE w b n g := let ⟨D, h1, h2⟩ := h; ⟨D, h1, fun s hs => by rw [← hg s hs]; exact h2 s hs⟩
set_option maxRecDepth 100000 in
theorem MapE.getOk (h : MapE w b n f) {s : Str} (hs : s.size ≤ maxLen) : (Instr.lookup 118 (.map (some b)) (.string s) true).run Tryz.prog w = .ok (.tuple #[.string ((f s).getD .empty), .bool (f s).isSome]) w := by
  obtain ⟨D, h1, h2⟩ := h
  obtain ⟨v, ps, hrun, hv⟩ := h1.look_ok lawStr Tryz.underlying118 (zeroStrE w) (zd := .lit (.string [])) (zp := []) (plainElem_string (s := .empty) Tryz.underlying9 (by simp [maxLen])) (keyStr hs)
  obtain ⟨c, rfl, hc, -⟩ := plainElem_string_inv Tryz.underlying9 hv
  injection hc with hc _
  rw [hrun, (h2 s hs).1]
  cases hf : f s with
  | none =>
    have h0 : Maps.has D (keyL s) = false := by rw [(h2 s hs).1, hf]; rfl
    rw [Maps.atKey_of_not_has h0] at hc
    injection hc with hc
    rw [keyL_inj (s := c) (t := .empty) hc.symm]
    rfl
  | some x =>
    rw [(h2 s hs).2 x hf] at hc
    injection hc with hc
    rw [keyL_inj (s := c) (t := x) hc.symm]
    rfl
set_option maxRecDepth 100000 in
theorem MapE.put (h : MapE w b n f) (hn : n < maxLen) {s : Str} (hs : s.size ≤ maxLen) {x : Str} (hx : x.size ≤ maxLen) :
    ∃ w', (Instr.mapUpdate 118 (.map (some b)) (.string s) (.string x)).run Tryz.prog w = .ok () w' ∧ MapE w' b (n + 1) (fun t => if t = s then some x else f t) ∧ w.grownBy w' (some b) := by
  obtain ⟨D, h1, h2⟩ := h
  have hM := h1.isMap
  obtain ⟨w', hrun, h3, h4⟩ := h1.update lawStr Tryz.underlying118 hn (keyStr hs) (plainElem_string Tryz.underlying9 hx)
  refine ⟨w', hrun, ⟨_, h3, fun t ht => ?_⟩, h4⟩
  by_cases e : t = s
  · subst e
    simp only [if_true]
    exact ⟨Maps.has_put_same hM (by trivial) _, fun y hy z => by
      obtain rfl := Option.some.inj hy
      exact Maps.atKey_put_same hM (by trivial) _ _⟩
  · simp only [if_neg e]
    have hne : keyL t ≠ keyL s := fun h => e (keyL_inj h)
    rw [Maps.has_put_other hne]
    refine ⟨(h2 t ht).1, fun y hy z => ?_⟩
    rw [Maps.atKey_put_other hne]
    exact (h2 t ht).2 y hy z
set_option maxRecDepth 100000 in
theorem MapE.get (h : MapE w b n f) {s : Str} (hs : s.size ≤ maxLen) : (Instr.lookup 118 (.map (some b)) (.string s) false).run Tryz.prog w = .ok (.string ((f s).getD .empty)) w := by
  obtain ⟨D, h1, h2⟩ := h
  obtain ⟨v, ps, hrun, hv⟩ := h1.lookup lawStr Tryz.underlying118 (zeroStrE w) (zd := .lit (.string [])) (zp := []) (plainElem_string (s := .empty) Tryz.underlying9 (by simp [maxLen])) (keyStr hs)
  obtain ⟨c, rfl, hc, -⟩ := plainElem_string_inv Tryz.underlying9 hv
  injection hc with hc _
  rw [hrun]
  cases hf : f s with
  | none =>
    have h0 : Maps.has D (keyL s) = false := by rw [(h2 s hs).1, hf]; rfl
    rw [Maps.atKey_of_not_has h0] at hc
    injection hc with hc
    rw [keyL_inj (s := c) (t := .empty) hc.symm]
    rfl
  | some x =>
    rw [(h2 s hs).2 x hf] at hc
    injection hc with hc
    rw [keyL_inj (s := c) (t := x) hc.symm]
    rfl
end
/-- A range over the map at b, by the block at r: left says what is still to come; cnt: how many are. -/
def RangeE (w : World) (b r n : Nat) (f : Str → Option Str) (left : Lit → Bool) (cnt : Nat) : Prop :=
  ∃ D : DataW Unit, w.ranges Tryz.prog 9 (plainElem Tryz.prog 9) b r n D left cnt ∧ HoldsE D f ∧ cnt ≤ n
section
variable {w w' : World} {b r n : Nat} {f : Str → Option Str} {left : Lit → Bool} {cnt : Nat}
theorem RangeE.map (h : RangeE w b r n f left cnt) : MapE w b n f := let ⟨D, h1, h2, _⟩ := h; ⟨D, h1.owns, h2⟩
theorem RangeE.kept {row : Option Nat} (h : RangeE w b r n f left cnt) (hg : w.grownBy w' row) (hb : some b ≠ row) (hr : some r ≠ row) : RangeE w' b r n f left cnt := let ⟨D, h1, h2, h3⟩ := h; ⟨D, h1.kept hg hb hr, h2, h3⟩
theorem RangeE.lt (h : RangeE w b r n f left cnt) : r < w.heap.size := let ⟨_, h1, _⟩ := h; h1.lt
theorem RangeE.le (h : RangeE w b r n f left cnt) : cnt ≤ n := let ⟨_, _, _, h1⟩ := h; h1
theorem RangeE.left_eq (h : RangeE w b r n f left cnt) : w.rangeLeft b r = cnt := let ⟨_, h1, _⟩ := h; h1.left_eq
end
theorem size_le {w : World} {b n : Nat} {D : DataW Unit} (h : w.ownsMap Tryz.prog 9 (plainElem Tryz.prog 9) b n D) : Maps.size D ≤ n := by
  obtain ⟨es, clock, -, -, h1, rfl⟩ := h
  simp only [Maps.size, length_sorted, List.length_map, Array.length_toList]
  exact h1
theorem keyOf_string_inv {key : Value} {kl : Lit} (h : keyOf Tryz.prog 9 key = some kl) : ∃ s : Str, key = .string s ∧ kl = keyL s ∧ s.size ≤ maxLen := by
  cases key <;> simp [keyOf, Tryz.underlying9, mapKey] at h
  exact ⟨_, rfl, h.2.symm, h.1⟩
theorem struck_key (left : Lit → Bool) (s t : Str) : (fun z => left z && !z.sameKey (keyL s)) (keyL t) = (left (keyL t) && decide (t ≠ s)) := by
  show (left (keyL t) && !(keyL t).sameKey (keyL s)) = _
  congr 1
  by_cases e : t = s
  · subst e
    simp [keyL, Lit.sameKey]
  · rw [decide_eq_true e]
    cases h : (keyL t).sameKey (keyL s)
    · rfl
    · exact absurd (keyL_inj (WideAt.sameKey_eq h)) e
section
variable (w : World) {ops : Array Oper} {rest : List Oper} {o : Oper} {a : Act} {Q : Exit → Act → World → Prop}
set_option maxRecDepth 100000 in
theorem wpList_range_E (hg : o.guard = none) (m : Operand) (hop : o.op = Op.range 118 m) (b n : Nat) (f : Str → Option Str) (hm : a.eval m = .map (some b)) (h : MapE w b n f)
    (hK : ∀ w' left cnt, RangeE w' b w.heap.size n f left cnt → (∀ s : Str, s.size ≤ maxLen → left (keyL s) = (f s).isSome) → w.grownBy w' none → w'.heap.size = w.heap.size + 1 → wpList Tryz.prog ops Q rest (a.put o.dst (.pointer (some ⟨w.heap.size, 0, none⟩))) w') :
    wpList Tryz.prog ops Q (o :: rest) a w := by
  obtain ⟨D, h1, h2⟩ := h
  refine wpList_range_own w hg m 118 hop 9 9 lawStr Tryz.underlying118 (plainElem Tryz.prog 9) b n D hm h1 ?_
  intro w' hr hgr hs
  have hE : RangeE w' b w.heap.size n f (Maps.has D) (Maps.size D) := ⟨D, hr, h2, size_le h1⟩
  have hL : ∀ s : Str, s.size ≤ maxLen → Maps.has D (keyL s) = (f s).isSome := fun s hs => (h2 s hs).1
  have hz := hK w' (Maps.has D) (Maps.size D) hE hL hgr hs
  exact hz
set_option maxRecDepth 100000 in
theorem wpList_next_E (hg : o.guard = none) (it : Operand) (hop : o.op = Op.next it false) (b r n : Nat) (f : Str → Option Str) (left : Lit → Bool) (cnt : Nat) (hit : a.eval it = .pointer (some ⟨r, 0, none⟩)) (h : RangeE w b r n f left cnt)
    (hDone : (∀ kl, left kl = false) → wpList Tryz.prog ops Q rest (a.put o.dst (.tuple #[.bool false])) w)
    (hMore : ∀ (s c : Str) (w' : World) (cnt' : Nat), s.size ≤ maxLen → c.size ≤ maxLen → left (keyL s) = true → f s = some c → RangeE w' b r n f (fun z => left z && !z.sameKey (keyL s)) cnt' → cnt' < cnt → w.grownBy w' (some r) → w'.heap.size = w.heap.size →
      (Instr.entry (.pointer (some ⟨r, 0, none⟩))).run Tryz.prog w' = .ok (.tuple #[.string s, .string c]) w' → wpList Tryz.prog ops Q rest (a.put o.dst (.tuple #[.bool true, .string s, .string c])) w') :
    wpList Tryz.prog ops Q (o :: rest) a w := by
  obtain ⟨D, h1, h2, h3⟩ := h
  refine wpList_next_ranges w hg it hop _ lawStr _ Value.string Value.string (fun key kl hk => by obtain ⟨s, rfl, -, -⟩ := keyOf_string_inv hk; exact ⟨s, rfl⟩)
    (fun v y hv => by obtain ⟨c, rfl, -, -⟩ := plainElem_string_inv Tryz.underlying9 hv; exact ⟨c, rfl⟩) b r n D left cnt hit h1 (fun _ hl => hDone hl) ?_
  intro x c kl y w' cnt' hkey hlk hv hat hrg hlt hgr hsz hen
  obtain ⟨s, e1, rfl, hs⟩ := keyOf_string_inv hkey
  injection e1 with e1
  subst e1
  obtain ⟨c', e2, rfl, hc⟩ := plainElem_string_inv Tryz.underlying9 hv
  injection e2 with e2
  subst e2
  refine hMore x c w' cnt' hs hc hlk ?_ ⟨D, hrg, h2, by omega⟩ hlt hgr hsz hen
  have hhas := Maps.has_true_of_atKey hat
  rw [(h2 x hs).1] at hhas
  obtain ⟨d, hd⟩ := Option.isSome_iff_exists.1 hhas
  have hd2 := (h2 x hs).2 d hd .nil
  rw [hat] at hd2
  injection hd2 with hd2
  rw [hd, keyL_inj (s := c) (t := d) hd2]
end
end Go.Proofs.YtbbiapgkcekabaaGreat

/-
  THE WALK OF cororef4.Try: an atom tried on a fact, with a map of what variables stand for.
-/
namespace Go.Proofs.YtbbiapgkcekabaaGreat
open Go.RowKit Go.Maps

/-- What Try answers. -/
def TryPost (a : PAtom) (f : PFact) (l : Binds) (n : Nat) (w : World) (e : Ending) (w' : World) : Prop :=
  Below w.heap.size w w' ∧ match meetP a f l with
    | none => e = .returned (.map none)
    | some m => ∃ b, e = .returned (.map (some b)) ∧ w.heap.size ≤ b ∧ MapE w' b (n + a.terms.length) (fun v => getB v m)
theorem try_none {a : PAtom} {f : PFact} {l : Binds} {n : Nat} {w w' : World} (h : meetP a f l = none) (hb : Below w.heap.size w w') : TryPost a f l n w (.returned (.map none)) w' := ⟨hb, by rw [h]⟩
theorem try_some {a : PAtom} {f : PFact} {l m : Binds} {n b : Nat} {w w' : World} (h : meetP a f l = some m) (hb : Below w.heap.size w w') (h1 : w.heap.size ≤ b) (h2 : MapE w' b (n + a.terms.length) (fun v => getB v m)) : TryPost a f l n w (.returned (.map (some b))) w' := ⟨hb, by rw [h]; exact ⟨b, rfl, h1, h2⟩⟩
theorem getB_snoc {v x : Str} {m : Binds} (h : getB v m = none) : (fun t => if t = v then some x else getB t m) = fun t => getB t (m ++ [⟨v, x⟩]) := funext fun t => by
  rw [getB_append]
  by_cases e : t = v
  · subst e
    rw [if_pos rfl, h]
    simp [getB]
  · rw [if_neg e]
    have : getB t [⟨v, x⟩] = none := getB_none.2 (by simp [Vs]; exact e)
    rw [this]
    cases getB t m <;> rfl
/-- What has been laid out of a map so far. -/
def taken (f : Str → Option Str) (left : Lit → Bool) : Str → Option Str := fun t => if left (keyL t) then none else f t
theorem taken_step {f : Str → Option Str} {left : Lit → Bool} {s c : Str} (h : f s = some c) : (fun t => if t = s then some c else taken f left t) = taken f (fun z => left z && !z.sameKey (keyL s)) := funext fun t => by
  unfold taken
  have hk : (left (keyL t) && !(keyL t).sameKey (keyL s)) = (left (keyL t) && decide (t ≠ s)) := struck_key left s t
  show (if t = s then some c else if left (keyL t) = true then none else f t) = if (left (keyL t) && !(keyL t).sameKey (keyL s)) = true then none else f t
  rw [hk]
  by_cases e : t = s
  · subst e; simp [h]
  · simp [e]
theorem taken_all {f : Str → Option Str} {left : Lit → Bool} (h : ∀ kl, left kl = false) : taken f left = f := funext fun t => by unfold taken; rw [h]; rfl
theorem taken_none {f : Str → Option Str} {left : Lit → Bool} (h : ∀ s : Str, s.size ≤ maxLen → left (keyL s) = (f s).isSome) (s : Str) (hs : s.size ≤ maxLen) : none = taken f left s := by
  unfold taken
  rw [h s hs]
  cases f s <;> rfl

set_option maxRecDepth 100000 in
set_option maxHeartbeats 8000000 in
theorem tryRef {S S2 : Nat → Prop} (a : PAtom) (tv : Value) (f : PFact) (fv : Value) (l : Binds) (b n : Nat) (w : World) (ht : RdTerms S w tv a.terms) (hf : RdStrs S2 w fv f.args) (he : MapE w b n (fun v => getB v l))
    (n1 : a.terms.length ≤ 1048576) (n2 : f.args.length ≤ 1048576) (n3 : n ≤ 1073741824) (s1 : ∀ t ∈ a.terms, t.name.size ≤ 1048576) (s2 : ∀ x ∈ f.args, x.size ≤ 1048576) :
    Calls Tryz.prog 89 #[.agg #[.bool a.neg, .string a.name, tv], .agg #[.string f.name, fv], .map (some b)] w (TryPost a f l n w) := by
  have hmm := @run_makeMap Tryz.prog
  obtain ⟨ta, tc, rfl, -, -, -⟩ := id ht.form
  obtain ⟨fa, fc, rfl, -, -, -⟩ := id hf.form
  have HT := Lib.hid ht
  have HF := Lib.hid hf
  have HM := Lib.hid he
  have S1 := Lib.hid s1
  have S2' := Lib.hid s2
  have hbl := he.lt
  clear ht hf he s1 s2
  obtain ⟨W0, hW0⟩ : ∃ W0 : World, (w.alloc (.cells #[.bool a.neg, .string a.name, .slice ta a.terms.length tc] 40)).alloc (.cells #[.string f.name, .slice fa f.args.length fc] 61) = W0 := ⟨_, rfl⟩
  have hB0 : Below w.heap.size w W0 := by subst hW0; exact ((Below.refl _ _).alloc (Nat.le_refl _) _).alloc (by simp) _
  obtain ⟨bo, hbo⟩ : ∃ bo, W0.heap.size = bo := ⟨_, rfl⟩
  have HS0 := Lib.hid (show bo = w.heap.size + 2 by rw [← hbo, ← hW0]; simp)
  have t0 : W0.cell? ⟨w.heap.size, 2, none⟩ = some (.slice ta a.terms.length tc) := by subst hW0; simp
  have t1 : W0.cell? ⟨w.heap.size + 1, 1, none⟩ = some (.slice fa f.args.length fc) := by subst hW0; simp
  have t2 : W0.cell? ⟨w.heap.size, 1, none⟩ = some (.string a.name) := by subst hW0; simp
  have t3 : W0.cell? ⟨w.heap.size + 1, 0, none⟩ = some (.string f.name) := by subst hW0; simp
  have HB0 := Lib.hid hB0
  clear hB0
  by_cases hn : a.name = f.name
  case neg =>
    have gz : (a.name.toList == f.name.toList) = false := by rw [beq_toList]; exact decide_eq_false hn
    have HE := Lib.hid (meetP_name (l := l) hn)
    clear hn
    go_enter Tryz.func89, Tryz.ntmps89
    go_wp2
    go_ret
    exact try_none HE.out HB0.out
  have gz : (a.name.toList == f.name.toList) = true := by rw [hn]; simp
  have HN := Lib.hid hn
  clear hn
  by_cases hq : a.terms.length = f.args.length
  case neg =>
    have i1 : ¬ (a.terms.length : Int) = (f.args.length : Int) := by omega
    have HE := Lib.hid (meetP_len (l := l) hq)
    clear hq
    go_enter Tryz.func89, Tryz.ntmps89
    go_wp2
    go_ret
    exact try_none HE.out HB0.out
  have HE := Lib.hid (show meetP a f l = meetL l a.terms f.args from if_pos ⟨HN.out, hq⟩)
  have HQ := Lib.hid hq
  have i1 : (a.terms.length : Int) = (f.args.length : Int) := by omega
  clear hq
  go_enter Tryz.func89, Tryz.ntmps89
  go_wp2_with (first
    | (at_range; refine wpList_range_E _ rfl _ rfl b n _ rfl ((HM.out.below HB0.out hbl).alloc _) ?_; intro w0 left cnt hrg0 hl0 hg0 hz0)
    | go_in)
  go_frame
  rw [hW0] at *
  have hs1 : (W0.alloc (.map #[] 0)).heap.size = bo + 1 := by simp [hbo]
  rw [hs1] at hrg0 hz0 ⊢
  have HM0 := Lib.hid (show MapE w0 bo 0 (taken (fun v => getB v l) left) by rw [← hbo]; exact (((MapE.made W0).kept hg0 (by simp)).like (taken_none hl0)))
  have HG0 := Lib.hid (((Below.refl bo W0).alloc (by omega) (.map #[] 0)).grown hg0 (by simp [hbo]) (fun j hj => by cases hj))
  have HR0 := Lib.hid hrg0
  have T0 := Lib.hid t0
  have T1 := Lib.hid t1
  clear hrg0 hg0 hl0 hs1 hz0 t0 t1 t2 t3 hmm
  go_loopw [8] (fun _ wr => ∃ left cnt m, m + cnt ≤ n ∧ Hid (RangeE wr b (bo + 1) n (fun v => getB v l) left cnt) ∧ Hid (MapE wr bo m (taken (fun v => getB v l) left)) ∧ Hid (Below bo W0 wr)) (fun _ wr => wr.rangeLeft b (bo + 1))
  case atStart => exact ⟨left, cnt, 0, by have := HR0.out.le; omega, HR0, HM0, HG0⟩
  case round =>
    clear HR0 HM0 HG0
    obtain ⟨left, cnt, m, hmc, HR, HO, HB⟩ := hrel
    have hsz : bo ≤ wr.heap.size := by rw [← hbo]; exact HB.out.size
    go_wp2_with (first
      | (at_next; refine wpList_next_E _ rfl _ rfl b (bo + 1) n _ left cnt rfl HR.out ?_ ?_)
      | go_in)
    · intro hd
      have HO1 := Lib.hid (show MapE wr bo n (fun v => getB v l) by have h := HO.out; rw [taken_all hd] at h; exact h.mono (by omega))
      have a2 := (cell_below HB.out (show w.heap.size < bo by have := HS0.out; omega) 2).trans T0.out
      have HBB := Lib.hid HB.out
      clear hd HR HO HB
      go_wp2
      clear a2
      go_loopw [43] (fun i wx => ∃ (k : Nat) (m : Binds), k ≤ a.terms.length ∧ i = .int .i64 k ∧ Hid (MapE wx bo (n + k) (fun v => getB v m)) ∧ Hid (Below bo W0 wx) ∧ Hid (meetP a f l = meetL m (a.terms.drop k) (f.args.drop k))) (fun i _ => a.terms.length - (intOf i).toNat)
      case atStart => exact ⟨0, l, Nat.zero_le _, rfl, HO1, HBB, Lib.hid (by rw [HE.out]; rfl)⟩
      case round =>
        clear HO1 HBB
        obtain ⟨k, m, hk, rfl, HO, HB, HMM⟩ := hrel
        have hsz : bo ≤ wr.heap.size := by rw [← hbo]; exact HB.out.size
        have HBw := Lib.hid (HB0.out.trans (HB.out.mono (by have := HS0.out; omega)))
        by_cases hlt : k < a.terms.length
        · obtain ⟨t, hx⟩ : ∃ t, a.terms[k]? = some t := ⟨_, List.getElem?_eq_getElem hlt⟩
          obtain ⟨z, hy⟩ : ∃ z, f.args[k]? = some z := ⟨_, List.getElem?_eq_getElem (by omega)⟩
          obtain ⟨b1, o1, rfl, -, -, d0, d1⟩ := RdTerms.at (HT.out.up HBw.out) hx
          obtain ⟨b2, o2, rfl, -, hb2, -⟩ := RdStrs.at HF.out hy
          have c2 : wr.cell? ⟨b2, o2 + k, none⟩ = some (.string z) := by
            obtain ⟨b3, o3, e3, -, -, h3⟩ := RdStrs.at (HF.out.up HBw.out) hy
            injection e3 with e3
            injection e3 with e3 e4 _
            rw [e3, e4]; exact h3
          have j2 : b2 < wr.heap.size := by have := HS0.out; omega
          have c1 := (cell_below HB.out (show w.heap.size + 1 < bo by have := HS0.out; omega) 1).trans T1.out
          have j1 : w.heap.size + 1 < wr.heap.size := by have := HS0.out; omega
          have i2 : (0 : Int) ≤ (k : Int) := by omega
          have i3 : (k : Int) < (f.args.length : Int) := by omega
          have hts : t.name.size ≤ maxLen := by have := S1.out t (List.mem_of_getElem? hx); unfold maxLen; omega
          have hzs : z.size ≤ maxLen := by have := S2'.out z (List.mem_of_getElem? hy); unfold maxLen; omega
          have HM0 := Lib.hid (show meetP a f l = meetL m (t :: a.terms.drop (k + 1)) (z :: f.args.drop (k + 1)) by rw [HMM.out, drop_cons hx, drop_cons hy])
          have hoa := HO.out.alloc (.cells #[.bool t.var, .string t.name] 104)
          have hba := HB.out.alloc hsz (.cells #[.bool t.var, .string t.name] 104)
          have HOA := Lib.hid hoa
          have HBA := Lib.hid hba
          clear hx hy HMM hoa hba
          cases htv : t.var
          · have hv : valT m t = some t.name := by unfold valT; rw [htv]; rfl
            rw [htv] at d0 HOA HBA
            by_cases hz : t.name = z
            · have gz2 : (t.name.toList == z.toList) = true := by rw [hz]; simp
              have HM1 := Lib.hid (HM0.out.trans (meetL_yes hv hz))
              have HO2 := Lib.hid (HOA.out.mono (show n + k ≤ n + (k + 1) by omega))
              clear hz hv htv HM0 HOA
              go_wp2
              go_roundw
              case rel => exact ⟨k + 1, m, by omega, by go_num, HO2, HBA, HM1⟩
              case measure => simp [intOf]; omega
            · have gz2 : (t.name.toList == z.toList) = false := by rw [beq_toList]; exact decide_eq_false hz
              have HR := Lib.hid (HM0.out.trans (meetL_no hv hz))
              clear hz hv htv HM0 HOA
              go_wp2
              go_ret
              exact try_none HR.out (HB0.out.trans (HBA.out.mono (by have := HS0.out; omega)))
          · have hv : valT m t = getB t.name m := by unfold valT; rw [htv]; rfl
            rw [htv] at d0 HOA HBA
            have hget := HOA.out.getOk hts
            cases hg : getB t.name m with
            | none =>
              rw [hg] at hget hv
              obtain ⟨w5, hput, hm5, hg5⟩ := HOA.out.put (s := t.name) (x := z) (by unfold maxLen; omega) hts hzs
              rw [getB_snoc hg] at hm5
              have HM1 := Lib.hid (HM0.out.trans (meetL_new hv))
              have HO5 := Lib.hid hm5
              have HB5 := Lib.hid (HBA.out.grown hg5 (by simp; omega) (fun j hj => by cases hj; exact Nat.le_refl _))
              have hq5 : ∀ c, c < wr.heap.size + 1 → c ≠ bo → ∀ o, w5.cell? ⟨c, o, none⟩ = (wr.alloc (.cells #[.bool true, .string t.name] 104)).cell? ⟨c, o, none⟩ := fun c hc hne o => by
                have := hg5.block c (by simp; omega) (fun e => hne (Option.some.inj e))
                simp only [World.cell?, this]
              have hbo := HO.out.lt
              have e1 : w5.cell? ⟨wr.heap.size, 1, none⟩ = some (.string t.name) := (hq5 wr.heap.size (by omega) (by omega) 1).trans (by simp)
              have e2 : w5.cell? ⟨w.heap.size + 1, 1, none⟩ = some (.slice (some ⟨b2, o2, none⟩) f.args.length fc) := (hq5 _ (by omega) (by have := HS0.out; omega) 1).trans ((cell_below ((Below.refl wr.heap.size wr).alloc (Nat.le_refl _) _) j1 1).trans c1)
              have e3 : w5.cell? ⟨b2, o2 + k, none⟩ = some (.string z) := (hq5 b2 (by omega) (by have := HS0.out; omega) (o2 + k)).trans ((cell_below ((Below.refl wr.heap.size wr).alloc (Nat.le_refl _) _) j2 (o2 + k)).trans c2)
              clear hq5 hg hv htv HM0 HOA hm5 hg5
              go_wp2
              go_roundw
              case rel => exact ⟨k + 1, _, by omega, by go_num, HO5, HB5, HM1⟩
              case measure => simp [intOf]; omega
            | some x =>
              rw [hg] at hget hv
              by_cases hz : x = z
              · have gz2 : (x.toList == z.toList) = true := by rw [hz]; simp
                have HM1 := Lib.hid (HM0.out.trans (meetL_yes hv hz))
                have HO2 := Lib.hid (HOA.out.mono (show n + k ≤ n + (k + 1) by omega))
                clear hz hv htv HM0 hg HOA
                go_wp2
                go_roundw
                case rel => exact ⟨k + 1, m, by omega, by go_num, HO2, HBA, HM1⟩
                case measure => simp [intOf]; omega
              · have gz2 : (x.toList == z.toList) = false := by rw [beq_toList]; exact decide_eq_false hz
                have HR := Lib.hid (HM0.out.trans (meetL_no hv hz))
                clear hz hv htv HM0 hg HOA
                go_wp2
                go_ret
                exact try_none HR.out (HB0.out.trans (HBA.out.mono (by have := HS0.out; omega)))
        · have HR := Lib.hid (show meetP a f l = some m by rw [HMM.out, List.drop_eq_nil_of_le (by omega)]; rfl)
          have hke : k = a.terms.length := by omega
          subst hke
          clear HMM
          go_wp2
          go_ret
          exact try_some HR.out HBw.out (by have := HS0.out; omega) HO.out
    · intro s x w1 cnt1 hss hxs hls hfs hrg1 hlt hg1 hz1 hen
      have HO1 := Lib.hid (HO.out.kept hg1 (by simp))
      have hB1 := HB.out.grown hg1 hsz (fun j hj => by cases hj; exact Nat.le_succ _)
      obtain ⟨w2, hput, hm2, hg2⟩ := HO1.out.put (s := s) (x := x) (by unfold maxLen; omega) hss hxs
      have hrg2 := hrg1.kept hg2 (fun e => by have := Option.some.inj e; have := HS0.out; omega) (fun e => by have := Option.some.inj e; omega)
      have HR2 := Lib.hid hrg2
      have HO2 := Lib.hid (show MapE w2 bo (m + 1) (taken (fun v => getB v l) (fun z => left z && !z.sameKey (keyL s))) by rw [← taken_step hfs]; exact hm2)
      have HB2 := Lib.hid (hB1.grown hg2 (by have := hB1.size; omega) (fun j hj => by cases hj; exact Nat.le_refl _))
      clear hls hfs hrg1 hg1 hm2 hg2 hB1 HO1 hss hxs hrg2
      go_wp2
      go_roundw
      case rel => exact ⟨_, cnt1, m + 1, by omega, HR2, HO2, HB2⟩
      case measure => rw [HR2.out.left_eq, HR.out.left_eq]; exact hlt
end Go.Proofs.YtbbiapgkcekabaaGreat

/-
  THE WALK OF cororef4.Fill.
-/
namespace Go.Proofs.YtbbiapgkcekabaaGreat
open Go.RowKit Go.Maps

attribute [local go_sem ↓] Go.wp_at_zero Go.wp_at_succ
set_option maxRecDepth 100000 in
set_option maxHeartbeats 8000000 in
theorem fillRef {S : Nat → Prop} (a : PAtom) (tv : Value) (l : Binds) (b n : Nat) (w : World) (ht : RdTerms S w tv a.terms) (he : MapE w b n (fun v => getB v l)) (n1 : a.terms.length ≤ 1048576) (s1 : ∀ t ∈ a.terms, t.name.size ≤ 1048576) :
    Calls Tryz.prog 90 #[.agg #[.bool a.neg, .string a.name, tv], .map (some b)] w (FillPost a l w) := by
  obtain ⟨ta, tc, rfl, -, -, -⟩ := id ht.form
  have HT := Lib.hid ht
  have HM := Lib.hid he
  have S1 := Lib.hid s1
  have hbl := he.lt
  clear ht he s1
  go_enter Tryz.func90, Tryz.ntmps90
  go_wp2
  have HB0 := Lib.hid ((((Below.refl w.heap.size w).alloc (Nat.le_refl _) (.cells #[.bool a.neg, .string a.name, .slice ta a.terms.length tc] 40)).alloc (by simp) (.cells #[.string ⟨#[]⟩, .slice none 0 0] 61)).alloc (by simp; omega) (.cells #[.string a.name, .slice none 0 0] 61))
  have HK1 := Lib.hid (((show Blk ((w.alloc (.cells #[.bool a.neg, .string a.name, .slice ta a.terms.length tc] 40)).alloc (.cells #[.string ⟨#[]⟩, .slice none 0 0] 61)) (w.heap.size + 1) 61 #[.string ⟨#[]⟩, .slice none 0 0] from heap_new_at (by simp)).alloc (.cells #[.string a.name, .slice none 0 0] 61)))
  have HK2 := Lib.hid (show Blk (((w.alloc (.cells #[.bool a.neg, .string a.name, .slice ta a.terms.length tc] 40)).alloc (.cells #[.string ⟨#[]⟩, .slice none 0 0] 61)).alloc (.cells #[.string a.name, .slice none 0 0] 61)) (w.heap.size + 1 + 1) 61 #[.string a.name, .slice none 0 0] from heap_new_at (by simp))
  go_loopw [17] (fun i wr => ∃ (k : Nat) (ns : List Str) (av : Value), k ≤ a.terms.length ∧ i = .int .i64 k ∧ Hid (Below w.heap.size w wr) ∧ Hid (fillArgs l (a.terms.take k) = some ns) ∧ Hid (Blk wr (w.heap.size + 1) 61 #[.string ⟨#[]⟩, .slice none 0 0]) ∧ Hid (Blk wr (w.heap.size + 1 + 1) 61 #[.string a.name, av]) ∧ Hid (Owned 1 RStr (w.heap.size + 3) 9 (fun _ => False) wr av ns)) (fun i _ => a.terms.length - (intOf i).toNat)
  case atStart => exact ⟨0, [], _, Nat.zero_le _, rfl, HB0, Lib.hid (by rw [List.take_zero]; rfl), HK1, HK2, Lib.hid Owned.nil⟩
  case round =>
    clear HB0 HK1 HK2
    obtain ⟨k, ns, av, hk, rfl, HB, HF, HK1, HK2, HO⟩ := hrel
    obtain ⟨aa, ac, efm, -, -, -⟩ := (HO.out.read RStr.steady).form
    subst efm
    have HNL := Lib.hid (show ns.length < 1099511627776 by have := fillArgs_len HF.out; rw [List.length_take] at this; omega)
    have hsz : w.heap.size + 3 ≤ wr.heap.size := by have := HK2.out.lt; omega
    by_cases hlt : k < a.terms.length
    · obtain ⟨t, hx⟩ : ∃ t, a.terms[k]? = some t := ⟨_, List.getElem?_eq_getElem hlt⟩
      obtain ⟨b1, o1, rfl, -, -, d0, d1⟩ := RdTerms.at (HT.out.up HB.out) hx
      have HS := Lib.hid (fun n (hv : valT l t = some n) => (show fillArgs l (a.terms.take (k + 1)) = some (ns ++ [n]) by rw [List.take_add_one, hx]; exact fillArgs_snoc hv HF.out))
      have HNO := Lib.hid (fun (hv : valT l t = none) => (show fillP a l = none by unfold fillP; rw [fillArgs_none hv (List.mem_of_getElem? hx)]; rfl))
      obtain ⟨W1, hW1⟩ : ∃ W1 : World, wr.alloc (.cells #[.bool t.var, .string t.name] 104) = W1 := ⟨_, rfl⟩
      have hs1 : W1.heap.size = wr.heap.size + 1 := by subst hW1; simp
      have hbx : Below wr.heap.size wr W1 := by subst hW1; exact (Below.refl _ _).alloc (Nat.le_refl _) _
      have HB1 := Lib.hid (HB.out.trans (hbx.mono HB.out.size))
      have HO1 := Lib.hid (HO.out.below RStr.steady hbx)
      have HK11 := Lib.hid (HK1.out.below hbx (by omega))
      have HK21 := Lib.hid (HK2.out.below hbx (by omega))
      have hts : t.name.size ≤ maxLen := by have := S1.out t (List.mem_of_getElem? hx); unfold maxLen; omega
      have hget := (HM.out.below HB1.out hbl).getOk hts
      have e1 : W1.cell? ⟨wr.heap.size, 1, none⟩ = some (.string t.name) := by subst hW1; simp
      have e0 : W1.cell? ⟨wr.heap.size, 0, none⟩ = some (.bool t.var) := by subst hW1; simp
      have hne : wr.heap.size ≠ w.heap.size + 1 + 1 := by omega
      clear hx hbx HB HO HK1 HK2
      cases htv : t.var
      · have hv : valT l t = some t.name := by unfold valT; rw [htv]; rfl
        have HF1 := Lib.hid (HS.out _ hv)
        rw [htv] at d0 hW1 e0
        clear hv htv HNO hget
        have g1 : W1.cell? ⟨w.heap.size + 1 + 1, 1, none⟩ = some (.slice aa ns.length ac) := HK21.out.cell 1
        go_wp2_with (at_builtin; refine wpList_append_one (B := w.heap.size + 3) (e := 9) (S := fun _ => False) (by rfl) _ _ 59 (by rfl) RStr.steady rowStrs _ ns (by rfl) (HO1.out.alloc RStr.steady _) (wr.heap.size + 1) 1 #[.string t.name] 9 (0, 0) t.name (by rfl) (heap_new_at hs1) rfl (by simp [Value.oneCell']) rfl HNL.out (by simp; omega) ?_; intro v2 w2 hown2 hg2 hat2; obtain ⟨a2, c2, rfl, -, -, -⟩ := id (hown2.read RStr.steady).form; rw [show (ns ++ [t.name]).length = ns.length + 1 by simp] at hown2; have HO2 := Lib.hid hown2; have HB2 := Lib.hid ((HB1.out.alloc (by have := HB1.out.size; omega) _).grown hg2 (by have := HB1.out.size; simp; omega) (fun q hq => by have := (HO1.out.row_lt hq).1; omega)); have HK12 := Lib.hid ((HK11.out.alloc _).grown hg2 (fun e => by have := (HO1.out.row_lt e.symm).1; omega)); have HK22 := Lib.hid ((HK21.out.alloc _).grown hg2 (fun e => by have := (HO1.out.row_lt e.symm).1; omega)); have g2 : w2.cell? ⟨w.heap.size + 1 + 1, 1, none⟩ = some (.slice aa ns.length ac) := HK22.out.cell 1; have x2 := HK22.out.frozen 1; clear hown2 hg2 hat2)
        have hcs : (2 : Nat) ≠ 1 := by omega
        go_roundw
        case rel => exact ⟨k + 1, _, _, by omega, by go_num, Lib.hid (HB2.out.setCell (by show w.heap.size ≤ w.heap.size + 1 + 1; omega) _), HF1, Lib.hid (HK12.out.far (p := ⟨w.heap.size + 1 + 1, 1, none⟩) (by show w.heap.size + 1 ≠ w.heap.size + 1 + 1; omega) _), Lib.hid (HK22.out.set_ 1 _), Lib.hid (HO2.out.setCell RStr.steady (p := ⟨w.heap.size + 1 + 1, 1, none⟩) (fun h => h) (fun e => by have := (HO2.out.row_lt e).1; have h2 : w.heap.size + 3 ≤ w.heap.size + 1 + 1 := this; omega) _)⟩
        case measure => simp [intOf]; omega
      · have hv : valT l t = getB t.name l := by unfold valT; rw [htv]; rfl
        rw [htv] at d0 hW1 e0
        clear htv
        cases hg : getB t.name l with
        | none =>
          rw [hg] at hget hv
          have HE := Lib.hid (HNO.out hv)
          clear hg hv HS HNO
          have z0 : W1.cell? ⟨w.heap.size + 1, 0, none⟩ = some (.string ⟨#[]⟩) := HK11.out.cell 0
          have z1 : W1.cell? ⟨w.heap.size + 1, 1, none⟩ = some (.slice none 0 0) := HK11.out.cell 1
          have x0 := HK11.out.frozen 0; have x1 := HK11.out.frozen 1
          have g1 : W1.cell? ⟨w.heap.size + 1 + 1, 1, none⟩ = some (.slice aa ns.length ac) := HK21.out.cell 1
          go_wp2
          refine bodyPost_ret (v := .tuple #[.agg #[.string ⟨#[]⟩, .slice none 0 0], .bool false]) (by simp [results, Tryz.results90, go_sem, z0, z1]) rfl ?_
          exact fill_no HE.out ((HB1.out.setCell (by show w.heap.size ≤ w.heap.size + 1; omega) _).setCell (by show w.heap.size ≤ w.heap.size + 1; omega) _)
        | some x =>
          rw [hg] at hget hv
          have HF1 := Lib.hid (HS.out _ hv)
          clear hg hv HS HNO
          have g1 : W1.cell? ⟨w.heap.size + 1 + 1, 1, none⟩ = some (.slice aa ns.length ac) := HK21.out.cell 1
          go_wp2_with (at_builtin; refine wpList_append_one (B := w.heap.size + 3) (e := 9) (S := fun _ => False) (by rfl) _ _ 59 (by rfl) RStr.steady rowStrs _ ns (by rfl) (HO1.out.alloc RStr.steady _) (wr.heap.size + 1) 1 #[.string x] 9 (0, 0) x (by rfl) (heap_new_at hs1) rfl (by simp [Value.oneCell']) rfl HNL.out (by simp; omega) ?_; intro v2 w2 hown2 hg2 hat2; obtain ⟨a2, c2, rfl, -, -, -⟩ := id (hown2.read RStr.steady).form; rw [show (ns ++ [x]).length = ns.length + 1 by simp] at hown2; have HO2 := Lib.hid hown2; have HB2 := Lib.hid ((HB1.out.alloc (by have := HB1.out.size; omega) _).grown hg2 (by have := HB1.out.size; simp; omega) (fun q hq => by have := (HO1.out.row_lt hq).1; omega)); have HK12 := Lib.hid ((HK11.out.alloc _).grown hg2 (fun e => by have := (HO1.out.row_lt e.symm).1; omega)); have HK22 := Lib.hid ((HK21.out.alloc _).grown hg2 (fun e => by have := (HO1.out.row_lt e.symm).1; omega)); have g2 : w2.cell? ⟨w.heap.size + 1 + 1, 1, none⟩ = some (.slice aa ns.length ac) := HK22.out.cell 1; have x2 := HK22.out.frozen 1; clear hown2 hg2 hat2)
          go_roundw
          case rel => exact ⟨k + 1, _, _, by omega, by go_num, Lib.hid (HB2.out.setCell (by show w.heap.size ≤ w.heap.size + 1 + 1; omega) _), HF1, Lib.hid (HK12.out.far (p := ⟨w.heap.size + 1 + 1, 1, none⟩) (by show w.heap.size + 1 ≠ w.heap.size + 1 + 1; omega) _), Lib.hid (HK22.out.set_ 1 _), Lib.hid (HO2.out.setCell RStr.steady (p := ⟨w.heap.size + 1 + 1, 1, none⟩) (fun h => h) (fun e => by have := (HO2.out.row_lt e).1; have h2 : w.heap.size + 3 ≤ w.heap.size + 1 + 1 := this; omega) _)⟩
          case measure => simp [intOf]; omega
    · have HA := Lib.hid (show fillArgs l a.terms = some ns by have := HF.out; rwa [List.take_of_length_le (by omega)] at this)
      have z0 : wr.cell? ⟨w.heap.size + 1, 0, none⟩ = some (.string ⟨#[]⟩) := HK1.out.cell 0
      have z1 : wr.cell? ⟨w.heap.size + 1, 1, none⟩ = some (.slice none 0 0) := HK1.out.cell 1
      have x0 := HK1.out.frozen 0
      have x1 := HK1.out.frozen 1
      have y0 : wr.cell? ⟨w.heap.size + 1 + 1, 0, none⟩ = some (.string a.name) := HK2.out.cell 0
      have y1 : wr.cell? ⟨w.heap.size + 1 + 1, 1, none⟩ = some (.slice aa ns.length ac) := HK2.out.cell 1
      go_wp2
      refine bodyPost_ret (v := .tuple #[.agg #[.string a.name, .slice aa ns.length ac], .bool true]) (by simp [results, Tryz.results90, go_sem, z0, z1]) rfl ?_
      refine fill_yes HA.out ((HB.out.setCell (by show w.heap.size ≤ w.heap.size + 1; omega) _).setCell (by show w.heap.size ≤ w.heap.size + 1; omega) _) ?_
      have hno : ∀ i : Nat, (Value.slice aa ns.length ac).ownBlock ≠ some (⟨w.heap.size + 1, i, none⟩ : Addr).block := fun i e => by have := (HO.out.row_lt e).1; have h2 : w.heap.size + 3 ≤ w.heap.size + 1 := this; omega
      exact (((HO.out.setCell RStr.steady (fun h => h) (hno 0) _).setCell RStr.steady (fun h => h) (hno 1) _).read RStr.steady).more RStr.steady (fun b hb _ => hb.elim False.elim (fun h => by show w.heap.size ≤ b; omega))
end Go.Proofs.YtbbiapgkcekabaaGreat
