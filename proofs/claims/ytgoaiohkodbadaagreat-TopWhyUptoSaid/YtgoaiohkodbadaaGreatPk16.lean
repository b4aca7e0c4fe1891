/-
  THE TEXTS ProofP, TopF, TopNets, one behind the other.
-/
import Derived.Test.YtgoaiohkodbadaaGreatPk10
import Derived.Test.YtgoaiohkodbadaaGreatPk14
import Derived.Test.YtgoaiohkodbadaaGreatPk15
import Derived.Deep.WholeRow
/-
  PLAIN: proofs, how great they are, and what is wrong with one (chapter 7).
-/
namespace Go.Proofs.YtgoaiohkodbadaaGreat

inductive PProof where
  | mk (fact : PFact) (rule : Int) (kids : List PProof)
def PProof.fact : PProof → PFact := fun x => match x with | .mk f _ _ => f
def PProof.rule : PProof → Int := fun x => match x with | .mk _ r _ => r
def PProof.kids : PProof → List PProof := fun x => match x with | .mk _ _ k => k

/-- How many proofs one has in all, how deep they are: of proofs no deeper than n. -/
def cntN : Nat → PProof → Nat
  | 0, _ => 0
  | n + 1, x => 1 + (x.kids.map (cntN n)).sum
def depN : Nat → PProof → Nat
  | 0, _ => 0
  | n + 1, x => (x.kids.map (depN n)).foldl max 0 + 1
/-- The body's atoms that must be so, met by facts one behind the other. -/
def bodyMeet : List PAtom → List PFact → Binds → Binds × List PFact × Int
  | [], ks, b => (b, ks, 0)
  | a :: l, ks, b => if a.neg then bodyMeet l ks b else match ks with
    | [] => (b, [], 5)
    | f :: ks => match meetP a f b with
      | none => (b, ks, 8)
      | some m => bodyMeet l ks m
/-- Must not be so, and is. -/
def badNeg (M : List PFact) (b : Binds) (a : PAtom) : Bool := a.neg && (match fillP a b with
  | none => true
  | some f => memF f M)
def firstErr (f : PProof → Int) : List PProof → Int
  | [] => 0
  | x :: l => if f x ≠ 0 then f x else firstErr f l
def leafBad (told : List PFact) (x : PProof) : Int := if x.rule ≠ -1 ∨ x.kids ≠ [] ∨ memF x.fact told = false then 6 else 0
def ruleOf (r : PRule) (M : List PFact) (x : PProof) : Int := match meetP r.head x.fact [] with
  | none => 8
  | some b => if (bodyMeet r.body (x.kids.map PProof.fact) b).2.2 ≠ 0 then (bodyMeet r.body (x.kids.map PProof.fact) b).2.2
    else if (bodyMeet r.body (x.kids.map PProof.fact) b).2.1 ≠ [] then 5
    else if r.body.any (badNeg M (bodyMeet r.body (x.kids.map PProof.fact) b).1) then 10 else 0
/-- (*checker).one, of proofs no deeper than n. -/
def oneN (p : List PRule) (told M : List PFact) : Nat → PProof → Int
  | 0, _ => 6
  | n + 1, x => if x.rule < 0 then leafBad told x else match p[x.rule.toNat]? with
    | none => 1
    | some r => if ruleOf r M x ≠ 0 then ruleOf r M x else firstErr (oneN p told M n) x.kids
/-- proof.Check, of proofs no deeper than n. -/
def checkN (st : List Int) (q : Int) (p : List PRule) (told : List PFact) (n : Nat) (x : PProof) : Int :=
  if (naiveP st q p told).2 ≠ 0 then (naiveP st q p told).2 else if 400 < cntN n x ∨ 60 < depN n x then 4 else oneN p told (naiveP st q p told).1 n x

theorem firstErr_zero {f : PProof → Int} : ∀ {l : List PProof}, firstErr f l = 0 → ∀ x ∈ l, f x = 0
  | [], _, x, hx => by simp at hx
  | y :: l, h, x, hx => by
    rw [firstErr] at h
    by_cases hy : f y = 0
    · rw [if_neg (by simpa using hy)] at h
      rcases List.mem_cons.1 hx with rfl | hx
      · exact hy
      · exact firstErr_zero h x hx
    · rw [if_pos hy] at h; exact absurd h hy
theorem fillArgs_congr {l m : Binds} : ∀ {ts : List PTerm}, (∀ t ∈ ts, t.var = true → getB t.name l = getB t.name m) → fillArgs l ts = fillArgs m ts
  | [], _ => rfl
  | t :: ts, h => by
    have h1 : valT l t = valT m t := by
      unfold valT
      by_cases ht : t.var = true
      · rw [if_pos ht, if_pos ht, h t (by simp) ht]
      · rw [if_neg ht, if_neg ht]
    rw [fillArgs, fillArgs, h1, fillArgs_congr (ts := ts) fun t ht => h t (by simp [ht])]
theorem fillP_congr {l m : Binds} {a : PAtom} (h : ∀ v ∈ varsOf a, getB v l = getB v m) : fillP a l = fillP a m := by
  unfold fillP
  rw [fillArgs_congr fun t ht hv => h t.name ((mem_varsOf t.name a).2 ⟨t, ht, hv, rfl⟩)]
theorem fillP_vars {l : Binds} {a : PAtom} {f : PFact} (h : fillP a l = some f) : ∀ v ∈ varsOf a, v ∈ Vs l := fun v hv => by
  obtain ⟨t, ht, hvar, rfl⟩ := (mem_varsOf v a).1 hv
  exact fillArgs_vars (fillP_name h).2 t ht hvar
theorem nd_filter {l : Binds} (h : Nd l) (q : PBind → Bool) : Nd (l.filter q) := by unfold Nd Vs at *; exact (List.Sublist.map _ List.filter_sublist).nodup h
theorem getB_filter {l : Binds} (h : Nd l) {q : Str → Bool} {v : Str} (hv : q v = true) : getB v (l.filter fun z => q z.var) = getB v l := by
  cases hg : getB v l with
  | none =>
    rw [getB_none] at hg ⊢
    intro hm
    obtain ⟨z, hz, rfl⟩ := List.mem_map.1 hm
    exact hg (List.mem_map.2 ⟨z, (List.mem_filter.1 hz).1, rfl⟩)
  | some n => exact getB_of_mem (nd_filter h _) (List.mem_filter.2 ⟨getB_mem hg, hv⟩)
/-- A rule makes what its head is with any binds with which its body is so. -/
theorem derives_of {r : PRule} {O : List PFact} {x : PFact} {b : Binds} (hR : ruleBad r = 0) (hd : Nd b) (hp : ∀ a ∈ r.body, ∃ f, fillP a b = some f ∧ memF f O = !a.neg) (hh : fillP r.head b = some x) : Derives r O x := by
  let q : Str → Bool := fun v => r.body.any fun a => decide (v ∈ varsOf a)
  have hq : ∀ v, q v = true ↔ ∃ a ∈ r.body, v ∈ varsOf a := fun v => by simp [q]
  have hb : ∀ a ∈ r.body, fillP a (ofC cmpBind (b.filter fun z => q z.var)) = fillP a b := fun a ha => fillP_congr fun v hv => by
    rw [getB_ofC (nd_filter hd _), getB_filter hd ((hq v).2 ⟨a, ha, hv⟩)]
  refine ⟨ofC cmpBind (b.filter fun z => q z.var), ⟨ofC_rising cmpBind3 _, nd_ofC (nd_filter hd _), fun v => ?_, fun j a ha => ?_⟩, ?_⟩
  · rw [vs_ofC]
    constructor
    · intro hm
      obtain ⟨z, hz, rfl⟩ := List.mem_map.1 hm
      exact (hq _).1 (List.mem_filter.1 hz).2
    · rintro ⟨a, ha, hv⟩
      obtain ⟨f, hf, -⟩ := hp a ha
      obtain ⟨z, hz, rfl⟩ := List.mem_map.1 (fillP_vars hf v hv)
      exact List.mem_map.2 ⟨z, List.mem_filter.2 ⟨hz, (hq _).2 ⟨a, ha, hv⟩⟩, rfl⟩
  · obtain ⟨f, h1, h2⟩ := hp a (List.mem_of_getElem? ha)
    exact ⟨f, by rw [hb a (List.mem_of_getElem? ha)]; exact h1, h2⟩
  · rw [← hh]
    exact fillP_congr fun v hv => by
      obtain ⟨a, ha, hva⟩ := (ruleBad_zero hR).2.2.2 v hv
      rw [getB_ofC (nd_filter hd _), getB_filter hd ((hq v).2 ⟨a, ha, hva⟩)]
theorem meetP_spec {a : PAtom} {f : PFact} {l m : Binds} (hd : Nd l) (h : meetP a f l = some m) : SubB l m ∧ Nd m ∧ fillP a m = some f := by
  unfold meetP at h
  split at h
  · rename_i hc
    obtain ⟨h1, h2, h3, -⟩ := meetL_spec a.terms f.args l m hc.2 hd h
    refine ⟨h2, h1, ?_⟩
    unfold fillP
    rw [h3, hc.1]
    rfl
  · cases h
theorem bodyMeet_cons (a : PAtom) (l : List PAtom) (ks : List PFact) (b : Binds) : bodyMeet (a :: l) ks b = if a.neg then bodyMeet l ks b else match ks with
    | [] => (b, [], 5)
    | f :: ks => match meetP a f b with
      | none => (b, ks, 8)
      | some m => bodyMeet l ks m := by cases ks <;> rfl
theorem bodyMeet_spec : ∀ (body : List PAtom) (ks : List PFact) (b : Binds), Nd b → (bodyMeet body ks b).2.2 = 0 → (bodyMeet body ks b).2.1 = [] →
    SubB b (bodyMeet body ks b).1 ∧ Nd (bodyMeet body ks b).1 ∧ ∀ a ∈ body, a.neg = false → ∃ f ∈ ks, fillP a (bodyMeet body ks b).1 = some f
  | [], ks, b, hd, _, _ => ⟨fun v n h => h, hd, fun a ha => by simp at ha⟩
  | a :: l, ks, b, hd, h0, h1 => by
    rw [bodyMeet_cons] at h0 h1 ⊢
    by_cases hn : a.neg = true
    · rw [if_pos hn] at h0 h1 ⊢
      obtain ⟨i1, i2, i3⟩ := bodyMeet_spec l ks b hd h0 h1
      refine ⟨i1, i2, fun y hy hny => ?_⟩
      rcases List.mem_cons.1 hy with rfl | hy
      · rw [hn] at hny; cases hny
      · exact i3 y hy hny
    · rw [if_neg hn] at h0 h1 ⊢
      cases ks with
      | nil => exact absurd h0 (show (5 : Int) ≠ 0 by decide)
      | cons f ks =>
        dsimp only at h0 h1 ⊢
        cases hm : meetP a f b with
        | none => rw [hm] at h0; exact absurd h0 (show (8 : Int) ≠ 0 by decide)
        | some m =>
          rw [hm] at h0 h1
          dsimp only at h0 h1 ⊢
          obtain ⟨j1, j2, j3⟩ := meetP_spec hd hm
          obtain ⟨i1, i2, i3⟩ := bodyMeet_spec l ks m j2 h0 h1
          refine ⟨j1.trans i1, i2, fun y hy hny => ?_⟩
          rcases List.mem_cons.1 hy with rfl | hy
          · exact ⟨f, by simp, i1.fillP j3⟩
          · obtain ⟨g, hg, hf⟩ := i3 y hy hny
            exact ⟨g, by simp [hg], hf⟩
theorem one_sound {p : List PRule} {told M : List PFact} (hF : Follows p told M) (hR : ∀ r ∈ p, ruleBad r = 0) : ∀ (n : Nat) (x : PProof), oneN p told M n x = 0 → x.fact ∈ M
  | 0, x, h => absurd h (show (6 : Int) ≠ 0 by decide)
  | n + 1, x, h => by
    rw [oneN] at h
    by_cases hr : x.rule < 0
    · rw [if_pos hr] at h
      unfold leafBad at h
      split at h
      · exact absurd h (by decide)
      · rename_i hc
        refine hF.sub _ ((memF_iff x.fact told).1 ?_)
        cases hm : memF x.fact told
        · exact absurd (.inr (.inr hm)) hc
        · rfl
    · rw [if_neg hr] at h
      cases hp : p[x.rule.toNat]? with
      | none => rw [hp] at h; exact absurd h (show (1 : Int) ≠ 0 by decide)
      | some r =>
        rw [hp] at h
        dsimp only at h
        have hrp : r ∈ p := List.mem_of_getElem? hp
        by_cases h1 : ruleOf r M x = 0
        case neg => rw [if_pos h1] at h; exact absurd h h1
        rw [if_neg (by simpa using h1)] at h
        have hk := firstErr_zero h
        unfold ruleOf at h1
        cases hm : meetP r.head x.fact [] with
        | none => rw [hm] at h1; exact absurd h1 (show (8 : Int) ≠ 0 by decide)
        | some b =>
          rw [hm] at h1
          dsimp only at h1
          split at h1
          · rename_i hc; exact absurd h1 hc
          · rename_i hc0
            split at h1
            · exact absurd h1 (by decide)
            · rename_i hc1
              split at h1
              · exact absurd h1 (by decide)
              · rename_i hc2
                obtain ⟨j1, j2, j3⟩ := meetP_spec (by simp [Nd, Vs]) hm
                obtain ⟨i1, i2, i3⟩ := bodyMeet_spec r.body _ b j2 (Classical.not_not.1 hc0) (Classical.not_not.1 hc1)
                refine hF.closed r hrp x.fact (derives_of (hR r hrp) i2 (fun a ha => ?_) (i1.fillP j3))
                by_cases hn : a.neg = true
                · rw [Bool.not_eq_true, List.any_eq_false] at hc2
                  have h2 := hc2 a ha
                  unfold badNeg at h2
                  rw [hn, Bool.true_and] at h2
                  cases hf : fillP a (bodyMeet r.body (x.kids.map PProof.fact) b).1 with
                  | none => rw [hf] at h2; exact absurd rfl h2
                  | some f =>
                    rw [hf] at h2
                    refine ⟨f, rfl, ?_⟩
                    rw [hn]
                    simpa using h2
                · have hn' : a.neg = false := by simpa using hn
                  obtain ⟨f, hf, he⟩ := i3 a ha hn'
                  obtain ⟨k, hk1, rfl⟩ := List.mem_map.1 hf
                  refine ⟨_, he, ?_⟩
                  rw [hn', (memF_iff _ _).2 (one_sound hF hR n k (hk k hk1))]
                  rfl
end Go.Proofs.YtgoaiohkodbadaaGreat

/-
  PLAIN: roads and towns: what follows of them (the whole).
-/
namespace Go.Proofs.YtgoaiohkodbadaaGreat

def roadF (a b : Nat) : PFact := ⟨xroad, [tn a, tn b]⟩
def wayF (a b : Nat) : PFact := ⟨xway, [tn a, tn b]⟩
def cutF (a b : Nat) : PFact := ⟨xcut, [tn a, tn b]⟩
def townF (a : Nat) : PFact := ⟨xtown, [tn a]⟩
def netL (n : Nat) (ps : List (Nat × Nat)) : List PFact := ofF (ps.map (fun p => roadF p.1 p.2) ++ (List.range n).map townF)
def waysL (N : Nat) (ps : List (Nat × Nat)) : List PFact := (List.range N).flatMap fun a => ((List.range N).filter fun c => reachK ps N N a c).map (wayF a)
def cutsL (n : Nat) : List PFact := (List.range n).flatMap fun a => (List.range n).map (cutF a)
/-- Whatever may follow. -/
def netU (n N : Nat) (ps : List (Nat × Nat)) : List PFact := netL n ps ++ (waysL N ps ++ cutsL n)
structure NetOk (n N : Nat) (ps : List (Nat × Nat)) : Prop where
  towns : n ≤ 6
  sub : n ≤ N
  nodes : N ≤ 8
  inside : ∀ p ∈ ps, p.1 < N ∧ p.2 < N
  few : ps.length ≤ 13
theorem tn_all : ((List.range 8).all fun a => (List.range 8).all fun b => decide (tn a = tn b → a = b)) = true := by decide +kernel
theorem tn_inj {a b : Nat} (ha : a < 8) (hb : b < 8) (h : tn a = tn b) : a = b := of_decide_eq_true (List.all_eq_true.1 (List.all_eq_true.1 tn_all a (List.mem_range.2 ha)) b (List.mem_range.2 hb)) h
theorem tn_named : ((List.range 8).all fun a => named (tn a)) = true := by decide +kernel
theorem named_tn {a : Nat} (ha : a < 8) : named (tn a) = true := List.all_eq_true.1 tn_named a (List.mem_range.2 ha)
theorem names_ne : xroad ≠ xway ∧ xroad ≠ xcut ∧ xroad ≠ xtown ∧ xway ≠ xcut ∧ xway ≠ xtown ∧ xcut ≠ xtown := by decide +kernel
theorem vars_ne : xX ≠ xY ∧ xX ≠ xZ ∧ xY ≠ xZ := by decide +kernel
def rR0 : PRule := ⟨⟨false, xway, [⟨true, xX⟩, ⟨true, xY⟩]⟩, [⟨false, xroad, [⟨true, xX⟩, ⟨true, xY⟩]⟩]⟩
def rR1 : PRule := ⟨⟨false, xway, [⟨true, xX⟩, ⟨true, xZ⟩]⟩, [⟨false, xway, [⟨true, xX⟩, ⟨true, xY⟩]⟩, ⟨false, xroad, [⟨true, xY⟩, ⟨true, xZ⟩]⟩]⟩
def rR2 : PRule := ⟨⟨false, xcut, [⟨true, xX⟩, ⟨true, xY⟩]⟩, [⟨false, xtown, [⟨true, xX⟩]⟩, ⟨false, xtown, [⟨true, xY⟩]⟩, ⟨true, xway, [⟨true, xX⟩, ⟨true, xY⟩]⟩]⟩
theorem roads_is : roadsP = [rR0, rR1, rR2] := rfl
theorem fill2 {ng : Bool} {nm v1 v2 : Str} {m : Binds} {f : PFact} : fillP ⟨ng, nm, [⟨true, v1⟩, ⟨true, v2⟩]⟩ m = some f ↔ ∃ u v, getB v1 m = some u ∧ getB v2 m = some v ∧ f = ⟨nm, [u, v]⟩ := by
  unfold fillP fillArgs valT
  simp only [if_true]
  cases getB v1 m with
  | none => simp
  | some u =>
    unfold fillArgs valT
    simp only [if_true]
    cases getB v2 m with
    | none => simp
    | some v => simp [fillArgs, eq_comm]
theorem fill1 {ng : Bool} {nm v1 : Str} {m : Binds} {f : PFact} : fillP ⟨ng, nm, [⟨true, v1⟩]⟩ m = some f ↔ ∃ u, getB v1 m = some u ∧ f = ⟨nm, [u]⟩ := by
  unfold fillP fillArgs valT
  simp only [if_true]
  cases getB v1 m with
  | none => simp
  | some u => simp [fillArgs, eq_comm]
theorem roads_rules : ∀ r ∈ roadsP, ruleBad r = 0 ∧ posN r.body ≤ 2 := fun r hr => of_decide_eq_true (List.all_eq_true.1 (show roadsP.all (fun r => decide (ruleBad r = 0 ∧ posN r.body ≤ 2)) = true by decide +kernel) r hr)
theorem nd2 (u v : Str) : Nd [⟨xX, u⟩, ⟨xY, v⟩] := by unfold Nd Vs; simp [vars_ne.1]
theorem nd3 (u v z : Str) : Nd [⟨xX, u⟩, ⟨xY, v⟩, ⟨xZ, z⟩] := by unfold Nd Vs; simp [vars_ne.1, vars_ne.2.1, vars_ne.2.2]
theorem der0 {O : List PFact} {x : PFact} : Derives rR0 O x ↔ ∃ u v, ⟨xroad, [u, v]⟩ ∈ O ∧ x = ⟨xway, [u, v]⟩ := by
  constructor
  · rintro ⟨m, ⟨-, -, -, t4⟩, hf⟩
    obtain ⟨f, h1, h2⟩ := t4 0 _ rfl
    obtain ⟨u, v, g1, g2, rfl⟩ := fill2.1 h1
    obtain ⟨u', v', k1, k2, rfl⟩ := fill2.1 hf
    rw [g1] at k1; rw [g2] at k2
    obtain rfl := Option.some.inj k1
    obtain rfl := Option.some.inj k2
    exact ⟨u, v, (memF_iff _ _).1 h2, rfl⟩
  · rintro ⟨u, v, h, rfl⟩
    have e1 : getB xX [⟨xX, u⟩, ⟨xY, v⟩] = some u := by simp [getB]
    have e2 : getB xY [⟨xX, u⟩, ⟨xY, v⟩] = some v := by simp [getB, vars_ne.1]
    refine derives_of (b := [⟨xX, u⟩, ⟨xY, v⟩]) (roads_rules rR0 (by rw [roads_is]; simp)).1 (nd2 u v) (fun a ha => ?_) (fill2.2 ⟨u, v, e1, e2, rfl⟩)
    obtain rfl := List.mem_singleton.1 ha
    exact ⟨_, fill2.2 ⟨u, v, e1, e2, rfl⟩, (memF_iff _ _).2 h⟩
theorem der1 {O : List PFact} {x : PFact} : Derives rR1 O x ↔ ∃ u v z, ⟨xway, [u, v]⟩ ∈ O ∧ ⟨xroad, [v, z]⟩ ∈ O ∧ x = ⟨xway, [u, z]⟩ := by
  constructor
  · rintro ⟨m, ⟨-, -, -, t4⟩, hf⟩
    obtain ⟨f, h1, h2⟩ := t4 0 _ rfl
    obtain ⟨g, h3, h4⟩ := t4 1 _ rfl
    obtain ⟨u, v, g1, g2, rfl⟩ := fill2.1 h1
    obtain ⟨v', z, g3, g4, rfl⟩ := fill2.1 h3
    obtain ⟨u', z', k1, k2, rfl⟩ := fill2.1 hf
    rw [g1] at k1; rw [g4] at k2; rw [g2] at g3
    obtain rfl := Option.some.inj k1
    obtain rfl := Option.some.inj k2
    obtain rfl := Option.some.inj g3
    exact ⟨u, v, z, (memF_iff _ _).1 h2, (memF_iff _ _).1 h4, rfl⟩
  · rintro ⟨u, v, z, h, h', rfl⟩
    have e1 : getB xX [⟨xX, u⟩, ⟨xY, v⟩, ⟨xZ, z⟩] = some u := by simp [getB]
    have e2 : getB xY [⟨xX, u⟩, ⟨xY, v⟩, ⟨xZ, z⟩] = some v := by simp [getB, vars_ne.1]
    have e3 : getB xZ [⟨xX, u⟩, ⟨xY, v⟩, ⟨xZ, z⟩] = some z := by simp [getB, vars_ne.2.1, vars_ne.2.2]
    refine derives_of (b := [⟨xX, u⟩, ⟨xY, v⟩, ⟨xZ, z⟩]) (roads_rules rR1 (by rw [roads_is]; simp)).1 (nd3 u v z) (fun a ha => ?_) (fill2.2 ⟨u, z, e1, e3, rfl⟩)
    rcases List.mem_cons.1 ha with rfl | ha
    · exact ⟨_, fill2.2 ⟨u, v, e1, e2, rfl⟩, (memF_iff _ _).2 h⟩
    · obtain rfl := List.mem_singleton.1 ha
      exact ⟨_, fill2.2 ⟨v, z, e2, e3, rfl⟩, (memF_iff _ _).2 h'⟩
theorem der2 {O : List PFact} {x : PFact} : Derives rR2 O x ↔ ∃ u v, ⟨xtown, [u]⟩ ∈ O ∧ ⟨xtown, [v]⟩ ∈ O ∧ ⟨xway, [u, v]⟩ ∉ O ∧ x = ⟨xcut, [u, v]⟩ := by
  have hnot : ∀ y : PFact, memF y O = false ↔ y ∉ O := fun y => by
    rw [← memF_iff y O]; cases memF y O <;> simp
  constructor
  · rintro ⟨m, ⟨-, -, -, t4⟩, hf⟩
    obtain ⟨f, h1, h2⟩ := t4 0 _ rfl
    obtain ⟨g, h3, h4⟩ := t4 1 _ rfl
    obtain ⟨k, h5, h6⟩ := t4 2 _ rfl
    obtain ⟨u, g1, rfl⟩ := fill1.1 h1
    obtain ⟨v, g2, rfl⟩ := fill1.1 h3
    obtain ⟨u', v', g3, g4, rfl⟩ := fill2.1 h5
    obtain ⟨u2, v2, k1, k2, rfl⟩ := fill2.1 hf
    rw [g1] at k1 g3; rw [g2] at k2 g4
    obtain rfl := Option.some.inj k1
    obtain rfl := Option.some.inj k2
    obtain rfl := Option.some.inj g3
    obtain rfl := Option.some.inj g4
    exact ⟨u, v, (memF_iff _ _).1 h2, (memF_iff _ _).1 h4, (hnot _).1 h6, rfl⟩
  · rintro ⟨u, v, h, h', hn, rfl⟩
    have e1 : getB xX [⟨xX, u⟩, ⟨xY, v⟩] = some u := by simp [getB]
    have e2 : getB xY [⟨xX, u⟩, ⟨xY, v⟩] = some v := by simp [getB, vars_ne.1]
    refine derives_of (b := [⟨xX, u⟩, ⟨xY, v⟩]) (roads_rules rR2 (by rw [roads_is]; simp)).1 (nd2 u v) (fun a ha => ?_) (fill2.2 ⟨u, v, e1, e2, rfl⟩)
    rcases List.mem_cons.1 ha with rfl | ha
    · exact ⟨_, fill1.2 ⟨u, e1, rfl⟩, (memF_iff _ _).2 h⟩
    rcases List.mem_cons.1 ha with rfl | ha
    · exact ⟨_, fill1.2 ⟨v, e2, rfl⟩, (memF_iff _ _).2 h'⟩
    · obtain rfl := List.mem_singleton.1 ha
      exact ⟨_, fill2.2 ⟨u, v, e1, e2, rfl⟩, (hnot _).2 hn⟩
section
variable {n N : Nat} {ps : List (Nat × Nat)}
theorem mem_netL {x : PFact} : x ∈ netL n ps ↔ (∃ p ∈ ps, x = roadF p.1 p.2) ∨ ∃ a, a < n ∧ x = townF a := by
  unfold netL
  rw [mem_ofF, List.mem_append, List.mem_map, List.mem_map]
  refine or_congr ?_ ?_
  · exact ⟨fun ⟨p, h1, h2⟩ => ⟨p, h1, h2.symm⟩, fun ⟨p, h1, h2⟩ => ⟨p, h1, h2.symm⟩⟩
  · exact ⟨fun ⟨a, h1, h2⟩ => ⟨a, List.mem_range.1 h1, h2.symm⟩, fun ⟨a, h1, h2⟩ => ⟨a, List.mem_range.2 h1, h2.symm⟩⟩
theorem mem_ways {x : PFact} : x ∈ waysL N ps ↔ ∃ a c, a < N ∧ c < N ∧ reachK ps N N a c = true ∧ x = wayF a c := by
  unfold waysL
  simp only [List.mem_flatMap, List.mem_map, List.mem_filter, List.mem_range]
  exact ⟨fun ⟨a, h1, c, ⟨h2, h3⟩, h4⟩ => ⟨a, c, h1, h2, h3, h4.symm⟩, fun ⟨a, c, h1, h2, h3, h4⟩ => ⟨a, h1, c, ⟨h2, h3⟩, h4.symm⟩⟩
theorem mem_cuts {x : PFact} : x ∈ cutsL n ↔ ∃ a c, a < n ∧ c < n ∧ x = cutF a c := by
  unfold cutsL
  simp only [List.mem_flatMap, List.mem_map, List.mem_range]
  exact ⟨fun ⟨a, h1, c, h2, h4⟩ => ⟨a, c, h1, h2, h4.symm⟩, fun ⟨a, c, h1, h2, h4⟩ => ⟨a, h1, c, h2, h4.symm⟩⟩
theorem mem_netU {x : PFact} : x ∈ netU n N ps ↔ (∃ p ∈ ps, x = roadF p.1 p.2) ∨ (∃ a, a < n ∧ x = townF a) ∨ (∃ a c, a < N ∧ c < N ∧ reachK ps N N a c = true ∧ x = wayF a c) ∨ ∃ a c, a < n ∧ c < n ∧ x = cutF a c := by
  unfold netU
  rw [List.mem_append, List.mem_append, mem_netL, mem_ways, mem_cuts, or_assoc]
theorem flat_len {α β : Type} {f : α → List β} {K : Nat} : ∀ {l : List α}, (∀ x ∈ l, (f x).length ≤ K) → (l.flatMap f).length ≤ l.length * K
  | [], _ => by simp
  | x :: l, h => by
    have h1 := flat_len (l := l) fun y hy => h y (by simp [hy])
    have h2 := h x (by simp)
    rw [List.flatMap_cons, List.length_append, List.length_cons, Nat.add_mul, Nat.one_mul]
    omega
theorem netL_len (h : NetOk n N ps) : (netL n ps).length ≤ 19 := by
  have h1 := nodup_le (nodup_rising (ofF_rising (ps.map (fun p => roadF p.1 p.2) ++ (List.range n).map townF))) (m := ps.map (fun p => roadF p.1 p.2) ++ (List.range n).map townF) fun x hx => (mem_ofF x _).1 hx
  rw [List.length_append, List.length_map, List.length_map, List.length_range] at h1
  have := h.towns
  have := h.few
  unfold netL
  omega
theorem mul_le8 {a b : Nat} (ha : a ≤ 8) (hb : b ≤ 8) : a * b ≤ 64 := Nat.mul_le_mul ha hb
theorem mul_le6 {a b : Nat} (ha : a ≤ 6) (hb : b ≤ 6) : a * b ≤ 36 := Nat.mul_le_mul ha hb
theorem netU_len (h : NetOk n N ps) : (netU n N ps).length ≤ 140 := by
  have h1 := netL_len h
  have h2 : (waysL N ps).length ≤ (List.range N).length * N := flat_len fun a _ => by
    rw [List.length_map]
    have := List.length_filter_le (fun c => reachK ps N N a c) (List.range N)
    rwa [List.length_range] at this
  have h3 : (cutsL n).length ≤ (List.range n).length * n := flat_len fun a _ => by rw [List.length_map, List.length_range]; exact Nat.le_refl _
  rw [List.length_range] at h2 h3
  have h4 := mul_le8 h.nodes h.nodes
  have h5 := mul_le6 h.towns h.towns
  unfold netU
  rw [List.length_append, List.length_append]
  omega
theorem wrong_two {nm : Str} (hn : named nm = true) {a b : Nat} (ha : a < 8) (hb : b < 8) : wrongF ⟨nm, [tn a, tn b]⟩ = 0 := wrongF_zero.2 ⟨hn, by show 2 ≤ 4; decide, fun x hx => by
  rcases List.mem_cons.1 hx with rfl | hx
  · exact named_tn ha
  · obtain rfl := List.mem_singleton.1 hx; exact named_tn hb⟩
theorem wrong_town {a : Nat} (ha : a < 8) : wrongF (townF a) = 0 := wrongF_zero.2 ⟨(by decide +kernel : named xtown = true), by show 1 ≤ 4; decide, fun x hx => by obtain rfl := List.mem_singleton.1 hx; exact named_tn ha⟩
theorem netU_fine (h : NetOk n N ps) : ∀ x ∈ netU n N ps, wrongF x = 0 := fun x hx => by
  have h1 := h.nodes
  have h2 := h.sub
  rcases mem_netU.1 hx with ⟨p, hp, rfl⟩ | ⟨a, ha, rfl⟩ | ⟨a, c, ha, hc, -, rfl⟩ | ⟨a, c, ha, hc, rfl⟩
  · obtain ⟨k1, k2⟩ := h.inside p hp
    exact wrong_two (by decide +kernel) (by omega) (by omega)
  · exact wrong_town (by omega)
  · exact wrong_two (by decide +kernel) (by omega) (by omega)
  · exact wrong_two (by decide +kernel) (by omega) (by omega)
theorem fact_eq {a b : Str} {l m : List Str} (h : (⟨a, l⟩ : PFact) = ⟨b, m⟩) : a = b ∧ l = m := by injection h with h1 h2; exact ⟨h1, h2⟩
theorem two_eq {a b c d : Str} (h : [a, b] = [c, d]) : a = c ∧ b = d := by injection h with h1 h2; injection h2 with h2 _; exact ⟨h1, h2⟩
/-- Which facts of a name may follow. -/
theorem road_in {u v : Str} (h : (⟨xroad, [u, v]⟩ : PFact) ∈ netU n N ps) : ∃ p ∈ ps, u = tn p.1 ∧ v = tn p.2 := by
  rcases mem_netU.1 h with ⟨p, hp, e⟩ | ⟨a, ha, e⟩ | ⟨a, c, ha, hc, -, e⟩ | ⟨a, c, ha, hc, e⟩
  · exact ⟨p, hp, two_eq (fact_eq e).2⟩
  · exact absurd (fact_eq e).1 names_ne.2.2.1
  · exact absurd (fact_eq e).1 names_ne.1
  · exact absurd (fact_eq e).1 names_ne.2.1
theorem way_in {u v : Str} (h : (⟨xway, [u, v]⟩ : PFact) ∈ netU n N ps) : ∃ a c, a < N ∧ c < N ∧ reachK ps N N a c = true ∧ u = tn a ∧ v = tn c := by
  rcases mem_netU.1 h with ⟨p, hp, e⟩ | ⟨a, ha, e⟩ | ⟨a, c, ha, hc, hr, e⟩ | ⟨a, c, ha, hc, e⟩
  · exact absurd (fact_eq e).1.symm names_ne.1
  · exact absurd (fact_eq e).1 names_ne.2.2.2.2.1
  · exact ⟨a, c, ha, hc, hr, two_eq (fact_eq e).2⟩
  · exact absurd (fact_eq e).1 names_ne.2.2.2.1
theorem town_in {u : Str} (h : (⟨xtown, [u]⟩ : PFact) ∈ netU n N ps) : ∃ a, a < n ∧ u = tn a := by
  rcases mem_netU.1 h with ⟨p, hp, e⟩ | ⟨a, ha, e⟩ | ⟨a, c, ha, hc, hr, e⟩ | ⟨a, c, ha, hc, e⟩
  · exact absurd (fact_eq e).1.symm names_ne.2.2.1
  · exact ⟨a, ha, by have := (fact_eq e).2; injection this⟩
  · exact absurd (fact_eq e).1.symm names_ne.2.2.2.2.1
  · exact absurd (fact_eq e).1.symm names_ne.2.2.2.2.2
theorem net_fit (h : NetOk n N ps) : FitU roadsP (netU n N ps) := ⟨roads_rules, netU_len h, netU_fine h, fun r hr O x hO hd => by
  have h8 := h.nodes
  rw [roads_is] at hr
  rcases List.mem_cons.1 hr with rfl | hr
  · obtain ⟨u, v, h1, rfl⟩ := der0.1 hd
    obtain ⟨p, hp, rfl, rfl⟩ := road_in (hO _ h1)
    obtain ⟨k1, k2⟩ := h.inside p hp
    exact mem_netU.2 (.inr (.inr (.inl ⟨p.1, p.2, k1, k2, reach_edge k2 (by unfold edgeB; simpa using hp), rfl⟩)))
  rcases List.mem_cons.1 hr with rfl | hr
  · obtain ⟨u, v, z, h1, h2, rfl⟩ := der1.1 hd
    obtain ⟨a, c, ha, hc, hrc, rfl, rfl⟩ := way_in (hO _ h1)
    obtain ⟨p, hp, e, rfl⟩ := road_in (hO _ h2)
    obtain ⟨k1, k2⟩ := h.inside p hp
    have e' := tn_inj (by omega) (by omega) e
    subst e'
    exact mem_netU.2 (.inr (.inr (.inl ⟨a, p.2, ha, k2, reach_on k1 k2 hrc (by unfold edgeB; simpa using hp), rfl⟩)))
  · obtain rfl := List.mem_singleton.1 hr
    obtain ⟨u, v, h1, h2, -, rfl⟩ := der2.1 hd
    obtain ⟨a, ha, rfl⟩ := town_in (hO _ h1)
    obtain ⟨c, hc, rfl⟩ := town_in (hO _ h2)
    exact mem_netU.2 (.inr (.inr (.inr ⟨a, c, ha, hc, rfl⟩)))⟩
theorem net_in : InU (netU n N ps) (netL n ps) := ⟨ofF_rising _, fun x hx => by unfold netU; exact List.mem_append_left _ hx⟩
theorem misfit_name {f g : PFact} (h : f.name = g.name) (hl : f.args.length = g.args.length) : misfit roadsP f = misfit roadsP g := by unfold misfit; rw [h, hl]
theorem net_facts (h : NetOk n N ps) {l : List PFact} (hl : InU (netU n N ps) l) : (factsBad roadsP l).1 = 0 := factsBad_iff.2 ⟨hl.set (net_fit h), fun f hf => by
  rcases mem_netU.1 (hl.2 f hf) with ⟨p, hp, rfl⟩ | ⟨a, ha, rfl⟩ | ⟨a, c, ha, hc, -, rfl⟩ | ⟨a, c, ha, hc, rfl⟩
  · exact (misfit_name (g := roadF 0 0) rfl rfl).trans (by decide +kernel)
  · exact (misfit_name (g := townF 0) rfl rfl).trans (by decide +kernel)
  · exact (misfit_name (g := wayF 0 0) rfl rfl).trans (by decide +kernel)
  · exact (misfit_name (g := cutF 0 0) rfl rfl).trans (by decide +kernel)⟩
/-- All that follows. -/
def netM (n : Nat) (ps : List (Nat × Nat)) : List PFact := (naiveP [0, 0, 1] 0 roadsP (netL n ps)).1
theorem net_naive (h : NetOk n N ps) : naiveP [0, 0, 1] 0 roadsP (netL n ps) = (netM n ps, 0) ∧ InU (netU n N ps) (netM n ps) := by
  obtain ⟨h1, h2⟩ := naive_fits (net_fit h) (st := [0, 0, 1]) net_in (net_facts h net_in)
  exact ⟨Prod.ext rfl h1, h2⟩
theorem net_rounds (h : NetOk n N ps) : allRun [0, 0, 1] 0 roadsP (netL n ps) = (netM n ps, 0) := by
  rw [← (net_naive h).1]
  exact (rounds_fit (net_fit h) strata_roads rfl net_in (net_facts h net_in)).2
theorem net_follows (h : NetOk n N ps) : Follows roadsP (netL n ps) (netM n ps) := by
  have := (naive_follows strata_roads (l := netL n ps) (by rw [(net_naive h).1])).1
  rwa [(net_naive h).1] at this
/-- Of some of what may follow: what there is of it. -/
theorem follows_way {l M : List PFact} (h : NetOk n N ps) (hF : Follows roadsP l M) (hl : ∀ p ∈ ps, roadF p.1 p.2 ∈ M) {a : Nat} (ha : a < N) : ∀ {k c : Nat}, c < N → reachK ps N k a c = true → wayF a c ∈ M
  | 0, _, _, hk => by cases hk
  | k + 1, c, hc, hk => by
    have hmem : ∀ {a c : Nat}, edgeB ps a c = true → roadF a c ∈ M := fun {a c} he => by
      have hp : (a, c) ∈ ps := by unfold edgeB at he; simpa using he
      exact hl _ hp
    rcases reach_succ.1 hk with h2 | h2 | ⟨d, hd, h2, h3⟩
    · exact follows_way h hF hl ha hc h2
    · exact hF.closed rR0 (by rw [roads_is]; simp) _ (der0.2 ⟨_, _, hmem h2, rfl⟩)
    · exact hF.closed rR1 (by rw [roads_is]; simp) _ (der1.2 ⟨_, _, _, follows_way h hF hl ha hd h2, hmem h3, rfl⟩)
theorem net_way (h : NetOk n N ps) {a c : Nat} (ha : a < N) (hc : c < N) : memF (wayF a c) (netM n ps) = reachK ps N N a c := bool_iff (by
  have h8 := h.nodes
  rw [memF_iff]
  constructor
  · intro hm
    obtain ⟨a', c', ha', hc', hr, e1, e2⟩ := way_in ((net_naive h).2.2 _ hm)
    rw [tn_inj (by omega) (by omega) e1, tn_inj (by omega) (by omega) e2]
    exact hr
  · intro hr
    exact follows_way h (net_follows h) (fun p hp => (net_follows h).sub _ (mem_netL.2 (.inl ⟨p, hp, rfl⟩))) ha hc hr)
theorem net_cut (h : NetOk n N ps) {a c : Nat} (ha : a < n) (hc : c < n) : memF (cutF a c) (netM n ps) = !reachK ps N N a c := bool_iff (by
  have h8 := h.nodes
  have hs := h.sub
  have hw := net_way h (a := a) (c := c) (by omega) (by omega)
  rw [memF_iff, Bool.not_eq_true', ← hw]
  have hnot : ∀ y : PFact, memF y (netM n ps) = false ↔ y ∉ netM n ps := fun y => by rw [← memF_iff y]; cases memF y (netM n ps) <;> simp
  rw [hnot]
  constructor
  · intro hm
    rcases (net_follows h).made _ hm with h1 | ⟨r, hr, hd⟩
    · rcases mem_netL.1 h1 with ⟨p, hp, e⟩ | ⟨a, ha, e⟩
      · exact absurd (fact_eq e).1.symm names_ne.2.1
      · exact absurd (fact_eq e).1 names_ne.2.2.2.2.2
    · rw [roads_is] at hr
      rcases List.mem_cons.1 hr with rfl | hr
      · obtain ⟨u, v, -, e⟩ := der0.1 hd
        exact absurd (fact_eq e).1.symm names_ne.2.2.2.1
      rcases List.mem_cons.1 hr with rfl | hr
      · obtain ⟨u, v, z, -, -, e⟩ := der1.1 hd
        exact absurd (fact_eq e).1.symm names_ne.2.2.2.1
      · obtain rfl := List.mem_singleton.1 hr
        obtain ⟨u, v, -, -, hn, e⟩ := der2.1 hd
        obtain ⟨e1, e2⟩ := two_eq (fact_eq e).2
        subst e1 e2
        exact hn
  · intro hn
    have ht : ∀ {a : Nat}, a < n → townF a ∈ netM n ps := fun ha => (net_follows h).sub _ (mem_netL.2 (.inr ⟨_, ha, rfl⟩))
    exact (net_follows h).closed rR2 (by rw [roads_is]; simp) _ (der2.2 ⟨_, _, ht ha, ht hc, hn, rfl⟩))
end
end Go.Proofs.YtgoaiohkodbadaaGreat

/-
  THE WALK OF corotop.nets: roads and towns, and a table of what leads where.
-/
namespace Go.Proofs.YtgoaiohkodbadaaGreat
open Go.RowKit

def normI (x n : Int) : Int := ((x.tmod n) + n).tmod n
theorem normI_in {x n : Int} (h : 1 ≤ n) : 0 ≤ normI x n ∧ normI x n < n := by
  unfold normI
  have h1 := Int.tmod_lt_of_pos x (show 0 < n by omega)
  have h2 : -n < x.tmod n := by
    have := Int.lt_tmod_of_pos x (show 0 < n by omega)
    omega
  have h3 : 0 ≤ x.tmod n + n := by omega
  exact ⟨Int.tmod_nonneg n h3, Int.tmod_lt_of_pos _ (by omega)⟩
def pairOf (n : Int) (p : Int × Int) : Nat × Nat := ((normI p.1 n).toNat, (normI p.2 n).toNat)
def pairsP (n : Int) (frm tow : List Int) : List (Nat × Nat) := (frm.zip tow).map (pairOf n)
def cellsOf (m : List Bool) : Array Value := (m.map Value.bool).toArray
theorem cellsOf_get {m : List Bool} {i : Nat} (h : i < m.length) : (cellsOf m)[i]? = some (.bool (m.getD i false)) := by
  unfold cellsOf
  rw [List.getElem?_toArray, List.getElem?_map, List.getD_eq_getElem?_getD, List.getElem?_eq_getElem h]
  rfl
theorem cellsOf_set (m : List Bool) (i : Nat) (x : Bool) : (cellsOf m).setIfInBounds i (.bool x) = cellsOf (m.set i x) := by
  unfold cellsOf
  rw [List.map_set]
  apply Array.ext'
  simp
theorem cellsOf_size (m : List Bool) : (cellsOf m).size = m.length := by unfold cellsOf; simp
theorem cellsOf_one (m : List Bool) : (cellsOf m).all (·.oneCell') = true := by
  unfold cellsOf
  simp [Value.oneCell']
/-- What nets answers. -/
def NetsPost (n : Nat) (ps : List (Nat × Nat)) (w : World) (e : Ending) (w' : World) : Prop :=
  ∃ a c, e = .returned (.tuple #[.slice a (netL n ps).length c, .agg (cellsOf (closeN n n (tableE ps)))]) ∧ RdFacts (fun _ => True) w' (.slice a (netL n ps).length c) (netL n ps) ∧ Below w.heap.size w w'
theorem pairs_len {n : Int} {frm tow : List Int} : (pairsP n frm tow).length ≤ frm.length := by unfold pairsP; rw [List.length_map, List.length_zip]; exact Nat.min_le_left _ _
theorem pairs_get {n : Int} {frm tow : List Int} {k : Nat} {x y : Int} (hx : frm[k]? = some x) (hy : tow[k]? = some y) : (pairsP n frm tow)[k]? = some (pairOf n (x, y)) := by
  unfold pairsP
  rw [List.getElem?_map, (List.getElem?_zip_eq_some (z := (x, y))).2 ⟨hx, hy⟩]
  rfl
theorem pairs_end {n : Int} {frm tow : List Int} {k : Nat} (h : tow.length ≤ k) : (pairsP n frm tow).take (k + 1) = (pairsP n frm tow).take k := by
  have : (pairsP n frm tow).length ≤ k := by unfold pairsP; rw [List.length_map, List.length_zip]; exact Nat.le_trans (Nat.min_le_right _ _) h
  rw [List.take_of_length_le (by omega), List.take_of_length_le this]
theorem pairs_in {n : Nat} {frm tow : List Int} (hn : 1 ≤ n) : ∀ p ∈ pairsP n frm tow, p.1 < n ∧ p.2 < n := fun p hp => by
  unfold pairsP at hp
  obtain ⟨q, -, rfl⟩ := List.mem_map.1 hp
  have h1 := normI_in (x := q.1) (n := (n : Int)) (by omega)
  have h2 := normI_in (x := q.2) (n := (n : Int)) (by omega)
  unfold pairOf
  dsimp only
  omega
theorem tableE_snoc (ps : List (Nat × Nat)) (p : Nat × Nat) : tableE (ps ++ [p]) = setG (tableE ps) p.1 p.2 true := by unfold tableE; rw [List.foldl_append]; rfl
theorem wrap_norm {x n : Int} (h : 1 ≤ n) (h6 : n ≤ 6) : (wrap64 (x.tmod n + n)).tmod n = normI x n := by
  have h1 := Int.tmod_lt_of_pos x (show 0 < n by omega)
  have h2 := Int.lt_tmod_of_pos x (show 0 < n by omega)
  unfold normI
  congr 1
  unfold wrap64
  omega
theorem take_snoc {α : Type} {l : List α} {k : Nat} {x : α} (h : l[k]? = some x) : l.take (k + 1) = l.take k ++ [x] := by rw [List.take_add_one, h]; rfl
theorem foldl_len {α : Type} {f : List Bool → α → List Bool} (hf : ∀ m x, (f m x).length = m.length) : ∀ (l : List α) (m : List Bool), (l.foldl f m).length = m.length
  | [], _ => rfl
  | x :: l, m => by rw [List.foldl_cons, foldl_len hf l, hf]
theorem step3_len (m : List Bool) (a b c : Nat) : (step3 m a b c).length = m.length := setG_len ..
theorem foldC_len {a b k : Nat} {m : List Bool} : ((List.range k).foldl (fun m c => step3 m a b c) m).length = m.length := foldl_len (fun m c => step3_len m a b c) _ _
theorem foldB_len {n a k : Nat} {m : List Bool} : ((List.range k).foldl (fun m b => closeC n m a b) m).length = m.length := foldl_len (fun _ _ => foldC_len) _ _
theorem foldA_len {n k : Nat} {m : List Bool} : ((List.range k).foldl (fun m a => closeB n m a) m).length = m.length := foldl_len (fun _ _ => foldB_len) _ _
theorem closeN_len2 {n : Nat} {m : List Bool} : ∀ k, (closeN n k m).length = m.length
  | 0 => rfl
  | k + 1 => (foldA_len (n := n) (k := n)).trans (closeN_len2 k)
theorem load_table {P : Program} {w : World} {g : Nat} {t : TypeId} {cs : Array Value} (h : Blk w g t cs) (hn : cs.size = 64) : (loadCellsFrom ⟨g, 0, none⟩ 0 64 #[]).run P w = .ok cs w := by
  have h2 := run_loadCells_list (P := P) w ⟨g, 0, none⟩ cs.toList (fun j v hv => by
    have hadd : (⟨g, 0, none⟩ : Addr).add j = ⟨g, j, none⟩ := by unfold Addr.add; split <;> simp_all
    rw [hadd, h.cell]
    simpa using hv)
  rw [Array.length_toList, hn] at h2
  simpa [loadCells] using h2
theorem store_table {P : Program} {w : World} {g : Nat} {t : TypeId} {old cs : Array Value} (h : Blk w g t old) (hn : cs.size = 64) (ho : old.size = 64) (h1 : cs.all (·.oneCell') = true) : (storeCells ⟨g, 0, none⟩ cs.toList 0).run P w = .ok () (w.setRow g cs) := by
  have := run_storeCells_from (P := P) g t cs.toList 0 old w h (by simp; omega) (fun v hv => (Array.all_eq_true_iff_forall_mem.1 h1) v (by simpa using hv))
  have e : (old.toList.take 0 ++ cs.toList ++ old.toList.drop (0 + cs.toList.length)).toArray = cs := by
    rw [List.take_zero, List.nil_append, List.drop_eq_nil_of_le (by simp; omega), List.append_nil]
  simpa [e] using this
theorem yields_row {P : Program} {S : World → Prop} {o : Oper} {a : Act} {ty t : TypeId} {x : Operand} {g : Nat} {cs : Array Value} {d : TypeDesc} (ho : o.op = .load ty x) (hx : a.eval x = .pointer (some ⟨g, 0, none⟩)) (hS : ∀ w, S w → Blk w g t cs)
    (hu : P.underlying ty = some d) (hd : (match d with | .struct _ | .array _ _ => true | _ => false) = true) (hi : (P.info? ty).map (·.size) = some cs.size) : ∀ w, S w → (execOp a.eval o).run P w = .ok (.value (.agg cs)) w := fun w hw => by
  unfold execOp
  simp only [ho, hx, Instr.loadAt, Instr.sureAddr, Sem.run_bind, Sem.run_pure, Result.andThen_ok, run_loadVar_row w g t ty cs (0, 0) d (hS w hw) hu hd hi]
theorem set_row {w : World} {g : Nat} {t : TypeId} {old cs : Array Value} (_h : Blk w g t old) (_hn : old.size = cs.size) : But g w (w.setRow g cs) := ⟨rfl, rfl, rfl, by rw [setRow_size]; exact Nat.le_refl _, fun k _ hk => setRow_other w g k cs (fun e => hk (congrArg some e))⟩
theorem results_tmp_cell {P : Program} {fn : Func} {u p : Tmp} {ty : TypeId} (h : fn.results = #[.tmp u, .cell p ty]) (tmps : Array Value) (w : World) (g : Nat) (t : TypeId) (cs : Array Value) {d : TypeDesc} (hp : tmps.getD p undef = .pointer (some ⟨g, 0, none⟩)) (hg : Blk w g t cs)
    (hu : P.underlying ty = some d) (hd : (match d with | .struct _ | .array _ _ => true | _ => false) = true) (hi : (P.info? ty).map (·.size) = some cs.size) : (results fn tmps).run P w = .ok (.tuple #[tmps.getD u undef, .agg cs]) w := by
  have hp' : tmps[p]?.getD undef = .pointer (some ⟨g, 0, none⟩) := by simpa using hp
  simp [results, h, hp', asAddr, run_loadVar_row w g t ty cs (0, 0) d hg hu hd hi]
theorem ofNew {S : Nat → Prop} {v : Value} {l r : List PFact} {w : World} (hr : ofF l = r) (h : RdFacts S w v l) (n1 : l.length ≤ 1073741824) (n2 : ∀ x ∈ l, x.args.length ≤ 1073741824) :
    Calls Tryz.prog 47 #[v] w fun e w' => (∃ a c, e = .returned (.slice a r.length c) ∧ RdFacts (New w) w' (.slice a r.length c) r) ∧ Below w.heap.size w w' := by
  refine (ofCalls v l w h n1 n2).mono fun e w' ⟨⟨v', he, ho⟩, hb⟩ => ⟨?_, hb⟩
  rw [hr] at ho
  have h' := (ho.read RFact.steady).more RFact.steady (S' := New w) (fun b hb _ => hb.elim id id)
  obtain ⟨a, c, rfl, -, -, -⟩ := id h'.form
  exact ⟨a, c, he, h'⟩
attribute [local go_sem ↓] Go.wp_at_zero Go.wp_at_succ
set_option maxRecDepth 100000 in
set_option maxHeartbeats 8000000 in
theorem netsCalls {S S2 : Nat → Prop} (n : Nat) (fv tv : Value) (frm tow : List Int) (w : World) (h1 : 1 ≤ n) (h6 : n ≤ 6) (hf : RdInts S w fv frm) (ht : RdInts S2 w tv tow) (n1 : frm.length ≤ 12) (n2 : tow.length ≤ 1048576) :
    Calls Tryz.prog 41 #[.int .i64 (n : Int), fv, tv] w (NetsPost n (pairsP n frm tow) w) := by
  obtain ⟨fa, fc, rfl, -, -, -⟩ := id hf.form
  obtain ⟨ta, tc, rfl, -, -, -⟩ := id ht.form
  have HF := Lib.hid hf
  have HT := Lib.hid ht
  have hn0 : ¬ (n : Int) = 0 := by omega
  have HB0 := Lib.hid (show Below w.heap.size w ((w.alloc (.cells (cellsOf table0) 90)).alloc (.cells (cellsOf table0) 90)) from ((Below.refl _ _).alloc (Nat.le_refl _) _).alloc (by simp) _)
  have HR0 := Lib.hid (show Blk ((w.alloc (.cells (cellsOf table0) 90)).alloc (.cells (cellsOf table0) 90)) w.heap.size 90 (cellsOf table0) from (Blk.new w _ _).alloc _)
  have HG0 := Lib.hid (show Blk ((w.alloc (.cells (cellsOf table0) 90)).alloc (.cells (cellsOf table0) 90)) (w.heap.size + 1) 90 (cellsOf (tableE ((pairsP n frm tow).take 0))) from heap_new_at (by simp))
  have HO0 := Lib.hid (show Owned 2 RFact (w.heap.size + 2) 27 (fun b => w.heap.size + 2 ≤ b) ((w.alloc (.cells (cellsOf table0) 90)).alloc (.cells (cellsOf table0) 90)) (.slice none 0 0) (((pairsP n frm tow).take 0).map fun p => roadF p.1 p.2) from Owned.nil)
  clear hf ht
  go_enter Tryz.func41, Tryz.ntmps41
  go_wp2
  go_loopw [19, 8] (fun i v wr => ∃ k : Nat, k ≤ frm.length ∧ i = .int .i64 k ∧ Hid (Owned 2 RFact (w.heap.size + 2) 27 (fun b => w.heap.size + 2 ≤ b) wr v (((pairsP n frm tow).take k).map fun p => roadF p.1 p.2)) ∧ Hid (Below w.heap.size w wr) ∧ Hid (Blk wr w.heap.size 90 (cellsOf table0)) ∧ Hid (Blk wr (w.heap.size + 1) 90 (cellsOf (tableE ((pairsP n frm tow).take k))))) (fun i _ _ => frm.length - (intOf i).toNat)
  case atStart => exact ⟨0, Nat.zero_le _, rfl, HO0, HB0, HR0, HG0⟩
  case round =>
    clear HB0 HR0 HG0 HO0
    obtain ⟨k, hk, rfl, HO, HB, HR, HG⟩ := hrel
    by_cases hlt : k < frm.length
    · obtain ⟨x, hx⟩ : ∃ x, frm[k]? = some x := ⟨_, List.getElem?_eq_getElem hlt⟩
      obtain ⟨b1, o1, rfl, -, hb1, d0⟩ := RdInts.at HF.out hx
      have d1 := (cell_below HB.out hb1 _).trans d0
      clear d0 hb1
      by_cases hlt2 : k < tow.length
      · obtain ⟨y, hy⟩ : ∃ y, tow[k]? = some y := ⟨_, List.getElem?_eq_getElem hlt2⟩
        obtain ⟨b2, o2, rfl, -, hb2, e0⟩ := RdInts.at HT.out hy
        have e1 := (cell_below HB.out hb2 _).trans e0
        clear e0 hb2
        obtain ⟨a0, a1⟩ := normI_in (x := x) (n := (n : Int)) (by omega)
        obtain ⟨c0, c1⟩ := normI_in (x := y) (n := (n : Int)) (by omega)
        have HP := Lib.hid (pairs_get (n := (n : Int)) hx hy)
        unfold pairOf at HP
        dsimp only at HP
        obtain ⟨a, ha⟩ : ∃ a : Nat, normI x n = a := ⟨_, (Int.toNat_of_nonneg a0).symm⟩
        obtain ⟨c, hc⟩ : ∃ c : Nat, normI y n = c := ⟨_, (Int.toNat_of_nonneg c0).symm⟩
        rw [ha, hc, Int.toNat_natCast, Int.toNat_natCast] at HP
        rw [ha] at a1
        rw [hc] at c1
        have hva : (wrap64 (x.tmod (n : Int) + (n : Int))).tmod (n : Int) = (a : Int) := by rw [← ha]; exact wrap_norm (by omega) (by omega)
        have hvc : (wrap64 (y.tmod (n : Int) + (n : Int))).tmod (n : Int) = (c : Int) := by rw [← hc]; exact wrap_norm (by omega) (by omega)
        have ha8 : a < 8 := by omega
        have hc8 : c < 8 := by omega
        have HTS := Lib.hid (take_snoc HP.out)
        have HTE := Lib.hid (tableE_snoc ((pairsP n frm tow).take k) (a, c))
        have hTL := (tableE_spec (ps := (pairsP n frm tow).take k) (fun p hp => by have := pairs_in h1 p (List.mem_of_mem_take hp); omega)).1
        have hln := pairs_len (n := (n : Int)) (frm := frm) (tow := tow)
        have hl12 : (((pairsP n frm tow).take k).map fun p => roadF p.1 p.2).length ≤ 12 := by rw [List.length_map, List.length_take]; omega
        have hsz := HB.out.size
        clear a0 c0 ha hc HP hx hy
        generalize (pairsP n frm tow).take k = pk at *
        generalize tableE pk = tb at *
        generalize hout : (pk.map fun p => roadF p.1 p.2) = out at *
        have HOU := Lib.hid hout
        clear hout
        go_wp2
        go_region
        go_wp2_with (first
          | (go_at_call 48; refine (roadCalls a c (by omega) (by omega) _).mono ?_; rintro e w3 ⟨b3, rfl, hn3, hk3, hb3⟩; have hb3' := (Below.refl wr.heap.size wr).drew.trans hb3; have HB3 := Lib.hid (HB.out.trans (hb3'.mono hsz)); have HO3 := Lib.hid (HO.out.below RFact.steady hb3'); have HR3 := Lib.hid (HR.out.below hb3' HR.out.lt); have HG3 := Lib.hid (HG.out.below hb3' HG.out.lt); have HS3 := Lib.hid (RdStrs.litS (S := New wr) (l := [tn a, tn c]) rfl (by simp [maxLen]) hn3 hk3); have hs3 : wr.heap.size ≤ w3.heap.size := hb3.size; have hz3 := HG.out.lt; clear hb3 hb3' hk3 hn3)
          | (at_builtin; refine wpList_append_one (B := w.heap.size + 2) (e := 27) (S := fun b => w.heap.size + 2 ≤ b) (by rfl) _ _ 24 (by rfl) RFact.steady rowFacts _ out (by rfl) (HO3.out.alloc RFact.steady _) w3.heap.size 1 #[.string xroad, .slice (some ⟨b3, 0, none⟩) 2 2] 27 (0, 0) ⟨xroad, [tn a, tn c]⟩ (by rfl) (heap_new_at rfl) rfl (by simp [Value.oneCell']) ⟨_, rfl, (RdSlice.agree RStr.steady ((Agree.refl _ _).alloc _) HS3.out).more RStr.steady (fun b hb _ => by have h1 : wr.heap.size ≤ b := hb; exact ⟨by omega, fun e => by have := (HO.out.row_lt e.symm).2; omega⟩)⟩ (by omega) (by simp; omega) ?_; intro v4 w4 hown4 hg4 hat4; have hrow : ∀ q, (Value.ownBlock u8) = some q → w.heap.size + 2 ≤ q := fun q hq => (HO3.out.row_lt hq).1; have HO4 := Lib.hid hown4; have HB4 := Lib.hid ((HB3.out.alloc (by omega) _).grown hg4 (by simp; omega) (fun q hq => by have := hrow q hq; omega)); have HR4 := Lib.hid ((HR3.out.alloc _).grown hg4 (fun e => by have := hrow _ e.symm; omega)); have HG4 := Lib.hid ((HG3.out.alloc _).grown hg4 (fun e => by have := hrow _ e.symm; omega)); have g0 := HG4.out.cell (a * 8 + c); have g1 := HG4.out.frozen (a * 8 + c); rw [cellsOf_get (by omega)] at g0; clear hown4 hg4 hat4 hrow))
        go_roundw
        case rel => exact ⟨k + 1, by omega, by go_num, Lib.hid (by rw [HTS.out, List.map_append, HOU.out]; exact HO4.out.setCell RFact.steady (p := ⟨w.heap.size + 1, a * 8 + c, none⟩) (fun h => by have h' : w.heap.size + 2 ≤ w.heap.size + 1 := h; omega) (fun e => by have h' : w.heap.size + 2 ≤ w.heap.size + 1 := (HO4.out.row_lt e).1; omega) _), Lib.hid (HB4.out.setCell (p := ⟨w.heap.size + 1, a * 8 + c, none⟩) (Nat.le_succ _) _), Lib.hid (HR4.out.far (p := ⟨w.heap.size + 1, a * 8 + c, none⟩) (by show w.heap.size ≠ w.heap.size + 1; omega) _), Lib.hid (by rw [HTS.out, HTE.out]; unfold setG; rw [← cellsOf_set]; exact HG4.out.set_ _ _)⟩
        case measure => simp [intOf]; omega
      · have HPE := Lib.hid (pairs_end (n := (n : Int)) (frm := frm) (tow := tow) (show tow.length ≤ k by omega))
        clear hx
        go_wp2
        go_roundw
        case rel => exact ⟨k + 1, by omega, by go_num, Lib.hid (by rw [HPE.out]; exact HO.out), HB, HR, Lib.hid (by rw [HPE.out]; exact HG.out)⟩
        case measure => simp [intOf]; omega
    · have HPE := Lib.hid (show (pairsP n frm tow).take k = pairsP n frm tow from List.take_of_length_le (by have := pairs_len (n := (n : Int)) (frm := frm) (tow := tow); omega))
      have HPI := Lib.hid (pairs_in (frm := frm) (tow := tow) h1)
      rw [HPE.out] at HO HG
      have hl12 : (pairsP n frm tow).length ≤ 12 := by have := pairs_len (n := (n : Int)) (frm := frm) (tow := tow); omega
      have HTL := Lib.hid ((tableE_spec (ps := pairsP n frm tow) (fun p hp => by have := HPI.out p hp; omega)).1)
      generalize pairsP n frm tow = ps at *
      have HGZ := Lib.hid (show Blk wr (w.heap.size + 1) 90 (cellsOf (closeN n 0 (tableE ps))) from HG.out)
      have HBZ := Lib.hid (But.refl (w.heap.size + 1) wr)
      obtain ⟨wl, hwl⟩ : ∃ wl : World, wl = wr := ⟨_, rfl⟩
      subst hwl
      clear HG HPE HF HT
      go_wp2
      go_loopw [58] (fun i wr => ∃ t : Nat, t ≤ n ∧ i = .int .i64 t ∧ Hid (But (w.heap.size + 1) wl wr) ∧ Hid (Blk wr (w.heap.size + 1) 90 (cellsOf (closeN n t (tableE ps))))) (fun i _ => n - (intOf i).toNat)
      case atStart => exact ⟨0, Nat.zero_le _, rfl, HBZ, HGZ⟩
      case round =>
        clear HBZ HGZ
        obtain ⟨t, ht, rfl, HBZ, HGZ⟩ := hrel
        by_cases htn : t < n
        · have ht' : (t : Int) < (n : Int) := by omega
          have HL := Lib.hid (show (closeN n t (tableE ps)).length = 64 by rw [closeN_len2, HTL.out])
          have HNX := Lib.hid (show closeN n (t + 1) (tableE ps) = closeA n (closeN n t (tableE ps)) from rfl)
          generalize closeN n t (tableE ps) = mt at *
          go_wp2
          go_loopw [61] (fun i wr => ∃ a : Nat, a ≤ n ∧ i = .int .i64 a ∧ Hid (But (w.heap.size + 1) wl wr) ∧ Hid (Blk wr (w.heap.size + 1) 90 (cellsOf ((List.range a).foldl (fun m a => closeB n m a) mt)))) (fun i _ => n - (intOf i).toNat)
          case atStart => exact ⟨0, Nat.zero_le _, rfl, HBZ, HGZ⟩
          case round =>
            clear HBZ HGZ
            obtain ⟨a, ha, rfl, HBZ, HGZ⟩ := hrel
            by_cases han : a < n
            · have ha' : (a : Int) < (n : Int) := by omega
              have HLA := Lib.hid (show ((List.range a).foldl (fun m a => closeB n m a) mt).length = 64 by rw [foldA_len, HL.out])
              have HNA := Lib.hid (range_foldl (f := fun m a => closeB n m a) (z := mt) (k := a))
              generalize (List.range a).foldl (fun m a => closeB n m a) mt = ma at *
              go_wp2
              go_loopw [65] (fun i wr => ∃ b : Nat, b ≤ n ∧ i = .int .i64 b ∧ Hid (But (w.heap.size + 1) wl wr) ∧ Hid (Blk wr (w.heap.size + 1) 90 (cellsOf ((List.range b).foldl (fun m b => closeC n m a b) ma)))) (fun i _ => n - (intOf i).toNat)
              case atStart => exact ⟨0, Nat.zero_le _, rfl, HBZ, HGZ⟩
              case round =>
                clear HBZ HGZ
                obtain ⟨b, hb, rfl, HBZ, HGZ⟩ := hrel
                by_cases hbn : b < n
                · have hb' : (b : Int) < (n : Int) := by omega
                  have HLB := Lib.hid (show ((List.range b).foldl (fun m b => closeC n m a b) ma).length = 64 by rw [foldB_len, HLA.out])
                  have HNB := Lib.hid (range_foldl (f := fun m b => closeC n m a b) (z := ma) (k := b))
                  generalize (List.range b).foldl (fun m b => closeC n m a b) ma = mb at *
                  go_wp2
                  go_loopw [69] (fun i wr => ∃ c : Nat, c ≤ n ∧ i = .int .i64 c ∧ Hid (But (w.heap.size + 1) wl wr) ∧ Hid (Blk wr (w.heap.size + 1) 90 (cellsOf ((List.range c).foldl (fun m c => step3 m a b c) mb)))) (fun i _ => n - (intOf i).toNat)
                  case atStart => exact ⟨0, Nat.zero_le _, rfl, HBZ, HGZ⟩
                  case round =>
                    clear HBZ HGZ
                    obtain ⟨c, hc, rfl, HBZ, HGZ⟩ := hrel
                    by_cases hcn : c < n
                    · have hc' : (c : Int) < (n : Int) := by omega
                      have HLC := Lib.hid (show ((List.range c).foldl (fun m c => step3 m a b c) mb).length = 64 by rw [foldC_len, HLB.out])
                      have HNC := Lib.hid (range_foldl (f := fun m c => step3 m a b c) (z := mb) (k := c))
                      generalize (List.range c).foldl (fun m c => step3 m a b c) mb = mc at *
                      have x1 := HGZ.out.cell (a * 8 + c)
                      have x2 := HGZ.out.cell (a * 8 + b)
                      have x3 := HGZ.out.cell (b * 8 + c)
                      have z1 := HGZ.out.frozen (a * 8 + c)
                      rw [cellsOf_get (by rw [HLC.out]; omega)] at x1 x2 x3
                      have HST := Lib.hid (show step3 mc a b c = mc.set (a * 8 + c) (mc.getD (a * 8 + c) false || (mc.getD (a * 8 + b) false && mc.getD (b * 8 + c) false)) from rfl)
                      generalize mc.getD (a * 8 + c) false = y1 at *
                      generalize mc.getD (a * 8 + b) false = y2 at *
                      generalize mc.getD (b * 8 + c) false = y3 at *
                      have ha8 : a < 8 := by omega
                      have hb8 : b < 8 := by omega
                      have hc8 : c < 8 := by omega
                      have HB' := Lib.hid (fun (u : Value) => HBZ.out.drew.setCell (p := ⟨w.heap.size + 1, a * 8 + c, none⟩) (.inl rfl) u)
                      cases y1 <;> cases y2 <;> cases y3
                      all_goals
                        go_wp2
                        go_region
                        go_wp2
                        go_roundw
                        case rel => exact ⟨c + 1, by omega, by go_num, Lib.hid (HB'.out _), Lib.hid (by rw [HNC.out, HST.out, ← cellsOf_set]; exact HGZ.out.set_ _ _)⟩
                        case measure => simp [intOf]; omega
                    · have hc' : ¬ (c : Int) < (n : Int) := by omega
                      obtain rfl : c = n := by omega
                      go_wp2
                      go_roundw
                      case rel => exact ⟨b + 1, by omega, by go_num, HBZ, Lib.hid (by rw [HNB.out]; exact HGZ.out)⟩
                      case measure => simp [intOf]; omega
                · have hb' : ¬ (b : Int) < (n : Int) := by omega
                  obtain rfl : b = n := by omega
                  go_wp2
                  go_roundw
                  case rel => exact ⟨a + 1, by omega, by go_num, HBZ, Lib.hid (by rw [HNA.out]; exact HGZ.out)⟩
                  case measure => simp [intOf]; omega
            · have ha' : ¬ (a : Int) < (n : Int) := by omega
              obtain rfl : a = n := by omega
              go_wp2
              go_roundw
              case rel => exact ⟨t + 1, by omega, by go_num, HBZ, Lib.hid (by rw [HNX.out]; exact HGZ.out)⟩
              case measure => simp [intOf]; omega
        · have ht' : ¬ (t : Int) < (n : Int) := by omega
          obtain rfl : t = n := by omega
          have hrl : (ps.map fun p => roadF p.1 p.2).length ≤ 12 := by rw [List.length_map]; exact hl12
          have HTB := Lib.hid (show (closeN t t (tableE ps)).length = 64 by rw [closeN_len2, HTL.out])
          have HOZ := Lib.hid (show Owned 2 RFact (w.heap.size + 2) 27 (fun b => w.heap.size + 2 ≤ b) wr u8 ((ps.map fun p => roadF p.1 p.2) ++ (List.range 0).map townF) by
            rw [List.range_zero, List.map_nil, List.append_nil]
            exact HO.out.keep RFact.steady (HBZ.out.agree (fun h => by have h' : w.heap.size + 2 ≤ w.heap.size + 1 := h; omega)) (fun g hg => HBZ.out.block g (HO.out.row_lt hg).2 (fun e => by have h1 := (HO.out.row_lt hg).1; have h2 := Option.some.inj e; omega)))
          have HBB := Lib.hid (show Below w.heap.size w wr from ⟨HBZ.out.os.trans HB.out.os, HBZ.out.tape.trans HB.out.tape, HBZ.out.output.trans HB.out.output, Nat.le_trans HB.out.size HBZ.out.size, fun k hk => (HBZ.out.block k (Nat.lt_of_lt_of_le hk HB.out.size) (fun e => by have h2 := Option.some.inj e; omega)).trans (HB.out.block k hk)⟩)
          have HRZ := Lib.hid (HR.out.but HBZ.out (by omega))
          generalize htc : closeN t t (tableE ps) = tb at *
          have HTC := Lib.hid htc
          clear htc
          clear HO HB HR HBZ
          go_wp2
          go_loopw [100, 8] (fun i v wr => ∃ k : Nat, k ≤ t ∧ i = .int .i64 k ∧ Hid (Owned 2 RFact (w.heap.size + 2) 27 (fun b => w.heap.size + 2 ≤ b) wr v ((ps.map fun p => roadF p.1 p.2) ++ (List.range k).map townF)) ∧ Hid (Below w.heap.size w wr) ∧ Hid (Blk wr w.heap.size 90 (cellsOf table0)) ∧ Hid (Blk wr (w.heap.size + 1) 90 (cellsOf tb))) (fun i _ _ => t - (intOf i).toNat)
          case atStart => exact ⟨0, Nat.zero_le _, rfl, HOZ, HBB, HRZ, HGZ⟩
          case round =>
            clear HOZ HBB HRZ HGZ
            obtain ⟨k, hk, rfl, HO, HB, HR, HG⟩ := hrel
            by_cases hkt : k < t
            · have hkt' : (k : Int) < (t : Int) := by omega
              have HSN := Lib.hid (show (ps.map fun p => roadF p.1 p.2) ++ (List.range (k + 1)).map townF = ((ps.map fun p => roadF p.1 p.2) ++ (List.range k).map townF) ++ [townF k] by rw [List.range_succ, List.map_append, List.append_assoc]; rfl)
              have hol : ((ps.map fun p => roadF p.1 p.2) ++ (List.range k).map townF).length ≤ 18 := by rw [List.length_append, List.length_map (f := townF), List.length_range]; omega
              generalize (ps.map fun p => roadF p.1 p.2) ++ (List.range k).map townF = out at *
              have hsz := HB.out.size
              have hz3 := HG.out.lt
              go_wp2_with (first
                | (go_at_call 43; refine (townCalls k (by omega) _).mono ?_; rintro e w3 ⟨rfl, hb3⟩; have HB3 := Lib.hid (HB.out.trans (hb3.mono hsz)); have HO3 := Lib.hid (HO.out.below RFact.steady hb3); have HR3 := Lib.hid (HR.out.below hb3 HR.out.lt); have HG3 := Lib.hid (HG.out.below hb3 HG.out.lt); have hs3 : wr.heap.size ≤ w3.heap.size := hb3.size; clear hb3)
                | (at_builtin; refine wpList_append_one (B := w.heap.size + 2) (e := 27) (S := fun b => w.heap.size + 2 ≤ b) (by rfl) _ _ 24 (by rfl) RFact.steady rowFacts _ out (by rfl) ((HO3.out.alloc RFact.steady _).alloc RFact.steady _) (w3.heap.size + 1) 1 #[.string xtown, .slice (some ⟨w3.heap.size, 0, none⟩) 1 1] 27 (0, 0) (townF k) (by rfl) (heap_new_at (by simp)) rfl (by simp [Value.oneCell']) ⟨_, rfl, RdStrs.litS (l := [tn k]) rfl (by simp [maxLen]) (by exact ⟨by omega, fun e => by have := (HO3.out.row_lt e.symm).2; omega⟩) ((Blk.new w3 9 #[.string (tn k)]).alloc _)⟩ (by omega) (by simp; omega) ?_; intro v4 w4 hown4 hg4 hat4; rw [← HSN.out] at hown4; have hrow : ∀ q, (Value.ownBlock u8) = some q → w.heap.size + 2 ≤ q := fun q hq => (HO3.out.row_lt hq).1; have HO4 := Lib.hid hown4; have HB4 := Lib.hid (((HB3.out.alloc (by omega) _).alloc (by simp; omega) _).grown hg4 (by simp; omega) (fun q hq => by have := hrow q hq; omega)); have HR4 := Lib.hid (((HR3.out.alloc _).alloc _).grown hg4 (fun e => by have := hrow _ e.symm; omega)); have HG4 := Lib.hid (((HG3.out.alloc _).alloc _).grown hg4 (fun e => by have := hrow _ e.symm; omega)); clear hown4 hg4 hat4 hrow))
              go_roundw
              case rel => exact ⟨k + 1, by omega, by go_num, HO4, HB4, HR4, HG4⟩
              case measure => simp [intOf]; omega
            · have hkt' : ¬ (k : Int) < (t : Int) := by omega
              obtain rfl : k = t := by omega
              have hrd := HO.out.read RFact.steady
              obtain ⟨fa, fc, rfl, -, -, -⟩ := id hrd.form
              have HFR := Lib.hid (hrd.more RFact.steady (S' := fun _ => True) (fun _ _ _ => trivial))
              have hol : ((ps.map fun p => roadF p.1 p.2) ++ (List.range k).map townF).length ≤ 18 := by rw [List.length_append, List.length_map (f := townF), List.length_range]; omega
              have HCA := Lib.hid (show ∀ z ∈ (ps.map fun p => roadF p.1 p.2) ++ (List.range k).map townF, z.args.length ≤ 1073741824 from fun z hz => by
                rcases List.mem_append.1 hz with hz | hz
                · obtain ⟨p, -, rfl⟩ := List.mem_map.1 hz; show 2 ≤ _; decide
                · obtain ⟨p, -, rfl⟩ := List.mem_map.1 hz; show 1 ≤ _; decide)
              have HNL := Lib.hid (show ofF ((ps.map fun p => roadF p.1 p.2) ++ (List.range k).map townF) = netL k ps from rfl)
              generalize (ps.map fun p => roadF p.1 p.2) ++ (List.range k).map townF = out at *
              have hct := cellsOf_size tb
              rw [HTB.out] at hct
              have hld := load_table (P := Tryz.prog) HG.out hct
              have hldd := load_table (P := Tryz.prog) HG.out.drew hct
              have hsz := HB.out.size
              clear hrd HO
              have hz0 : (cellsOf table0).size = 64 := by rw [cellsOf_size]; rfl
              have HFD := Lib.hid (RdSlice.agree RFact.steady (Below.agree (Below.refl wr.heap.size wr).drew) HFR.out)
              have HON := Lib.hid (cellsOf_one tb)
              have HKO := Lib.hid (ofNew (r := netL k ps) HNL.out HFD.out (Nat.le_trans hol (by decide)) HCA.out)
              have hszT : (Tryz.prog.info? 90).map (·.size) = some (cellsOf tb).size := by rw [hct]; kernel_rfl
              have hz1 : (cellsOf table0).size = (cellsOf tb).size := by rw [hz0, hct]
              go_wp2
              refine wp_region_held_drew (S := fun w' => Blk w' (w.heap.size + 1) 90 (cellsOf tb)) (by kernel_rfl) ?_ (fun hHeld => ?_)
              · exact HG.out.drew
              refine wpAnyH_take (i := 0) (oi := ⟨some 111, _, _, _, _, _⟩) (v := ?_) rfl (by kernel_rfl) (by kernel_rfl) (by kernel_rfl) (fun _ _ _ h => h) (Or.inl ⟨by rfl, ?_⟩) (by assumption) ?_
              rotate_left
              · (intro w' hSw; (try dsimp only at hSw); go_simp; try with_reducible rfl)
              try simp only [Act.put, List.setIfInBounds_toArray, List.set_cons_zero, List.set_cons_succ]
              refine wpAnyH_take (i := 2) (oi := ⟨some 113, _, _, _, _, _⟩) (v := .agg (cellsOf tb)) rfl (by kernel_rfl) (by kernel_rfl) (by kernel_rfl) (fun _ _ _ h => h) (Or.inl ⟨by rfl, ?_⟩) (by assumption) ?_
              · exact yields_row (by rfl) (by rfl) (fun _ h => h) Tryz.underlying90 rfl hszT
              try simp only [Act.put, List.setIfInBounds_toArray, List.set_cons_zero, List.set_cons_succ]
              refine wpAnyH_ready (rs := [1]) (by kernel_rfl) (by simp) ?_
              refine AllReadyH.cons (o := ⟨some 112, _, _, _, _, _⟩) rfl (fun K hK => ?_) AllReadyH.nil
              go_simp
              (go_at_call 47; (with_reducible refine (HKO.out).mono ?_); rintro e w5 ⟨⟨oa, oc, rfl, hr5⟩, hb5⟩; have hb5' := (Below.refl wr.heap.size wr).drew.trans hb5; have HB5 := Lib.hid (HB.out.trans (hb5'.mono hsz)); have HR5 := Lib.hid (HR.out.below hb5' HR.out.lt); have HG5 := Lib.hid (HG.out.below hb5' HG.out.lt); have HF5 := Lib.hid hr5; clear hb5 hb5' hr5)
              refine hK.out _ _ ?_ (fun hHeld => ?_)
              · exact HG5.out
              clear hK K
              try simp only [Act.put, List.setIfInBounds_toArray, List.set_cons_zero, List.set_cons_succ]
              refine wpAnyH_take (i := 3) (oi := ⟨some 6, _, _, _, _, _⟩) (v := ?_) rfl (by kernel_rfl) (by kernel_rfl) (by kernel_rfl) (fun _ _ _ h => h) (Or.inl ⟨by rfl, ?_⟩) (by assumption) ?_
              rotate_left
              · (intro w' hSw; (try dsimp only at hSw); go_simp; try with_reducible rfl)
              try simp only [Act.put, List.setIfInBounds_toArray, List.set_cons_zero, List.set_cons_succ]
              refine wpAnyH_ready (rs := [4]) (by kernel_rfl) (by simp) ?_
              refine AllReadyH.cons (o := ⟨none, _, _, _, _, _⟩) rfl (fun K hK => ?_) AllReadyH.nil
              rw [if_pos (by rfl)]
              refine wp_store_row 90 (.tmp 7) (.tmp 113) (by rfl) w.heap.size (cellsOf tb) (by rfl) (by rfl) 90 (cellsOf table0) HR5.out hszT hz1 HON.out ?_
              refine hK.out _ _ ?_ (fun hHeld => ?_)
              · exact (setRow_other w5 w.heap.size (w.heap.size + 1) _ (by omega)).trans HG5.out
              clear hK K
              refine wpAnyH_done (by kernel_rfl) ?_ _
              have hwr := set_row HR5.out hz1
              go_wp2
              refine bodyPost_ret (v := .tuple #[.slice oa (netL k ps).length oc, .agg (cellsOf tb)]) ?_ rfl ⟨oa, oc, by rw [HTC.out], ?_, ?_⟩
              · exact results_tmp_cell Tryz.results41 _ _ w.heap.size 90 (cellsOf tb) (by rfl) (setRow_heap w5 w.heap.size _ _ _ _ HR5.out) Tryz.underlying90 rfl hszT
              · exact (RdSlice.agree RFact.steady (hwr.agree (fun h => by have h' : wr.drew.heap.size ≤ w.heap.size := h; have := HR.out.lt; have e : wr.drew.heap.size = wr.heap.size := rfl; omega)) HF5.out).more RFact.steady (fun _ _ _ => trivial)
              · exact ⟨hwr.os.trans HB5.out.os, hwr.tape.trans HB5.out.tape, hwr.output.trans HB5.out.output, Nat.le_trans HB5.out.size hwr.size, fun q hq => (hwr.block q (Nat.lt_of_lt_of_le hq HB5.out.size) (fun e => by have h2 := Option.some.inj e; omega)).trans (HB5.out.block q hq)⟩
end Go.Proofs.YtgoaiohkodbadaaGreat
