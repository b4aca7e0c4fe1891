/-
  THE TEXTS DeskP, DeskK, Alive8P, DeskW1, DeskR1, DeskR2, one behind the other.
-/
import Derived.Test.YtiiicochdidolaaGreatPk1
import Derived.Test.YtiiicochdidolaaGreatPk2
import Derived.Test.YtiiicochdidolaaGreatPk3
import Derived.Test.YtiiicochdidolaaGreatPk4
import Derived.Test.YtiiicochdidolaaGreatPk5
import Derived.Test.YtiiicochdidolaaGreatPk6
import Derived.Test.YtiiicochdidolaaGreatPk9
import Derived.Test.YtiiicochdidolaaGreatPk13
import Derived.Test.YtiiicochdidolaaGreatPk15
import Derived.Test.YtiiicochdidolaaGreatPk18
import Derived.Test.YtiiicochdidolaaGreatPk21
import Derived.Lib.AppendStr
import Derived.Laws.IdiomStrings
import Derived.Laws.BytesArg
namespace Go.Proofs.YtiiicochdidolaaGreat
structure PDo where
  kind : Int
  n : Int
  fact : PFact
  text : Str
structure PAns where
  err : Int
  at' : Int
  n : Int
  binds : List Binds
  proof : PProof
structure PDesk where
  told : List PFact
  rules : List PRule
  running : Bool
  run : PRun
  saved : Option Bytes
def zeroDesk : PDesk := ⟨[], [], false, zeroRun, none⟩
def zeroPf : PProof := .mk ⟨⟨#[]⟩, []⟩ 0 []
def ansE (e at' : Int) : PAns := ⟨e, at', 0, [], zeroPf⟩
def ansN (n : Nat) : PAns := ⟨0, 0, n, [], zeroPf⟩
abbrev StrataFn := List PRule → List Int × (Int × Int)
section
variable (sp : StrataFn)
def tellP (d : PDesk) (f : PFact) : PDesk × PAns := if wrongF f ≠ 0 then (d, ansE (wrongF f) 0) else if 200 < (joinF d.told [f]).length then (d, ansE 5 0) else ({ d with told := joinF d.told [f] }, ansN (joinF d.told [f]).length)
def rulesP (d : PDesk) (s : Str) : PDesk × PAns := if (parseF s).2.1 ≠ 0 then (d, ansE (parseF s).2.1 (parseF s).2.2) else if (sp (parseF s).1).2.1 ≠ 0 then (d, ansE (sp (parseF s).1).2.1 (sp (parseF s).1).2.2)
  else (⟨d.told, (parseF s).1, false, zeroRun, none⟩, ansN (parseF s).1.length)
def askP (d : PDesk) (s : Str) : PAns := if (parseBodyF s).2.1 ≠ 0 then ansE (parseBodyF s).2.1 (parseBodyF s).2.2 else if (d.running && d.run.done) = false then ansE 11 0
  else if (allP (parseBodyF s).1 d.run.known).2 ≠ 0 then ansE (allP (parseBodyF s).1 d.run.known).2 0 else ⟨0, 0, (allP (parseBodyF s).1 d.run.known).1.length, (allP (parseBodyF s).1 d.run.known).1, zeroPf⟩
def setD (d : PDesk) (x : PRun × Int) : PDesk × PAns := if x.2 ≠ 0 then (d, ansE x.2 0) else ({ d with running := true, run := x.1 }, ansN x.1.known.length)
def proveD (d : PDesk) (f : PFact) : PAns := ⟨(proveP (sp d.rules).1 (sp d.rules).2.1 d.rules d.told f).2, 0, 0, [], (proveP (sp d.rules).1 (sp d.rules).2.1 d.rules d.told f).1.getD zeroPf⟩
def saveD (d : PDesk) : PDesk × PAns := if (saveP (sp d.rules).1 (sp d.rules).2.1 d.rules d.run).2 ≠ 0 then (d, ansE (saveP (sp d.rules).1 (sp d.rules).2.1 d.rules d.run).2 0)
  else ({ d with saved := some (saveP (sp d.rules).1 (sp d.rules).2.1 d.rules d.run).1 }, ansN (saveP (sp d.rules).1 (sp d.rules).2.1 d.rules d.run).1.length)
def backD (d : PDesk) : PDesk × PAns := match d.saved with
  | none => (d, ansE 6 0)
  | some b => setD d (loadP (sp d.rules).1 (sp d.rules).2.1 d.rules b)
def doP (d : PDesk) (x : PDo) : PDesk × PAns :=
  if x.kind = 1 then tellP d x.fact else if x.kind = 2 then rulesP sp d x.text else if x.kind = 3 then setD d (beginP (sp d.rules).1 (sp d.rules).2.1 d.rules d.told)
  else if x.kind = 5 then (d, askP d x.text) else if x.kind = 6 then (d, proveD sp d x.fact) else if x.kind = 8 then backD sp d
  else if x.kind = 4 then (if d.running then setD d (stepsRun (sp d.rules).1 (sp d.rules).2.1 d.rules d.run x.n) else (d, ansE 11 0))
  else if x.kind = 7 then (if d.running then saveD sp d else (d, ansE 11 0)) else (d, ansE 1 0)
def playL : PDesk → List PDo → PDesk × List PAns
  | d, [] => (d, [])
  | d, x :: l => ((playL (doP sp d x).1 l).1, (doP sp d x).2 :: (playL (doP sp d x).1 l).2)
def playP (l : List PDo) : PDesk × List PAns × Int := if 60 < l.length then (zeroDesk, [], 5) else ((playL sp zeroDesk l).1, (playL sp zeroDesk l).2, 0)
end
variable {sp : StrataFn}
theorem playL_len : ∀ (l : List PDo) (d : PDesk), (playL sp d l).2.length = l.length
  | [], _ => rfl
  | x :: l, d => by rw [playL, List.length_cons, List.length_cons, playL_len l]
theorem playL_append : ∀ (l m : List PDo) (d : PDesk), playL sp d (l ++ m) = ((playL sp (playL sp d l).1 m).1, (playL sp d l).2 ++ (playL sp (playL sp d l).1 m).2)
  | [], m, d => rfl
  | x :: l, m, d => by rw [List.cons_append, playL, playL_append l m]; rfl
theorem playL_take (l : List PDo) (d : PDesk) {i : Nat} {x : PDo} (h : l[i]? = some x) : (playL sp d (l.take (i + 1))).1 = (doP sp (playL sp d (l.take i)).1 x).1 := by
  rw [List.take_add_one, h, playL_append]
  rfl
theorem setD_err {d : PDesk} {x : PRun × Int} (h : (setD d x).2.err ≠ 0) : (setD d x).1 = d := by
  unfold setD at h ⊢
  split
  · rfl
  · rename_i hx; rw [if_neg hx] at h; exact absurd rfl h
theorem do_refused {d : PDesk} {x : PDo} (h : (doP sp d x).2.err ≠ 0 ∨ x.kind = 5 ∨ x.kind = 6) : (doP sp d x).1 = d := by
  unfold doP at h ⊢
  by_cases h1 : x.kind = 1
  · rw [if_pos h1] at h ⊢
    rcases h with h | h | h
    · unfold tellP at h ⊢
      split
      · rfl
      · rename_i a
        split
        · rfl
        · rename_i b; rw [if_neg a, if_neg b] at h; exact absurd rfl h
    · omega
    · omega
  rw [if_neg h1] at h ⊢
  by_cases h2 : x.kind = 2
  · rw [if_pos h2] at h ⊢
    rcases h with h | h | h
    · unfold rulesP at h ⊢
      split
      · rfl
      · rename_i a
        split
        · rfl
        · rename_i b; rw [if_neg a, if_neg b] at h; exact absurd rfl h
    · omega
    · omega
  rw [if_neg h2] at h ⊢
  by_cases h3 : x.kind = 3
  · rw [if_pos h3] at h ⊢
    rcases h with h | h | h
    · exact setD_err h
    · omega
    · omega
  rw [if_neg h3] at h ⊢
  by_cases h5 : x.kind = 5
  · rw [if_pos h5]
  rw [if_neg h5] at h ⊢
  by_cases h6 : x.kind = 6
  · rw [if_pos h6]
  rw [if_neg h6] at h ⊢
  replace h := h.resolve_right (fun e => e.elim h5 h6)
  by_cases h8 : x.kind = 8
  · rw [if_pos h8] at h ⊢
    unfold backD at h ⊢
    cases hs : d.saved with
    | none => rfl
    | some b => rw [hs] at h; exact setD_err h
  rw [if_neg h8] at h ⊢
  by_cases h4 : x.kind = 4
  · rw [if_pos h4] at h ⊢
    cases hr : d.running
    · rfl
    · rw [hr, if_pos rfl] at h; exact setD_err h
  rw [if_neg h4] at h ⊢
  by_cases h7 : x.kind = 7
  · rw [if_pos h7] at h ⊢
    cases hr : d.running
    · rfl
    · rw [hr, if_pos rfl] at h
      rw [if_pos rfl]
      unfold saveD at h ⊢
      split
      · rfl
      · rename_i a; rw [if_neg a] at h; exact absurd rfl h
  rw [if_neg h7]
def goodDo (x : PDo) (a : PAns) : Bool := decide (a.err = 0) && decide (x.kind ≠ 5) && decide (x.kind ≠ 6)
def goodsP (d : PDesk) : List PDo → List PAns → List PDo
  | x :: l, a :: m => if goodDo x a then x :: goodsP d l m else goodsP d l m
  | _, _ => []
theorem goods_len (d : PDesk) : ∀ (l : List PDo) (m : List PAns), (goodsP d l m).length ≤ l.length
  | [], m => by simp [goodsP]
  | x :: l, [] => by simp [goodsP]
  | x :: l, a :: m => by
    have := goods_len d l m
    rw [goodsP]
    split
    · simp only [List.length_cons]; omega
    · simp only [List.length_cons]; omega
theorem refused {z : PDesk} : ∀ (l : List PDo) (d : PDesk), (playL sp d (goodsP z l (playL sp d l).2)).1 = (playL sp d l).1 ∧ ∀ a ∈ (playL sp d (goodsP z l (playL sp d l).2)).2, a.err = 0
  | [], d => ⟨rfl, by simp [playL, goodsP]⟩
  | x :: l, d => by
    rw [playL, goodsP]
    obtain ⟨h1, h2⟩ := refused (z := z) l (doP sp d x).1
    by_cases hg : goodDo x (doP sp d x).2 = true
    · rw [if_pos hg, playL]
      refine ⟨h1, fun a ha => ?_⟩
      rcases List.mem_cons.1 ha with rfl | ha
      · unfold goodDo at hg
        simp only [Bool.and_eq_true, decide_eq_true_eq] at hg
        exact hg.1.1
      · exact h2 a ha
    · rw [if_neg hg]
      have he : (doP sp d x).1 = d := by
        apply do_refused
        unfold goodDo at hg
        simp only [Bool.and_eq_true, decide_eq_true_eq, ne_eq] at hg
        by_cases e : (doP sp d x).2.err = 0
        · by_cases k5 : x.kind = 5
          · exact .inr (.inl k5)
          · exact .inr (.inr (Classical.byContradiction fun k6 => hg ⟨⟨e, k5⟩, k6⟩))
        · exact .inl e
      rw [he] at h1 h2 ⊢
      exact ⟨h1, h2⟩
structure Upon (st : List Int) (p : List PRule) (l : List PFact) (r : PRun) : Prop where
  ok : RunOk st p r
  low : ∀ x0 t, (x0, t) ∈ p.zip st → t < r.stratum → ∀ x, Derives x0 r.known x → x ∈ r.known
  on : r.done = false → Sync (p.zip st) r.stratum r.known r.new
  told : ∀ x ∈ r.known, x ∈ l ∨ x.name ∈ headsOf p
theorem Upon.step {st : List Int} {p : List PRule} {l : List PFact} {L : Str → Nat} (hS : Sol p L) (hst : p.zip st = withL L p) (hR : Ruled st p) {r : PRun} (h : Upon st p l r) (hd : r.done = false) (h2 : r.rounds ≠ 1000) {r' : PRun} (hs : Stepped (p.zip st) (countP st) r r') : Upon st p l r' := by
  have hy := h.on hd
  have hstl : Still (p.zip st) r.stratum r.known r'.known := by rw [hst] at hs ⊢; exact still_of hS h.ok.sub hs
  refine ⟨hs.ok hR h.ok hd h2, fun x0 t hm ht x hx => ?_, fun _ => hs.sync hy hstl, fun x hx => ?_⟩
  · rcases hs.how with ⟨a1, a2, a3, a4⟩ | ⟨a1, a2, a3, a4⟩
    · rw [a1] at hx
      rw [a3] at ht
      by_cases e : t = r.stratum
      · exact hs.all hy hm e hx
      · rw [a1]
        exact h.low x0 t hm (by omega) x hx
    · rw [a1] at ht
      refine hs.sub x (h.low x0 t hm ht x (hx.agree fun a ha f hf => ⟨fun h1 => ?_, hs.sub f⟩))
      rcases (hs.mem f).1 h1 with h2 | h2
      · exact h2
      · obtain ⟨r1, t1, hm1, e1, hd1⟩ := h2.derives h.ok.sub
        rw [hst] at hm hm1
        obtain ⟨k1, k2⟩ := mem_withL.1 hm1
        obtain ⟨g1, g2⟩ := mem_withL.1 hm
        have hnm := hd1.name
        have hup := hS.up x0 g1 a ha
        rw [← hf, hnm] at hup
        omega
  · rcases (hs.mem x).1 hx with h1 | h1
    · exact h.told x h1
    · obtain ⟨r1, t1, hm1, -, hd1⟩ := h1.derives h.ok.sub
      exact .inr (by rw [hd1.name]; exact List.mem_map.2 ⟨r1, (List.of_mem_zip hm1).1, rfl⟩)
theorem Upon.iter {st : List Int} {p : List PRule} {l : List PFact} {L : Str → Nat} (hS : Sol p L) (hst : p.zip st = withL L p) (hR : Ruled st p) : ∀ {n : Nat} {r : PRun}, Upon st p l r → (iterP st 0 p n r).2 = 0 → Upon st p l (iterP st 0 p n r).1
  | 0, r, h, _ => h
  | n + 1, r, h, hz => by
    cases hd : r.done
    case true => rw [iter_still hd]; exact h
    rw [iterP, if_neg (by rw [hd]; simp), step_good_eq h.ok] at hz ⊢
    rcases step_cases hR h.ok hd with h1 | ⟨h1, -⟩ | ⟨h1, h2, h3⟩
    · rw [h1] at hz; exact absurd hz (by simp)
    · rw [h1] at hz; exact absurd hz (by simp)
    rw [if_neg (by simpa using h1)] at hz ⊢
    exact Upon.iter hS hst hR (h.step hS hst hR hd h2 h3) hz
theorem Upon.more {st : List Int} {p : List PRule} {l m : List PFact} {r : PRun} (h : Upon st p l r) (hl : ∀ x ∈ l, x ∈ m) : Upon st p m r := ⟨h.ok, h.low, h.on, fun x hx => (h.told x hx).imp (hl x) id⟩
theorem zip_of {p : List PRule} {st : List Int} {L : Str → Nat} (e : st = p.map (fun r => (L r.head.name : Int))) : p.zip st = withL L p := by rw [e]; exact zip_withL L p
theorem upon_begin {p : List PRule} {st : List Int} {q : Int × Int} (hs : StrataIs p st q) {l : List PFact} (h : (beginP st q.1 p l).2 = 0) : Upon st p l (beginP st q.1 p l).1 := by
  obtain ⟨h1, h2, e, hok⟩ := begin_ok hs h
  obtain ⟨-, -, -, L, -, hst⟩ := strata_count hs h1
  refine ⟨hok, fun x0 t hm ht => ?_, fun _ => ?_, fun x hx => ?_⟩
  · rw [e] at ht
    rw [zip_of hst] at hm
    obtain ⟨-, k2⟩ := mem_withL.1 hm
    have ht' : t < 0 := ht
    omega
  · rw [e]; exact sync_all _ _ _
  · rw [e] at hx; exact .inl hx
theorem upon_steps {p : List PRule} {st : List Int} {q : Int × Int} (hs : StrataIs p st q) (hq : q.1 = 0) {l : List PFact} {r : PRun} (h : Upon st p l r) {n : Int} (hn : (stepsRun st q.1 p r n).2 = 0) : Upon st p l (stepsRun st q.1 p r n).1 := by
  obtain ⟨hR, -, -, L, hL, hst⟩ := strata_count hs hq
  rw [hq] at hn ⊢
  by_cases hr : n < 0 ∨ 1000 < n
  · unfold stepsRun at hn; rw [if_neg (by rw [runBad_zero.2 ⟨rfl, h.ok⟩]; simp), if_pos hr] at hn; exact absurd hn (show (3 : Int) ≠ 0 by decide)
  · rw [steps_good h.ok (by omega) (by omega)] at hn ⊢
    exact h.iter hL.sol (zip_of hst) hR hn
theorem upon_done {p : List PRule} {st : List Int} {q : Int × Int} (hs : StrataIs p st q) (hq : q.1 = 0) {l : List PFact} {r : PRun} (h : Upon st p l r) (hd : r.done = true) {x0 : PRule} (hx0 : x0 ∈ p) {x : PFact} (hx : Derives x0 r.known x) : x ∈ r.known := by
  obtain ⟨hR, -, -, L, hL, hst⟩ := strata_count hs hq
  have hm : (x0, (L x0.head.name : Int)) ∈ p.zip st := by rw [zip_of hst]; exact mem_withL.2 ⟨hx0, rfl⟩
  have hlt := count_gt (List.of_mem_zip hm).2
  have hdn := h.ok.done
  rw [hd] at hdn
  have he : r.stratum = countP st := by simpa using hdn.symm
  exact h.low x0 _ hm (by omega) x hx
structure DeskOk (sp : StrataFn) (d : PDesk) : Prop where
  told : Good d.told
  rules : (sp d.rules).2.1 = 0
  few : d.rules.length ≤ 16
  run : d.running = true → Upon (sp d.rules).1 d.rules d.told d.run
  none_ : d.running = false → d.run = zeroRun
  saved : ∀ b, d.saved = some b → ∃ r, b = runB8 r ∧ Upon (sp d.rules).1 d.rules d.told r
theorem join_good {l : List PFact} {f : PFact} (h : Good l) (hf : wrongF f = 0) (hn : ¬ 200 < (joinF l [f]).length) : Good (joinF l [f]) :=
  ⟨ofF_rising _, by omega, fun x hx => by
    rcases (mem_joinF l [f] x).1 hx with hx | hx
    · exact h.fine x hx
    · obtain rfl := List.mem_singleton.1 hx; exact hf⟩
theorem setD_ok {d : PDesk} (h : DeskOk sp d) {x : PRun × Int} (hx : x.2 = 0 → Upon (sp d.rules).1 d.rules d.told x.1) : DeskOk sp (setD d x).1 := by
  unfold setD
  split
  · exact h
  · rename_i hc
    exact ⟨h.told, h.rules, h.few, fun _ => hx (Classical.not_not.1 hc), fun hf => (by cases hf), h.saved⟩
theorem parse_few {s : Str} (_h : (parseF s).2.1 = 0) (hq : (wrongP (parseF s).1).1 = 0) : (parseF s).1.length ≤ 16 := (wrongP_iff.1 hq).1
theorem do_ok (hsp : ∀ p, StrataIs p (sp p).1 (sp p).2) {d : PDesk} (h : DeskOk sp d) (x : PDo) : DeskOk sp (doP sp d x).1 := by
  unfold doP
  by_cases h1 : x.kind = 1
  · rw [if_pos h1]
    unfold tellP
    split
    · exact h
    · rename_i a
      split
      · exact h
      · rename_i b
        have hm : ∀ y ∈ d.told, y ∈ joinF d.told [x.fact] := fun y hy => (mem_joinF _ _ y).2 (.inl hy)
        exact ⟨join_good h.told (Classical.not_not.1 a) b, h.rules, h.few, fun hr => (h.run hr).more hm, h.none_, fun b hb => by
          obtain ⟨r, e, hu⟩ := h.saved b hb
          exact ⟨r, e, hu.more hm⟩⟩
  rw [if_neg h1]
  by_cases h2 : x.kind = 2
  · rw [if_pos h2]
    unfold rulesP
    split
    · exact h
    · rename_i a
      split
      · exact h
      · rename_i b
        have hq := Classical.not_not.1 b
        exact ⟨h.told, hq, parse_few (Classical.not_not.1 a) (strata_zero (hsp _) hq).2.1, fun hr => (by cases hr), fun _ => rfl, fun b hb => (by cases hb)⟩
  rw [if_neg h2]
  by_cases h3 : x.kind = 3
  · rw [if_pos h3]
    exact setD_ok h fun he => upon_begin (hsp _) he
  rw [if_neg h3]
  by_cases h5 : x.kind = 5
  · rw [if_pos h5]; exact h
  rw [if_neg h5]
  by_cases h6 : x.kind = 6
  · rw [if_pos h6]; exact h
  rw [if_neg h6]
  by_cases h8 : x.kind = 8
  · rw [if_pos h8]
    unfold backD
    cases hs : d.saved with
    | none => exact h
    | some b =>
      obtain ⟨r, rfl, hu⟩ := h.saved b hs
      refine setD_ok h fun he => ?_
      obtain ⟨-, -, cc, -⟩ := strata_count (hsp d.rules) h.rules
      obtain ⟨g1, g2⟩ := load_save (q := (sp d.rules).2.1) cc (runBad_zero.2 ⟨h.rules, hu.ok⟩)
      have he' := (load_zero he).2.2
      rw [g2] at he'
      show Upon _ _ _ (loadP (sp d.rules).1 (sp d.rules).2.1 d.rules (runB8 r)).1
      rw [he']
      exact hu
  rw [if_neg h8]
  by_cases h4 : x.kind = 4
  · rw [if_pos h4]
    cases hr : d.running
    · exact h
    · rw [if_pos rfl]
      exact setD_ok h fun he => upon_steps (hsp _) h.rules (h.run hr) he
  rw [if_neg h4]
  by_cases h7 : x.kind = 7
  · rw [if_pos h7]
    cases hr : d.running
    · exact h
    · rw [if_pos rfl]
      unfold saveD
      split
      · exact h
      · rename_i a
        refine ⟨h.told, h.rules, h.few, h.run, h.none_, fun b hb => ⟨d.run, ?_, h.run hr⟩⟩
        have hb' : some (saveP (sp d.rules).1 (sp d.rules).2.1 d.rules d.run).1 = some b := hb
        obtain rfl := Option.some.inj hb'
        unfold saveP
        rw [if_neg (by rw [runBad_zero.2 ⟨h.rules, (h.run hr).ok⟩]; simp)]
  rw [if_neg h7]
  exact h
theorem zero_ok (hsp : ∀ p, StrataIs p (sp p).1 (sp p).2) : DeskOk sp zeroDesk := by
  refine ⟨⟨List.Pairwise.nil, Nat.zero_le _, fun x hx => by cases hx⟩, ?_, Nat.zero_le _, fun h => (by cases h), fun _ => rfl, fun b hb => (by cases hb)⟩
  have h1 : StrataIs [] ([].map fun _ => (0 : Int)) (0, 0) := .inr ⟨by decide +kernel, .inl ⟨fun _ => 0, ⟨⟨fun _ _ => rfl, fun r hr => by cases hr⟩, fun M _ s => Nat.zero_le _⟩, rfl, rfl⟩⟩
  have h2 := (StrataIs.unique (hsp []) h1).2
  show (sp []).2.1 = 0
  rw [h2]
theorem play_ok (hsp : ∀ p, StrataIs p (sp p).1 (sp p).2) : ∀ (l : List PDo) {d : PDesk}, DeskOk sp d → DeskOk sp (playL sp d l).1
  | [], _, h => h
  | x :: l, _, h => play_ok hsp l (do_ok hsp h x)
theorem done_told (_hsp : ∀ p, StrataIs p (sp p).1 (sp p).2) {d : PDesk} (h : DeskOk sp d) (hr : d.running = true) {x : PFact} (hx : x ∈ d.run.known) (hh : x.name ∉ headsOf d.rules) : x ∈ d.told := ((h.run hr).told x hx).resolve_right hh
theorem done_heads (hsp : ∀ p, StrataIs p (sp p).1 (sp p).2) {d : PDesk} (h : DeskOk sp d) (hr : d.running = true) (hd : d.run.done = true) {x0 : PRule} (hx0 : x0 ∈ d.rules) (he : (headsP x0 d.run.known).2 = 0) : lessF (headsP x0 d.run.known).1 d.run.known = [] :=
  lessF_nil_iff.2 fun x hx => upon_done (hsp _) h.rules (h.run hr) hd hx0 ((mem_heads he x).1 hx)
end Go.Proofs.YtiiicochdidolaaGreat
namespace Go.Proofs.YtiiicochdidolaaGreat
theorem name12 {s : Str} (h : nameL s.data.toList = true ∨ varL s.data.toList = true) : s.size ≤ 12 := by
  have e : s.data.toList.length = s.size := by rw [Array.length_toList]; rfl
  rcases h with h | h
  · simp only [nameL, Bool.and_eq_true, decide_eq_true_eq] at h; omega
  · simp only [varL, Bool.and_eq_true, decide_eq_true_eq] at h; omega
theorem ruleOk_small {r : PRule} (h : RuleOk r) : RuleSmall r := by
  refine ⟨by have := h.head.many; omega, fun t ht => by have := name12 (h.head.terms t ht).1; omega, by have := h.many; omega, fun a ha => by have := (h.body a ha).many; omega, fun a ha t ht => by have := name12 ((h.body a ha).terms t ht).1; omega⟩
theorem ruleOk_names {r : PRule} (h : RuleOk r) : NameSmall r :=
  ⟨by have := name12 (.inl h.head.name); omega, fun a ha => by have := name12 (.inl (h.body a ha).name); omega⟩
theorem parse_ok (s : Str) : (parseF s).1.length ≤ 16 ∧ ∀ r ∈ (parseF s).1, RuleOk r := by
  unfold parseF
  split
  · exact ⟨Nat.zero_le _, fun r hr => by cases hr⟩
  · rcases hg : progF 16 [] s.data.toList with ⟨er, r'⟩ | ⟨l, r⟩
    · exact ⟨Nat.zero_le _, fun r hr => by cases hr⟩
    · obtain ⟨h1, h2⟩ := progF_ok 16 [] _ (by simp) hg
      exact ⟨by simpa using h1, h2⟩
theorem body_ok (s : Str) : (parseBodyF s).1.length ≤ 5 ∧ ∀ a ∈ (parseBodyF s).1, AtomOk a := by
  unfold parseBodyF
  split
  · exact ⟨Nat.zero_le _, fun r hr => by cases hr⟩
  · unfold bodyAllF
    rcases hg : bodyF 5 [] s.data.toList with ⟨er, r'⟩ | ⟨l, r⟩
    · exact ⟨Nat.zero_le _, fun r hr => by cases hr⟩
    · obtain ⟨h1, h2⟩ := bodyF_ok 5 [] _ (by simp) hg
      dsimp only
      by_cases hb : blankF false r = []
      · rw [if_pos hb]; exact ⟨by simpa using h1, h2⟩
      · rw [if_neg hb]; exact ⟨Nat.zero_le _, fun r hr => by cases hr⟩
variable {sp : StrataFn}
def RulesOk (d : PDesk) : Prop := ∀ r ∈ d.rules, RuleOk r
theorem setD_rules (d : PDesk) (x : PRun × Int) : (setD d x).1.rules = d.rules := by unfold setD; split <;> rfl
theorem do_rules {d : PDesk} (h : RulesOk d) (x : PDo) : RulesOk (doP sp d x).1 := by
  have hs : ∀ y : PDesk, y.rules = d.rules → RulesOk y := fun y e => by unfold RulesOk; rw [e]; exact h
  unfold doP
  split
  · refine hs _ ?_
    unfold tellP
    split
    · rfl
    · split <;> rfl
  split
  · unfold rulesP
    split
    · exact h
    · split
      · exact h
      · exact (parse_ok x.text).2
  split
  · exact hs _ (setD_rules _ _)
  split
  · exact h
  split
  · exact h
  split
  · refine hs _ ?_
    unfold backD
    split
    · rfl
    · exact setD_rules _ _
  split
  · split
    · exact hs _ (setD_rules _ _)
    · exact h
  split
  · split
    · refine hs _ ?_
      unfold saveD
      split <;> rfl
    · exact h
  exact h
theorem zero_rules : RulesOk zeroDesk := fun r hr => by cases hr
theorem play_rules : ∀ (l : List PDo) {d : PDesk}, RulesOk d → RulesOk (playL sp d l).1
  | [], _, h => h
  | x :: l, _, h => play_rules l (do_rules h x)
end Go.Proofs.YtiiicochdidolaaGreat
namespace Go.Proofs.YtiiicochdidolaaGreat
def spC : StrataFn := fun p => (p.map fun _ => 0, (0, 0))
section
variable {sp sp' : StrataFn}
theorem doP_congr {d : PDesk} {x : PDo} (h1 : sp d.rules = sp' d.rules) (h2 : sp (parseF x.text).1 = sp' (parseF x.text).1) : doP sp d x = doP sp' d x := by
  unfold doP rulesP proveD saveD backD
  simp only [h1, h2]
theorem do_in {R : List PRule → Prop} {d : PDesk} {x : PDo} (h : R d.rules) (hx : R (parseF x.text).1) : R (doP sp d x).1.rules := by
  have hs : ∀ y : PDesk, y.rules = d.rules → R y.rules := fun y e => by rw [e]; exact h
  unfold doP
  split
  · refine hs _ ?_
    unfold tellP
    split
    · rfl
    · split <;> rfl
  split
  · unfold rulesP
    split
    · exact h
    · split
      · exact h
      · exact hx
  split
  · exact hs _ (setD_rules _ _)
  split
  · exact h
  split
  · exact h
  split
  · refine hs _ ?_
    unfold backD
    split
    · rfl
    · exact setD_rules _ _
  split
  · split
    · exact hs _ (setD_rules _ _)
    · exact h
  split
  · split
    · refine hs _ ?_
      unfold saveD
      split <;> rfl
    · exact h
  exact h
theorem playL_congr {R : List PRule → Prop} (hR : ∀ p, R p → sp p = sp' p) : ∀ (l : List PDo) {d : PDesk}, R d.rules → (∀ x ∈ l, R (parseF x.text).1) → playL sp d l = playL sp' d l
  | [], _, _, _ => rfl
  | x :: l, d, h, hl => by
    have e := doP_congr (sp := sp) (sp' := sp') (d := d) (x := x) (hR _ h) (hR _ (hl x (by simp)))
    rw [playL, playL, e, playL_congr hR l (do_in h (hl x (by simp))) fun y hy => hl y (by simp [hy])]
end
def xQ8 : Str := ⟨#[113]⟩
def xa8 : Str := ⟨#[97]⟩
def xb8 : Str := ⟨#[98]⟩
def xX8 : Str := ⟨#[88]⟩
def a8Text : Str := ⟨#[98, 40, 88, 41, 32, 58, 45, 32, 97, 40, 88, 41, 46]⟩
def a8Ask : Str := ⟨#[98, 40, 88, 41]⟩
def a8Prog : List PRule := [⟨⟨false, xb8, [⟨true, xX8⟩]⟩, [⟨false, xa8, [⟨true, xX8⟩]⟩]⟩]
def noF : PFact := ⟨⟨#[]⟩, []⟩
def a8L : List PDo := [⟨1, 0, ⟨xa8, [xQ8]⟩, ⟨#[]⟩⟩, ⟨2, 0, noF, a8Text⟩, ⟨3, 0, noF, ⟨#[]⟩⟩, ⟨4, 9, noF, ⟨#[]⟩⟩, ⟨7, 0, noF, ⟨#[]⟩⟩, ⟨5, 0, noF, a8Ask⟩]
theorem parse_a8 : parseF a8Text = (a8Prog, 0, 0) := by decide +kernel
theorem wrong_a8 : wrongP a8Prog = (0, 0) := by decide +kernel
theorem least_a8 : Least a8Prog (fun _ => 0) := least_plain fun r hr a ha => by
  have h := List.all_eq_true.1 (show a8Prog.all (fun r => r.body.all fun a => !a.neg) = true by decide +kernel) r hr
  simpa using List.all_eq_true.1 h a ha
theorem strata_a8 : StrataIs a8Prog [0] (0, 0) := .inr ⟨by rw [wrong_a8], .inl ⟨_, least_a8, by decide +kernel, rfl⟩⟩
theorem play_a8 {sp : StrataFn} (hsp : ∀ p, StrataIs p (sp p).1 (sp p).2) : playP sp a8L = playP spC a8L := by
  have h0 : StrataIs [] ([].map fun _ => (0 : Int)) (0, 0) := .inr ⟨by decide +kernel, .inl ⟨fun _ => 0, ⟨⟨fun _ _ => rfl, fun r hr => by cases hr⟩, fun M _ s => Nat.zero_le _⟩, rfl, rfl⟩⟩
  have h1 : sp [] = spC [] := by obtain ⟨a, b⟩ := StrataIs.unique (hsp []) h0; exact Prod.ext a b
  have h2 : sp a8Prog = spC a8Prog := by obtain ⟨a, b⟩ := StrataIs.unique (hsp a8Prog) strata_a8; exact Prod.ext a b
  have e : playL sp zeroDesk a8L = playL spC zeroDesk a8L := playL_congr (R := fun p => p = [] ∨ p = a8Prog) (fun p hp => hp.elim (fun e => by rw [e]; exact h1) (fun e => by rw [e]; exact h2)) a8L (.inl rfl) fun x hx => by
    have hx' : x = ⟨1, 0, ⟨xa8, [xQ8]⟩, ⟨#[]⟩⟩ ∨ x = ⟨2, 0, noF, a8Text⟩ ∨ x = ⟨3, 0, noF, ⟨#[]⟩⟩ ∨ x = ⟨4, 9, noF, ⟨#[]⟩⟩ ∨ x = ⟨7, 0, noF, ⟨#[]⟩⟩ ∨ x = ⟨5, 0, noF, a8Ask⟩ := by simpa [a8L] using hx
    have e0 : (parseF ⟨#[]⟩).1 = [] := by decide +kernel
    have e1 : (parseF a8Ask).1 = [] := by decide +kernel
    rcases hx' with rfl | rfl | rfl | rfl | rfl | rfl
    · exact .inl e0
    · exact .inr (by rw [parse_a8])
    · exact .inl e0
    · exact .inl e0
    · exact .inl e0
    · exact .inl e1
  unfold playP
  rw [e]
def a8B : Bytes := [1, 0, 2, 1, 2, 1, 97, 1, 1, 113, 1, 98, 1, 1, 113, 1, 1]
theorem a8_err : (playP spC a8L).2.2 = 0 := by decide +kernel
theorem a8_len : (playP spC a8L).2.1.length = 6 := by decide +kernel
theorem a8_ask : ((playP spC a8L).2.1[5]?).map (·.n) = some 1 := by decide +kernel
theorem a8_rules : (playP spC a8L).1.rules = a8Prog := by decide +kernel
theorem a8_saved : (playP spC a8L).1.saved = some a8B := by decide +kernel
theorem a8_load : (loadP [0] 0 a8Prog a8B).2 = 0 := by decide +kernel
theorem a8_done : (loadP [0] 0 a8Prog a8B).1.done = true := by decide +kernel
theorem a8_ans : ∃ a, (playP spC a8L).2.1[5]? = some a ∧ a.n = 1 := by
  have h := a8_ask
  cases hg : (playP spC a8L).2.1[5]? with
  | none => rw [hg] at h; cases h
  | some a => rw [hg] at h; exact ⟨a, rfl, Option.some.inj h⟩
theorem a8_ok : ∀ r ∈ a8Prog, RuleOk r := by have h := (parse_ok a8Text).2; rw [parse_a8] at h; exact h
end Go.Proofs.YtiiicochdidolaaGreat
namespace Go.Proofs.YtiiicochdidolaaGreat
open Go.RowKit
def u8v (c : UInt8) : Value := .int .u8 c.toNat
def RU8 : Reader UInt8 := fun _ _ cs c => cs = [u8v c]
theorem RU8.steady : Steady RU8 := ⟨fun _ h => h, fun _ h => h⟩
abbrev RdBytes := RdSlice 1 RU8
theorem rowU8 : RowT Tryz.prog 29 5 1 := RowT.mk' (b := 1) (z := .int .u8 0) Tryz.underlying29 (by kernel_rfl) (by omega) rfl (by omega)
abbrev OwnB (B : Nat) (w : World) (v : Value) (bs : Bytes) : Prop := Owned 1 RU8 B 5 (fun _ => False) w v bs
theorem ones_flatten : ∀ {css : List (List Value)} {bs : Bytes}, css.length = bs.length → (∀ (i : Nat) (cs : List Value) (c : UInt8), css[i]? = some cs → bs[i]? = some c → cs = [u8v c]) → css.flatten = bs.map u8v
  | [], [], _, _ => rfl
  | [], c :: bs, h, _ => by simp at h
  | cs :: css, [], h, _ => by simp at h
  | cs :: css, c :: bs, h, hh => by
    rw [List.flatten_cons, hh 0 cs c rfl rfl, List.map_cons, ones_flatten (css := css) (bs := bs) (by simpa using h) fun i cs' c' h1 h2 => hh (i + 1) cs' c' (by simpa using h1) (by simpa using h2)]
    rfl
theorem ownB_iff {B : Nat} {w : World} {v : Value} {bs : Bytes} : OwnB B w v bs ↔ w.ownsRow B 5 1 v bs.length (bs.map u8v) := by
  constructor
  · rintro ⟨css, h1, h2, h3, h4⟩
    rwa [ones_flatten h1 fun i cs c hc hb => h4 i cs c hc hb] at h3
  · intro h
    refine ⟨bs.map fun c => [u8v c], by simp, by simp, ?_, fun i cs c h1 h2 => ?_⟩
    · rwa [ones_flatten (bs := bs) (by simp) fun i cs c h1 h2 => ?_]
      rw [List.getElem?_map, h2] at h1
      exact (Option.some.inj h1).symm
    · rw [List.getElem?_map, h2] at h1
      exact (Option.some.inj h1).symm
theorem strCells_is (s : Str) : Go.Lib.strCells s = s.data.toList.map u8v := rfl
theorem u8_wrap (n : Nat) : IntKind.u8.wrap (n : Int) = ((UInt8.ofNat n).toNat : Int) := by
  rw [UInt8.toNat_ofNat']
  simp only [IntKind.wrap, IntKind.bits, IntKind.signed]
  first | rfl | (simp; done) | omega
theorem grown_trans {w w' w'' : World} {row row' : Option Nat} (h : w.grownBy w' row) (g : w'.grownBy w'' row') (hr : row' = row ∨ ∀ q, row' = some q → w.heap.size ≤ q) : w.grownBy w'' row :=
  ⟨g.os.trans h.os, g.tape.trans h.tape, g.output.trans h.output, Nat.le_trans h.size g.size, fun k hk hne => (g.block k (Nat.lt_of_lt_of_le hk h.size) (fun e => by
    rcases hr with e2 | e2
    · exact hne (e.trans e2)
    · have := e2 k e.symm; omega)).trans (h.block k hk hne)⟩
theorem grown_below {w w' : World} (h : Below w.heap.size w w') (row : Option Nat) : w.grownBy w' row := ⟨h.os, h.tape, h.output, h.size, fun k hk _ => h.block k hk⟩
def RowOf (w : World) (v v' : Value) : Prop := v'.ownBlock = v.ownBlock ∨ ∀ q, v'.ownBlock = some q → w.heap.size ≤ q
theorem RowOf.trans {w w' : World} {v v' v'' : Value} (h : RowOf w v v') (hs : w.heap.size ≤ w'.heap.size) (g : RowOf w' v' v'') : RowOf w v v'' := by
  rcases g with g | g
  · rcases h with h | h
    · exact .inl (g.trans h)
    · exact .inr fun q hq => h q (by rw [← g]; exact hq)
  · exact .inr fun q hq => Nat.le_trans hs (g q hq)
theorem RowOf.grown {w w' w'' : World} {v v' : Value} (h : RowOf w v v') (h1 : w.grownBy w' v.ownBlock) (h2 : w'.grownBy w'' v'.ownBlock) : w.grownBy w'' v.ownBlock := grown_trans h1 h2 h
section
open Go.Lib
variable {P : Program} {w : World}
theorem run_append_string_at {base : Nat} {t u ty e : TypeId} {i : TypeInfo} (ht : P.underlying t = some (.slice e)) (hu : P.underlying u = some .string) (hi : P.info? e = some i) (hz : i.zero = some (.int .u8 0))
    (hsize : i.size = 1) (hby : i.bytes = 1) {v : Value} {n : Nat} {xs : List Value} (hown : w.ownsRow base e 1 v n xs) (s : ByteArray) (h63 : n + s.size ≤ 1099511627776) (hbase : base ≤ w.heap.size) :
    ∃ v' w', (Builtin.append_ #[t, u] ty #[v, .string s]).run P w = .ok v' w' ∧ w'.ownsRow base e 1 v' (n + s.size) (xs ++ strCells s) ∧ w.grownBy w' v.ownBlock ∧ RowOf w v v' := by
  have hmx : n + s.size ≤ maxLen := Nat.le_trans h63 (by simp [maxLen])
  have hxl : xs.length = n := by simpa using hown.1
  have hlen : (xs ++ strCells s).length = (n + s.size) * 1 := by rw [List.length_append, hxl, strCells_length, Nat.mul_one]
  have grown : ∀ (old : Nat), ∀ (row : Option Nat),
      (w.drew.alloc (.cells (xs.toArray ++ (strCells s).toArray ++ Builtin.zeroCells (Value.int .u8 0).cells (grownCap w (n + s.size) old e - (n + s.size))) e)).ownsRow base e 1
        (.slice (some ⟨w.heap.size, 0, none⟩) (n + s.size) (grownCap w (n + s.size) old e)) (n + s.size) (xs ++ strCells s) ∧
      w.grownBy (w.drew.alloc (.cells (xs.toArray ++ (strCells s).toArray ++ Builtin.zeroCells (Value.int .u8 0).cells (grownCap w (n + s.size) old e - (n + s.size))) e)) row := by
    intro old row
    have hge := grownCap_ge w (n + s.size) old e
    have hcm : grownCap w (n + s.size) old e ≤ maxLen := grownCap_le_maxLen w (n + s.size) old e hmx
    refine ⟨⟨hlen, .inr ⟨w.heap.size, _, _, rfl, hbase, heap_alloc_new w.drew _, hge, hcm, ?_, ?_⟩⟩, ⟨rfl, rfl, rfl, by simp, fun k hk _ => Below.heap_alloc w.drew _ k hk⟩⟩
    · have hz1 : (Value.int IntKind.u8 0).cells.size = 1 := rfl
      simp only [Array.size_append, List.size_toArray, size_zeroCells, hz1, hxl, strCells_length]
      omega
    · simp only [Array.toList_append, List.append_assoc]
      rw [← List.append_assoc, ← hlen]
      exact List.take_left
  have hnew : ∀ c, RowOf w v (.slice (some ⟨w.heap.size, 0, none⟩) (n + s.size) c) := fun c => .inr fun q hq => by obtain rfl := Option.some.inj hq; exact Nat.le_refl _
  rcases hown.2 with ⟨rfl, rfl⟩ | ⟨g, cap, cur, rfl, hbg, hg, hnc, hcm, hcs, htake⟩
  · have hx : xs = [] := List.eq_nil_of_length_eq_zero hxl
    subst hx
    by_cases hm : s.size = 0
    · have hn : strCells s = [] := List.eq_nil_of_length_eq_zero (by rw [strCells_length]; exact hm)
      refine ⟨.slice none 0 0, w, ?_, by rw [hm, hn]; exact World.ownsRow_nil w base e 1, ⟨rfl, rfl, rfl, Nat.le_refl _, fun _ _ _ => rfl⟩, .inl rfl⟩
      have hf := run_firstCells_string (P := P) w 1 s
      rw [hm] at hf
      simp [Builtin.append_, run_underlying ht, run_underlying hu, sizeOf, typeInfo, hi, hsize, Builtin.lenOf, hm, hf]
    · have hr := run_append_nil_string (P := P) w t u ty e i (.int .u8 0) ht hu hi hz s (by omega) (by omega) (by rw [hby]; omega)
      have hgr := grown 0 (Value.ownBlock (.slice none 0 0))
      simp only [Nat.zero_add, List.nil_append, Array.empty_append] at hgr ⊢
      have e1 : (s.data.map fun b => Value.int .u8 b.toNat) = (strCells s).toArray := by
        apply Array.ext'
        simp [strCells]
      rw [e1] at hr
      exact ⟨_, _, hr, hgr.1, hgr.2, .inr fun q hq => by obtain rfl := Option.some.inj hq; exact Nat.le_refl _⟩
  · by_cases hroom : n + s.size ≤ cap
    · have hcs' : cur.size = cap := by simpa using hcs
      have hr := run_append_room_string (P := P) w t u ty e i ht hu hi hsize g n cap cur hg s hroom (by omega)
      refine ⟨_, _, hr, ⟨hlen, .inr ⟨g, cap, _, rfl, hbg, setRow_heap w g cur _ e _ hg, hroom, hcm, ?_, ?_⟩⟩, ⟨rfl, rfl, rfl, by simp, fun k _ hk => setRow_other w g k _ (fun e => hk (by simp [Value.ownBlock, e]))⟩, .inl rfl⟩
      · simp only [List.size_toArray, List.length_append, List.length_take, List.length_drop, Array.length_toList, strCells_length]
        omega
      · have ht' : cur.toList.take n = xs := by simpa using htake
        rw [ht', ← hlen]
        exact List.take_left
    · have holds : ∀ j u, xs[j]? = some u → w.cell? ((⟨g, 0, none⟩ : Addr).add j) = some u := hown.cells (g := g) rfl
      have hr := run_append_grow_string (P := P) w t u ty e i (.int .u8 0) ht hu hi hz ⟨g, 0, none⟩ n cap xs (by rw [hsize]; simpa using hxl) holds s (by omega) (by omega) (by rw [hby]; exact growslice_fits (by omega) (by omega))
      have hgr := grown cap (Value.ownBlock (.slice (some ⟨g, 0, none⟩) n cap))
      exact ⟨_, _, hr, hgr.1, hgr.2, hnew _⟩
theorem wpList_append_string {ops : Array Oper} {rest : List Oper} {o : Oper} {a : Act} {Q : Exit → Act → World → Prop} (hgd : o.guard = none) (sl x : Operand) (t u : TypeId)
    (ho : o.op = .call { callee := .builtin .append, args := #[sl, x], argTypes := #[t, u] }) (base : Nat) (e : TypeId) (i : TypeInfo) (ht : P.underlying t = some (.slice e)) (hu : P.underlying u = some .string) (hi : P.info? e = some i) (hz : i.zero = some (.int .u8 0))
    (hsize : i.size = 1) (hby : i.bytes = 1) (v : Value) (n : Nat) (xs : List Value) (hs : a.eval sl = v) (hown : w.ownsRow base e 1 v n xs) (s : ByteArray) (hx : a.eval x = .string s) (h63 : n + s.size ≤ 1099511627776) (hbase : base ≤ w.heap.size)
    (h : ∀ v' w', w'.ownsRow base e 1 v' (n + s.size) (xs ++ strCells s) → w.grownBy w' v.ownBlock → RowOf w v v' → wpList P ops Q rest (a.put o.dst v') w') : wpList P ops Q (o :: rest) a w := by
  refine wpList_plain hgd fun K hK => ?_
  obtain ⟨v', w', hr, h2, h3, h4⟩ := run_append_string_at (P := P) (ty := o.type) ht hu hi hz hsize hby hown s h63 hbase
  unfold Oper.wp execOp
  simp only [ho, resolve, invoke, builtin, Sem.run_bind, Sem.run_pure, Result.andThen_ok, List.map_toArray, List.map_cons, List.map_nil, hs, hx, hr]
  exact hK _ _ (h v' w' h2 h3 h4)
end
def BytesPost (B : Nat) (v : Value) (bs : Bytes) (w : World) (e : Ending) (w' : World) : Prop := ∃ v', e = .returned v' ∧ OwnB B w' v' bs ∧ w.grownBy w' v.ownBlock ∧ RowOf w v v'
theorem infoU8 : ∃ i, Tryz.prog.info? 5 = some i ∧ i.zero = some (.int .u8 0) ∧ i.size = 1 ∧ i.bytes = 1 := by
  have h : (Tryz.prog.info? 5).map (fun i => (i.zero, i.size, i.bytes)) = some (some (.int .u8 0), 1, 1) := by kernel_rfl
  obtain ⟨i, h1, h2, h3, h4⟩ := info_parts h
  exact ⟨i, h1, h2, h3, h4⟩
set_option maxRecDepth 100000 in
set_option maxHeartbeats 4000000 in
theorem textCalls (B : Nat) (v : Value) (bs : Bytes) (s : Str) (w : World) (ho : OwnB B w v bs) (hl : bs.length ≤ 1073741824) (hs : s.size ≤ 1073741824) (hB : B ≤ w.heap.size) :
    Calls Tryz.prog 115 #[v, .string s] w (BytesPost B v (bs ++ textB s) w) := by
  obtain ⟨i, q1, q2, q3, q4⟩ := infoU8
  have HO := Lib.hid ho
  have hw := u8_wrap s.size
  have e2 : (bs ++ [UInt8.ofNat s.size]) ++ s.data.toList = bs ++ textB s := by unfold textB; rw [List.append_assoc]; rfl
  have hsl := str_len s
  clear ho
  go_enter Tryz.func115, Tryz.ntmps115
  go_wp2_with (first
    | (at_builtin; have hh := HO2.out; clear hh; refine wpList_append_string (by rfl) _ _ 29 9 (by rfl) B 5 i Tryz.underlying29 Tryz.underlying9 q1 q2 q3 q4 _ _ _ (by rfl) (ownB_iff.1 HO2.out) s (by rfl) (by simp; omega) (Nat.le_trans hB HG2.out.size) ?_; intro v3 w3 ho3 hg3 hr3; rw [strCells_is, ← List.map_append, e2, show (bs ++ [UInt8.ofNat s.size]).length + s.size = (bs ++ textB s).length by rw [← e2, List.length_append (bs := s.data.toList), hsl]] at ho3; have HO3 := Lib.hid (ownB_iff.2 ho3); have HG3 := Lib.hid (HR2.out.grown HG2.out hg3); have HR3 := Lib.hid (HR2.out.trans HG2.out.size hr3); clear ho3 hg3 hr3)
    | (at_builtin; refine wpList_append_one (B := B) (e := 5) (S := fun _ => False) (by rfl) _ _ 29 (by rfl) RU8.steady rowU8 _ bs (by rfl) (HO.out.alloc RU8.steady _) w.heap.size 1 #[u8v (UInt8.ofNat s.size)] 5 (0, 0) (UInt8.ofNat s.size) (by rfl) (heap_alloc_new w _) rfl (by simp [Value.oneCell', u8v]) rfl (by omega) (by simp; omega) ?_; intro v2 w2 ho2 hg2 hat2; have HO2 := Lib.hid ho2; have HG2 := Lib.hid (grown_trans (grown_below ((Below.refl w.heap.size w).alloc (Nat.le_refl _) _) v.ownBlock) hg2 (.inl rfl)); have HR2 := Lib.hid (show RowOf w v v2 from hat2.elim .inl fun e => .inr fun q hq => by rw [e] at hq; obtain rfl := Option.some.inj hq; simp); clear ho2 hg2 hat2))
  go_ret
  exact ⟨v3, rfl, HO3.out, HG3.out, HR3.out⟩
end Go.Proofs.YtiiicochdidolaaGreat
namespace Go.Proofs.YtiiicochdidolaaGreat
open Go.RowKit
def Rr (B : Nat) (s : RdB) (w : World) : Prop := ∃ v, Blk w B 109 #[v, .bool s.ok] ∧ RdBytes (fun b => b < B) w v s.b
theorem Rr.grown {B : Nat} {s : RdB} {w w' : World} (h : Rr B s w) (hb : Below w.heap.size w w') : Rr B s w' := by
  obtain ⟨v, h1, h2⟩ := h
  exact ⟨v, h1.below hb h1.lt, h2.agree RU8.steady (Below.agree hb)⟩
theorem Rr.alloc {B : Nat} {s : RdB} {w : World} (h : Rr B s w) (o : Obj) : Rr B s (w.alloc o) := h.grown ((Below.refl _ _).alloc (Nat.le_refl _) o)
theorem Rr.drew {B : Nat} {s : RdB} {w : World} (h : Rr B s w) : Rr B s w.drew := h.grown (Below.refl _ _).drew
theorem Rr.lt {B : Nat} {s : RdB} {w : World} (h : Rr B s w) : B < w.heap.size := by obtain ⟨v, h1, -⟩ := h; exact h1.lt
theorem Rr.setCell {B : Nat} {s : RdB} {w : World} (h : Rr B s w) {p : Addr} (hp : B < p.block) (u : Value) : Rr B s (w.setCell p u) := by
  obtain ⟨v, h1, h2⟩ := h
  exact ⟨v, h1.far (by omega) u, h2.agree RU8.steady (Agree.setCell (by omega) u)⟩
theorem byteD_lt (s : RdB) : (byteD s).1 < 256 := by
  obtain ⟨b, o⟩ := s
  cases b with
  | nil => exact Nat.zero_lt_succ _
  | cons x r => exact x.toNat_lt
def RPost (B : Nat) (v : Value) (s : RdB) (w : World) (e : Ending) (w' : World) : Prop := e = .returned v ∧ Rr B s w' ∧ But B w w'
theorem rdBytes_set {B : Nat} {w : World} {v : Value} {bs : Bytes} {p : Addr} (h : RdBytes (fun b => b < B) w v bs) (hp : p.block = B) (u : Value) : RdBytes (fun b => b < B) (w.setCell p u) v bs := h.agree RU8.steady (Agree.setCell (by omega) u)
theorem rr_set0 {B : Nat} {ok : Bool} {w : World} {v v' : Value} {bs : Bytes} (h : Blk w B 109 #[v, .bool ok]) (hr : RdBytes (fun b => b < B) w v' bs) : Rr B ⟨bs, ok⟩ (w.setCell ⟨B, 0, none⟩ v') := ⟨v', h.set_ 0 _, rdBytes_set hr rfl _⟩
theorem rr_set1 {B : Nat} {ok : Bool} {w : World} {v : Value} {bs : Bytes} (h : Blk w B 109 #[v, .bool ok]) (hr : RdBytes (fun b => b < B) w v bs) (k : Bool) : Rr B ⟨bs, k⟩ (w.setCell ⟨B, 1, none⟩ (.bool k)) := ⟨v, h.set_ 1 _, rdBytes_set hr rfl _⟩
attribute [local go_sem ↓] Go.wp_at_zero Go.wp_at_succ
set_option maxRecDepth 100000 in
set_option maxHeartbeats 4000000 in
theorem byteCalls (B : Nat) (s : RdB) (w : World) (h : Rr B s w) : Calls Tryz.prog 41 #[.pointer (some ⟨B, 0, none⟩)] w (RPost B (.int .i64 (byteD s).1) (byteD s).2 w) := by
  obtain ⟨bs, ok⟩ := s
  obtain ⟨v, h1, h2⟩ := h
  dsimp only at h1 h2
  have HX := Lib.hid h1
  have hf0 := h1.frozen 0
  have hf1 := h1.frozen 1
  have c0 := h1.cell 0
  have c1 := h1.cell 1
  simp only [List.getElem?_toArray, List.getElem?_cons_zero, List.getElem?_cons_succ] at c0 c1
  have HR := Lib.hid h2
  clear h1 h2
  cases bs with
  | nil =>
    obtain ⟨a, c, rfl, -, -, -⟩ := id HR.out.form
    dsimp only [List.length_nil] at *
    go_enter Tryz.func41, Tryz.ntmps41
    go_wp2
    go_ret
    exact ⟨rfl, rr_set1 HX.out HR.out false, (But.refl _ _).setCell (.inl rfl) _⟩
  | cons x r =>
    obtain ⟨a, c, hv, hcl, hcm, -⟩ := id HR.out.form
    subst hv
    obtain ⟨b, o, rfl, hb, d0⟩ : ∃ b o, a = some ⟨b, o, none⟩ ∧ b < B ∧ w.cell? ⟨b, o, none⟩ = some (u8v x) := by
      obtain ⟨a', c', hv, -, -, -, h3⟩ := HR.out
      injection hv with e1 e2 e3
      subst e1 e3
      obtain ⟨b, o, cs, ha, hS, -, -, hc, hx⟩ := h3 0 x rfl
      exact ⟨b, o, ha, hS, by simpa using hc 0 (u8v x) (by rw [hx]; rfl)⟩
    obtain ⟨n, hn⟩ : ∃ n, n = r.length := ⟨_, rfl⟩
    rw [List.length_cons, ← hn] at c0 HX HR hcl
    have HD := Lib.hid (HR.out.drop_some (j := 1) (by simp))
    have HV := Lib.hid (show u8v x = .int .u8 x.toNat from rfl)
    rw [HV.out] at d0
    have hx1 : (x.toNat : Int) < 256 := by have := x.toNat_lt; omega
    have n0 : (0 : Int) < (n : Int) + 1 := by omega
    have n1 : (1 : Int) ≤ (n : Int) + 1 := by omega
    have n2 : ((n + 1 : Nat) : Int) = (n : Int) + 1 := rfl
    have n3 : ¬ ((n : Int) + 1 = 0) := by omega
    have HN := Lib.hid hn
    clear hn hcm
    by_cases hc1 : c = 1
    all_goals
      first | (subst hc1; rw [if_pos rfl] at HD) | rw [if_neg hc1] at HD
      go_enter Tryz.func41, Tryz.ntmps41
      go_wp2
      go_ret
      exact ⟨rfl, rr_set0 HX.out (by first | (rw [HN.out]; simpa using HD.out) | (have h0 : r.length = 0 := (by have := HN.out; omega); obtain rfl := List.length_eq_zero_iff.1 h0; simpa using HD.out)), (But.refl _ _).setCell (.inl rfl) _⟩
set_option maxRecDepth 100000 in
theorem rd_conv {B : Nat} {w : World} {a : Option Addr} {n c : Nat} {bs : Bytes} (h : RdBytes (fun b => b < B) w (.slice a n c) bs) (hn : bs.length = n) :
    (convert 29 9 (.slice a n c)).run Tryz.prog w = .ok (.string (strOf bs)) w := by
  subst hn
  obtain ⟨a', c', hv, -, -, -, h3⟩ := h
  injection hv with e1 e2 e3
  subst e1 e3
  cases a with
  | none =>
    have h0 : bs = [] := by
      cases bs with
      | nil => rfl
      | cons x r => obtain ⟨b, o, cs, ha, -⟩ := h3 0 x rfl; cases ha
    subst h0
    exact run_convert_bytes_nil w 29 5 Tryz.underlying29 Tryz.underlying5 0 c 9 Tryz.underlying9
  | some p =>
    refine run_convert_bytes_back w 29 9 5 p c bs Tryz.underlying29 Tryz.underlying5 Tryz.underlying9 fun j hj => ?_
    obtain ⟨b, o, cs, ha, -, -, -, hc, hx⟩ := h3 j bs[j] (List.getElem?_eq_getElem hj)
    obtain rfl := Option.some.inj ha
    have h4 := hc 0 (u8v bs[j]) (by rw [hx]; rfl)
    have e : (⟨b, o, none⟩ : Addr).add j = ⟨b, o + j * 1 + 0, none⟩ := by unfold Addr.add; split <;> simp_all
    rw [e]
    exact h4
set_option maxRecDepth 100000 in
set_option maxHeartbeats 4000000 in
theorem rtextCalls (B : Nat) (s : RdB) (w : World) (h : Rr B s w) : Calls Tryz.prog 78 #[.pointer (some ⟨B, 0, none⟩)] w (RPost B (.string (textD s).1) (textD s).2 w) := by
  have KB := Lib.hid (byteCalls B s w h)
  have hlt := byteD_lt s
  unfold textD
  rcases hbd : byteD s with ⟨n, s1⟩
  rw [hbd] at KB hlt
  dsimp only at KB hlt ⊢
  clear h hbd
  by_cases hlen : s1.b.length < n
  · rw [if_pos hlen]
    have h1 : (s1.b.length : Int) < (n : Int) := by omega
    clear hlen
    go_enter Tryz.func78, Tryz.ntmps78
    go_wp2_with (go_at_call 41; refine (KB.out).mono ?_; rintro e w1 ⟨rfl, hr1, hb1⟩; obtain ⟨v1, hx1, hy1⟩ := hr1; have HX1 := Lib.hid hx1; have HY1 := Lib.hid hy1; have HB1 := Lib.hid hb1; obtain ⟨a, c, rfl, -, -, -⟩ := id hy1.form; have f0 := hx1.frozen 0; have f1 := hx1.frozen 1; have c0 := hx1.cell 0; have c1 := hx1.cell 1; simp only [List.getElem?_toArray, List.getElem?_cons_zero, List.getElem?_cons_succ] at c0 c1; clear hx1 hy1 hb1)
    go_ret
    exact ⟨rfl, rr_set1 HX1.out HY1.out false, HB1.out.setCell (.inl rfl) _⟩
  · rw [if_neg hlen]
    have h1 : ¬ (s1.b.length : Int) < (n : Int) := by omega
    have h2 : (n : Int) ≤ (s1.b.length : Int) := by omega
    have h0 : (0 : Int) ≤ (n : Int) := by omega
    go_enter Tryz.func78, Tryz.ntmps78
    go_wp2_with (go_at_call 41; refine (KB.out).mono ?_; rintro e w1 ⟨rfl, hr1, hb1⟩; obtain ⟨v1, hx1, hy1⟩ := hr1; have HX1 := Lib.hid hx1; have HY1 := Lib.hid hy1; have HB1 := Lib.hid hb1; obtain ⟨a, c, rfl, hc1, -, -⟩ := id hy1.form; have f0 := hx1.frozen 0; have f1 := hx1.frozen 1; have c0 := hx1.cell 0; have c1 := hx1.cell 1; simp only [List.getElem?_toArray, List.getElem?_cons_zero, List.getElem?_cons_succ] at c0 c1; have hcn : (n : Int) ≤ (c : Int) := (by omega); have KV := rd_conv (RdSlice.take hy1 (j := n) (by omega)) (by rw [List.length_take]; omega); clear hx1 hy1 hb1)
    all_goals
      go_ret
      have hd := HY1.out.drop (j := n) (by omega)
      have e0 : c = n → c - n = 0 := by omega
      first
        | (rw [if_pos (by assumption), e0 (by assumption)] at hd; exact ⟨rfl, rr_set0 HX1.out (by simpa using hd), HB1.out.setCell (.inl rfl) _⟩)
        | (rw [if_neg (by assumption)] at hd; exact ⟨rfl, rr_set0 HX1.out (by simpa using hd), HB1.out.setCell (.inl rfl) _⟩)
end Go.Proofs.YtiiicochdidolaaGreat
namespace Go.Proofs.YtiiicochdidolaaGreat
open Go.RowKit
theorem but_grown {B : Nat} {a w w' : World} {row : Option Nat} (h : But B a w) (hg : w.grownBy w' row) (hr : ∀ q, row = some q → a.heap.size ≤ q) : But B a w' :=
  ⟨h.os ▸ hg.os ▸ rfl, h.tape ▸ hg.tape ▸ rfl, h.output ▸ hg.output ▸ rfl, Nat.le_trans h.size hg.size, fun k hk hne => (hg.block k (Nat.lt_of_lt_of_le hk h.size) (fun e => by have := hr k e.symm; omega)).trans (h.block k hk hne)⟩
theorem Rr.grownBy {B : Nat} {s : RdB} {w w' : World} {row : Option Nat} (h : Rr B s w) (hg : w.grownBy w' row) (hr : ∀ q, row = some q → B < q) : Rr B s w' := by
  obtain ⟨v, h1, h2⟩ := h
  exact ⟨v, h1.grown hg (fun e => by have := hr B e.symm; omega), h2.agree RU8.steady ⟨hg.size, fun b hb hl => hg.block b hl (fun e => by have := hr b e.symm; omega)⟩⟩
theorem argsD_stop {s : RdB} (k : Nat) (acc : List Str) (h : s.ok = false) : argsD k s acc = (acc, s) := by cases k <;> simp [argsD, h]
theorem argsD_go {s : RdB} (k : Nat) (acc : List Str) (h : s.ok = true) : argsD (k + 1) s acc = argsD k (textD s).2 (acc ++ [(textD s).1]) := by simp [argsD, h]
theorem listD_stop {s : RdB} (k : Nat) (acc : List PFact) (h : s.ok = false) : listD k s acc = (acc, s) := by cases k <;> simp [listD, h]
theorem listD_go {s : RdB} (k : Nat) (acc : List PFact) (h : s.ok = true) : listD (k + 1) s acc = listD k (factD s).2 (acc ++ [(factD s).1]) := by simp [listD, h]
attribute [local go_sem ↓] Go.wp_at_zero Go.wp_at_succ
set_option maxRecDepth 100000 in
set_option maxHeartbeats 8000000 in
theorem rfactsCalls (B : Nat) (s : RdB) (w : World) (h : Rr B s w) :
    Calls Tryz.prog 42 #[.pointer (some ⟨B, 0, none⟩)] w fun e w' => ∃ v, e = .returned v ∧ RdFacts (New w) w' v (factsD s).1 ∧ Rr B (factsD s).2 w' ∧ But B w w' := by
  have hBw := h.lt
  have KB := Lib.hid (byteCalls B s w h)
  have hn := byteD_lt s
  obtain ⟨g, HG⟩ : ∃ g, Hid (factsD s = g) := ⟨_, Lib.hid rfl⟩
  have HG1 := Lib.hid (show listD (byteD s).1 (byteD s).2 [] = g from HG.out)
  rw [HG.out]
  rcases hbd : byteD s with ⟨n, s1⟩
  rw [hbd] at KB HG1 hn
  dsimp only at KB HG1 hn
  clear h hbd HG
  go_enter Tryz.func42, Tryz.ntmps42
  go_wp2_with (go_at_call 41; refine (KB.out).mono ?_; rintro e w1 ⟨rfl, hr1, hb1⟩; have HR1 := Lib.hid hr1; have HB1 := Lib.hid hb1; clear hr1 hb1)
  clear KB
  go_loopw [4, 3] (fun i o wr => ∃ (k : Nat) (sk : RdB) (acc : List PFact), i = .int .i64 k ∧ acc.length + k < 256 ∧ Hid (Rr B sk wr) ∧ Hid (But B w wr) ∧ Hid (Owned 2 RFact w.heap.size 38 (New w) wr o acc) ∧ Hid (listD k sk acc = g)) (fun i _ _ => (intOf i).toNat)
  case atStart => exact ⟨n, s1, [], rfl, by simpa using hn, HR1, HB1, Lib.hid Owned.nil, HG1⟩
  case round =>
    clear HR1 HB1 HG1 hn
    obtain ⟨k, sk, acc, rfl, hak, HR, HB, HO, HG⟩ := hrel
    obtain ⟨oa, oc, rfl, -, -, -⟩ := id (HO.out.read RFact.steady).form
    obtain ⟨vr, hvr⟩ : ∃ vr, Blk wr B 109 #[vr, .bool sk.ok] := ⟨_, HR.out.choose_spec.1⟩
    have c1 := hvr.cell 1
    simp only [List.getElem?_toArray, List.getElem?_cons_zero, List.getElem?_cons_succ] at c1
    clear hvr
    cases k with
    | zero =>
      have HE := Lib.hid (show (acc, sk) = g from HG.out)
      go_wp2
      go_ret
      rw [← HE.out]
      exact ⟨_, rfl, (HO.out.read RFact.steady).more RFact.steady (fun b hb _ => hb.elim id id), HR.out, HB.out⟩
    | succ k =>
      have k0 : (0 : Int) < (k : Int) + 1 := by omega
      cases hok : sk.ok with
      | false =>
        have HE := Lib.hid ((listD_stop (k + 1) acc hok).symm.trans HG.out)
        rw [hok] at c1
        go_wp2
        go_ret
        rw [← HE.out]
        exact ⟨_, rfl, (HO.out.read RFact.steady).more RFact.steady (fun b hb _ => hb.elim id id), HR.out, HB.out⟩
      | true =>
        rw [hok] at c1
        have HG2 := Lib.hid ((listD_go k acc hok).symm.trans HG.out)
        clear HG
        have KT := Lib.hid (rtextCalls B sk wr HR.out)
        unfold factD at HG2
        generalize textD sk = ts at *
        obtain ⟨nm, st⟩ := ts
        dsimp only at HG2 KT
        have KB := Lib.hid (fun W (h : Rr B st W) => byteCalls B st W h)
        have hm := byteD_lt st
        generalize byteD st = bt at *
        obtain ⟨m, sb⟩ := bt
        dsimp only at HG2 KB hm
        go_wp2_with (first
          | (go_at_call 41; have hh := HR2.out; clear hh; refine (KB.out _ (HR2.out.alloc _)).mono ?_; rintro e w3 ⟨rfl, hr3, hb3⟩; have HR3 := Lib.hid hr3; have HF3 := Lib.hid ((Blk.new w2 38 #[.string nm, .slice none 0 0]).but hb3 (by have := HR2.out.lt; omega)); have HB3 := Lib.hid (((But.refl B w2).alloc (.cells #[.string nm, .slice none 0 0] 38)).trans hb3); clear hr3 hb3)
          | (go_at_call 78; refine (KT.out).mono ?_; rintro e w2 ⟨rfl, hr2, hb2⟩; have HR2 := Lib.hid hr2; have HB2 := Lib.hid (HB.out.trans hb2); have HO2 := Lib.hid (HO.out.butS RFact.steady hb2 hBw (by show ¬ w.heap.size ≤ B; omega)); clear hr2 hb2))
        have HZ := Lib.hid (fun q (hq : (Value.slice oa acc.length oc).ownBlock = some q) => HO2.out.row_lt hq)
        have hB2 := HR2.out.lt
        have hw2 := HB2.out.size
        obtain ⟨A, HA⟩ : ∃ A, Hid (argsD m sb [] = A) := ⟨_, Lib.hid rfl⟩
        rw [HA.out] at HG2
        clear KB KT HR2 HO HB HR c1
        go_loopw [6] (fun i wj => ∃ (j : Nat) (sj : RdB) (al : List Str) (av : Value), i = .int .i64 j ∧ al.length + j < 256 ∧ Hid (Rr B sj wj) ∧ Hid (But B w2 wj) ∧ Hid (Blk wj w2.heap.size 38 #[.string nm, av]) ∧ Hid (Owned 1 RStr (w2.heap.size + 1) 9 (fun _ => False) wj av al) ∧ Hid (argsD j sj al = A)) (fun i _ => (intOf i).toNat)
        case atStart => exact ⟨m, sb, [], _, rfl, by simpa using hm, HR3, HB3, HF3, Lib.hid Owned.nil, HA⟩
        case round =>
          clear HR3 HB3 HF3 HA hm
          obtain ⟨j, sj, al, av, rfl, haj, HRJ, HBJ, HFJ, HOJ, HAJ⟩ := hrel
          obtain ⟨aa, ac, rfl, -, -, -⟩ := id (HOJ.out.read RStr.steady).form
          obtain ⟨vr, hvr⟩ : ∃ vr, Blk wr B 109 #[vr, .bool sj.ok] := ⟨_, HRJ.out.choose_spec.1⟩
          have c1 := hvr.cell 1
          have x0 := HFJ.out.cell 0
          have x1 := HFJ.out.cell 1
          have xf := HFJ.out.frozen 1
          simp only [List.getElem?_toArray, List.getElem?_cons_zero, List.getElem?_cons_succ] at c1 x0 x1
          clear hvr
          have jc : (0 : Int) ≤ (j : Int) := by omega
          by_cases hex : j = 0 ∨ sj.ok = false
          · have HE := Lib.hid (show (al, sj) = A from hex.elim (fun e => by subst e; exact HAJ.out) fun e => (argsD_stop j al e).symm.trans HAJ.out)
            have hcs : ¬ (0 : Int) < (j : Int) ∨ ((0 : Int) < (j : Int) ∧ sj.ok = false) := by
              rcases hex with h | h
              · exact .inl (by omega)
              · by_cases h0 : j = 0
                · exact .inl (by omega)
                · exact .inr ⟨by omega, h⟩
            have HOY := Lib.hid (HO2.out.butS RFact.steady HBJ.out hBw (by show ¬ w.heap.size ≤ B; omega))
            rw [← HE.out] at HG2
            have HRA := Lib.hid (show RFact (fun b => New w b ∧ some b ≠ (Value.slice oa acc.length oc).ownBlock) (wr.alloc (.cells #[.string nm, .slice aa al.length ac] 38)) [.string nm, .slice aa al.length ac] ⟨nm, al⟩ from ⟨_, rfl, ((HOJ.out.alloc RStr.steady _).read RStr.steady).more RStr.steady (fun q hq _ => hq.elim False.elim fun hq => ⟨by show w.heap.size ≤ q; omega, fun e => by have := HZ.out q e.symm; omega⟩)⟩)
            have hjs := HBJ.out.size
            have hal : acc.length < 1099511627776 := by omega
            rcases hcs with j0 | ⟨j0, hok⟩
            all_goals
              try rw [hok] at c1
              go_wp2_with (at_builtin; refine wpList_append_one (B := w.heap.size) (e := 38) (S := New w) (by rfl) _ _ 24 (by rfl) RFact.steady rowFacts _ acc (by rfl) (HOY.out.alloc RFact.steady _) _ 1 #[.string nm, .slice aa al.length ac] 38 (0, 0) ⟨nm, al⟩ (by rfl) (heap_alloc_new _ _) rfl (by simp [Value.oneCell']) HRA.out hal (by simp; omega) ?_; intro v6 w6 hown6 hg6 hat6; have HO6 := Lib.hid hown6; have HB6 := Lib.hid (but_grown ((HB2.out.trans HBJ.out).alloc (.cells #[.string nm, .slice aa al.length ac] 38)) hg6 (fun q hq => (HZ.out q hq).1)); have HR6 := Lib.hid ((HRJ.out.alloc (.cells #[.string nm, .slice aa al.length ac] 38)).grownBy hg6 (fun q hq => by have := (HZ.out q hq).1; omega)); clear hown6 hg6 hat6)
              go_roundw
              case rel => exact ⟨k, sj, acc ++ [⟨nm, al⟩], by go_num, by simp; omega, HR6, HB6, HO6, HG2⟩
              case measure => simp [intOf]
          · have hok : sj.ok = true := by
              cases h : sj.ok
              · exact absurd (.inr h) hex
              · rfl
            obtain ⟨jj, rfl⟩ : ∃ jj, j = jj + 1 := ⟨j - 1, by omega⟩
            have j1 : (0 : Int) < (jj : Int) + 1 := by omega
            have HA2 := Lib.hid ((argsD_go jj al hok).symm.trans HAJ.out)
            rw [hok] at c1
            have KT := Lib.hid (fun W (h : Rr B sj W) => rtextCalls B sj W h)
            generalize textD sj = tx at *
            obtain ⟨x, sx⟩ := tx
            dsimp only at HA2 KT
            have hal : al.length < 1099511627776 := by omega
            have hz1 := fun q (hq : (Value.slice aa al.length ac).ownBlock = some q) => HOJ.out.row_lt hq
            have hz : some w2.heap.size ≠ (Value.slice aa al.length ac).ownBlock := fun e => by have := (hz1 _ e.symm).1; omega
            have hwj := HBJ.out.size
            have HRD := Lib.hid HRJ.out.drew
            clear hz1 hex HAJ
            go_wp2
            go_region_law
              (first
                | (have hh := HO9.out; clear hh; refine step_append_one (by rfl) _ _ 36 (by rfl) RStr.steady rowStrs _ al (by rfl) (HO9.out.alloc RStr.steady _) _ 1 #[.string x] 9 (0, 0) x (by rfl) (heap_alloc_new _ _) rfl (by simp [Value.oneCell']) rfl hal hs9 ?_; intro v10 w10 hown10 hg10 hat10; obtain ⟨xa, xc, rfl, -, -, -⟩ := id (hown10.read RStr.steady).form; have HOX := Lib.hid hown10; have HFX := Lib.hid ((HF9.out.alloc (.cells #[.string x] 9)).grown hg10 hz); have HBX := Lib.hid (but_grown (HB9.out.alloc (.cells #[.string x] 9)) hg10 (fun q hq => hq9 q hq)); have HRX := Lib.hid ((HR9.out.alloc (.cells #[.string x] 9)).grownBy hg10 (fun q hq => Nat.lt_of_lt_of_le hB2 (hq9 q hq))); have y2 := HFX.out.cell 1; simp only [List.getElem?_toArray, List.getElem?_cons_zero, List.getElem?_cons_succ] at y2; have yf := HFX.out.frozen 1; clear hown10 hg10 hat10)
                | (go_simp; go_at_call 78; refine (KT.out _ HRD.out).mono ?_; rintro e w9 ⟨rfl, hr9, hb9⟩; have HR9 := Lib.hid hr9; have HB9 := Lib.hid (HBJ.out.drew.trans hb9); have HF9 := Lib.hid (HFJ.out.drew.but hb9 (by omega)); have HO9 := Lib.hid ((HOJ.out.drew RStr.steady).butS RStr.steady hb9 (by omega) id); have hq9 : ∀ q, (Value.slice aa al.length ac).ownBlock = some q → w2.heap.size ≤ q := (fun q hq => by have := (HO9.out.row_lt hq).1; omega); have hs9 : w2.heap.size + 1 ≤ (w9.alloc (.cells #[.string x] 9)).heap.size := (by have := HF9.out.lt; simp; omega); have y1 := HF9.out.cell 1; have y3 := (HF9.out.alloc (.cells #[.string x] 9)).cell 1; simp only [List.getElem?_toArray, List.getElem?_cons_zero, List.getElem?_cons_succ] at y1 y3; clear hr9 hb9))
            all_goals
              have HRZ := Lib.hid (HRX.out.setCell (p := ⟨w2.heap.size, 1, none⟩) hB2 (.slice xa (al ++ [x]).length xc))
              have HBZ := Lib.hid (HBX.out.setCell (p := ⟨w2.heap.size, 1, none⟩) (.inr (Nat.le_refl _)) (.slice xa (al ++ [x]).length xc))
              have HFZ := Lib.hid (HFX.out.set_ 1 (.slice xa (al ++ [x]).length xc))
              have HOZ := Lib.hid (HOX.out.setCell RStr.steady (p := ⟨w2.heap.size, 1, none⟩) id (fun e => Nat.not_succ_le_self _ (HOX.out.row_lt e).1) (.slice xa (al ++ [x]).length xc))
              have hlen : (al ++ [x]).length = al.length + 1 := by simp
              rw [hlen] at HRZ HBZ HFZ HOZ
              go_wp2
              go_roundw
              case rel => exact ⟨jj, sx, al ++ [x], _, by go_num, by rw [hlen]; omega, HRZ, HBZ, HFZ, HOZ, HA2⟩
              case measure => simp [intOf]
end Go.Proofs.YtiiicochdidolaaGreat
