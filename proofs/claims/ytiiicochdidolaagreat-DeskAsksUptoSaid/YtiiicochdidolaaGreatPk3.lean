/-
  THE TEXTS Names2, CheckP, CheckW1, CheckW2, one behind the other.
-/
import Derived.Test.YtiiicochdidolaaGreatPk1
import Derived.Test.YtiiicochdidolaaGreatPk2
namespace Go.Proofs.YtiiicochdidolaaGreat
open Go.RowKit
theorem drop_cons {α : Type} {x : α} {l : List α} {k : Nat} (h : l[k]? = some x) : l.drop k = x :: l.drop (k + 1) := by
  obtain ⟨hk, rfl⟩ := List.getElem?_eq_some_iff.1 h
  exact List.drop_eq_getElem_cons hk
theorem drop_end {α : Type} {l : List α} {k : Nat} (h : l.length ≤ k) : l.drop k = [] := List.drop_eq_nil_of_le h
theorem beq_toList (x y : Str) : (x.toList == y.toList) = decide (x = y) := by
  by_cases h : x = y
  · subst h; simp
  · rw [decide_eq_false h, beq_eq_false_iff_ne]; exact fun e => h (toList_inj e)
def idxFrom (x : Str) : Nat → List Str → Int
  | _, [] => -1
  | k, y :: l => if x = y then k else idxFrom x (k + 1) l
theorem idxFrom_ge (x : Str) : ∀ l k, decide (0 ≤ idxFrom x k l) = memS x l
  | [], k => by simp [idxFrom, memS]
  | y :: l, k => by
    by_cases h : x = y
    · simp [idxFrom, memS, h]
    · simp only [idxFrom, if_neg h, memS, decide_eq_false h, Bool.false_or]
      exact idxFrom_ge x l (k + 1)
set_option maxHeartbeats 400000 in
theorem indexStr {S : Nat → Prop} (v : Value) (l : List Str) (s : Str) (w : World) (h : RdStrs S w v l) (n1 : l.length ≤ 1125899906842624) :
    Calls Tryz.prog 117 #[v, .string s] w fun e w' => e = .returned (.int .i64 (idxFrom s 0 l)) ∧ w = w' := by
  obtain ⟨a, c, rfl, -, -, -⟩ := h.form
  have H := Lib.hid h
  clear h
  go_enter Tryz.func117, Tryz.ntmps117
  go_wp2
  go_loop [8, 5] (fun i _ => ∃ k : Nat, k ≤ l.length ∧ i = .int .i64 k ∧ idxFrom s 0 l = idxFrom s k (l.drop k)) (fun i _ => l.length - (intOf i).toNat)
  case atStart => exact ⟨0, Nat.zero_le _, rfl, rfl⟩
  case round =>
    obtain ⟨k, hk, rfl, hr⟩ := hrel
    have HR := Lib.hid hr
    clear hr
    by_cases hlt : k < l.length
    · obtain ⟨x, hx⟩ : ∃ x, l[k]? = some x := ⟨_, List.getElem?_eq_getElem hlt⟩
      obtain ⟨b, o, rfl, -, -, hc⟩ := H.out.at hx
      have HX := Lib.hid hx
      clear hx
      by_cases hz : s = x
      · have gz : (s.toList == x.toList) = true := by rw [hz]; simp
        have HZ := Lib.hid hz
        clear hz
        go_wp2
        go_ret
        refine ⟨ret_int ?_, rfl⟩
        rw [HR.out, drop_cons HX.out]
        simp [idxFrom, HZ.out]
      · have gz : (s.toList == x.toList) = false := by rw [beq_toList]; exact decide_eq_false hz
        have HZ := Lib.hid hz
        clear hz
        go_wp2
        go_round
        case rel =>
          refine ⟨k + 1, by omega, by go_num, ?_⟩
          rw [HR.out, drop_cons HX.out]
          simp [idxFrom, HZ.out]
        case measure => simp [intOf]; omega
    · go_wp2
      go_ret
      refine ⟨ret_int ?_, rfl⟩
      rw [HR.out, drop_end (by omega : l.length ≤ k)]
      rfl
theorem containsStr {S : Nat → Prop} (v : Value) (l : List Str) (s : Str) (w : World) (h : RdStrs S w v l) (n1 : l.length ≤ 1125899906842624) :
    Calls Tryz.prog 91 #[v, .string s] w fun e w' => e = .returned (.bool (memS s l)) ∧ w = w' := by
  have K := indexStr v l s w h n1
  have e := idxFrom_ge s l 0
  rw [← e]
  clear e
  generalize idxFrom s 0 l = r at *
  clear h
  go_enter Tryz.func91, Tryz.ntmps91
  go_wp2_with (go_at_call 117; refine K.mono ?_; rintro e w' ⟨rfl, rfl⟩)
  go_ret
  exact ⟨rfl, rfl⟩
theorem wrong1Calls (s : Str) (w : World) : Calls Tryz.prog 111 #[.string s] w fun e w' => e = .returned (.bool (!named s)) ∧ w = w' := by
  go_enter Tryz.func111, Tryz.ntmps111
  go_wp2_with (go_at_call 109; refine (namedCalls _ _).mono ?_; rintro e w' ⟨rfl, rfl⟩)
  go_ret
  exact ⟨rfl, rfl⟩
def badFrom : Nat → List Str → Int
  | _, [] => -1
  | k, y :: l => if named y then badFrom (k + 1) l else k
theorem badFrom_ge : ∀ l k, decide (0 ≤ badFrom k l) = !l.all named
  | [], k => by simp [badFrom]
  | y :: l, k => by
    cases h : named y
    · simp [badFrom, h]
    · simp only [badFrom, h, if_true, List.all_cons, Bool.true_and]
      exact badFrom_ge l (k + 1)
set_option maxHeartbeats 400000 in
theorem indexFuncStr {S : Nat → Prop} (v : Value) (l : List Str) (w : World) (h : RdStrs S w v l) (n1 : l.length ≤ 1125899906842624) :
    Calls Tryz.prog 133 #[v, .func (.func 111) #[] #[]] w fun e w' => e = .returned (.int .i64 (badFrom 0 l)) ∧ w = w' := by
  obtain ⟨a, c, rfl, -, -, -⟩ := h.form
  have H := Lib.hid h
  clear h
  go_enter Tryz.func133, Tryz.ntmps133
  go_wp2
  go_loop [8, 5] (fun i _ => ∃ k : Nat, k ≤ l.length ∧ i = .int .i64 k ∧ badFrom 0 l = badFrom k (l.drop k)) (fun i _ => l.length - (intOf i).toNat)
  case atStart => exact ⟨0, Nat.zero_le _, rfl, rfl⟩
  case round =>
    obtain ⟨k, hk, rfl, hr⟩ := hrel
    have HR := Lib.hid hr
    clear hr
    by_cases hlt : k < l.length
    · obtain ⟨x, hx⟩ : ∃ x, l[k]? = some x := ⟨_, List.getElem?_eq_getElem hlt⟩
      obtain ⟨b, o, rfl, -, -, hc⟩ := H.out.at hx
      have HX := Lib.hid hx
      clear hx
      cases hz : named x
      · have HZ := Lib.hid hz
        have K : Calls Tryz.prog 111 #[.string x] w fun e w' => e = .returned (.bool true) ∧ w = w' := by have := wrong1Calls x w; rwa [hz] at this
        clear hz
        go_wp2_with (go_at_call 111; refine K.mono ?_; rintro e w' ⟨rfl, rfl⟩)
        go_ret
        refine ⟨ret_int ?_, rfl⟩
        rw [HR.out, drop_cons HX.out]
        simp [badFrom, HZ.out]
      · have HZ := Lib.hid hz
        have K : Calls Tryz.prog 111 #[.string x] w fun e w' => e = .returned (.bool false) ∧ w = w' := by have := wrong1Calls x w; rwa [hz] at this
        clear hz
        go_wp2_with (go_at_call 111; refine K.mono ?_; rintro e w' ⟨rfl, rfl⟩)
        go_round
        case rel =>
          refine ⟨k + 1, by omega, by go_num, ?_⟩
          rw [HR.out, drop_cons HX.out]
          simp [badFrom, HZ.out]
        case measure => simp [intOf]; omega
    · go_wp2
      go_ret
      refine ⟨ret_int ?_, rfl⟩
      rw [HR.out, drop_end (by omega : l.length ≤ k)]
      rfl
theorem containsFuncStr {S : Nat → Prop} (v : Value) (l : List Str) (w : World) (h : RdStrs S w v l) (n1 : l.length ≤ 1125899906842624) :
    Calls Tryz.prog 110 #[v, .func (.func 111) #[] #[]] w fun e w' => e = .returned (.bool (!l.all named)) ∧ w = w' := by
  have K := indexFuncStr v l w h n1
  have e := badFrom_ge l 0
  rw [← e]
  clear e
  generalize badFrom 0 l = r at *
  clear h
  go_enter Tryz.func110, Tryz.ntmps110
  go_wp2_with (go_at_call 133; refine K.mono ?_; rintro e w' ⟨rfl, rfl⟩)
  go_ret
  exact ⟨rfl, rfl⟩
def wrongF (f : PFact) : Int := if !named f.name then 7 else if 4 < f.args.length then 5 else if f.args.all named then 0 else 7
set_option maxHeartbeats 1000000 in
theorem wrongFact {S : Nat → Prop} (f : PFact) (av : Value) (w : World) (h : RdStrs S w av f.args) (n1 : f.args.length ≤ 1125899906842624) :
    Calls Tryz.prog 79 #[.agg #[.string f.name, av]] w fun e w' => e = .returned (.int .i64 (wrongF f)) ∧ Fresh w w' := by
  have K : ∀ w', Agree (fun _ => True) w w' → Calls Tryz.prog 110 #[av, .func (.func 111) #[] #[]] w' fun e w'' => e = .returned (.bool (!f.args.all named)) ∧ w' = w'' :=
    fun w' ha => containsFuncStr av f.args w' ((h.more RStr.steady (fun _ _ _ => trivial)).agree RStr.steady ha) n1
  obtain ⟨a, c, rfl, -, -, -⟩ := h.form
  have e : wrongF f = if !named f.name then 7 else if 4 < f.args.length then 5 else if f.args.all named then 0 else 7 := rfl
  rw [e]
  clear e h
  cases h1 : named f.name
  · have K1 : ∀ w', Calls Tryz.prog 109 #[.string f.name] w' fun e w'' => e = .returned (.bool false) ∧ w' = w'' := fun w' => by have := namedCalls f.name w'; rwa [h1] at this
    clear h1 K
    go_enter Tryz.func79, Tryz.ntmps79
    go_wp2_with (go_at_call 109; refine (K1 _).mono ?_; rintro e w' ⟨rfl, rfl⟩)
    go_ret
    exact ⟨rfl, (Fresh.refl _).alloc _⟩
  · have K1 : ∀ w', Calls Tryz.prog 109 #[.string f.name] w' fun e w'' => e = .returned (.bool true) ∧ w' = w'' := fun w' => by have := namedCalls f.name w'; rwa [h1] at this
    clear h1
    by_cases h4 : 4 < f.args.length
    · rw [if_neg (by simp), if_pos h4]
      clear K
      go_enter Tryz.func79, Tryz.ntmps79
      go_wp2_with (go_at_call 109; refine (K1 _).mono ?_; rintro e w' ⟨rfl, rfl⟩)
      go_ret
      exact ⟨rfl, (Fresh.refl _).alloc _⟩
    · rw [if_neg (by simp), if_neg h4]
      cases h5 : f.args.all named
      · rw [h5] at K
        have HK := Lib.hid K
        clear K h5
        go_enter Tryz.func79, Tryz.ntmps79
        go_wp2_with (first | (go_at_call 109; refine (K1 _).mono ?_; rintro e w' ⟨rfl, rfl⟩) | (go_at_call 110; refine (HK.out _ ((Agree.refl _ _).alloc _)).mono ?_; rintro e w' ⟨rfl, rfl⟩))
        go_ret
        exact ⟨rfl, (Fresh.refl _).alloc _⟩
      · rw [h5] at K
        have HK := Lib.hid K
        clear K h5
        go_enter Tryz.func79, Tryz.ntmps79
        go_wp2_with (first | (go_at_call 109; refine (K1 _).mono ?_; rintro e w' ⟨rfl, rfl⟩) | (go_at_call 110; refine (HK.out _ ((Agree.refl _ _).alloc _)).mono ?_; rintro e w' ⟨rfl, rfl⟩))
        go_ret
        exact ⟨rfl, (Fresh.refl _).alloc _⟩
end Go.Proofs.YtiiicochdidolaaGreat
namespace Go.Proofs.YtiiicochdidolaaGreat
def termOk (t : PTerm) : Bool := if t.var then variableS t.name else named t.name
def atomBad (a : PAtom) : Int := if named a.name = false then 7 else if 4 < a.terms.length then 5 else if a.terms.all termOk then 0 else 7
def varsF : List Str → List PTerm → List Str
  | acc, [] => acc
  | acc, t :: l => varsF (if t.var && !memS t.name acc then acc ++ [t.name] else acc) l
def varsOf (a : PAtom) : List Str := varsF [] a.terms
def heldOf (l : List PAtom) : List Str := l.flatMap fun a => if a.neg then [] else varsOf a
def firstBad : List PAtom → Int
  | [] => 0
  | a :: l => if atomBad a ≠ 0 then atomBad a else firstBad l
def freeIn (held : List Str) (l : List PAtom) : Bool := l.all fun a => (varsOf a).all fun v => memS v held
def bodyBad (l : List PAtom) : Int := if 5 < l.length then 5 else if firstBad l ≠ 0 then firstBad l else if freeIn (heldOf l) l then 0 else 9
def allVars (l : List PAtom) : List Str := l.flatMap varsOf
def ruleBad (r : PRule) : Int := if atomBad r.head ≠ 0 then atomBad r.head else if r.head.neg then 2 else if bodyBad r.body ≠ 0 then bodyBad r.body else if (varsOf r.head).all (fun v => memS v (allVars r.body)) then 0 else 9
abbrev Known := Str → Option Int
def fits (m : Known) (a : PAtom) : Bool := match m a.name with
  | none => true
  | some n => n == (a.terms.length : Int)
def learn (m : Known) (a : PAtom) : Known := if (m a.name).isSome then m else fun t => if t = a.name then some (a.terms.length : Int) else m t
def fitAll : Known → List PAtom → Bool
  | _, [] => true
  | m, a :: l => fits m a && fitAll (learn m a) l
def learnAll : Known → List PAtom → Known
  | m, [] => m
  | m, a :: l => learnAll (learn m a) l
def wrongFrom : Known → Int → List PRule → Int × Int
  | _, _, [] => (0, 0)
  | m, i, r :: p => if ruleBad r ≠ 0 then (ruleBad r, i) else if fitAll m (r.head :: r.body) then wrongFrom (learnAll m (r.head :: r.body)) (i + 1) p else (8, i)
def wrongP (p : List PRule) : Int × Int := if 16 < p.length then (5, 0) else wrongFrom (fun _ => none) 0 p
theorem ruleBad_body {r : PRule} (h : ruleBad r = 0) : r.body.length ≤ 5 := by
  unfold ruleBad at h
  split at h
  · rename_i h1; exact absurd h h1
  · split at h
    · exact absurd h (by decide)
    · split at h
      · rename_i h1; exact absurd h h1
      · rename_i h1
        have hb : bodyBad r.body = 0 := Classical.byContradiction fun e => h1 e
        unfold bodyBad at hb
        split at hb
        · exact absurd hb (by decide)
        · omega
theorem varsF_snoc (t : PTerm) : ∀ (l : List PTerm) (acc : List Str), varsF acc (l ++ [t]) = if t.var && !memS t.name (varsF acc l) then varsF acc l ++ [t.name] else varsF acc l
  | [], acc => rfl
  | x :: l, acc => by
    rw [List.cons_append, varsF, varsF]
    exact varsF_snoc t l _
theorem varsF_length : ∀ (l : List PTerm) (acc : List Str), (varsF acc l).length ≤ acc.length + l.length
  | [], acc => by simp [varsF]
  | t :: l, acc => by
    have := varsF_length l (if t.var && !memS t.name acc then acc ++ [t.name] else acc)
    rw [varsF]
    split at this
    · simp only [List.length_append, List.length_cons, List.length_nil] at this
      rw [if_pos (by assumption)]
      simp only [List.length_cons]; omega
    · rw [if_neg (by assumption)]
      simp only [List.length_cons]; omega
theorem heldOf_snoc (l : List PAtom) (a : PAtom) : heldOf (l ++ [a]) = if a.neg then heldOf l else heldOf l ++ varsOf a := by
  unfold heldOf
  rw [List.flatMap_append]
  cases h : a.neg <;> simp [h]
theorem allVars_snoc (l : List PAtom) (a : PAtom) : allVars (l ++ [a]) = allVars l ++ varsOf a := by
  unfold allVars
  rw [List.flatMap_append]
  simp
theorem firstBad_take (l : List PAtom) (k : Nat) (h : ∀ i a, i < k → l[i]? = some a → atomBad a = 0) : firstBad l = firstBad (l.drop k) := by
  induction k generalizing l with
  | zero => rfl
  | succ k ih =>
    cases l with
    | nil => rfl
    | cons a l =>
      have h0 := h 0 a (by omega) rfl
      rw [firstBad, if_neg (by simpa using h0), List.drop_succ_cons]
      exact ih l fun i b hi hb => h (i + 1) b (by omega) (by simpa using hb)
end Go.Proofs.YtiiicochdidolaaGreat
namespace Go.Proofs.YtiiicochdidolaaGreat
open Go.RowKit
theorem RdTerms.at {S : Nat → Prop} {w : World} {a : Option Addr} {n cap : Nat} {l : List PTerm} (h : RdTerms S w (.slice a n cap) l) {i : Nat} {x : PTerm} (hx : l[i]? = some x) :
    ∃ b off, a = some ⟨b, off, none⟩ ∧ S b ∧ b < w.heap.size ∧ w.cell? ⟨b, off + i * 2, none⟩ = some (.bool x.var) ∧ w.cell? ⟨b, off + i * 2 + 1, none⟩ = some (.string x.name) := by
  obtain ⟨a', cap', hv, _, _, _, h3⟩ := h
  obtain ⟨b, off, cs, ha, hS, hb, hk, hc, hr⟩ := h3 i x hx
  injection hv with e1 e2 e3
  subst e1
  have hr' : cs = [.bool x.var, .string x.name] := hr
  subst hr'
  exact ⟨b, off, ha, hS, hb, by simpa using hc 0 _ rfl, by simpa using hc 1 _ rfl⟩
theorem RdAtoms.at {S : Nat → Prop} {w : World} {a : Option Addr} {n cap : Nat} {l : List PAtom} (h : RdAtoms S w (.slice a n cap) l) {i : Nat} {x : PAtom} (hx : l[i]? = some x) :
    ∃ b off tv, a = some ⟨b, off, none⟩ ∧ S b ∧ b < w.heap.size ∧ w.cell? ⟨b, off + i * 3, none⟩ = some (.bool x.neg) ∧ w.cell? ⟨b, off + i * 3 + 1, none⟩ = some (.string x.name) ∧ w.cell? ⟨b, off + i * 3 + 2, none⟩ = some tv ∧ RdTerms S w tv x.terms := by
  obtain ⟨a', cap', hv, _, _, _, h3⟩ := h
  obtain ⟨b, off, cs, ha, hS, hb, hk, hc, tv, hr, hq⟩ := h3 i x hx
  injection hv with e1 e2 e3
  subst e1
  subst hr
  exact ⟨b, off, tv, ha, hS, hb, by simpa using hc 0 _ rfl, by simpa using hc 1 _ rfl, by simpa using hc 2 _ rfl, hq⟩
theorem RdRules.at {S : Nat → Prop} {w : World} {a : Option Addr} {n cap : Nat} {l : List PRule} (h : RdRules S w (.slice a n cap) l) {i : Nat} {x : PRule} (hx : l[i]? = some x) :
    ∃ b off tv bv, a = some ⟨b, off, none⟩ ∧ S b ∧ b < w.heap.size ∧ w.cell? ⟨b, off + i * 4, none⟩ = some (.bool x.head.neg) ∧ w.cell? ⟨b, off + i * 4 + 1, none⟩ = some (.string x.head.name) ∧ w.cell? ⟨b, off + i * 4 + 2, none⟩ = some tv ∧ w.cell? ⟨b, off + i * 4 + 3, none⟩ = some bv ∧ RdTerms S w tv x.head.terms ∧ RdAtoms S w bv x.body := by
  obtain ⟨a', cap', hv, _, _, _, h3⟩ := h
  obtain ⟨b, off, cs, ha, hS, hb, hk, hc, tv, bv, hr, hq, hq2⟩ := h3 i x hx
  injection hv with e1 e2 e3
  subst e1
  subst hr
  exact ⟨b, off, tv, bv, ha, hS, hb, by simpa using hc 0 _ rfl, by simpa using hc 1 _ rfl, by simpa using hc 2 _ rfl, by simpa using hc 3 _ rfl, hq, hq2⟩
theorem RdTerms.up {S : Nat → Prop} {w w' : World} {v : Value} {l : List PTerm} (h : RdTerms S w v l) (hb : Below w.heap.size w w') : RdTerms (fun _ => True) w' v l := (h.more RTerm.steady (fun _ _ _ => trivial)).agree RTerm.steady (Below.agree hb)
theorem RdAtoms.up {S : Nat → Prop} {w w' : World} {v : Value} {l : List PAtom} (h : RdAtoms S w v l) (hb : Below w.heap.size w w') : RdAtoms (fun _ => True) w' v l := (h.more RAtom.steady (fun _ _ _ => trivial)).agree RAtom.steady (Below.agree hb)
theorem RdRules.up {S : Nat → Prop} {w w' : World} {v : Value} {l : List PRule} (h : RdRules S w v l) (hb : Below w.heap.size w w') : RdRules (fun _ => True) w' v l := (h.more RRule.steady (fun _ _ _ => trivial)).agree RRule.steady (Below.agree hb)
theorem RdStrs.up {S : Nat → Prop} {w w' : World} {v : Value} {l : List Str} (h : RdStrs S w v l) (hb : Below w.heap.size w w') : RdStrs (fun _ => True) w' v l := (h.more RStr.steady (fun _ _ _ => trivial)).agree RStr.steady (Below.agree hb)
theorem atomBad_ok {a : PAtom} (h1 : named a.name = true) (h2 : ¬ 4 < a.terms.length) (h : ∀ t ∈ a.terms, termOk t = true) : atomBad a = 0 := by
  unfold atomBad
  rw [h1, if_neg (by simp), if_neg h2, if_pos (List.all_eq_true.2 h)]
theorem atomBad_term {a : PAtom} (h1 : named a.name = true) (h2 : ¬ 4 < a.terms.length) {t : PTerm} (ht : t ∈ a.terms) (h : termOk t = false) : atomBad a = 7 := by
  unfold atomBad
  rw [h1, if_neg (by simp), if_neg h2, if_neg (fun hh => by have := List.all_eq_true.1 hh t ht; rw [h] at this; cases this)]
set_option maxRecDepth 100000 in
set_option maxHeartbeats 4000000 in
theorem checkAtom {S : Nat → Prop} (b o : Nat) (x : PAtom) (tv : Value) (w : World) (c0 : w.cell? ⟨b, o + 1, none⟩ = some (.string x.name)) (c1 : w.cell? ⟨b, o + 2, none⟩ = some tv) (h : RdTerms S w tv x.terms)
    (n1 : x.terms.length ≤ 1073741824) (n2 : ∀ t ∈ x.terms, t.name.size ≤ 1099511627776) :
    Calls Tryz.prog 89 #[.pointer (some ⟨b, o, none⟩)] w fun e w' => e = .returned (.int .i64 (atomBad x)) ∧ Below w.heap.size w w' := by
  obtain ⟨a, c, rfl, -, -, -⟩ := id h.form
  have H := Lib.hid h
  have N2 := Lib.hid n2
  clear h n2
  have KN := Lib.hid (fun W => namedCalls x.name W)
  cases hn : named x.name
  · rw [hn] at KN
    have HE := Lib.hid (show atomBad x = 7 by unfold atomBad; rw [hn]; rfl)
    clear hn
    go_enter Tryz.func89, Tryz.ntmps89
    go_wp2_with (go_at_call 109; refine (KN.out _).mono ?_; rintro e w' ⟨rfl, rfl⟩)
    go_ret
    exact ⟨ret_int HE.out.symm, Below.refl _ _⟩
  rw [hn] at KN
  have HN := Lib.hid hn
  clear hn
  by_cases h4 : 4 < x.terms.length
  · have i4 : (4 : Int) < (x.terms.length : Int) := by omega
    have HE := Lib.hid (show atomBad x = 5 by unfold atomBad; rw [HN.out, if_neg (by simp), if_pos h4])
    go_enter Tryz.func89, Tryz.ntmps89
    go_wp2_with (go_at_call 109; refine (KN.out _).mono ?_; rintro e w' ⟨rfl, rfl⟩)
    go_ret
    exact ⟨ret_int HE.out.symm, Below.refl _ _⟩
  have i4 : ¬ (4 : Int) < (x.terms.length : Int) := by omega
  go_enter Tryz.func89, Tryz.ntmps89
  go_wp2_with (go_at_call 109; refine (KN.out _).mono ?_; rintro e w' ⟨rfl, rfl⟩)
  go_loopw [22] (fun i wr => ∃ k : Nat, k ≤ x.terms.length ∧ i = .int .i64 k ∧ Hid (∀ t ∈ x.terms.take k, termOk t = true) ∧ Hid (Below w.heap.size w wr)) (fun i _ => x.terms.length - (intOf i).toNat)
  case atStart => exact ⟨0, Nat.zero_le _, rfl, Lib.hid (by simp), Below.refl _ _⟩
  case round =>
    obtain ⟨k, hk, rfl, HO, HB⟩ := hrel
    by_cases hlt : k < x.terms.length
    · obtain ⟨t, ht⟩ : ∃ t, x.terms[k]? = some t := ⟨_, List.getElem?_eq_getElem hlt⟩
      obtain ⟨b1, o1, rfl, -, -, d0, d1⟩ := RdTerms.at (H.out.up HB.out) ht
      have hsz := HB.out.size
      have hbb := HB.out.alloc hsz (.cells #[.bool t.var, .string t.name] 141)
      have HB1 := Lib.hid hbb
      have HS1 := Lib.hid (show termOk t = true → ∀ y ∈ x.terms.take (k + 1), termOk y = true from fun hy y hm => by
        rw [List.take_add_one, ht] at hm
        rcases List.mem_append.1 hm with hm | hm
        · exact HO.out y hm
        · obtain rfl : y = t := by simpa using hm
          exact hy)
      have HBD := Lib.hid (show termOk t = false → atomBad x = 7 from fun hy => atomBad_term HN.out h4 (List.mem_of_getElem? ht) hy)
      have KV := Lib.hid (fun W => variableCalls t.name W (N2.out t (List.mem_of_getElem? ht)))
      have KM := Lib.hid (fun W => namedCalls t.name W)
      clear ht hbb
      have hto : termOk t = if t.var then variableS t.name else named t.name := rfl
      rw [hto] at HS1 HBD
      clear hto
      cases hv : t.var
      all_goals
        rw [hv] at HS1 HBD d0 HB1
        clear hv
      · have hm : named t.name = true ∨ named t.name = false := by cases named t.name <;> simp
        rcases hm with hm | hm
        · rw [hm] at KM
          have HO1 := Lib.hid (HS1.out (by simpa using hm))
          clear hm HS1 HBD
          go_wp2_with (go_at_call 109; refine (KM.out _).mono ?_; rintro e w' ⟨rfl, rfl⟩)
          go_roundw
          case rel => exact ⟨k + 1, by omega, by go_num, HO1, HB1⟩
          case measure => simp [intOf]; omega
        · rw [hm] at KM
          have HE := Lib.hid (HBD.out (by simpa using hm))
          clear hm HS1 HBD
          go_wp2_with (go_at_call 109; refine (KM.out _).mono ?_; rintro e w' ⟨rfl, rfl⟩)
          go_ret
          exact ⟨ret_int HE.out.symm, HB1.out⟩
      · have hm : variableS t.name = true ∨ variableS t.name = false := by cases variableS t.name <;> simp
        rcases hm with hm | hm
        · rw [hm] at KV
          have HO1 := Lib.hid (HS1.out (by simpa using hm))
          clear hm HS1 HBD
          go_wp2_with (go_at_call 86; refine (KV.out _).mono ?_; rintro e w' ⟨rfl, rfl⟩)
          go_roundw
          case rel => exact ⟨k + 1, by omega, by go_num, HO1, HB1⟩
          case measure => simp [intOf]; omega
        · rw [hm] at KV
          have HE := Lib.hid (HBD.out (by simpa using hm))
          clear hm HS1 HBD
          go_wp2_with (go_at_call 86; refine (KV.out _).mono ?_; rintro e w' ⟨rfl, rfl⟩)
          go_ret
          exact ⟨ret_int HE.out.symm, HB1.out⟩
    · have HE := Lib.hid (show atomBad x = 0 from atomBad_ok HN.out h4 (by have := HO.out; rwa [List.take_of_length_le (by omega)] at this))
      go_wp2
      go_ret
      exact ⟨ret_int HE.out.symm, HB.out⟩
set_option maxRecDepth 100000 in
set_option maxHeartbeats 4000000 in
theorem varsCalls {S : Nat → Prop} (x : PAtom) (tv : Value) (w : World) (h : RdTerms S w tv x.terms) (n1 : x.terms.length ≤ 1073741824) :
    Calls Tryz.prog 90 #[.agg #[.bool x.neg, .string x.name, tv]] w fun e w' => (∃ v, e = .returned v ∧ Owned 1 RStr w.heap.size 9 (fun _ => False) w' v (varsOf x)) ∧ Below w.heap.size w w' := by
  obtain ⟨a, c, rfl, -, -, -⟩ := id h.form
  have H := Lib.hid h
  clear h
  go_enter Tryz.func90, Tryz.ntmps90
  go_wp2
  go_loopw [9, 3] (fun i v wr => ∃ k : Nat, k ≤ x.terms.length ∧ i = .int .i64 k ∧ Hid (Owned 1 RStr w.heap.size 9 (fun _ => False) wr v (varsF [] (x.terms.take k))) ∧ Hid (Below w.heap.size w wr)) (fun i _ _ => x.terms.length - (intOf i).toNat)
  case atStart => exact ⟨0, Nat.zero_le _, rfl, Lib.hid Owned.nil, Lib.hid ((Below.refl _ _).alloc (Nat.le_refl _) _)⟩
  case round =>
    obtain ⟨k, hk, rfl, HO, HB⟩ := hrel
    by_cases hlt : k < x.terms.length
    · obtain ⟨t, ht⟩ : ∃ t, x.terms[k]? = some t := ⟨_, List.getElem?_eq_getElem hlt⟩
      obtain ⟨b1, o1, rfl, -, -, d0, d1⟩ := RdTerms.at (H.out.up HB.out) ht
      have hsz := HB.out.size
      have HT := Lib.hid (show varsF [] (x.terms.take (k + 1)) = if t.var && !memS t.name (varsF [] (x.terms.take k)) then varsF [] (x.terms.take k) ++ [t.name] else varsF [] (x.terms.take k) by rw [List.take_add_one, ht]; exact varsF_snoc t _ _)
      have HLL := Lib.hid (show (varsF [] (x.terms.take k)).length ≤ x.terms.length by have := varsF_length (x.terms.take k) []; rw [List.length_take] at this; simp at this; omega)
      generalize varsF [] (x.terms.take k) = vs at *
      obtain ⟨va, vc, rfl, -, -, -⟩ := id (HO.out.read RStr.steady).form
      have KC := Lib.hid (containsStr (.slice va vs.length vc) vs t.name (wr.alloc (.cells #[.bool t.var, .string t.name] 141)) ((HO.out.read RStr.steady).agree RStr.steady ((Agree.refl _ _).alloc _)) (by have := HLL.out; omega))
      have HB1 := Lib.hid (HB.out.alloc hsz (.cells #[.bool t.var, .string t.name] 141))
      have HO1 := Lib.hid (HO.out.alloc RStr.steady (.cells #[.bool t.var, .string t.name] 141))
      clear ht
      cases hv : t.var
      · rw [hv] at HT KC HB1 HO1 d0
        have HO2 := Lib.hid (show Owned 1 RStr w.heap.size 9 (fun _ => False) _ _ (varsF [] (x.terms.take (k + 1))) by rw [HT.out, if_neg (by simp)]; exact HO1.out)
        clear hv
        go_wp2
        go_roundw
        case rel => exact ⟨k + 1, by omega, by go_num, HO2, HB1⟩
        case measure => simp [intOf]; omega
      · rw [hv] at HT KC HB1 HO1 d0
        clear hv
        have hm : memS t.name vs = true ∨ memS t.name vs = false := by cases memS t.name vs <;> simp
        rcases hm with hm | hm
        · rw [hm] at KC HT
          have HO2 := Lib.hid (show Owned 1 RStr w.heap.size 9 (fun _ => False) _ _ (varsF [] (x.terms.take (k + 1))) by rw [HT.out, if_neg (by simp)]; exact HO1.out)
          clear hm
          go_wp2_with (go_at_call 91; refine (KC.out).mono ?_; rintro e w' ⟨rfl, rfl⟩)
          go_roundw
          case rel => exact ⟨k + 1, by omega, by go_num, HO2, HB1⟩
          case measure => simp [intOf]; omega
        · rw [hm, if_pos (by rfl)] at HT
          rw [hm] at KC
          clear hm
          go_wp2_with (first
            | (go_at_call 91; refine (KC.out).mono ?_; rintro e w' ⟨rfl, rfl⟩)
            | (at_builtin; refine wpList_append_one (B := w.heap.size) (e := 9) (S := fun _ => False) (by rfl) _ _ 36 (by rfl) RStr.steady rowStrs _ vs (by rfl) (HO1.out.alloc RStr.steady _) (wr.heap.size + 1) 1 #[.string t.name] 9 (0, 0) t.name (by rfl) (heap_new_at (by simp)) rfl (by simp [Value.oneCell']) rfl (by have := HLL.out; omega) (by simp; omega) ?_; intro v2 w2 hown2 hg2 hat2; have HO2 := Lib.hid (show Owned 1 RStr w.heap.size 9 (fun _ => False) w2 v2 (varsF [] (x.terms.take (k + 1))) by rw [HT.out]; exact hown2); have HB2 := Lib.hid ((HB1.out.alloc (by simp; omega) _).grown hg2 (by simp; omega) (fun q hq => (HO1.out.row_lt hq).1)); clear hown2 hg2 hat2))
          go_wp2
          go_roundw
          case rel => exact ⟨k + 1, by omega, by go_num, HO2, HB2⟩
          case measure => simp [intOf]; omega
    · have htk : x.terms.take k = x.terms := List.take_of_length_le (by omega)
      rw [htk] at HO
      clear htk
      go_wp2
      go_ret
      exact ⟨⟨_, rfl, HO.out⟩, HB.out⟩
end Go.Proofs.YtiiicochdidolaaGreat
namespace Go.Proofs.YtiiicochdidolaaGreat
open Go.RowKit
theorem heldOf_length {N : Nat} : ∀ l : List PAtom, (∀ a ∈ l, a.terms.length ≤ N) → (heldOf l).length ≤ l.length * N
  | [], _ => by simp [heldOf]
  | a :: l, h => by
    have h1 := heldOf_length l fun b hb => h b (by simp [hb])
    have h2 := varsF_length a.terms []
    have h3 := h a (by simp)
    have h4 : (heldOf (a :: l)).length = (if a.neg then [] else varsOf a : List Str).length + (heldOf l).length := by simp [heldOf]
    have h5 : (if a.neg then [] else varsOf a : List Str).length ≤ N := by
      split
      · simp
      · show (varsF [] a.terms).length ≤ N
        simp at h2; omega
    rw [h4, List.length_cons, Nat.add_mul]
    omega
theorem allVars_length {N : Nat} : ∀ l : List PAtom, (∀ a ∈ l, a.terms.length ≤ N) → (allVars l).length ≤ l.length * N
  | [], _ => by simp [allVars]
  | a :: l, h => by
    have h1 := allVars_length l fun b hb => h b (by simp [hb])
    have h2 := varsF_length a.terms []
    have h3 := h a (by simp)
    have h4 : (allVars (a :: l)).length = (varsOf a).length + (allVars l).length := by simp [allVars]
    have h5 : (varsOf a).length ≤ N := by
      show (varsF [] a.terms).length ≤ N
      simp at h2; omega
    rw [h4, List.length_cons, Nat.add_mul]
    omega
theorem bodyBad_many {l : List PAtom} (h : 5 < l.length) : bodyBad l = 5 := by unfold bodyBad; rw [if_pos h]
theorem firstBad_at {l : List PAtom} {k : Nat} {x : PAtom} (h : ∀ i a, i < k → l[i]? = some a → atomBad a = 0) (hx : l[k]? = some x) (hb : atomBad x ≠ 0) : firstBad l = atomBad x := by
  rw [firstBad_take l k h, List.drop_eq_getElem_cons (List.getElem?_eq_some_iff.1 hx).1, (List.getElem?_eq_some_iff.1 hx).2, firstBad, if_pos hb]
theorem firstBad_none {l : List PAtom} (h : ∀ i a, i < l.length → l[i]? = some a → atomBad a = 0) : firstBad l = 0 := by
  rw [firstBad_take l l.length h, List.drop_length]; rfl
theorem bodyBad_at {l : List PAtom} (h5 : ¬ 5 < l.length) {k : Nat} {x : PAtom} (h : ∀ i a, i < k → l[i]? = some a → atomBad a = 0) (hx : l[k]? = some x) (hb : atomBad x ≠ 0) : bodyBad l = atomBad x := by
  unfold bodyBad
  rw [if_neg h5, firstBad_at h hx hb, if_pos hb]
theorem bodyBad_free {l : List PAtom} (h5 : ¬ 5 < l.length) (h : ∀ i a, i < l.length → l[i]? = some a → atomBad a = 0) {a : PAtom} (ha : a ∈ l) {v : Str} (hv : v ∈ varsOf a) (hb : memS v (heldOf l) = false) : bodyBad l = 9 := by
  unfold bodyBad
  rw [if_neg h5, firstBad_none h, if_neg (by simp), if_neg]
  intro hf
  have := List.all_eq_true.1 (List.all_eq_true.1 hf a ha) v hv
  rw [hb] at this
  cases this
theorem bodyBad_ok {l : List PAtom} (h5 : ¬ 5 < l.length) (h : ∀ i a, i < l.length → l[i]? = some a → atomBad a = 0) (hf : ∀ a ∈ l, ∀ v ∈ varsOf a, memS v (heldOf l) = true) : bodyBad l = 0 := by
  unfold bodyBad
  rw [if_neg h5, firstBad_none h, if_neg (by simp), if_pos]
  exact List.all_eq_true.2 fun a ha => List.all_eq_true.2 fun v hv => hf a ha v hv
set_option maxRecDepth 100000 in
set_option maxHeartbeats 8000000 in
theorem checkBody {S : Nat → Prop} (v : Value) (l : List PAtom) (w : World) (h : RdAtoms S w v l) (n1 : l.length ≤ 1048576) (n2 : ∀ a ∈ l, a.terms.length ≤ 1048576) (n3 : ∀ a ∈ l, ∀ t ∈ a.terms, t.name.size ≤ 1048576) :
    Calls Tryz.prog 54 #[v] w fun e w' => e = .returned (.int .i64 (bodyBad l)) ∧ Below w.heap.size w w' := by
  obtain ⟨a, c, rfl, -, -, -⟩ := id h.form
  have H := Lib.hid h
  have N2 := Lib.hid n2
  have N3 := Lib.hid n3
  clear h n2 n3
  by_cases h5 : 5 < l.length
  · have i5 : (5 : Int) < (l.length : Int) := by omega
    have HE := Lib.hid (bodyBad_many h5)
    go_enter Tryz.func54, Tryz.ntmps54
    go_wp2
    go_ret
    exact ⟨ret_int HE.out.symm, Below.refl _ _⟩
  have i5 : ¬ (5 : Int) < (l.length : Int) := by omega
  have HL := Lib.hid (fun k => heldOf_length (l.take k) (fun x hx => N2.out x (List.mem_of_mem_take hx)))
  go_enter Tryz.func54, Tryz.ntmps54
  go_wp2
  go_loopw [15, 3] (fun i v wr => ∃ k : Nat, k ≤ l.length ∧ i = .int .i64 k ∧ Hid (Owned 1 RStr w.heap.size 9 (fun _ => False) wr v (heldOf (l.take k))) ∧ Hid (Below w.heap.size w wr) ∧ Hid (∀ i a, i < k → l[i]? = some a → atomBad a = 0)) (fun i _ _ => l.length - (intOf i).toNat)
  case atStart => exact ⟨0, Nat.zero_le _, rfl, Lib.hid Owned.nil, Lib.hid (Below.refl _ _), Lib.hid (fun i a hi _ => by omega)⟩
  case round =>
    obtain ⟨k, hk, rfl, HO, HB, HZ⟩ := hrel
    obtain ⟨va, vc, efm, -, -, -⟩ := (HO.out.read RStr.steady).form
    subst efm
    by_cases hlt : k < l.length
    · obtain ⟨x, hx⟩ : ∃ x, l[k]? = some x := ⟨_, List.getElem?_eq_getElem hlt⟩
      obtain ⟨b1, o1, tv, rfl, -, hb1, d0, d1, d2, htv⟩ := RdAtoms.at (H.out.up HB.out) hx
      obtain ⟨ta, tc, rfl, -, -, -⟩ := id htv.form
      have HX := Lib.hid hx
      have nx := N2.out x (List.mem_of_getElem? hx)
      have HTV := Lib.hid htv
      have KA := Lib.hid (checkAtom b1 (o1 + k * 3) x _ wr d1 d2 htv (by omega) (fun t ht => by have := N3.out x (List.mem_of_getElem? hx) t ht; omega))
      have i1 : (0 : Int) ≤ (k : Int) := by omega
      have i2 : (k : Int) < (l.length : Int) := by omega
      have i3 : IntKind.i64.wrap (k : Int) = k := by rw [IntKind.wrap_i64]; omega
      clear hx htv
      by_cases hz : atomBad x = 0
      · rw [hz] at KA
        have HZ1 := Lib.hid (show ∀ i a, i < k + 1 → l[i]? = some a → atomBad a = 0 from fun i a hi ha => by
          by_cases e : i = k
          · subst e
            rw [HX.out] at ha
            rw [← Option.some.inj ha]; exact hz
          · exact HZ.out i a (by omega) ha)
        clear hz
        have HT := Lib.hid (show heldOf (l.take (k + 1)) = if x.neg then heldOf (l.take k) else heldOf (l.take k) ++ varsOf x by rw [List.take_add_one, HX.out]; exact heldOf_snoc _ _)
        have hll := HL.out k
        have hkk : (l.take k).length * 1048576 ≤ 5 * 1048576 := Nat.mul_le_mul_right _ (by rw [List.length_take]; omega)
        have HV0 := Lib.hid (show (varsOf x).length ≤ 1048576 by have := varsF_length x.terms []; simp at this; show (varsF [] x.terms).length ≤ _; omega)
        have HLL := Lib.hid (show (heldOf (l.take k)).length ≤ 5242880 by omega)
        clear hll hkk
        cases hn : x.neg
        · rw [hn] at HT d0
          rw [if_neg (by simp)] at HT
          have KV := Lib.hid (fun W (hW : Below wr.heap.size wr W) => varsCalls x (.slice ta x.terms.length tc) W (HTV.out.up hW) (by omega))
          rw [hn] at KV
          clear hn
          go_wp2_with (first
            | (go_at_call 89; refine (KA.out).mono ?_; rintro e w1 ⟨rfl, hf1⟩; have HF1 := Lib.hid hf1; have HB1 := Lib.hid (HB.out.trans (hf1.mono HB.out.size)); have HO1 := Lib.hid (HO.out.below RStr.steady hf1); have d0' := (cell_below hf1 hb1 (o1 + k * 3)).trans d0; have d1' := (cell_below hf1 hb1 (o1 + k * 3 + 1)).trans d1; have d2' := (cell_below hf1 hb1 (o1 + k * 3 + 2)).trans d2; clear hf1)
            | (go_at_call 90; refine (KV.out _ HF1.out).mono ?_; rintro e w2 ⟨⟨v2, rfl, ho2⟩, hf2⟩; have HB2 := Lib.hid (HB1.out.trans (hf2.mono HB1.out.size)); have HO2 := Lib.hid (HO1.out.below RStr.steady hf2); have HV2 := Lib.hid (ho2.read RStr.steady); clear ho2 hf2)
            | (at_builtin; refine wpList_append_many (B := w.heap.size) (e := 9) (S := fun _ => False) (by rfl) _ _ 36 (by rfl) RStr.steady RStr.one rowStrs _ (heldOf (l.take k)) (by rfl) HO2.out _ (varsOf x) (by rfl) HV2.out (fun _ _ h => h) (by have := HLL.out; have := HV0.out; omega) (Below.size HB2.out) ?_; intro v3 w3 hown3 hg3 hat3; have HO3 := Lib.hid (show Owned 1 RStr w.heap.size 9 (fun _ => False) w3 v3 (heldOf (l.take (k + 1))) by rw [HT.out]; exact hown3); have HB3 := Lib.hid (Below.grown HB2.out hg3 (Below.size HB2.out) (fun q hq => (HO2.out.row_lt hq).1)); clear hown3 hg3 hat3))
          go_wp2
          go_roundw
          case rel => exact ⟨k + 1, by omega, by go_num, HO3, HB3, HZ1⟩
          case measure => simp [intOf]; omega
        · rw [hn] at HT d0
          rw [if_pos rfl] at HT
          clear hn
          go_wp2_with (go_at_call 89; refine (KA.out).mono ?_; rintro e w1 ⟨rfl, hf1⟩; have HB1 := Lib.hid (HB.out.trans (hf1.mono HB.out.size)); have HO1 := Lib.hid (show Owned 1 RStr w.heap.size 9 (fun _ => False) w1 _ (heldOf (l.take (k + 1))) by rw [HT.out]; exact HO.out.below RStr.steady hf1); have d0' := (cell_below hf1 hb1 (o1 + k * 3)).trans d0; clear hf1)
          go_roundw
          case rel => exact ⟨k + 1, by omega, by go_num, HO1, HB1, HZ1⟩
          case measure => simp [intOf]; omega
      · have HE := Lib.hid (bodyBad_at h5 HZ.out HX.out hz)
        have hne : (atomBad x != 0) = true := by simpa using hz
        clear hz
        generalize atomBad x = q at *
        go_wp2_with (go_at_call 89; refine (KA.out).mono ?_; rintro e w1 ⟨rfl, hf1⟩; have HB1 := Lib.hid (HB.out.trans (hf1.mono HB.out.size)); clear hf1)
        go_ret
        exact ⟨ret_int HE.out.symm, HB1.out⟩
    · have htk : l.take k = l := List.take_of_length_le (by omega)
      have HLQ := Lib.hid (show (heldOf (l.take k)).length ≤ 5242880 by
        have h1 := HL.out k
        have h2 : (l.take k).length * 1048576 ≤ 5 * 1048576 := Nat.mul_le_mul_right _ (by rw [List.length_take]; omega)
        omega)
      generalize (heldOf (l.take k)).length = hl at *
      rw [htk] at HO
      have HZ1 := Lib.hid (show ∀ i a, i < l.length → l[i]? = some a → atomBad a = 0 from fun i a hi ha => HZ.out i a (by omega) ha)
      have hLQ := HLQ.out
      clear htk HZ HL
      have HRD := Lib.hid (HO.out.read RStr.steady)
      go_wp2
      obtain ⟨wo, hwo⟩ : ∃ wo : World, wo = wr := ⟨_, rfl⟩
      subst hwo
      go_loopw [41] (fun i wr => ∃ k : Nat, k ≤ l.length ∧ i = .int .i64 k ∧ Hid (Below wo.heap.size wo wr) ∧ Hid (∀ a ∈ l.take k, ∀ v ∈ varsOf a, memS v (heldOf l) = true)) (fun i _ => l.length - (intOf i).toNat)
      case atStart => exact ⟨0, Nat.zero_le _, rfl, Lib.hid (Below.refl _ _), Lib.hid (by simp)⟩
      case round =>
        obtain ⟨k2, hk2, rfl, HB2, HM⟩ := hrel
        by_cases hlt2 : k2 < l.length
        · obtain ⟨x, hx⟩ : ∃ x, l[k2]? = some x := ⟨_, List.getElem?_eq_getElem hlt2⟩
          obtain ⟨b1, o1, tv, rfl, -, -, d0, d1, d2, htv⟩ := RdAtoms.at (H.out.up (HB.out.trans (HB2.out.mono HB.out.size))) hx
          obtain ⟨ta, tc, rfl, -, -, -⟩ := id htv.form
          have HX := Lib.hid hx
          have nx := N2.out x (List.mem_of_getElem? hx)
          have hsz := HB2.out.size
          have HBX := Lib.hid (HB2.out.alloc hsz (.cells #[.bool x.neg, .string x.name, .slice ta x.terms.length tc] 60))
          have KV := Lib.hid (varsCalls x (.slice ta x.terms.length tc) (wr.alloc (.cells #[.bool x.neg, .string x.name, .slice ta x.terms.length tc] 60)) (htv.agree RTerm.steady ((Agree.refl _ _).alloc _)) (by omega))
          have HV0 := Lib.hid (show (varsOf x).length ≤ 1048576 by have := varsF_length x.terms []; simp at this; show (varsF [] x.terms).length ≤ _; omega)
          have HM1 := Lib.hid (show (∀ v ∈ varsOf x, memS v (heldOf l) = true) → ∀ a ∈ l.take (k2 + 1), ∀ v ∈ varsOf a, memS v (heldOf l) = true from fun hv a ha => by
            rw [List.take_add_one, HX.out] at ha
            rcases List.mem_append.1 ha with ha | ha
            · exact HM.out a ha
            · obtain rfl : a = x := by simpa using ha
              exact hv)
          have HFR := Lib.hid (fun v (hv : v ∈ varsOf x) (hb : memS v (heldOf l) = false) => bodyBad_free h5 HZ1.out (List.mem_of_getElem? HX.out) hv hb)
          clear hx htv
          generalize varsOf x = vs at *
          generalize heldOf l = held at *
          go_wp2_with (go_at_call 90; refine (KV.out).mono ?_; rintro e w3 ⟨⟨v3, rfl, ho3⟩, hf3⟩; obtain ⟨xa, xc, rfl, -, -, -⟩ := id (ho3.read RStr.steady).form; have HV3 := Lib.hid (ho3.read RStr.steady); have HB3 := Lib.hid (HBX.out.trans (hf3.mono (by simp; omega))); clear ho3 hf3)
          have HH3 := Lib.hid (RdStrs.up HRD.out HB3.out)
          have hv0 := HV0.out
          go_loop [48] (fun i => ∃ j : Nat, j ≤ vs.length ∧ i = .int .i64 j ∧ Hid (∀ v ∈ vs.take j, memS v held = true)) (fun i => vs.length - (intOf i).toNat)
          case atStart => exact ⟨0, Nat.zero_le _, rfl, Lib.hid (by simp)⟩
          case round =>
            obtain ⟨j, hj, rfl, HJ⟩ := hrel
            by_cases hlj : j < vs.length
            · obtain ⟨y, hy⟩ : ∃ y, vs[j]? = some y := ⟨_, List.getElem?_eq_getElem hlj⟩
              obtain ⟨b4, o4, rfl, -, -, hc4⟩ := RdStrs.at HV3.out hy
              have HY := Lib.hid hy
              have KC := Lib.hid (containsStr _ held y w3 HH3.out (by have := HH3.out.form; obtain ⟨_, _, e, _⟩ := this; injection e with _ e _; omega))
              clear hy
              have hm : memS y held = true ∨ memS y held = false := by cases memS y held <;> simp
              rcases hm with hm | hm
              · rw [hm] at KC
                have HJ1 := Lib.hid (show ∀ v ∈ vs.take (j + 1), memS v held = true from fun v hv => by
                  rw [List.take_add_one, HY.out] at hv
                  rcases List.mem_append.1 hv with hv | hv
                  · exact HJ.out v hv
                  · obtain rfl : v = y := by simpa using hv
                    exact hm)
                clear hm
                go_wp2_with (go_at_call 91; refine (KC.out).mono ?_; rintro e w' ⟨rfl, rfl⟩)
                go_round
                case rel => exact ⟨j + 1, by omega, by go_num, HJ1⟩
                case measure => simp [intOf]; omega
              · rw [hm] at KC
                have HE := Lib.hid (HFR.out y (List.mem_of_getElem? HY.out) hm)
                clear hm
                go_wp2_with (go_at_call 91; refine (KC.out).mono ?_; rintro e w' ⟨rfl, rfl⟩)
                go_ret
                exact ⟨ret_int HE.out.symm, HB.out.trans (HB3.out.mono HB.out.size)⟩
            · have HM2 := Lib.hid (HM1.out (by have := HJ.out; rwa [List.take_of_length_le (by omega)] at this))
              go_wp2
              go_roundw
              case rel => exact ⟨k2 + 1, by omega, by go_num, HB3, HM2⟩
              case measure => simp [intOf]; omega
        · have HE := Lib.hid (bodyBad_ok h5 HZ1.out (by have := HM.out; rwa [List.take_of_length_le (by omega)] at this))
          go_wp2
          go_ret
          exact ⟨ret_int HE.out.symm, HB.out.trans (HB2.out.mono HB.out.size)⟩
structure RuleAt (S : Nat → Prop) (w : World) (b o : Nat) (x : PRule) (tv bv : Value) : Prop where
  lt : b < w.heap.size
  c0 : w.cell? ⟨b, o, none⟩ = some (.bool x.head.neg)
  c1 : w.cell? ⟨b, o + 1, none⟩ = some (.string x.head.name)
  c2 : w.cell? ⟨b, o + 2, none⟩ = some tv
  c3 : w.cell? ⟨b, o + 3, none⟩ = some bv
  t : RdTerms S w tv x.head.terms
  b : RdAtoms S w bv x.body
theorem RuleAt.up {S : Nat → Prop} {w w' : World} {b o : Nat} {x : PRule} {tv bv : Value} (h : RuleAt S w b o x tv bv) (hb : Below w.heap.size w w') : RuleAt (fun _ => True) w' b o x tv bv :=
  ⟨Nat.lt_of_lt_of_le h.lt hb.size, (cell_below hb h.lt _).trans h.c0, (cell_below hb h.lt _).trans h.c1, (cell_below hb h.lt _).trans h.c2, (cell_below hb h.lt _).trans h.c3, h.t.up hb, h.b.up hb⟩
structure RuleSmall (x : PRule) : Prop where
  h1 : x.head.terms.length ≤ 1048576
  h2 : ∀ t ∈ x.head.terms, t.name.size ≤ 1048576
  b0 : x.body.length ≤ 1048576
  b1 : ∀ a ∈ x.body, a.terms.length ≤ 1048576
  b2 : ∀ a ∈ x.body, ∀ t ∈ a.terms, t.name.size ≤ 1048576
set_option maxRecDepth 100000 in
set_option maxHeartbeats 8000000 in
theorem checkRule {S : Nat → Prop} (b o : Nat) (x : PRule) (tv bv : Value) (w : World) (h : RuleAt S w b o x tv bv) (hs : RuleSmall x) :
    Calls Tryz.prog 131 #[.pointer (some ⟨b, o, none⟩)] w fun e w' => e = .returned (.int .i64 (ruleBad x)) ∧ Below w.heap.size w w' := by
  have HR0 := Lib.hid (h.up (Below.refl _ _))
  obtain ⟨ta, tc, rfl, -, -, -⟩ := id h.t.form
  obtain ⟨ba, bc, rfl, -, -, -⟩ := id h.b.form
  have HS := Lib.hid hs
  have hh1 := hs.h1
  have hb0 := hs.b0
  have KA := Lib.hid (checkAtom b o x.head _ w h.c1 h.c2 h.t (by have := hs.h1; omega) (fun t ht => by have := hs.h2 t ht; omega))
  have KB := Lib.hid (fun W (hW : Below w.heap.size w W) => checkBody (.slice ba x.body.length bc) x.body W (h.b.up hW) hs.b0 hs.b1 hs.b2)
  clear h hs
  have hE0 : ruleBad x = if atomBad x.head ≠ 0 then atomBad x.head else if x.head.neg then 2 else if bodyBad x.body ≠ 0 then bodyBad x.body else if (varsOf x.head).all (fun v => memS v (allVars x.body)) then 0 else 9 := rfl
  by_cases hz : atomBad x.head = 0
  rotate_left
  · have HE := Lib.hid (show ruleBad x = atomBad x.head by rw [hE0, if_pos hz])
    have hne : (atomBad x.head != 0) = true := by simpa using hz
    clear hE0 hz
    generalize atomBad x.head = q at *
    go_enter Tryz.func131, Tryz.ntmps131
    go_wp2_with (go_at_call 89; refine (KA.out).mono ?_; rintro e w1 ⟨rfl, hf1⟩; have HB1 := Lib.hid hf1; clear hf1)
    go_ret
    exact ⟨ret_int HE.out.symm, HB1.out⟩
  rw [if_neg (by simpa using hz)] at hE0
  rw [hz] at KA
  clear hz
  cases hn : x.head.neg
  rotate_left
  · have HE := Lib.hid (show ruleBad x = 2 by rw [hE0, hn]; rfl)
    have HN := Lib.hid hn
    clear hE0 hn
    go_enter Tryz.func131, Tryz.ntmps131
    go_wp2_with (go_at_call 89; refine (KA.out).mono ?_; rintro e w1 ⟨rfl, hf1⟩; have HB1 := Lib.hid hf1; have c0 := (HR0.out.up hf1).c0; rw [HN.out] at c0; clear hf1)
    go_ret
    exact ⟨ret_int HE.out.symm, HB1.out⟩
  rw [hn, if_neg (by simp)] at hE0
  have HN := Lib.hid hn
  clear hn
  by_cases hz : bodyBad x.body = 0
  rotate_left
  · have HE := Lib.hid (show ruleBad x = bodyBad x.body by rw [hE0, if_pos hz])
    have hne : (bodyBad x.body != 0) = true := by simpa using hz
    clear hE0 hz
    generalize bodyBad x.body = q at *
    go_enter Tryz.func131, Tryz.ntmps131
    go_wp2_with (first
      | (go_at_call 89; refine (KA.out).mono ?_; rintro e w1 ⟨rfl, hf1⟩; have HB1 := Lib.hid hf1; have c0 := (HR0.out.up hf1).c0; have c3 := (HR0.out.up hf1).c3; rw [HN.out] at c0; clear hf1)
      | (go_at_call 54; refine (KB.out _ HB1.out).mono ?_; rintro e w2 ⟨rfl, hf2⟩; have HB2 := Lib.hid (HB1.out.trans (hf2.mono HB1.out.size)); clear hf2))
    go_ret
    exact ⟨ret_int HE.out.symm, HB2.out⟩
  rw [if_neg (by simpa using hz)] at hE0
  have hlen : x.body.length ≤ 5 := by
    unfold bodyBad at hz
    split at hz
    · exact absurd hz (by decide)
    · omega
  rw [hz] at KB
  have HE0 := Lib.hid hE0
  clear hz hE0
  have HL := Lib.hid (fun k => allVars_length (x.body.take k) (fun y hy => HS.out.b1 y (List.mem_of_mem_take hy)))
  go_enter Tryz.func131, Tryz.ntmps131
  go_wp2_with (first
    | (go_at_call 89; refine (KA.out).mono ?_; rintro e w1 ⟨rfl, hf1⟩; have HB1 := Lib.hid hf1; have c0 := (HR0.out.up hf1).c0; have c3 := (HR0.out.up hf1).c3; rw [HN.out] at c0; clear hf1)
    | (go_at_call 54; refine (KB.out _ HB1.out).mono ?_; rintro e w2 ⟨rfl, hf2⟩; have HB2 := Lib.hid (HB1.out.trans (hf2.mono HB1.out.size)); have d3 := (HR0.out.up HB2.out).c3; clear hf2))
  clear c0 c3 HB1
  go_loopw [35, 5] (fun i v wr => ∃ k : Nat, k ≤ x.body.length ∧ i = .int .i64 k ∧ Hid (Owned 1 RStr w.heap.size 9 (fun _ => False) wr v (allVars (x.body.take k))) ∧ Hid (Below w.heap.size w wr)) (fun i _ _ => x.body.length - (intOf i).toNat)
  case atStart => exact ⟨0, Nat.zero_le _, rfl, Lib.hid Owned.nil, HB2⟩
  case round =>
    clear d3 HB2
    obtain ⟨k, hk, rfl, HO, HB⟩ := hrel
    obtain ⟨va, vc, efm, -, -, -⟩ := (HO.out.read RStr.steady).form
    subst efm
    by_cases hlt : k < x.body.length
    · obtain ⟨y, hy⟩ : ∃ y, x.body[k]? = some y := ⟨_, List.getElem?_eq_getElem hlt⟩
      obtain ⟨b1, o1, uv, rfl, -, hb1, d0, d1, d2, huv⟩ := RdAtoms.at ((HR0.out.up HB.out).b) hy
      obtain ⟨ua, uc, rfl, -, -, -⟩ := id huv.form
      have ny := HS.out.b1 y (List.mem_of_getElem? hy)
      have hsz := HB.out.size
      have HBX := Lib.hid (HB.out.alloc hsz (.cells #[.bool y.neg, .string y.name, .slice ua y.terms.length uc] 60))
      have HOX := Lib.hid (HO.out.alloc RStr.steady (.cells #[.bool y.neg, .string y.name, .slice ua y.terms.length uc] 60))
      have KV := Lib.hid (varsCalls y (.slice ua y.terms.length uc) (wr.alloc (.cells #[.bool y.neg, .string y.name, .slice ua y.terms.length uc] 60)) (huv.agree RTerm.steady ((Agree.refl _ _).alloc _)) (by omega))
      have HT := Lib.hid (show allVars (x.body.take (k + 1)) = allVars (x.body.take k) ++ varsOf y by rw [List.take_add_one, hy]; exact allVars_snoc _ _)
      have hll := HL.out k
      have hkk : (x.body.take k).length * 1048576 ≤ 5 * 1048576 := Nat.mul_le_mul_right _ (by rw [List.length_take]; omega)
      have HV0 := Lib.hid (show (varsOf y).length ≤ 1048576 by have := varsF_length y.terms []; simp at this; show (varsF [] y.terms).length ≤ _; omega)
      have HLL := Lib.hid (show (allVars (x.body.take k)).length ≤ 5242880 by omega)
      clear hll hkk hy huv
      go_wp2_with (first
        | (go_at_call 90; refine (KV.out).mono ?_; rintro e w3 ⟨⟨v3, rfl, ho3⟩, hf3⟩; have HB3 := Lib.hid (HBX.out.trans (hf3.mono (by simp; omega))); have HO3 := Lib.hid (HOX.out.below RStr.steady hf3); have HV3 := Lib.hid (ho3.read RStr.steady); clear ho3 hf3)
        | (at_builtin; refine wpList_append_many (B := w.heap.size) (e := 9) (S := fun _ => False) (by rfl) _ _ 36 (by rfl) RStr.steady RStr.one rowStrs _ (allVars (x.body.take k)) (by rfl) HO3.out _ (varsOf y) (by rfl) HV3.out (fun _ _ h => h) (by have := HLL.out; have := HV0.out; omega) (Below.size HB3.out) ?_; intro v4 w4 hown4 hg4 hat4; have HO4 := Lib.hid (show Owned 1 RStr w.heap.size 9 (fun _ => False) w4 v4 (allVars (x.body.take (k + 1))) by rw [HT.out]; exact hown4); have HB4 := Lib.hid (Below.grown HB3.out hg4 (Below.size HB3.out) (fun q hq => (HO3.out.row_lt hq).1)); clear hown4 hg4 hat4))
      go_wp2
      go_roundw
      case rel => exact ⟨k + 1, by omega, by go_num, HO4, HB4⟩
      case measure => simp [intOf]; omega
    · have htk : x.body.take k = x.body := List.take_of_length_le (by omega)
      have HLQ := Lib.hid (show (allVars (x.body.take k)).length ≤ 5242880 by
        have h1 := HL.out k
        have h2 : (x.body.take k).length * 1048576 ≤ 5 * 1048576 := Nat.mul_le_mul_right _ (by rw [List.length_take]; omega)
        omega)
      generalize (allVars (x.body.take k)).length = hl at *
      rw [htk] at HO
      have hLQ := HLQ.out
      clear htk HL
      have HRD := Lib.hid (HO.out.read RStr.steady)
      have c0 := (HR0.out.up HB.out).c0
      have c1 := (HR0.out.up HB.out).c1
      have c2 := (HR0.out.up HB.out).c2
      have KV := Lib.hid (varsCalls x.head (.slice ta x.head.terms.length tc) wr ((HR0.out.up HB.out).t) (by omega))
      have HV0 := Lib.hid (show (varsOf x.head).length ≤ 1048576 by have := varsF_length x.head.terms []; simp at this; show (varsF [] x.head.terms).length ≤ _; omega)
      rw [HN.out] at KV c0
      have HFR := Lib.hid (fun v (hv : v ∈ varsOf x.head) (hb : memS v (allVars x.body) = false) => (show ruleBad x = 9 by
        rw [HE0.out, if_neg]
        intro hf
        have := List.all_eq_true.1 hf v hv
        rw [hb] at this; cases this))
      have HOK := Lib.hid (fun (hv : ∀ v ∈ varsOf x.head, memS v (allVars x.body) = true) => (show ruleBad x = 0 by
        rw [HE0.out, if_pos (List.all_eq_true.2 hv)]))
      generalize varsOf x.head = vs at *
      generalize allVars x.body = held at *
      go_wp2_with (go_at_call 90; refine (KV.out).mono ?_; rintro e w3 ⟨⟨v3, rfl, ho3⟩, hf3⟩; obtain ⟨xa, xc, rfl, -, -, -⟩ := id (ho3.read RStr.steady).form; have HV3 := Lib.hid (ho3.read RStr.steady); have HB3 := Lib.hid (HB.out.trans (hf3.mono HB.out.size)); have HH3 := Lib.hid (RdStrs.up HRD.out hf3); clear ho3 hf3)
      have hv0 := HV0.out
      go_loop [50] (fun i => ∃ j : Nat, j ≤ vs.length ∧ i = .int .i64 j ∧ Hid (∀ v ∈ vs.take j, memS v held = true)) (fun i => vs.length - (intOf i).toNat)
      case atStart => exact ⟨0, Nat.zero_le _, rfl, Lib.hid (by simp)⟩
      case round =>
        obtain ⟨j, hj, rfl, HJ⟩ := hrel
        by_cases hlj : j < vs.length
        · obtain ⟨y, hy⟩ : ∃ y, vs[j]? = some y := ⟨_, List.getElem?_eq_getElem hlj⟩
          obtain ⟨b4, o4, rfl, -, -, hc4⟩ := RdStrs.at HV3.out hy
          have HY := Lib.hid hy
          have KC := Lib.hid (containsStr _ held y w3 HH3.out (by have := HH3.out.form; obtain ⟨_, _, e, _⟩ := this; injection e with _ e _; omega))
          clear hy
          have hm : memS y held = true ∨ memS y held = false := by cases memS y held <;> simp
          rcases hm with hm | hm
          · rw [hm] at KC
            have HJ1 := Lib.hid (show ∀ v ∈ vs.take (j + 1), memS v held = true from fun v hv => by
              rw [List.take_add_one, HY.out] at hv
              rcases List.mem_append.1 hv with hv | hv
              · exact HJ.out v hv
              · obtain rfl : v = y := by simpa using hv
                exact hm)
            clear hm
            go_wp2_with (go_at_call 91; refine (KC.out).mono ?_; rintro e w' ⟨rfl, rfl⟩)
            go_round
            case rel => exact ⟨j + 1, by omega, by go_num, HJ1⟩
            case measure => simp [intOf]; omega
          · rw [hm] at KC
            have HE := Lib.hid (HFR.out y (List.mem_of_getElem? HY.out) hm)
            clear hm
            go_wp2_with (go_at_call 91; refine (KC.out).mono ?_; rintro e w' ⟨rfl, rfl⟩)
            go_ret
            exact ⟨ret_int HE.out.symm, HB3.out⟩
        · have HE := Lib.hid (HOK.out (by have := HJ.out; rwa [List.take_of_length_le (by omega)] at this))
          go_wp2
          go_ret
          exact ⟨ret_int HE.out.symm, HB3.out⟩
end Go.Proofs.YtiiicochdidolaaGreat
