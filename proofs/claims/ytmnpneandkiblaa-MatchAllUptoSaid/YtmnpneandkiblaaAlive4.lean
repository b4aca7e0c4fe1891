/-
  THE WALK OF corolaw4.alive: true.
-/
import Derived.Test.YtmnpneandkiblaaSynW6
import Derived.Test.YtmnpneandkiblaaWithW
namespace Go.Proofs.Ytmnpneandkiblaa
open Go.RowKit

theorem bodyKnown {s : Str} {l : List PAtom} {n : Nat} (hn : l.length = n) (hs : s.size ≤ 1048576) (h : parseBodyF s = (l, 0, 0)) (w : World) :
    Calls Try.prog 34 #[.string s] w fun e w' => (∃ a c, e = .returned (.tuple #[.slice a n c, .agg #[.int .i64 0, .int .i64 0]]) ∧ RdAtoms (New w) w' (.slice a n c) l) ∧ Below w.heap.size w w' := by
  refine (bodyTextCalls s w hs).mono fun e w' ⟨⟨v, he, hr⟩, hb⟩ => ⟨?_, hb⟩
  rw [h] at he hr
  obtain ⟨a, c, rfl, -, -, -⟩ := id hr.form
  subst hn
  exact ⟨a, c, he, hr⟩
/-- match.All, read. -/
theorem allReads {S S2 : Nat → Prop} (bv : Value) (body : List PAtom) (fv : Value) (facts : List PFact) (w : World) (hb : RdAtoms S w bv body) (hf : RdFacts S2 w fv facts)
    (n1 : body.length ≤ 1048576) (n2 : ∀ a ∈ body, a.terms.length ≤ 1048576) (n3 : ∀ a ∈ body, ∀ t ∈ a.terms, t.name.size ≤ 1048576) (n4 : facts.length ≤ 1048576) (n5 : ∀ x ∈ facts, x.args.length ≤ 1048576) :
    Calls Try.prog 10 #[bv, fv] w fun e w' => (∃ a c, e = .returned (.tuple #[.slice a (allP body facts).1.length c, .int .i64 (allP body facts).2]) ∧ RdBindss (fun b => w.heap.size ≤ b) w' (.slice a (allP body facts).1.length c) (allP body facts).1) ∧ Below w.heap.size w w' := by
  refine (allCalls bv body fv facts w hb hf n1 n2 n3 n4 n5).mono fun e w' ⟨h1, v, zs, he, hn, hm⟩ => ⟨?_, h1⟩
  have hr := (hn.reads.read RBinds.steady).more RBinds.steady (S' := fun b => w.heap.size ≤ b) (fun b hb _ => hb.elim id id)
  rw [hm] at hr
  obtain ⟨a, c, rfl, -, -, -⟩ := id hr.form
  exact ⟨a, c, he, hr⟩

def qE : Str := ⟨#[101]⟩
def qX : Str := ⟨#[88]⟩
def qY : Str := ⟨#[89]⟩
def qa : Str := ⟨#[97]⟩
def qb : Str := ⟨#[98]⟩
def qText : Str := ⟨#[101, 40, 88, 44, 89, 41, 44, 32, 101, 40, 89, 44, 88, 41]⟩
def qBody : List PAtom := [⟨false, qE, [⟨true, qX⟩, ⟨true, qY⟩]⟩, ⟨false, qE, [⟨true, qY⟩, ⟨true, qX⟩]⟩]
def qFacts : List PFact := [⟨qE, [qa, qb]⟩, ⟨qE, [qb, qa]⟩]
def qBinds : List Binds := [[⟨qX, qa⟩, ⟨qY, qb⟩], [⟨qX, qb⟩, ⟨qY, qa⟩]]
theorem parse_q : parseBodyF qText = (qBody, 0, 0) := by decide +kernel
theorem all_q : allP qBody qFacts = (qBinds, 0) := by decide +kernel

theorem allKnown {S S2 : Nat → Prop} (bv fv : Value) (w : World) (hb : RdAtoms S w bv qBody) (hf : RdFacts S2 w fv qFacts) :
    Calls Try.prog 10 #[bv, fv] w fun e w' => (∃ a c, e = .returned (.tuple #[.slice a 2 c, .int .i64 0]) ∧ RdBindss (fun b => w.heap.size ≤ b) w' (.slice a 2 c) qBinds) ∧ Below w.heap.size w w' := by
  have h := allReads bv qBody fv qFacts w hb hf (by decide) (fun a ha => of_decide_eq_true (List.all_eq_true.1 (show qBody.all (fun a => decide (a.terms.length ≤ 1048576)) = true by decide +kernel) a ha))
    (fun a ha t ht => of_decide_eq_true (List.all_eq_true.1 (List.all_eq_true.1 (show qBody.all (fun a => a.terms.all fun t => decide (t.name.size ≤ 1048576)) = true by decide +kernel) a ha) t ht)) (by decide)
    (fun x hx => of_decide_eq_true (List.all_eq_true.1 (show qFacts.all (fun a => decide (a.args.length ≤ 1048576)) = true by decide +kernel) x hx))
  rw [all_q] at h
  exact h

theorem RdFacts.two {w : World} {b1 b2 b3 : Nat} (h1 : Blk w b1 9 #[.string qa, .string qb]) (h2 : Blk w b2 9 #[.string qb, .string qa])
    (h3 : Blk w b3 41 #[.string qE, .slice (some ⟨b1, 0, none⟩) 2 2, .string qE, .slice (some ⟨b2, 0, none⟩) 2 2]) : RdFacts (fun _ => True) w (.slice (some ⟨b3, 0, none⟩) 2 2) qFacts := by
  have strs : ∀ {b : Nat} {x y : Str}, Blk w b 9 #[.string x, .string y] → RdStrs (fun _ => True) w (.slice (some ⟨b, 0, none⟩) 2 2) [x, y] := fun {b x y} h =>
    ⟨_, _, rfl, Nat.le_refl _, by simp [maxLen], (fun h => by cases h), fun i z hz => by
      rcases i with _ | _ | i
      · obtain rfl := Option.some.inj hz
        exact ⟨b, 0, _, rfl, trivial, h.lt, rfl, fun j u hu => by rcases j with _ | j; (· obtain rfl := Option.some.inj hu; exact h.cell 0); (· simp at hu), rfl⟩
      · obtain rfl := Option.some.inj hz
        exact ⟨b, 0, _, rfl, trivial, h.lt, rfl, fun j u hu => by rcases j with _ | j; (· obtain rfl := Option.some.inj hu; exact h.cell 1); (· simp at hu), rfl⟩
      · simp at hz⟩
  refine ⟨_, _, rfl, Nat.le_refl _, by simp [maxLen], (fun h => by cases h), fun i z hz => ?_⟩
  rcases i with _ | _ | i
  · obtain rfl := Option.some.inj hz
    refine ⟨b3, 0, [.string qE, .slice (some ⟨b1, 0, none⟩) 2 2], rfl, trivial, h3.lt, rfl, fun j u hu => ?_, _, rfl, strs h1⟩
    rcases j with _ | _ | j
    · obtain rfl := Option.some.inj hu; exact h3.cell 0
    · obtain rfl := Option.some.inj hu; exact h3.cell 1
    · simp at hu
  · obtain rfl := Option.some.inj hz
    refine ⟨b3, 0, [.string qE, .slice (some ⟨b2, 0, none⟩) 2 2], rfl, trivial, h3.lt, rfl, fun j u hu => ?_, _, rfl, strs h2⟩
    rcases j with _ | _ | j
    · obtain rfl := Option.some.inj hu; exact h3.cell 2
    · obtain rfl := Option.some.inj hu; exact h3.cell 3
    · simp at hu
  · simp [qFacts] at hz

set_option maxRecDepth 100000 in
set_option maxHeartbeats 4000000 in
theorem alive4Calls (w : World) : Calls Try.prog 17 #[] w fun e w' => e = .returned (.bool true) ∧ Below w.heap.size w w' := by
  have T1 := Lib.hid True.intro
  go_enter Try.func17, Try.ntmps17
  go_wp2_with (go_at_call 34; clear T1; refine (bodyKnown (s := qText) (n := 2) (by rfl) (by decide) parse_q _).mono ?_; rintro e w1 ⟨⟨a1, c1, rfl, hr1⟩, hb1⟩; have HR1 := Lib.hid hr1; have HB1 := Lib.hid hb1; clear hr1 hb1)
  obtain ⟨W0, hW0⟩ : ∃ W0 : World, w1.alloc (.cells #[.int .i64 0, .int .i64 0] 60) = W0 := ⟨_, rfl⟩
  have hs0 : W0.heap.size = w1.heap.size + 1 := by subst hW0; simp
  have hb0 : Below w1.heap.size w1 W0 := by subst hW0; exact (Below.refl _ _).alloc (Nat.le_refl _) _
  have HB3 := Lib.hid ((((Below.refl w1.heap.size W0).alloc (by omega) (.cells #[.string qa, .string qb] 9)).alloc (by simp; omega) (.cells #[.string qb, .string qa] 9)).alloc (by simp; omega) (.cells #[.string qE, .slice (some ⟨w1.heap.size + 1, 0, none⟩) 2 2, .string qE, .slice (some ⟨w1.heap.size + 1 + 1, 0, none⟩) 2 2] 41))
  have HF3 := Lib.hid (RdFacts.two (w := ((W0.alloc (.cells #[.string qa, .string qb] 9)).alloc (.cells #[.string qb, .string qa] 9)).alloc (.cells #[.string qE, .slice (some ⟨w1.heap.size + 1, 0, none⟩) 2 2, .string qE, .slice (some ⟨w1.heap.size + 1 + 1, 0, none⟩) 2 2] 41)) (b3 := w1.heap.size + 1 + 1 + 1)
    (((show Blk (W0.alloc (.cells #[.string qa, .string qb] 9)) (w1.heap.size + 1) 9 _ from heap_new_at hs0).alloc _).alloc _)
    ((show Blk ((W0.alloc (.cells #[.string qa, .string qb] 9)).alloc (.cells #[.string qb, .string qa] 9)) (w1.heap.size + 1 + 1) 9 _ from heap_new_at (by simp; omega)).alloc _)
    (heap_new_at (by simp; omega)))
  rw [hW0]
  have HR3 := Lib.hid (HR1.out.up (hb0.trans HB3.out))
  have HB4 := Lib.hid (HB1.out.trans ((hb0.trans HB3.out).mono HB1.out.size))
  clear hs0 hb0 HB3 hW0
  have K := allKnown _ _ _ HR3.out HF3.out
  refine K.mono ?_
  clear K
  rintro e w2 ⟨⟨a2, c2, rfl, hr2⟩, hb2⟩
  have HB5 := Lib.hid (HB4.out.trans (hb2.mono (Below.size HB4.out)))
  clear hb2
  obtain ⟨b1, o1, v1, rfl, -, -, d1, hv1⟩ := RdBindss.at hr2 (i := 0) (x := [⟨qX, qa⟩, ⟨qY, qb⟩]) rfl
  obtain ⟨a3, c3, rfl, -, -, -⟩ := id hv1.form
  obtain ⟨b4, o4, rfl, -, -, -, d4⟩ := RdBinds.at hv1 (i := 0) (x := ⟨qX, qa⟩) rfl
  have e1 : w2.cell? ⟨b1, o1, none⟩ = some (.slice (some ⟨b4, o4, none⟩) 2 c3) := d1
  have e4 : w2.cell? ⟨b4, o4 + 1, none⟩ = some (.string ⟨#[97]⟩) := d4
  clear d1 d4 hv1 hr2 HR1 HB1 HF3 HR3 HB4
  go_wp2
  go_ret
  exact ⟨rfl, HB5.out⟩
end Go.Proofs.Ytmnpneandkiblaa
