/-
  THE TEXTS NaiveK, Ref1Less, Ref1Same, RoundP, RoundW1, RoundW2, one behind the other.
-/
import Derived.Test.YtbbiapgkcekabaaGreatPk3
import Derived.Test.YtbbiapgkcekabaaGreatPk5
import Derived.Test.YtbbiapgkcekabaaGreatPk14
import Derived.Test.YtbbiapgkcekabaaGreatChecked
/-
  WHAT THE LAWS OF CHAPTER 5 CALL, its answers being known.
-/
namespace Go.Proofs.YtbbiapgkcekabaaGreat
open Go.RowKit Go.ChangeShapes Go.WideShapes Go.Deep

theorem fix_nil {ps : List (PRule × Int)} {n : Int} : ∀ {k : Nat} {o : List PFact}, (fixP ps n k o).2 ≠ 0 → (fixP ps n k o).1 = []
  | 0, o, h => absurd rfl h
  | k + 1, o, h => by
    rw [fixP] at h ⊢
    split
    · rfl
    · rename_i h1
      rw [if_neg h1] at h
      split
      · rename_i h2; rw [if_pos h2] at h; exact absurd rfl h
      · rename_i h2; rw [if_neg h2] at h; exact fix_nil h
theorem run_nil {ps : List (PRule × Int)} : ∀ {k : Nat} {i : Int} {o : List PFact}, (runP ps k i o).2 ≠ 0 → (runP ps k i o).1 = []
  | 0, _, o, h => absurd rfl h
  | k + 1, i, o, h => by
    rw [runP] at h ⊢
    split
    · rfl
    · rename_i h1; rw [if_neg h1] at h; exact run_nil h
theorem naive_nil {st : List Int} {q : Int} {p : List PRule} {l : List PFact} (h : (naiveP st q p l).2 ≠ 0) : (naiveP st q p l).1 = [] := by
  unfold naiveP at h ⊢
  split
  · rfl
  · rename_i h1
    rw [if_neg h1] at h
    split
    · rfl
    · rename_i h2; rw [if_neg h2] at h; exact run_nil h
theorem less_nil {l m : List PFact} (h : ∀ x ∈ l, x ∈ m) : lessF l m = [] := List.filter_eq_nil_iff.2 fun x hx => by rw [(memF_iff x m).2 (h x hx)]; decide
theorem good_args {l : List PFact} (h : ∀ f ∈ l, wrongF f = 0) : ∀ x ∈ l, x.args.length ≤ 1048576 := fun x hx => by have := (wrongF_zero.1 (h x hx)).2.1; omega

/-- naive.All, read. -/
theorem naiveReads {S S3 : Nat → Prop} (p : List PRule) (v fv : Value) (st : List Int) (q : Int × Int) (l : List PFact) (w : World) (hS : StrataIs p st q) (h : RdRules S w v p) (hf : RdFacts S3 w fv l)
    (n1 : p.length ≤ 1048576) (n2 : ∀ r ∈ p, RuleSmall r) (n3 : ∀ r ∈ p, NameSmall r) (n4 : l.length ≤ 1048576) (n5 : ∀ x ∈ l, x.args.length ≤ 1048576) :
    Calls Tryz.prog 17 #[v, fv] w fun e w' => (∃ a c, e = .returned (.tuple #[.slice a (naiveP st q.1 p l).1.length c, .int .i64 (naiveP st q.1 p l).2]) ∧ RdFacts (fun _ => True) w' (.slice a (naiveP st q.1 p l).1.length c) (naiveP st q.1 p l).1) ∧ Below w.heap.size w w' :=
  naiveKnown rfl hS rfl h hf n1 n2 n3 n4 n5
/-- naive.Heads, read. -/
theorem headsReads {S S2 S3 : Nat → Prop} (x : PRule) (tv bv fv : Value) (facts : List PFact) (w : World) (ht : RdTerms S w tv x.head.terms) (hb : RdAtoms S2 w bv x.body) (hf : RdFacts S3 w fv facts)
    (hs : RuleSmall x) (n4 : facts.length ≤ 1048576) (n5 : ∀ x ∈ facts, x.args.length ≤ 1048576) :
    Calls Tryz.prog 25 #[.agg #[.bool x.head.neg, .string x.head.name, tv, bv], fv] w fun e w' => (∃ a c, e = .returned (.tuple #[.slice a (headsP x facts).1.length c, .int .i64 (headsP x facts).2]) ∧ RdFacts (fun _ => True) w' (.slice a (headsP x facts).1.length c) (headsP x facts).1) ∧ Below w.heap.size w w' :=
  (headsCalls x tv bv fv facts w ht hb hf hs n4 n5).mono fun e w' ⟨hb, v', he, ho⟩ => by
    have h' := (ho.read RFact.steady).more RFact.steady (S' := fun _ => True) (fun _ _ _ => trivial)
    obtain ⟨a, c, rfl, -, -, -⟩ := id h'.form
    exact ⟨⟨a, c, he, h'⟩, hb⟩
/-- fact.Less, read. -/
theorem lessReads {S T : Nat → Prop} {va vb : Value} {l m : List PFact} {w : World} (h : RdFacts S w va l) (hm : RdFacts T w vb m) (hs : Rising m) (n1 : l.length ≤ 1048576) (n2 : ∀ x ∈ l, x.args.length ≤ 1048576) (n3 : m.length ≤ 1048576) (n4 : ∀ x ∈ m, x.args.length ≤ 1048576) :
    Calls Tryz.prog 44 #[va, vb] w fun e w' => (∃ a c, e = .returned (.slice a (lessF l m).length c) ∧ RdFacts (fun _ => True) w' (.slice a (lessF l m).length c) (lessF l m)) ∧ Below w.heap.size w w' :=
  (lessCalls va vb l m w h hm hs (by omega) (fun x hx => by have := n2 x hx; omega) (by omega) (fun x hx => by have := n4 x hx; omega)).mono fun e w' ⟨⟨v', he, ho⟩, hb⟩ => by
    have h' := (ho.read RFact.steady).more RFact.steady (S' := fun _ => True) (fun _ _ _ => trivial)
    obtain ⟨a, c, rfl, -, -, -⟩ := id h'.form
    exact ⟨⟨a, c, he, h'⟩, hb⟩
theorem lessNone {S T : Nat → Prop} {va vb : Value} {l m : List PFact} {w : World} (hlm : ∀ x ∈ l, x ∈ m) (h : RdFacts S w va l) (hm : RdFacts T w vb m) (hs : Rising m) (n1 : l.length ≤ 1048576) (n2 : ∀ x ∈ l, x.args.length ≤ 1048576) (n3 : m.length ≤ 1048576) (n4 : ∀ x ∈ m, x.args.length ≤ 1048576) :
    Calls Tryz.prog 44 #[va, vb] w fun e w' => (∃ a c, e = .returned (.slice a 0 c)) ∧ Below w.heap.size w w' :=
  (lessReads h hm hs n1 n2 n3 n4).mono fun e w' ⟨⟨a, c, he, _⟩, hb⟩ => ⟨⟨a, c, by rw [he, less_nil hlm]; rfl⟩, hb⟩
theorem joinReads {S T : Nat → Prop} {va vb : Value} {a b : List PFact} {w : World} (ha : RdFacts S w va a) (hb : RdFacts T w vb b) (n1 : a.length ≤ 1048576) (n1' : b.length ≤ 1048576) (n2 : ∀ x ∈ a, x.args.length ≤ 1048576) (n3 : ∀ x ∈ b, x.args.length ≤ 1048576) :
    Calls Tryz.prog 38 #[va, vb] w fun e w' => (∃ q c, e = .returned (.slice q (joinF a b).length c) ∧ RdFacts (fun _ => True) w' (.slice q (joinF a b).length c) (joinF a b)) ∧ Below w.heap.size w w' :=
  (joinCalls va vb a b w ha hb (by omega) (fun x hx => by have := n2 x hx; omega) (fun x hx => by have := n3 x hx; omega)).mono fun e w' ⟨⟨v', he, ho⟩, hb⟩ => by
    have h' := (ho.read RFact.steady).more RFact.steady (S' := fun _ => True) (fun _ _ _ => trivial)
    obtain ⟨q, c, rfl, -, -, -⟩ := id h'.form
    exact ⟨⟨q, c, he, h'⟩, hb⟩
/-- A rule of a program, where it lies. -/
theorem RdRules.pick {S : Nat → Prop} {w : World} {a : Option Addr} {n cap : Nat} {l : List PRule} (h : RdRules S w (.slice a n cap) l) {i : Nat} {x : PRule} (hx : l[i]? = some x) :
    ∃ b o ta tc ba bc, a = some ⟨b, o, none⟩ ∧ RuleAt S w b (o + i * 4) x (.slice ta x.head.terms.length tc) (.slice ba x.body.length bc) := by
  obtain ⟨b1, o1, tv, bv, rfl, -, hb1, d0, d1, d2, d3, htv, hbv⟩ := RdRules.at h hx
  obtain ⟨ta, tc, rfl, -, -, -⟩ := id htv.form
  obtain ⟨ba, bc, rfl, -, -, -⟩ := id hbv.form
  exact ⟨b1, o1, ta, tc, ba, bc, rfl, hb1, d0, d1, d2, d3, htv, hbv⟩
theorem Opens.ruleArg {P : Program} {t : TypeId} {size : PRule → Nat} (h : Opens P t 4 RRule size) {fs : Array Field} (ht : P.underlying t = some (.struct fs)) {H : Type} {enc : TypeId × Value → H} {W : World} {r : Reach} {b : Nat} {v : Value} {d : DataW H} {p : List MemPlace}
    (hv : Value.okWide P W r b t v) (hd : DataW.Trod enc P W 0 (fun _ => true) true t v d p) : ∃ (x : PRule) (tv bv : Value), v = .agg #[.bool x.head.neg, .string x.head.name, tv, bv] ∧ RdTerms (fun _ => True) W tv x.head.terms ∧ RdAtoms (fun _ => True) W bv x.body ∧ size x ≤ Rows.uptoBulk d := by
  obtain ⟨f, cs, rfl, ⟨tv, bv, e, h1, h2⟩, hb⟩ := h.arg ht hv hd
  exact ⟨f, tv, bv, by rw [← Array.toArray_toList (xs := cs), e], h1, h2, hb⟩
theorem rule_small {r : PRule} (h : sizeRule r ≤ 1048576) : RuleSmall r := by
  simp only [sizeRule] at h
  have h3 := sizeL_le (size := sizeAtom) openAtom.one r.body
  obtain ⟨g1, g2, g3⟩ := atom_small (a := r.head)
  have hb : ∀ a ∈ r.body, sizeAtom a ≤ 1048576 := fun a ha => by have h2 := sizeL_mem (size := sizeAtom) ha; omega
  exact ⟨by omega, fun t ht => by have := g3 t ht; omega, by omega, fun a ha => by have := hb a ha; have := (atom_small (a := a)).2.1; omega, fun a ha t ht => by have := hb a ha; have := (atom_small (a := a)).2.2 t ht; omega⟩
end Go.Proofs.YtbbiapgkcekabaaGreat

/-
  THE WALKS OF cororef1.Less and cororef1.Equal: ltF; are they the same?
-/
namespace Go.Proofs.YtbbiapgkcekabaaGreat
open Go.RowKit

theorem ltF_name {f g : PFact} (h : f.name ≠ g.name) : ltF f g = strLt f.name g.name := by
  have h0 : cmpStr f.name g.name ≠ 0 := fun e => h ((cmpStr3.zero _ _).1 e)
  have h1 : cmpFact f g = cmpStr f.name g.name := by simp [cmpFact, orInt, h0]
  rw [Bool.eq_iff_iff]
  simp only [ltF, h1, decide_eq_true_eq]
  exact cmpStr_lt _ _
theorem ltF_len {f g : PFact} (h : f.name = g.name) (k : f.args.length ≠ g.args.length) : ltF f g = decide (f.args.length < g.args.length) := by
  have h0 : cmpStr f.name g.name = 0 := (cmpStr3.zero _ _).2 h
  have h2 : cmpInt (f.args.length : Int) g.args.length ≠ 0 := fun e => k (by have := (cmpInt3.zero _ _).1 e; omega)
  have h1 : cmpFact f g = cmpInt f.args.length g.args.length := by simp [cmpFact, orInt, h0, h2]
  rw [Bool.eq_iff_iff]
  simp only [ltF, h1, decide_eq_true_eq, cmpInt]
  split
  · constructor <;> intro <;> omega
  · split <;> constructor <;> intro <;> omega
theorem ltF_args {f g : PFact} (h : f.name = g.name) (k : f.args.length = g.args.length) : ltF f g = decide (cmpStrs f.args g.args < 0) := by
  have h0 : cmpStr f.name g.name = 0 := (cmpStr3.zero _ _).2 h
  have h2 : cmpInt (f.args.length : Int) g.args.length = 0 := (cmpInt3.zero _ _).2 (by omega)
  have h1 : cmpFact f g = cmpStrs f.args g.args := by
    simp only [cmpFact, orInt, h0, h2]
    simp
    intro e; exact e.symm
  simp only [ltF, h1]
theorem cmpStrs_same {x y : Str} {a b : List Str} (h : x = y) : cmpStrs (x :: a) (y :: b) = cmpStrs a b := by
  have h0 : cmpStr x y = 0 := (cmpStr3.zero _ _).2 h
  simp [cmpStrs, h0]
theorem cmpStrs_other {x y : Str} {a b : List Str} (h : x ≠ y) : decide (cmpStrs (x :: a) (y :: b) < 0) = strLt x y := by
  have h0 : cmpStr x y ≠ 0 := fun e => h ((cmpStr3.zero _ _).1 e)
  rw [Bool.eq_iff_iff, decide_eq_true_eq]
  simp only [cmpStrs, if_pos h0]
  exact cmpStr_lt _ _

theorem fresh_drewN {w w' : World} (h : Fresh w w') (n : Nat) : Fresh w (w'.drewN n) := h.trans ⟨n, #[], by simp⟩

attribute [local go_sem ↓] Go.wp_at_zero Go.wp_at_succ
set_option maxRecDepth 100000 in
set_option maxHeartbeats 2000000 in
theorem lessRef {S T : Nat → Prop} (f g : PFact) (av bv : Value) (w : World) (ha : RdStrs S w av f.args) (hb : RdStrs T w bv g.args) (n1 : f.args.length ≤ 1073741824) :
    Calls Tryz.prog 85 #[.agg #[.string f.name, av], .agg #[.string g.name, bv]] w fun e w' => e = .returned (.bool (ltF f g)) ∧ Fresh w w' := by
  obtain ⟨aa, ac, rfl, -, -, -⟩ := id ha.form
  obtain ⟨ba, bc, rfl, -, -, -⟩ := id hb.form
  have HF := Lib.hid (((Fresh.refl w).alloc (.cells #[.string f.name, .slice aa f.args.length ac] 61)).alloc (.cells #[.string g.name, .slice ba g.args.length bc] 61))
  by_cases hn : f.name = g.name
  · have g1 : (f.name.toList == g.name.toList) = true := by rw [hn]; exact beq_self_eq_true _
    by_cases hl : f.args.length = g.args.length
    · have HL := Lib.hid (ltF_args hn hl)
      have HA := Lib.hid (fun W (h : Agree (fun _ => True) w W) i x (hx : f.args[i]? = some x) => RdStrs.at ((ha.more RStr.steady (S' := fun _ => True) (fun _ _ _ => trivial)).agree RStr.steady h) hx)
      have HB := Lib.hid (fun W (h : Agree (fun _ => True) w W) i x (hx : g.args[i]? = some x) => RdStrs.at ((hb.more RStr.steady (S' := fun _ => True) (fun _ _ _ => trivial)).agree RStr.steady h) hx)
      have HN := Lib.hid hl
      rw [← hl]
      rw [← hl] at HF
      clear hn ha hb hl
      have c0 : ((w.alloc (.cells #[.string f.name, .slice aa f.args.length ac] 61)).alloc (.cells #[.string g.name, .slice ba f.args.length bc] 61)).cell? ⟨w.heap.size, 1, none⟩ = some (.slice aa f.args.length ac) := by
        rw [World.cell?_of_block (Below.heap_alloc _ _ _ (show w.heap.size < _ by simp))]; simp
      have c1 : ((w.alloc (.cells #[.string f.name, .slice aa f.args.length ac] 61)).alloc (.cells #[.string g.name, .slice ba f.args.length bc] 61)).cell? ⟨w.heap.size + 1, 1, none⟩ = some (.slice ba f.args.length bc) := by
        have e : w.heap.size + 1 = (w.alloc (.cells #[.string f.name, .slice aa f.args.length ac] 61)).heap.size := by simp
        rw [e]; simp
      have hsz : w.heap.size + 1 < ((w.alloc (.cells #[.string f.name, .slice aa f.args.length ac] 61)).alloc (.cells #[.string g.name, .slice ba f.args.length bc] 61)).heap.size := by simp
      go_enter Tryz.func85, Tryz.ntmps85
      go_wp2
      generalize (w.alloc (.cells #[.string f.name, .slice aa f.args.length ac] 61)).alloc (.cells #[.string g.name, .slice ba f.args.length bc] 61) = w0 at *
      go_loopw [33] (fun i wr => ∃ k : Nat, k ≤ f.args.length ∧ i = .int .i64 k ∧ Hid (ltF f g = decide (cmpStrs (f.args.drop k) (g.args.drop k) < 0)) ∧ Hid (Fresh w0 wr)) (fun i _ => f.args.length - (intOf i).toNat)
      case atStart => exact ⟨0, Nat.zero_le _, rfl, HL, Fresh.refl _⟩
      case round =>
        obtain ⟨k, hk, rfl, HR, HW⟩ := hrel
        have d0 := (cell_below HW.out.below (show w.heap.size < _ by omega) 1).trans c0
        have d1 := (cell_below HW.out.below hsz 1).trans c1
        clear c0 c1
        by_cases hlt : k < f.args.length
        · obtain ⟨x, hx⟩ : ∃ x, f.args[k]? = some x := ⟨_, List.getElem?_eq_getElem hlt⟩
          obtain ⟨y, hy⟩ : ∃ y, g.args[k]? = some y := ⟨_, List.getElem?_eq_getElem (by rw [← HN.out]; exact hlt)⟩
          have hag : Agree (fun _ => True) w wr := Below.agree (HF.out.trans HW.out).below
          obtain ⟨b1, o1, rfl, -, -, hc1⟩ := HA.out wr hag k x hx
          obtain ⟨b2, o2, rfl, -, -, hc2⟩ := HB.out wr hag k y hy
          have HX := Lib.hid hx
          have HY := Lib.hid hy
          clear hx hy hag
          have i1 : (0 : Int) ≤ (k : Int) := by omega
          have i2 : (k : Int) < (f.args.length : Int) := by omega
          by_cases hxy : x = y
          · have gz : (x.toList == y.toList) = true := by rw [hxy]; exact beq_self_eq_true _
            have HXY := Lib.hid hxy
            clear hxy
            go_wp2_with fail
            go_quiet (fail)
            go_wp2
            go_roundw
            case rel =>
              refine ⟨k + 1, by omega, by go_num, ?_, ?_⟩
              · rw [HR.out, drop_cons HX.out, drop_cons HY.out, cmpStrs_same HXY.out]; exact Lib.hid rfl
              · exact Lib.hid (fresh_drewN HW.out _)
            case measure => simp [intOf]; omega
          · have gz : (x.toList == y.toList) = false := by rw [beq_toList]; exact decide_eq_false hxy
            have HXY := Lib.hid (show ltF f g = strLt x y by rw [HR.out, drop_cons HX.out, drop_cons HY.out]; exact cmpStrs_other hxy)
            clear hxy
            obtain ⟨s, hs⟩ : ∃ s, strLt x y = s := ⟨_, rfl⟩
            rw [hs] at HXY
            have gs : Op.bytesLess x.toList y.toList = s := hs
            clear hs
            go_wp2_with fail
            go_quiet (fail)
            go_wp2_with fail
            go_quiet (fail)
            go_wp2
            go_ret
            refine ⟨ret_bool HXY.out.symm, ?_⟩
            exact fresh_drewN (fresh_drewN (HF.out.trans HW.out) _) _
        · have HE := Lib.hid (show ltF f g = false by rw [HR.out, drop_end (by omega : f.args.length ≤ k), drop_end (by rw [← HN.out]; omega : g.args.length ≤ k)]; rfl)
          go_wp2
          go_ret
          exact ⟨ret_bool HE.out.symm, HF.out.trans HW.out⟩
    · have HL := Lib.hid (ltF_len hn hl)
      have i1 : ((f.args.length : Int) == (g.args.length : Int)) = false := by simp; omega
      have i2 : ¬ ((f.args.length : Int) = (g.args.length : Int)) := by omega
      clear hn ha hb
      go_enter Tryz.func85, Tryz.ntmps85
      go_wp2
      go_ret
      exact ⟨by rw [HL.out]; simp, HF.out⟩
  · have HL := Lib.hid (ltF_name hn)
    have g1 : (f.name.toList == g.name.toList) = false := by rw [beq_toList]; exact decide_eq_false hn
    obtain ⟨s, hs⟩ : ∃ s, strLt f.name g.name = s := ⟨_, rfl⟩
    rw [hs] at HL
    have gs : Op.bytesLess f.name.toList g.name.toList = s := hs
    clear hs hn ha hb
    go_enter Tryz.func85, Tryz.ntmps85
    go_wp2
    go_ret
    exact ⟨ret_bool HL.out.symm, HF.out⟩

theorem equal_ltF (f g : PFact) : decide (f = g) = (!ltF f g && !ltF g f) := by
  rw [Bool.eq_iff_iff, decide_eq_true_eq]
  constructor
  · rintro rfl; simp [ltF_irrefl]
  · intro h
    simp only [Bool.and_eq_true, Bool.not_eq_true'] at h
    exact ltF_tri h.1 h.2

set_option maxHeartbeats 2000000 in
theorem equalRef {S T : Nat → Prop} (f g : PFact) (av bv : Value) (w : World) (ha : RdStrs S w av f.args) (hb : RdStrs T w bv g.args) (n1 : f.args.length ≤ 1073741824) (n2 : g.args.length ≤ 1073741824) :
    Calls Tryz.prog 56 #[.agg #[.string f.name, av], .agg #[.string g.name, bv]] w fun e w' => e = .returned (.bool (decide (f = g))) ∧ Fresh w w' := by
  obtain ⟨aa, ac, rfl, -, -, -⟩ := id ha.form
  obtain ⟨ba, bc, rfl, -, -, -⟩ := id hb.form
  have HF := Lib.hid (((Fresh.refl w).alloc (.cells #[.string f.name, .slice aa f.args.length ac] 61)).alloc (.cells #[.string g.name, .slice ba g.args.length bc] 61))
  have K1 := Lib.hid (fun W (h : Agree (fun _ => True) w W) => lessRef f g _ _ W ((ha.more RStr.steady (S' := fun _ => True) (fun _ _ _ => trivial)).agree RStr.steady h) ((hb.more RStr.steady (S' := fun _ => True) (fun _ _ _ => trivial)).agree RStr.steady h) n1)
  have K2 := Lib.hid (fun W (h : Agree (fun _ => True) w W) => lessRef g f _ _ W ((hb.more RStr.steady (S' := fun _ => True) (fun _ _ _ => trivial)).agree RStr.steady h) ((ha.more RStr.steady (S' := fun _ => True) (fun _ _ _ => trivial)).agree RStr.steady h) n2)
  have HE := Lib.hid (equal_ltF f g)
  clear ha hb
  cases h1 : ltF f g
  · rw [h1] at K1 HE
    clear h1
    have c0 : ((w.alloc (.cells #[.string f.name, .slice aa f.args.length ac] 61)).alloc (.cells #[.string g.name, .slice ba g.args.length bc] 61)).cell? ⟨w.heap.size, 0, none⟩ = some (.string f.name) := by
      rw [World.cell?_of_block (Below.heap_alloc _ _ _ (show w.heap.size < _ by simp))]; simp
    have c1 : ((w.alloc (.cells #[.string f.name, .slice aa f.args.length ac] 61)).alloc (.cells #[.string g.name, .slice ba g.args.length bc] 61)).cell? ⟨w.heap.size, 1, none⟩ = some (.slice aa f.args.length ac) := by
      rw [World.cell?_of_block (Below.heap_alloc _ _ _ (show w.heap.size < _ by simp))]; simp
    have e : w.heap.size + 1 = (w.alloc (.cells #[.string f.name, .slice aa f.args.length ac] 61)).heap.size := by simp
    have d0 : ((w.alloc (.cells #[.string f.name, .slice aa f.args.length ac] 61)).alloc (.cells #[.string g.name, .slice ba g.args.length bc] 61)).cell? ⟨w.heap.size + 1, 0, none⟩ = some (.string g.name) := by
      rw [e]; simp
    have d1 : ((w.alloc (.cells #[.string f.name, .slice aa f.args.length ac] 61)).alloc (.cells #[.string g.name, .slice ba g.args.length bc] 61)).cell? ⟨w.heap.size + 1, 1, none⟩ = some (.slice ba g.args.length bc) := by
      rw [e]; simp
    have hsz : w.heap.size + 1 < ((w.alloc (.cells #[.string f.name, .slice aa f.args.length ac] 61)).alloc (.cells #[.string g.name, .slice ba g.args.length bc] 61)).heap.size := by simp
    clear e
    go_enter Tryz.func56, Tryz.ntmps56
    go_wp2_with (first
      | (go_at_call 85; refine (K2.out _ (Below.agree (HF.out.trans HW1.out).below)).mono ?_; rintro e w2 ⟨rfl, hf2⟩; have HW2 := Lib.hid ((HF.out.trans HW1.out).trans hf2); clear hf2)
      | (go_at_call 85; refine (K1.out _ (Below.agree HF.out.below)).mono ?_; rintro e w1 ⟨rfl, hf1⟩; have HW1 := Lib.hid hf1; have x0 := (cell_below hf1.below (show w.heap.size < _ by omega) 0).trans c0; have x1 := (cell_below hf1.below (show w.heap.size < _ by omega) 1).trans c1; have y0 := (cell_below hf1.below hsz 0).trans d0; have y1 := (cell_below hf1.below hsz 1).trans d1; clear hf1))
    go_ret
    refine ⟨ret_bool ?_, HW2.out⟩
    rw [HE.out]; simp
  · rw [h1] at K1 HE
    clear h1
    go_enter Tryz.func56, Tryz.ntmps56
    go_wp2_with (go_at_call 85; refine (K1.out _ (Below.agree HF.out.below)).mono ?_; rintro e w1 ⟨rfl, hf1⟩)
    go_ret
    refine ⟨ret_bool ?_, HF.out.trans hf1⟩
    rw [HE.out]; simp
end Go.Proofs.YtbbiapgkcekabaaGreat

/-
  THE WALKS OF cororef1.Same and cororef1.In: are two lists of facts the same? Is a fact in a list?
-/
namespace Go.Proofs.YtbbiapgkcekabaaGreat
open Go.RowKit

theorem eq_of_get {a b : List PFact} (hl : a.length = b.length) (h : ∀ i x y, i < a.length → a[i]? = some x → b[i]? = some y → x = y) : a = b := by
  apply List.ext_getElem hl
  intro i h1 h2
  exact h i _ _ h1 (List.getElem?_eq_getElem h1) (List.getElem?_eq_getElem h2)

attribute [local go_sem ↓] Go.wp_at_zero Go.wp_at_succ
set_option maxRecDepth 100000 in
set_option maxHeartbeats 2000000 in
theorem sameRef {S T : Nat → Prop} (va vb : Value) (a b : List PFact) (w : World) (ha : RdFacts S w va a) (hb : RdFacts T w vb b) (n1 : a.length ≤ 1073741824) (n2 : ∀ x ∈ a, x.args.length ≤ 1073741824) (n3 : ∀ x ∈ b, x.args.length ≤ 1073741824) :
    Calls Tryz.prog 19 #[va, vb] w fun e w' => e = .returned (.bool (decide (a = b))) ∧ Fresh w w' := by
  obtain ⟨aa, ac, rfl, -, -, -⟩ := id ha.form
  obtain ⟨ba, bc, rfl, -, -, -⟩ := id hb.form
  by_cases hl : a.length = b.length
  · have HN := Lib.hid hl
    have HA := Lib.hid (fun W (h : Agree (fun _ => True) w W) i x (hx : a[i]? = some x) => RdFacts.at ((ha.more RFact.steady (S' := fun _ => True) (fun _ _ _ => trivial)).agree RFact.steady h) hx)
    have HB := Lib.hid (fun W (h : Agree (fun _ => True) w W) i x (hx : b[i]? = some x) => RdFacts.at ((hb.more RFact.steady (S' := fun _ => True) (fun _ _ _ => trivial)).agree RFact.steady h) hx)
    have N2 := Lib.hid n2
    have N3 := Lib.hid n3
    rw [← hl]
    clear ha hb hl n2 n3
    go_enter Tryz.func19, Tryz.ntmps19
    go_wp2
    go_loopw [13] (fun i wr => ∃ k : Nat, k ≤ a.length ∧ i = .int .i64 k ∧ Hid (∀ i x y, i < k → a[i]? = some x → b[i]? = some y → x = y) ∧ Hid (Fresh w wr)) (fun i _ => a.length - (intOf i).toNat)
    case atStart => exact ⟨0, Nat.zero_le _, rfl, Lib.hid (fun i x y h => by omega), Fresh.refl _⟩
    case round =>
      obtain ⟨k, hk, rfl, HR, HW⟩ := hrel
      by_cases hlt : k < a.length
      · obtain ⟨x, hx⟩ : ∃ x, a[k]? = some x := ⟨_, List.getElem?_eq_getElem hlt⟩
        obtain ⟨y, hy⟩ : ∃ y, b[k]? = some y := ⟨_, List.getElem?_eq_getElem (by rw [← HN.out]; exact hlt)⟩
        have hag : Agree (fun _ => True) w wr := Below.agree HW.out.below
        obtain ⟨b1, o1, av, rfl, -, hb1, c0, c1, hav⟩ := HA.out wr hag k x hx
        obtain ⟨b2, o2, bv, rfl, -, hb2, d0, d1, hbv⟩ := HB.out wr hag k y hy
        obtain ⟨xa, xc, rfl, -, -, -⟩ := id hav.form
        obtain ⟨ya, yc, rfl, -, -, -⟩ := id hbv.form
        have nx : x.args.length ≤ 1073741824 := N2.out x (List.mem_of_getElem? hx)
        have ny : y.args.length ≤ 1073741824 := N3.out y (List.mem_of_getElem? hy)
        have K := Lib.hid (fun W (h : Agree (fun _ => True) wr W) => equalRef x y _ _ W (hav.agree RStr.steady h) (hbv.agree RStr.steady h) nx ny)
        have HX := Lib.hid hx
        have HY := Lib.hid hy
        clear hx hy hag hav hbv nx ny
        have i1 : (0 : Int) ≤ (k : Int) := by omega
        have i2 : (k : Int) < (a.length : Int) := by omega
        cases hxy : decide (x = y)
        · rw [hxy] at K
          have HXY := Lib.hid (show a ≠ b from fun e => by
            have h1 := HX.out
            rw [e, HY.out] at h1
            exact of_decide_eq_false hxy (Option.some.inj h1).symm)
          clear hxy
          go_wp2_with fail
          go_region_held3 (fun w' => w'.cell? ⟨b1, o1 + k * 2, none⟩ = some (.string x.name) ∧ w'.cell? ⟨b1, o1 + k * 2 + 1, none⟩ = some (.slice xa x.args.length xc) ∧
              w'.cell? ⟨b2, o2 + k * 2, none⟩ = some (.string y.name) ∧ w'.cell? ⟨b2, o2 + k * 2 + 1, none⟩ = some (.slice ya y.args.length yc))
            (first | (refine ⟨?_, ?_, ?_, ?_⟩ <;> (first | (rw [hk2 _ hb1]; assumption) | (rw [hk2 _ hb2]; assumption))) | go_keep)
            (first
              | (go_at_call 56; refine (K.out _ (Agree.refl _ _).drew).mono ?_; rintro e w1 ⟨rfl, hf1⟩; have hk2 : ∀ c, c < wr.heap.size → ∀ off, w1.cell? ⟨c, off, none⟩ = wr.cell? ⟨c, off, none⟩ := fun c hc off => cell_below (w := wr.drew) hf1.below hc off))
          have HW2 := Lib.hid (HW.out.drew.trans hf1)
          clear hf1 hk2 c0 c1 d0 d1
          go_wp2
          go_ret
          exact ⟨ret_bool (decide_eq_false HXY.out).symm, HW2.out⟩
        · rw [hxy] at K
          have HXY := Lib.hid (of_decide_eq_true hxy)
          clear hxy
          go_wp2_with fail
          go_region_held3 (fun w' => w'.cell? ⟨b1, o1 + k * 2, none⟩ = some (.string x.name) ∧ w'.cell? ⟨b1, o1 + k * 2 + 1, none⟩ = some (.slice xa x.args.length xc) ∧
              w'.cell? ⟨b2, o2 + k * 2, none⟩ = some (.string y.name) ∧ w'.cell? ⟨b2, o2 + k * 2 + 1, none⟩ = some (.slice ya y.args.length yc))
            (first | (refine ⟨?_, ?_, ?_, ?_⟩ <;> (first | (rw [hk2 _ hb1]; assumption) | (rw [hk2 _ hb2]; assumption))) | go_keep)
            (first
              | (go_at_call 56; refine (K.out _ (Agree.refl _ _).drew).mono ?_; rintro e w1 ⟨rfl, hf1⟩; have hk2 : ∀ c, c < wr.heap.size → ∀ off, w1.cell? ⟨c, off, none⟩ = wr.cell? ⟨c, off, none⟩ := fun c hc off => cell_below (w := wr.drew) hf1.below hc off))
          have HW2 := Lib.hid (HW.out.drew.trans hf1)
          clear hf1 hk2 c0 c1 d0 d1
          go_wp2
          go_roundw
          case rel =>
            refine ⟨k + 1, by omega, by go_num, Lib.hid (fun i p q hi hp hq => ?_), HW2.out⟩
            by_cases e : i = k
            · subst e
              rw [HX.out] at hp
              rw [HY.out] at hq
              rw [← Option.some.inj hp, ← Option.some.inj hq]
              exact HXY.out
            · exact HR.out i p q (by omega) hp hq
          case measure => simp [intOf]; omega
      · have HE := Lib.hid (show a = b from eq_of_get HN.out (fun i x y hi => HR.out i x y (by omega)))
        go_wp2
        go_ret
        exact ⟨ret_bool (decide_eq_true HE.out).symm, HW.out⟩
  · have HE := Lib.hid (show a ≠ b from fun e => hl (by rw [e]))
    have i2 : ¬ ((a.length : Int) = (b.length : Int)) := by omega
    have i1 : ((a.length : Int) == (b.length : Int)) = false := by simp; omega
    clear ha hb
    go_enter Tryz.func19, Tryz.ntmps19
    go_wp2
    go_ret
    exact ⟨ret_bool (decide_eq_false HE.out).symm, Fresh.refl _⟩

theorem memF_drop {f x : PFact} {l : List PFact} {k : Nat} (h : l[k]? = some x) : memF f (l.drop k) = (decide (x = f) || memF f (l.drop (k + 1))) := by
  rw [Bool.eq_iff_iff]
  simp only [Bool.or_eq_true, decide_eq_true_eq, memF_iff]
  rw [drop_cons h, List.mem_cons]
  constructor
  · rintro (h | h)
    · exact .inl h.symm
    · exact .inr h
  · rintro (h | h)
    · exact .inl h.symm
    · exact .inr h

set_option maxRecDepth 100000 in
set_option maxHeartbeats 2000000 in
theorem inRef {S T : Nat → Prop} (v : Value) (l : List PFact) (f : PFact) (av : Value) (w : World) (h : RdFacts S w v l) (hf : RdStrs T w av f.args) (n1 : l.length ≤ 1073741824) (n2 : ∀ x ∈ l, x.args.length ≤ 1073741824) (n3 : f.args.length ≤ 1073741824) :
    Calls Tryz.prog 62 #[v, .agg #[.string f.name, av]] w fun e w' => e = .returned (.bool (memF f l)) ∧ Fresh w w' := by
  obtain ⟨a, c, rfl, -, -, -⟩ := id h.form
  obtain ⟨fa, fc, rfl, -, -, -⟩ := id hf.form
  have H := Lib.hid (fun W (ha : Agree (fun _ => True) w W) i x (hx : l[i]? = some x) => RdFacts.at ((h.more RFact.steady (S' := fun _ => True) (fun _ _ _ => trivial)).agree RFact.steady ha) hx)
  have HF := Lib.hid (fun W (ha : Agree (fun _ => True) w W) => (hf.more RStr.steady (S' := fun _ => True) (fun _ _ _ => trivial)).agree RStr.steady ha)
  have N2 := Lib.hid n2
  clear h hf n2
  have c0 : (w.alloc (.cells #[.string f.name, .slice fa f.args.length fc] 61)).cell? ⟨w.heap.size, 0, none⟩ = some (.string f.name) := by simp
  have c1 : (w.alloc (.cells #[.string f.name, .slice fa f.args.length fc] 61)).cell? ⟨w.heap.size, 1, none⟩ = some (.slice fa f.args.length fc) := by simp
  have hsz : w.heap.size < (w.alloc (.cells #[.string f.name, .slice fa f.args.length fc] 61)).heap.size := by simp
  have HF0 := Lib.hid ((Fresh.refl w).alloc (.cells #[.string f.name, .slice fa f.args.length fc] 61))
  go_enter Tryz.func62, Tryz.ntmps62
  go_wp2
  generalize w.alloc (.cells #[.string f.name, .slice fa f.args.length fc] 61) = w0 at *
  go_loopw [9] (fun i wr => ∃ k : Nat, k ≤ l.length ∧ i = .int .i64 k ∧ Hid (memF f l = memF f (l.drop k)) ∧ Hid (Fresh w0 wr)) (fun i _ => l.length - (intOf i).toNat)
  case atStart => exact ⟨0, Nat.zero_le _, rfl, Lib.hid rfl, Fresh.refl _⟩
  case round =>
    obtain ⟨k, hk, rfl, HR, HW⟩ := hrel
    have d0 := (cell_below HW.out.below hsz 0).trans c0
    have d1 := (cell_below HW.out.below hsz 1).trans c1
    have hsr : w.heap.size < wr.heap.size := Nat.lt_of_lt_of_le hsz HW.out.below.size
    clear c0 c1
    by_cases hlt : k < l.length
    · obtain ⟨x, hx⟩ : ∃ x, l[k]? = some x := ⟨_, List.getElem?_eq_getElem hlt⟩
      have hag : Agree (fun _ => True) w wr := Below.agree (HF0.out.trans HW.out).below
      obtain ⟨b1, o1, av, rfl, -, hb1, e0, e1, hav⟩ := H.out wr hag k x hx
      obtain ⟨xa, xc, rfl, -, -, -⟩ := id hav.form
      have nx : x.args.length ≤ 1073741824 := N2.out x (List.mem_of_getElem? hx)
      have K := Lib.hid (equalRef x f (.slice xa x.args.length xc) (.slice fa f.args.length fc) (wr.alloc (.cells #[.string x.name, .slice xa x.args.length xc] 61)) (hav.agree RStr.steady ((Agree.refl _ _).alloc _)) ((HF.out wr hag).agree RStr.steady ((Agree.refl _ _).alloc _)) nx n3)
      have HM := Lib.hid (memF_drop (f := f) hx)
      have m0 := (World.cell?_of_block (a := ⟨w.heap.size, 0, none⟩) (Below.heap_alloc wr (.cells #[.string x.name, .slice xa x.args.length xc] 61) w.heap.size hsr)).trans d0
      have m1 := (World.cell?_of_block (a := ⟨w.heap.size, 1, none⟩) (Below.heap_alloc wr (.cells #[.string x.name, .slice xa x.args.length xc] 61) w.heap.size hsr)).trans d1
      clear hx hag hav nx
      cases hxy : decide (x = f)
      · rw [hxy] at K HM
        clear hxy
        go_wp2_with (go_at_call 56; refine (K.out).mono ?_; rintro e w1 ⟨rfl, hf1⟩; have HW2 := Lib.hid ((HW.out.alloc _).trans hf1); clear hf1)
        go_roundw
        case rel => exact ⟨k + 1, by omega, by go_num, Lib.hid (by rw [HR.out, HM.out]; simp), HW2.out⟩
        case measure => simp [intOf]; omega
      · rw [hxy] at K HM
        clear hxy
        go_wp2_with (go_at_call 56; refine (K.out).mono ?_; rintro e w1 ⟨rfl, hf1⟩; have HW2 := Lib.hid ((HW.out.alloc _).trans hf1); clear hf1)
        go_ret
        exact ⟨ret_bool (by rw [HR.out, HM.out]; simp), HF0.out.trans HW2.out⟩
    · have HE := Lib.hid (show memF f l = false by rw [HR.out, drop_end (by omega : l.length ≤ k)]; rfl)
      go_wp2
      go_ret
      exact ⟨ret_bool HE.out.symm, HF0.out.trans HW.out⟩
end Go.Proofs.YtbbiapgkcekabaaGreat

/-
  PLAIN: what is new of what was new, round by round (chapter 6).
-/
namespace Go.Proofs.YtbbiapgkcekabaaGreat

structure PRun where
  known : List PFact
  new : List PFact
  stratum : Int
  rounds : Int
  done : Bool
  deriving DecidableEq
def zeroRun : PRun := ⟨[], [], 0, 0, false⟩
/-- Stratum, Rounds, Done that can't be, of n strata. -/
def rangeBad (r : PRun) (n : Int) : Bool := decide (r.rounds < 0) || decide (1000 < r.rounds) || decide (r.stratum < 0) || decide (n < r.stratum) || (r.done != (r.stratum == n))
/-- round.Wrong, the strata being told. -/
def runBad (st : List Int) (q : Int) (p : List PRule) (r : PRun) : Int :=
  if q ≠ 0 then q else if (factsBad p r.known).1 ≠ 0 then (factsBad p r.known).1 else if (setF r.new).1 ≠ 0 then (setF r.new).1 else if rangeBad r (countP st) then 3 else if lessF r.new r.known ≠ [] then 8 else 0
/-- round.Begin. -/
def beginP (st : List Int) (q : Int) (p : List PRule) (l : List PFact) : PRun × Int :=
  if q ≠ 0 then (zeroRun, q) else if (factsBad p l).1 ≠ 0 then (zeroRun, (factsBad p l).1) else (⟨l, l, 0, 0, countP st == 0⟩, 0)
/-- What a rule's head is with each list. -/
def fillAll (h : PAtom) (ls : List Binds) : List PFact := ls.filterMap fun b => fillP h b
/-- round.heads. -/
def newP (x : PRule) (known new : List PFact) : Nat → List PAtom → List PFact → Bool → List PFact × Int
  | _, [], out, sm => if sm then (out, 0) else headsP x known
  | i, a :: b, out, sm => if a.neg then newP x known new (i + 1) b out sm
    else if (withP x.body known i new).2 ≠ 0 then ([], (withP x.body known i new).2) else newP x known new (i + 1) b (out ++ fillAll x.head (withP x.body known i new).1) true
def newHeads (x : PRule) (known new : List PFact) : List PFact × Int := newP x known new 0 x.body [] false
/-- What all rules of a stratum make. -/
def makeP (s : Int) (known new : List PFact) : List (PRule × Int) → List PFact → List PFact × Int
  | [], made => (made, 0)
  | (r, t) :: ps, made => if t ≠ s then makeP s known new ps made else if (newHeads r known new).2 ≠ 0 then ([], (newHeads r known new).2) else makeP s known new ps (made ++ (newHeads r known new).1)
/-- The run then. -/
def nextRun (n : Int) (r : PRun) (made : List PFact) : PRun :=
  if lessF (ofF made) r.known = [] then ⟨joinF r.known (lessF (ofF made) r.known), joinF r.known (lessF (ofF made) r.known), r.stratum + 1, r.rounds + 1, r.stratum + 1 == n⟩
  else ⟨joinF r.known (lessF (ofF made) r.known), lessF (ofF made) r.known, r.stratum, r.rounds + 1, false⟩
/-- A step of a run with which nothing is wrong. -/
def goodStep (st : List Int) (p : List PRule) (r : PRun) : PRun × Int :=
  if r.done then (r, 0) else if r.rounds = 1000 then (zeroRun, 5)
  else if (makeP r.stratum r.known r.new (p.zip st) []).2 ≠ 0 then (zeroRun, (makeP r.stratum r.known r.new (p.zip st) []).2)
  else if 200 < (joinF r.known (lessF (ofF (makeP r.stratum r.known r.new (p.zip st) []).1) r.known)).length then (zeroRun, 5)
  else (nextRun (countP st) r (makeP r.stratum r.known r.new (p.zip st) []).1, 0)
/-- round.Step. -/
def stepRun (st : List Int) (q : Int) (p : List PRule) (r : PRun) : PRun × Int := if runBad st q p r ≠ 0 then (zeroRun, runBad st q p r) else goodStep st p r
def iterP (st : List Int) (q : Int) (p : List PRule) : Nat → PRun → PRun × Int
  | 0, r => (r, 0)
  | k + 1, r => if r.done then (r, 0) else if (stepRun st q p r).2 ≠ 0 then (zeroRun, (stepRun st q p r).2) else iterP st q p k (stepRun st q p r).1
/-- round.Steps. -/
def stepsRun (st : List Int) (q : Int) (p : List PRule) (r : PRun) (n : Int) : PRun × Int :=
  if runBad st q p r ≠ 0 then (zeroRun, runBad st q p r) else if n < 0 ∨ 1000 < n then (zeroRun, 3) else iterP st q p n.toNat r
/-- round.All. -/
def allRun (st : List Int) (q : Int) (p : List PRule) (l : List PFact) : List PFact × Int :=
  if (beginP st q p l).2 ≠ 0 then ([], (beginP st q p l).2) else if (stepsRun st q p (beginP st q p l).1 1000).2 ≠ 0 then ([], (stepsRun st q p (beginP st q p l).1 1000).2) else ((stepsRun st q p (beginP st q p l).1 1000).1.known, 0)

theorem run_bad1 {st : List Int} {q : Int} {p : List PRule} {r : PRun} (h : q ≠ 0) : runBad st q p r = q := by unfold runBad; rw [if_pos h]
theorem run_bad2 {st : List Int} {p : List PRule} {r : PRun} (h : (factsBad p r.known).1 ≠ 0) : runBad st 0 p r = (factsBad p r.known).1 := by unfold runBad; rw [if_neg (by simp), if_pos h]
theorem run_bad3 {st : List Int} {p : List PRule} {r : PRun} (h : (factsBad p r.known).1 = 0) (h2 : (setF r.new).1 ≠ 0) : runBad st 0 p r = (setF r.new).1 := by unfold runBad; rw [if_neg (by simp), if_neg (by simpa using h), if_pos h2]
theorem run_bad4 {st : List Int} {p : List PRule} {r : PRun} (h : (factsBad p r.known).1 = 0) (h2 : (setF r.new).1 = 0) : runBad st 0 p r = if rangeBad r (countP st) then 3 else if lessF r.new r.known ≠ [] then 8 else 0 := by
  unfold runBad; rw [if_neg (by simp), if_neg (by simpa using h), if_neg (by simpa using h2)]
/-- What is not wrong. -/
structure RunOk (st : List Int) (p : List PRule) (r : PRun) : Prop where
  known : Good r.known
  fit : (factsBad p r.known).1 = 0
  new : Good r.new
  r0 : 0 ≤ r.rounds
  r1 : r.rounds ≤ 1000
  s0 : 0 ≤ r.stratum
  s1 : r.stratum ≤ countP st
  done : r.done = (r.stratum == countP st)
  sub : ∀ x ∈ r.new, x ∈ r.known
theorem rangeBad_iff {r : PRun} {n : Int} : rangeBad r n = false ↔ 0 ≤ r.rounds ∧ r.rounds ≤ 1000 ∧ 0 ≤ r.stratum ∧ r.stratum ≤ n ∧ r.done = (r.stratum == n) := by
  unfold rangeBad
  simp only [Bool.or_eq_false_iff, decide_eq_false_iff_not, bne_eq_false_iff_eq]
  constructor
  · rintro ⟨⟨⟨⟨h1, h2⟩, h3⟩, h4⟩, h5⟩; exact ⟨by omega, by omega, by omega, by omega, h5⟩
  · rintro ⟨h1, h2, h3, h4, h5⟩; exact ⟨⟨⟨⟨by omega, by omega⟩, by omega⟩, by omega⟩, h5⟩
theorem lessF_nil_iff {l m : List PFact} : lessF l m = [] ↔ ∀ x ∈ l, x ∈ m := by
  unfold lessF
  rw [List.filter_eq_nil_iff]
  constructor
  · intro h x hx
    have := h x hx
    simp only [Bool.not_eq_true', Bool.not_eq_false] at this
    exact (memF_iff x m).1 this
  · intro h x hx
    rw [(memF_iff x m).2 (h x hx)]; decide
theorem runBad_zero {st : List Int} {q : Int} {p : List PRule} {r : PRun} : runBad st q p r = 0 ↔ q = 0 ∧ RunOk st p r := by
  by_cases hq : q = 0
  case neg => rw [run_bad1 hq]; exact ⟨fun h => absurd h hq, fun h => absurd h.1 hq⟩
  subst hq
  by_cases hf : (factsBad p r.known).1 = 0
  case neg => rw [run_bad2 hf]; exact ⟨fun h => absurd h hf, fun h => absurd h.2.fit hf⟩
  by_cases hs : (setF r.new).1 = 0
  case neg => rw [run_bad3 hf hs]; exact ⟨fun h => absurd h hs, fun h => absurd (by rw [h.2.new.set]) hs⟩
  rw [run_bad4 hf hs]
  cases hr : rangeBad r (countP st)
  · obtain ⟨h1, h2, h3, h4, h5⟩ := rangeBad_iff.1 hr
    by_cases hl : lessF r.new r.known = []
    · rw [if_neg (by simp), if_neg (by simpa using hl)]
      exact ⟨fun _ => ⟨rfl, good_of (factsBad_set hf), hf, good_of hs, h1, h2, h3, h4, h5, lessF_nil_iff.1 hl⟩, fun _ => rfl⟩
    · rw [if_neg (by simp), if_pos hl]
      exact ⟨fun h => absurd h (by decide), fun h => absurd (lessF_nil_iff.2 h.2.sub) hl⟩
  · rw [if_pos rfl]
    refine ⟨fun h => absurd h (by decide), fun h => ?_⟩
    have := rangeBad_iff.2 ⟨h.2.r0, h.2.r1, h.2.s0, h.2.s1, h.2.done⟩
    rw [hr] at this; cases this
end Go.Proofs.YtbbiapgkcekabaaGreat

/-
  THE WALK OF round.Wrong.
-/
namespace Go.Proofs.YtbbiapgkcekabaaGreat
open Go.RowKit

/-- A run as a value. -/
def runV (r : PRun) (kv nv : Value) : Value := .agg #[kv, nv, .int .i64 r.stratum, .int .i64 r.rounds, .bool r.done]
structure RunRd (w : World) (r : PRun) (kv nv : Value) : Prop where
  known : RdFacts (fun _ => True) w kv r.known
  new : RdFacts (fun _ => True) w nv r.new
theorem RunRd.up {w w' : World} {r : PRun} {kv nv : Value} (h : RunRd w r kv nv) (hb : Below w.heap.size w w') : RunRd w' r kv nv := ⟨h.known.up hb, h.new.up hb⟩
/-- Read in new memory. -/
theorem RdFacts.newer {S : Nat → Prop} {w w' : World} {v : Value} {l : List PFact} (h : RdFacts S w' v l) (hs : ∀ b, S b → w.heap.size ≤ b) : RdFacts (New w) w' v l := h.more RFact.steady (fun b hb _ => hs b hb)
/-- A run, and an error, that a call answers. -/
def RunPost (r : PRun × Int) (w : World) (e : Ending) (w' : World) : Prop :=
  Below w.heap.size w w' ∧ ∃ a c b d, e = .returned (.tuple #[.agg #[.slice a r.1.known.length c, .slice b r.1.new.length d, .int .i64 r.1.stratum, .int .i64 r.1.rounds, .bool r.1.done], .int .i64 r.2]) ∧ RdFacts (New w) w' (.slice a r.1.known.length c) r.1.known ∧ RdFacts (New w) w' (.slice b r.1.new.length d) r.1.new
theorem run_ret_err {r : PRun × Int} {n : Int} {w w' : World} (h : r = (zeroRun, n)) (hb : Below w.heap.size w w') : RunPost r w (.returned (.tuple #[.agg #[.slice none 0 0, .slice none 0 0, .int .i64 0, .int .i64 0, .bool false], .int .i64 n])) w' := by
  subst h; exact ⟨hb, none, 0, none, 0, rfl, RdFacts.nil, RdFacts.nil⟩
theorem run_ret_ok {r : PRun × Int} {k n : List PFact} {s x : Int} {dn : Bool} {w w' : World} {a b : Option Addr} {c d : Nat} (h : r = (⟨k, n, s, x, dn⟩, 0)) (hb : Below w.heap.size w w') (h1 : RdFacts (New w) w' (.slice a k.length c) k) (h2 : RdFacts (New w) w' (.slice b n.length d) n) :
    RunPost r w (.returned (.tuple #[.agg #[.slice a k.length c, .slice b n.length d, .int .i64 s, .int .i64 x, .bool dn], .int .i64 0])) w' := by
  subst h; exact ⟨hb, a, c, b, d, rfl, h1, h2⟩
/-- Small lists. -/
structure RunSmall (r : PRun) : Prop where
  k1 : r.known.length ≤ 1048576
  k2 : ∀ x ∈ r.known, x.args.length ≤ 1048576
  n1 : r.new.length ≤ 1048576
  n2 : ∀ x ∈ r.new, x.args.length ≤ 1048576

theorem range_cases {k l : List PFact} {s x n : Int} {d : Bool} : (rangeBad ⟨k, l, s, x, d⟩ n = true ∧ (x < 0 ∨ ¬ x < 0 ∧ (1000 < x ∨ ¬ 1000 < x ∧ (s < 0 ∨ ¬ s < 0 ∧ (n < s ∨ ¬ n < s ∧ (n = s ∧ d = false ∨ (s == n) = false ∧ d = true)))))) ∨
    (rangeBad ⟨k, l, s, x, d⟩ n = false ∧ ¬ x < 0 ∧ ¬ 1000 < x ∧ ¬ s < 0 ∧ ¬ n < s ∧ (n = s ∧ d = true ∨ (s == n) = false ∧ d = false)) := by
  unfold rangeBad
  dsimp only
  by_cases h1 : x < 0
  · exact .inl ⟨by simp [h1], .inl h1⟩
  by_cases h2 : 1000 < x
  · exact .inl ⟨by simp [h2], .inr ⟨h1, .inl h2⟩⟩
  by_cases h3 : s < 0
  · exact .inl ⟨by simp [h3], .inr ⟨h1, .inr ⟨h2, .inl h3⟩⟩⟩
  by_cases h4 : n < s
  · exact .inl ⟨by simp [h4], .inr ⟨h1, .inr ⟨h2, .inr ⟨h3, .inl h4⟩⟩⟩⟩
  by_cases h5 : n = s
  · subst h5
    cases d
    · exact .inl ⟨by simp, .inr ⟨h1, .inr ⟨h2, .inr ⟨h3, .inr ⟨h4, .inl ⟨rfl, rfl⟩⟩⟩⟩⟩⟩
    · exact .inr ⟨by simp [h1, h2, h3], h1, h2, h3, h4, .inl ⟨rfl, rfl⟩⟩
  · have h6 : (s == n) = false := beq_eq_false_iff_ne.2 fun e => h5 e.symm
    cases d
    · exact .inr ⟨by simp [h1, h2, h3, h4, h6], h1, h2, h3, h4, .inr ⟨h6, rfl⟩⟩
    · exact .inl ⟨by simp [h6], .inr ⟨h1, .inr ⟨h2, .inr ⟨h3, .inr ⟨h4, .inr ⟨h6, rfl⟩⟩⟩⟩⟩⟩

/-- check.Strata, told. -/
theorem strataTold {S : Nat → Prop} {p : List PRule} {v : Value} {st : List Int} {q : Int × Int} {w : World} (hS : StrataIs p st q) (h : RdRules S w v p) (n1 : p.length ≤ 1048576) (n2 : ∀ r ∈ p, RuleSmall r) (n3 : ∀ r ∈ p, NameSmall r) :
    Calls Tryz.prog 53 #[v] w fun e w' => Below w.heap.size w w' ∧ ∃ a c, e = .returned (.tuple #[.slice a st.length c, .agg #[.int .i64 q.1, .int .i64 q.2]]) ∧ RdInts (fun _ => True) w' (.slice a st.length c) st :=
  (strataCalls p v w h n1 n2 n3).mono fun e w' ⟨hb, v', l', q', he, hr, hs⟩ => by
    obtain ⟨rfl, rfl⟩ := hs.unique hS
    obtain ⟨a, c, rfl, -, -, -⟩ := id hr.form
    exact ⟨hb, a, c, he, hr.more RInt.steady (fun _ _ _ => trivial)⟩
/-- fact.Own, read. -/
theorem ownReads {S : Nat → Prop} {v : Value} {l : List PFact} {w : World} (h : RdFacts S w v l) (n1 : l.length ≤ 1048576) (n2 : ∀ x ∈ l, x.args.length ≤ 1048576) :
    Calls Tryz.prog 54 #[v] w fun e w' => (∃ a c, e = .returned (.slice a l.length c) ∧ RdFacts (New w) w' (.slice a l.length c) l) ∧ Below w.heap.size w w' :=
  (ownCalls v l w h (by omega) (fun x hx => by have := n2 x hx; omega)).mono fun e w' ⟨⟨v', he, ho⟩, hb⟩ => by
    have h' := (ho.read RFact.steady).more RFact.steady (S' := New w) (fun b hb _ => hb.elim id id)
    obtain ⟨a, c, rfl, -, -, -⟩ := id h'.form
    exact ⟨⟨a, c, he, h'⟩, hb⟩
/-- A store into another block. -/
theorem RdFacts.set_far {S : Nat → Prop} {w : World} {v : Value} {l : List PFact} (h : RdFacts S w v l) {p : Addr} (hp : ¬ S p.block) (u : Value) : RdFacts S (w.setCell p u) v l :=
  h.agree RFact.steady ⟨by simp [World.setCell], fun b hb _ => Below.heap_setCell _ _ _ _ (fun e => hp (by rw [← e]; exact hb))⟩
theorem RdFacts.new {w W W' : World} {v : Value} {l : List PFact} (h : RdFacts (New W) W' v l) (hw : w.heap.size ≤ W.heap.size) : RdFacts (New w) W' v l := h.more RFact.steady (fun _ hb _ => Nat.le_trans hw hb)
theorem RdFacts.any {S : Nat → Prop} {w : World} {v : Value} {l : List PFact} (h : RdFacts S w v l) : RdFacts (fun _ => True) w v l := h.more RFact.steady (fun _ _ _ => trivial)

set_option maxRecDepth 100000 in
set_option maxHeartbeats 8000000 in
theorem runWrongCalls {S : Nat → Prop} (p : List PRule) (v : Value) (st : List Int) (q : Int × Int) (r : PRun) (kv nv : Value) (w : World) (hS : StrataIs p st q) (h : RdRules S w v p) (hr : RunRd w r kv nv)
    (n1 : p.length ≤ 1048576) (n2 : ∀ r ∈ p, RuleSmall r) (n3 : ∀ r ∈ p, NameSmall r) (ns : RunSmall r) :
    Calls Tryz.prog 30 #[v, .agg #[kv, nv, .int .i64 r.stratum, .int .i64 r.rounds, .bool r.done]] w fun e w' => e = .returned (.int .i64 (runBad st q.1 p r)) ∧ Below w.heap.size w w' := by
  obtain ⟨a, c, rfl, -, -, -⟩ := id h.form
  obtain ⟨ka, kc, rfl, -, -, -⟩ := id hr.known.form
  obtain ⟨na, nc, rfl, -, -, -⟩ := id hr.new.form
  obtain ⟨W0, hW0⟩ : ∃ W0 : World, w.alloc (.cells #[.slice ka r.known.length kc, .slice na r.new.length nc, .int .i64 r.stratum, .int .i64 r.rounds, .bool r.done] 47) = W0 := ⟨_, rfl⟩
  have hb0 : Below w.heap.size w W0 := by subst hW0; exact (Below.refl _ _).alloc (Nat.le_refl _) _
  have hk0 : Blk W0 w.heap.size 47 #[.slice ka r.known.length kc, .slice na r.new.length nc, .int .i64 r.stratum, .int .i64 r.rounds, .bool r.done] := by subst hW0; exact Blk.new w _ _
  have HB0 := Lib.hid hb0
  have HK0 := Lib.hid hk0
  have H := Lib.hid h
  have HR := Lib.hid hr
  have N2 := Lib.hid n2
  have N3 := Lib.hid n3
  have NS := Lib.hid ns
  have HS := Lib.hid hS
  have KS := Lib.hid (strataTold hS (h.up hb0) n1 n2 n3)
  clear h hr n2 n3 ns hb0 hk0 hS
  obtain ⟨q1, q2⟩ := q
  dsimp only at *
  by_cases hq : q1 = 0
  case neg =>
    have g1 : (q1 != 0) = true := by simpa using hq
    have HE := Lib.hid (run_bad1 (st := st) (p := p) (r := r) hq)
    clear hq
    go_enter Tryz.func30, Tryz.ntmps30
    go_wp2_with (go_at_call 53; refine (KS.out).mono ?_; rintro e w1 ⟨hb1, a1, c1, rfl, hr1⟩; have HB1 := Lib.hid (HB0.out.trans (hb1.mono (Below.size HB0.out))); clear hb1 hr1)
    go_ret
    exact ⟨ret_int HE.out.symm, HB1.out.alloc (Below.size HB1.out) _⟩
  obtain ⟨hsl, h16, h5, hz16, -, -⟩ := strata_bd HS.out hq
  have HZ := Lib.hid hz16
  have H5 := Lib.hid h5
  have HSL := Lib.hid hsl
  clear h5 hz16 hsl
  subst hq
  have KF := Lib.hid (fun W (hW : Below w.heap.size w W) => factsCalls p (.slice a p.length c) (.slice ka r.known.length kc) r.known W (H.out.up hW) (HR.out.known.up hW) h16 H5.out N2.out N3.out NS.out.k1 NS.out.k2)
  have KT := Lib.hid (fun W (hW : Below w.heap.size w W) => setCalls (.slice na r.new.length nc) r.new W (HR.out.new.up hW) (by have := NS.out.n1; omega) (fun x hx => by have := NS.out.n2 x hx; omega))
  by_cases hf : (factsBad p r.known).1 = 0
  case neg =>
    have g2 : ((factsBad p r.known).1 != 0) = true := by simpa using hf
    have HE := Lib.hid (run_bad2 (st := st) hf)
    clear hf
    generalize factsBad p r.known = f at *
    obtain ⟨f1, f2⟩ := f
    dsimp only at *
    go_enter Tryz.func30, Tryz.ntmps30
    go_wp2_with (first
      | (go_at_call 15; have hh := HB1.out; clear hh; refine (KF.out _ HB1.out).mono ?_; rintro e w2 ⟨rfl, hb2⟩; have HB2 := Lib.hid (HB1.out.trans (hb2.mono (Below.size HB1.out))); clear hb2)
      | (go_at_call 53; refine (KS.out).mono ?_; rintro e w1 ⟨hb1, a1, c1, rfl, hr1⟩; have HB1 := Lib.hid ((HB0.out.trans (hb1.mono (Below.size HB0.out))).alloc (Nat.le_trans (Below.size HB0.out) hb1.size) (.cells #[.int .i64 0, .int .i64 q2] 27)); have HK1 := Lib.hid ((HK0.out.below hb1 HK0.out.lt).alloc (.cells #[.int .i64 0, .int .i64 q2] 27)); have c0 := HK1.out.cell 0; simp only [List.getElem?_toArray, List.getElem?_cons_zero] at c0; clear hb1 hr1))
    go_ret
    exact ⟨ret_int HE.out.symm, HB2.out.alloc (Below.size HB2.out) _⟩
  have HGK := Lib.hid (good_of (factsBad_set hf))
  rw [hf] at KF
  generalize hf2 : (factsBad p r.known).2 = f2 at *
  clear hf2
  by_cases hs : (setF r.new).1 = 0
  case neg =>
    have g3 : ((setF r.new).1 != 0) = true := by simpa using hs
    have HE := Lib.hid (run_bad3 (st := st) hf hs)
    clear hf hs
    generalize setF r.new = f at *
    obtain ⟨s1, s2⟩ := f
    dsimp only at *
    go_enter Tryz.func30, Tryz.ntmps30
    go_wp2_with (first
      | (go_at_call 45; have hh := HB2.out; clear hh; refine (KT.out _ HB2.out).mono ?_; rintro e w3 ⟨rfl, hb3⟩; have HB3 := Lib.hid (HB2.out.trans (hb3.mono (Below.size HB2.out))); clear hb3)
      | (go_at_call 15; have hh := HB1.out; clear hh; refine (KF.out _ HB1.out).mono ?_; rintro e w2 ⟨rfl, hb2⟩; have HB2 := Lib.hid ((HB1.out.trans (hb2.mono (Below.size HB1.out))).alloc (Nat.le_trans (Below.size HB1.out) hb2.size) (.cells #[.int .i64 0, .int .i64 f2] 27)); have HK2 := Lib.hid ((HK1.out.below hb2 HK1.out.lt).alloc (.cells #[.int .i64 0, .int .i64 f2] 27)); have d1 := HK2.out.cell 1; simp only [List.getElem?_toArray, List.getElem?_cons_zero, List.getElem?_cons_succ] at d1; clear hb2 c0)
      | (go_at_call 53; refine (KS.out).mono ?_; rintro e w1 ⟨hb1, a1, c1, rfl, hr1⟩; have HB1 := Lib.hid ((HB0.out.trans (hb1.mono (Below.size HB0.out))).alloc (Nat.le_trans (Below.size HB0.out) hb1.size) (.cells #[.int .i64 0, .int .i64 q2] 27)); have HK1 := Lib.hid ((HK0.out.below hb1 HK0.out.lt).alloc (.cells #[.int .i64 0, .int .i64 q2] 27)); have c0 := HK1.out.cell 0; simp only [List.getElem?_toArray, List.getElem?_cons_zero] at c0; clear hb1 hr1))
    go_ret
    exact ⟨ret_int HE.out.symm, HB3.out.alloc (Below.size HB3.out) _⟩
  have HGN := Lib.hid (good_of hs)
  have hsz : setF r.new = (0, 0) := (good_of hs).set
  rw [hsz] at KT
  have HE := Lib.hid (run_bad4 (st := st) hf hs)
  have KC := Lib.hid (fun W sv (h1 : RdInts (fun _ => True) W sv st) => countCalls sv st W h1 (by rw [HSL.out]; omega) (fun z hz => by have := HZ.out z hz; omega))
  have KL := Lib.hid (fun W (hW : Below w.heap.size w W) => lessReads (HR.out.new.up hW) (HR.out.known.up hW) HGK.out.rise NS.out.n1 NS.out.n2 NS.out.k1 NS.out.k2)
  clear hf hs hsz
  generalize countP st = cn at *
  obtain ⟨rk, rn, rs, rr, rd⟩ := r
  dsimp only at *
  rcases range_cases (k := rk) (l := rn) (s := rs) (x := rr) (n := cn) (d := rd) with ⟨hx, hc⟩ | ⟨hx, h1, h2, h3, h4, hc⟩
  · rw [hx, if_pos rfl] at HE
    clear hx
    rcases hc with h1 | ⟨h1, h2 | ⟨h2, h3 | ⟨h3, h4 | ⟨h4, ⟨rfl, rfl⟩ | ⟨h5, rfl⟩⟩⟩⟩⟩
    all_goals
      clear KL
      go_enter Tryz.func30, Tryz.ntmps30
      go_wp2_with (first
        | (go_at_call 21; have hh := HB3.out; clear hh; refine (KC.out _ _ HI3.out).mono ?_; rintro e w4 ⟨rfl, rfl⟩; have HB4 := HB3)
        | (go_at_call 45; have hh := HB2.out; clear hh; refine (KT.out _ HB2.out).mono ?_; rintro e w3 ⟨rfl, hb3⟩; have HB3 := Lib.hid ((HB2.out.trans (hb3.mono (Below.size HB2.out))).alloc (Nat.le_trans (Below.size HB2.out) hb3.size) (.cells #[.int .i64 0, .int .i64 0] 27)); have HI3 := Lib.hid (HI2.out.up (hb3.alloc hb3.size (.cells #[.int .i64 0, .int .i64 0] 27))); have HK3 := Lib.hid ((HK2.out.below hb3 HK2.out.lt).alloc (.cells #[.int .i64 0, .int .i64 0] 27)); have k0 := HK3.out.cell 0; have k1 := HK3.out.cell 1; have k2 := HK3.out.cell 2; have k3 := HK3.out.cell 3; have k4 := HK3.out.cell 4; simp only [List.getElem?_toArray, List.getElem?_cons_zero, List.getElem?_cons_succ] at k0 k1 k2 k3 k4; clear hb3 d1)
        | (go_at_call 15; have hh := HB1.out; clear hh; refine (KF.out _ HB1.out).mono ?_; rintro e w2 ⟨rfl, hb2⟩; have HB2 := Lib.hid ((HB1.out.trans (hb2.mono (Below.size HB1.out))).alloc (Nat.le_trans (Below.size HB1.out) hb2.size) (.cells #[.int .i64 0, .int .i64 f2] 27)); have HI2 := Lib.hid (HI1.out.up (hb2.alloc hb2.size (.cells #[.int .i64 0, .int .i64 f2] 27))); have HK2 := Lib.hid ((HK1.out.below hb2 HK1.out.lt).alloc (.cells #[.int .i64 0, .int .i64 f2] 27)); have d1 := HK2.out.cell 1; simp only [List.getElem?_toArray, List.getElem?_cons_zero, List.getElem?_cons_succ] at d1; clear hb2 c0)
        | (go_at_call 53; refine (KS.out).mono ?_; rintro e w1 ⟨hb1, a1, c1, rfl, hr1⟩; have HB1 := Lib.hid ((HB0.out.trans (hb1.mono (Below.size HB0.out))).alloc (Nat.le_trans (Below.size HB0.out) hb1.size) (.cells #[.int .i64 0, .int .i64 q2] 27)); have HI1 := Lib.hid (hr1.up ((Below.refl _ _).alloc (Nat.le_refl _) (.cells #[.int .i64 0, .int .i64 q2] 27))); have HK1 := Lib.hid ((HK0.out.below hb1 HK0.out.lt).alloc (.cells #[.int .i64 0, .int .i64 q2] 27)); have c0 := HK1.out.cell 0; simp only [List.getElem?_toArray, List.getElem?_cons_zero] at c0; clear hb1 hr1))
      go_ret
      exact ⟨ret_int HE.out.symm, HB4.out⟩
  · rw [hx, if_neg (by simp)] at HE
    clear hx
    rcases hc with ⟨rfl, rfl⟩ | ⟨h5, rfl⟩
    all_goals
      by_cases hl : lessF rn rk = []
      · rw [if_neg (by simpa using hl)] at HE
        rw [hl] at KL
        clear hl
        go_enter Tryz.func30, Tryz.ntmps30
        go_wp2_with (first
          | (go_at_call 44; have hh := HB4.out; clear hh; refine (KL.out _ HB4.out).mono ?_; rintro e w5 ⟨⟨a5, c5, rfl, -⟩, hb5⟩; have HB5 := Lib.hid (HB4.out.trans (hb5.mono (Below.size HB4.out))); clear hb5)
          | (go_at_call 21; have hh := HB3.out; clear hh; refine (KC.out _ _ HI3.out).mono ?_; rintro e w4 ⟨rfl, rfl⟩; have HB4 := HB3)
          | (go_at_call 45; have hh := HB2.out; clear hh; refine (KT.out _ HB2.out).mono ?_; rintro e w3 ⟨rfl, hb3⟩; have HB3 := Lib.hid ((HB2.out.trans (hb3.mono (Below.size HB2.out))).alloc (Nat.le_trans (Below.size HB2.out) hb3.size) (.cells #[.int .i64 0, .int .i64 0] 27)); have HI3 := Lib.hid (HI2.out.up (hb3.alloc hb3.size (.cells #[.int .i64 0, .int .i64 0] 27))); have HK3 := Lib.hid ((HK2.out.below hb3 HK2.out.lt).alloc (.cells #[.int .i64 0, .int .i64 0] 27)); have k0 := HK3.out.cell 0; have k1 := HK3.out.cell 1; have k2 := HK3.out.cell 2; have k3 := HK3.out.cell 3; have k4 := HK3.out.cell 4; simp only [List.getElem?_toArray, List.getElem?_cons_zero, List.getElem?_cons_succ] at k0 k1 k2 k3 k4; clear hb3 d1)
          | (go_at_call 15; have hh := HB1.out; clear hh; refine (KF.out _ HB1.out).mono ?_; rintro e w2 ⟨rfl, hb2⟩; have HB2 := Lib.hid ((HB1.out.trans (hb2.mono (Below.size HB1.out))).alloc (Nat.le_trans (Below.size HB1.out) hb2.size) (.cells #[.int .i64 0, .int .i64 f2] 27)); have HI2 := Lib.hid (HI1.out.up (hb2.alloc hb2.size (.cells #[.int .i64 0, .int .i64 f2] 27))); have HK2 := Lib.hid ((HK1.out.below hb2 HK1.out.lt).alloc (.cells #[.int .i64 0, .int .i64 f2] 27)); have d1 := HK2.out.cell 1; simp only [List.getElem?_toArray, List.getElem?_cons_zero, List.getElem?_cons_succ] at d1; clear hb2 c0)
          | (go_at_call 53; refine (KS.out).mono ?_; rintro e w1 ⟨hb1, a1, c1, rfl, hr1⟩; have HB1 := Lib.hid ((HB0.out.trans (hb1.mono (Below.size HB0.out))).alloc (Nat.le_trans (Below.size HB0.out) hb1.size) (.cells #[.int .i64 0, .int .i64 q2] 27)); have HI1 := Lib.hid (hr1.up ((Below.refl _ _).alloc (Nat.le_refl _) (.cells #[.int .i64 0, .int .i64 q2] 27))); have HK1 := Lib.hid ((HK0.out.below hb1 HK0.out.lt).alloc (.cells #[.int .i64 0, .int .i64 q2] 27)); have c0 := HK1.out.cell 0; simp only [List.getElem?_toArray, List.getElem?_cons_zero] at c0; clear hb1 hr1))
        go_ret
        exact ⟨ret_int HE.out.symm, HB5.out⟩
      · rw [if_pos hl] at HE
        have hlp : (0 : Int) < ((lessF rn rk).length : Int) := by have := List.length_pos_iff.2 hl; omega
        clear hl
        generalize (lessF rn rk).length = ll at *
        go_enter Tryz.func30, Tryz.ntmps30
        go_wp2_with (first
          | (go_at_call 44; have hh := HB4.out; clear hh; refine (KL.out _ HB4.out).mono ?_; rintro e w5 ⟨⟨a5, c5, rfl, -⟩, hb5⟩; have HB5 := Lib.hid (HB4.out.trans (hb5.mono (Below.size HB4.out))); clear hb5)
          | (go_at_call 21; have hh := HB3.out; clear hh; refine (KC.out _ _ HI3.out).mono ?_; rintro e w4 ⟨rfl, rfl⟩; have HB4 := HB3)
          | (go_at_call 45; have hh := HB2.out; clear hh; refine (KT.out _ HB2.out).mono ?_; rintro e w3 ⟨rfl, hb3⟩; have HB3 := Lib.hid ((HB2.out.trans (hb3.mono (Below.size HB2.out))).alloc (Nat.le_trans (Below.size HB2.out) hb3.size) (.cells #[.int .i64 0, .int .i64 0] 27)); have HI3 := Lib.hid (HI2.out.up (hb3.alloc hb3.size (.cells #[.int .i64 0, .int .i64 0] 27))); have HK3 := Lib.hid ((HK2.out.below hb3 HK2.out.lt).alloc (.cells #[.int .i64 0, .int .i64 0] 27)); have k0 := HK3.out.cell 0; have k1 := HK3.out.cell 1; have k2 := HK3.out.cell 2; have k3 := HK3.out.cell 3; have k4 := HK3.out.cell 4; simp only [List.getElem?_toArray, List.getElem?_cons_zero, List.getElem?_cons_succ] at k0 k1 k2 k3 k4; clear hb3 d1)
          | (go_at_call 15; have hh := HB1.out; clear hh; refine (KF.out _ HB1.out).mono ?_; rintro e w2 ⟨rfl, hb2⟩; have HB2 := Lib.hid ((HB1.out.trans (hb2.mono (Below.size HB1.out))).alloc (Nat.le_trans (Below.size HB1.out) hb2.size) (.cells #[.int .i64 0, .int .i64 f2] 27)); have HI2 := Lib.hid (HI1.out.up (hb2.alloc hb2.size (.cells #[.int .i64 0, .int .i64 f2] 27))); have HK2 := Lib.hid ((HK1.out.below hb2 HK1.out.lt).alloc (.cells #[.int .i64 0, .int .i64 f2] 27)); have d1 := HK2.out.cell 1; simp only [List.getElem?_toArray, List.getElem?_cons_zero, List.getElem?_cons_succ] at d1; clear hb2 c0)
          | (go_at_call 53; refine (KS.out).mono ?_; rintro e w1 ⟨hb1, a1, c1, rfl, hr1⟩; have HB1 := Lib.hid ((HB0.out.trans (hb1.mono (Below.size HB0.out))).alloc (Nat.le_trans (Below.size HB0.out) hb1.size) (.cells #[.int .i64 0, .int .i64 q2] 27)); have HI1 := Lib.hid (hr1.up ((Below.refl _ _).alloc (Nat.le_refl _) (.cells #[.int .i64 0, .int .i64 q2] 27))); have HK1 := Lib.hid ((HK0.out.below hb1 HK0.out.lt).alloc (.cells #[.int .i64 0, .int .i64 q2] 27)); have c0 := HK1.out.cell 0; simp only [List.getElem?_toArray, List.getElem?_cons_zero] at c0; clear hb1 hr1))
        go_ret
        exact ⟨ret_int HE.out.symm, HB5.out⟩
end Go.Proofs.YtbbiapgkcekabaaGreat

/-
  THE WALK OF round.Begin.
-/
namespace Go.Proofs.YtbbiapgkcekabaaGreat
open Go.RowKit

set_option maxRecDepth 100000 in
set_option maxHeartbeats 8000000 in
theorem beginCalls {S S2 : Nat → Prop} (p : List PRule) (v fv : Value) (st : List Int) (q : Int × Int) (l : List PFact) (w : World) (hS : StrataIs p st q) (h : RdRules S w v p) (hf : RdFacts S2 w fv l)
    (n1 : p.length ≤ 1048576) (n2 : ∀ r ∈ p, RuleSmall r) (n3 : ∀ r ∈ p, NameSmall r) (n4 : l.length ≤ 1048576) (n5 : ∀ x ∈ l, x.args.length ≤ 1048576) :
    Calls Tryz.prog 27 #[v, fv] w (RunPost (beginP st q.1 p l) w) := by
  obtain ⟨a, c, rfl, -, -, -⟩ := id h.form
  obtain ⟨fa, fc, rfl, -, -, -⟩ := id hf.form
  obtain ⟨W0, hW0⟩ : ∃ W0 : World, w.alloc (.cells #[.slice none 0 0, .slice none 0 0, .int .i64 0, .int .i64 0, .bool false] 47) = W0 := ⟨_, rfl⟩
  have hb0 : Below w.heap.size w W0 := by subst hW0; exact (Below.refl _ _).alloc (Nat.le_refl _) _
  have hk0 : Blk W0 w.heap.size 47 #[.slice none 0 0, .slice none 0 0, .int .i64 0, .int .i64 0, .bool false] := by subst hW0; exact Blk.new w _ _
  have HB0 := Lib.hid hb0
  have HK0 := Lib.hid hk0
  have H := Lib.hid h
  have HFA := Lib.hid hf
  have N2 := Lib.hid n2
  have N3 := Lib.hid n3
  have N5 := Lib.hid n5
  have HS := Lib.hid hS
  have KS := Lib.hid (strataTold hS (h.up hb0) n1 n2 n3)
  clear h hf n2 n3 n5 hb0 hk0 hS
  obtain ⟨q1, q2⟩ := q
  dsimp only at *
  by_cases hq : q1 = 0
  case neg =>
    have g1 : (q1 != 0) = true := by simpa using hq
    have HE := Lib.hid (show beginP st q1 p l = (zeroRun, q1) by unfold beginP; rw [if_pos hq])
    clear hq
    go_enter Tryz.func27, Tryz.ntmps27
    go_wp2_with (go_at_call 53; refine (KS.out).mono ?_; rintro e w1 ⟨hb1, a1, c1, rfl, hr1⟩; have HB1 := Lib.hid (HB0.out.trans (hb1.mono (Below.size HB0.out))); have HK1 := Lib.hid (HK0.out.below hb1 HK0.out.lt); clear hb1 hr1)
    have hlt1 := HK1.out.lt
    have hne1 : w1.heap.size ≠ w.heap.size := by omega
    have hne2 : w.heap.size ≠ w1.heap.size := by omega
    have HF2 := Lib.hid (HK1.out.alloc (.cells #[.int .i64 q1, .int .i64 q2] 27))
    have HB2 := Lib.hid (HB1.out.alloc HB1.out.size (.cells #[.int .i64 q1, .int .i64 q2] 27))
    have HN2 := Lib.hid (Blk.new w1 27 #[.int .i64 q1, .int .i64 q2])
    generalize w1.alloc (.cells #[.int .i64 q1, .int .i64 q2] 27) = w2 at *
    have k0 := HN2.out.cell 0; have k1 := HN2.out.cell 1
    have c0 := HF2.out.cell 0; have c1 := HF2.out.cell 1; have c2 := HF2.out.cell 2; have c3 := HF2.out.cell 3; have c4 := HF2.out.cell 4
    have f0 := HF2.out.frozen 0; have f1 := HF2.out.frozen 1; have f2 := HF2.out.frozen 2; have f3 := HF2.out.frozen 3; have f4 := HF2.out.frozen 4
    simp only [List.getElem?_toArray, List.getElem?_cons_zero, List.getElem?_cons_succ] at c0 c1 c2 c3 c4 k0 k1
    go_region_held3 (fun w' => w'.cell? ⟨w1.heap.size, 0, none⟩ = some (.int .i64 q1)) (first | go_keep | (show _ = _; simp [hne1, hne2]; assumption)) (fail)
    go_wp2
    refine bodyPost_ret (v := .tuple #[.agg #[.slice none 0 0, .slice none 0 0, .int .i64 0, .int .i64 0, .bool false], .int .i64 q1]) (by simp [results, Tryz.results27, go_sem, c0, c1, c2, c3, c4]) rfl (run_ret_err HE.out ?_)
    exact (((((HB2.out.drew).setCell (Nat.le_refl _) _).setCell (Nat.le_refl _) _).setCell (Nat.le_refl _) _).setCell (Nat.le_refl _) _).setCell (Nat.le_refl _) _
  obtain ⟨hsl, h16, h5, hz16, -, -⟩ := strata_bd HS.out hq
  have HZ := Lib.hid hz16
  have H5 := Lib.hid h5
  have HSL := Lib.hid hsl
  clear h5 hz16 hsl
  subst hq
  have KF := Lib.hid (fun W (hW : Below w.heap.size w W) => factsCalls p (.slice a p.length c) (.slice fa l.length fc) l W (H.out.up hW) (HFA.out.up hW) h16 H5.out N2.out N3.out n4 N5.out)
  by_cases hf : (factsBad p l).1 = 0
  case neg =>
    have g2 : ((factsBad p l).1 != 0) = true := by simpa using hf
    have HE := Lib.hid (show beginP st 0 p l = (zeroRun, (factsBad p l).1) by unfold beginP; rw [if_neg (by simp), if_pos hf])
    clear hf
    generalize factsBad p l = f at *
    obtain ⟨q1, q2'⟩ := f
    dsimp only at *
    go_enter Tryz.func27, Tryz.ntmps27
    go_wp2_with (first
      | (go_at_call 15; have hh := HB1.out; clear hh; refine (KF.out _ HB1.out).mono ?_; rintro e w2 ⟨rfl, hb2⟩; have HB2 := Lib.hid (HB1.out.trans (hb2.mono (Below.size HB1.out))); have HK2 := Lib.hid (HK1.out.below hb2 HK1.out.lt); clear hb2)
      | (go_at_call 53; refine (KS.out).mono ?_; rintro e w1 ⟨hb1, a1, c1, rfl, hr1⟩; have HB1 := Lib.hid ((HB0.out.trans (hb1.mono (Below.size HB0.out))).alloc (Nat.le_trans (Below.size HB0.out) hb1.size) (.cells #[.int .i64 0, .int .i64 q2] 27)); have HK1 := Lib.hid ((HK0.out.below hb1 HK0.out.lt).alloc (.cells #[.int .i64 0, .int .i64 q2] 27)); clear hb1 hr1))
    have hlt1 := HK2.out.lt
    have hne1 : w2.heap.size ≠ w.heap.size := by omega
    have hne2 : w.heap.size ≠ w2.heap.size := by omega
    have HF3 := Lib.hid (HK2.out.alloc (.cells #[.int .i64 q1, .int .i64 q2'] 27))
    have HB3 := Lib.hid (HB2.out.alloc HB2.out.size (.cells #[.int .i64 q1, .int .i64 q2'] 27))
    have HN3 := Lib.hid (Blk.new w2 27 #[.int .i64 q1, .int .i64 q2'])
    generalize w2.alloc (.cells #[.int .i64 q1, .int .i64 q2'] 27) = w3 at *
    have k0 := HN3.out.cell 0; have k1 := HN3.out.cell 1
    have c0 := HF3.out.cell 0; have c1 := HF3.out.cell 1; have c2 := HF3.out.cell 2; have c3 := HF3.out.cell 3; have c4 := HF3.out.cell 4
    have f0 := HF3.out.frozen 0; have f1 := HF3.out.frozen 1; have f2 := HF3.out.frozen 2; have f3 := HF3.out.frozen 3; have f4 := HF3.out.frozen 4
    simp only [List.getElem?_toArray, List.getElem?_cons_zero, List.getElem?_cons_succ] at c0 c1 c2 c3 c4 k0 k1
    go_region_held3 (fun w' => w'.cell? ⟨w2.heap.size, 0, none⟩ = some (.int .i64 q1)) (first | go_keep | (show _ = _; simp [hne1, hne2]; assumption)) (fail)
    go_wp2
    refine bodyPost_ret (v := .tuple #[.agg #[.slice none 0 0, .slice none 0 0, .int .i64 0, .int .i64 0, .bool false], .int .i64 q1]) (by simp [results, Tryz.results27, go_sem, c0, c1, c2, c3, c4]) rfl (run_ret_err HE.out ?_)
    exact (((((HB3.out.drew).setCell (Nat.le_refl _) _).setCell (Nat.le_refl _) _).setCell (Nat.le_refl _) _).setCell (Nat.le_refl _) _).setCell (Nat.le_refl _) _
  have HE := Lib.hid (show beginP st 0 p l = (⟨l, l, 0, 0, countP st == 0⟩, 0) by unfold beginP; rw [if_neg (by simp), if_neg (by simpa using hf)])
  rw [hf] at KF
  generalize (factsBad p l).2 = f2 at *
  have KO := Lib.hid (fun W (hW : Below w.heap.size w W) => ownReads (HFA.out.up hW) n4 N5.out)
  have KC := Lib.hid (fun W sv (h1 : RdInts (fun _ => True) W sv st) => countCalls sv st W h1 (by rw [HSL.out]; omega) (fun z hz => by have := HZ.out z hz; omega))
  clear hf
  obtain ⟨dn, hdn⟩ : ∃ dn, (countP st == 0) = dn := ⟨_, rfl⟩
  rw [hdn] at HE
  generalize countP st = cn at *
  go_enter Tryz.func27, Tryz.ntmps27
  go_wp2_with (first
    | (go_at_call 21; have hh := HR4.out; clear hh; refine (KC.out _ _ HI4.out).mono ?_; rintro e w5 ⟨rfl, rfl⟩; have c0 := HK4.out.cell 0; have c1 := HK4.out.cell 1; have c2 := HK4.out.cell 2; have c3 := HK4.out.cell 3; have c4 := HK4.out.cell 4; have z0 := HK4.out.frozen 0; have z1 := HK4.out.frozen 1; have z2 := HK4.out.frozen 2; have z3 := HK4.out.frozen 3; have z4 := HK4.out.frozen 4; simp only [List.getElem?_toArray, List.getElem?_cons_zero, List.getElem?_cons_succ] at c0 c1 c2 c3 c4)
    | (go_at_call 54; have hh := HR3.out; clear hh; refine (KO.out _ HB3.out).mono ?_; rintro e w4 ⟨⟨a4, c4', rfl, hr4⟩, hb4⟩; have HB4 := Lib.hid (HB3.out.trans (hb4.mono (Below.size HB3.out))); have HK4 := Lib.hid (HK3.out.below hb4 HK3.out.lt); have HR4 := Lib.hid hr4; have HQ4 := Lib.hid (HR3.out.agree RFact.steady (Below.agree hb4)); have hs3 := HK3.out.lt; have hs2 := HK2.out.lt; have HI4 := Lib.hid (HI3.out.up hb4); clear hr4 hb4)
    | (go_at_call 54; have hh := HB2.out; clear hh; refine (KO.out _ HB2.out).mono ?_; rintro e w3 ⟨⟨a3, c3', rfl, hr3⟩, hb3⟩; have HB3 := Lib.hid (HB2.out.trans (hb3.mono (Below.size HB2.out))); have HK3 := Lib.hid (HK2.out.below hb3 HK2.out.lt); have HR3 := Lib.hid hr3; have HI3 := Lib.hid (HI2.out.up hb3); clear hr3 hb3)
    | (go_at_call 15; have hh := HB1.out; clear hh; refine (KF.out _ HB1.out).mono ?_; rintro e w2 ⟨rfl, hb2⟩; have HB2 := Lib.hid ((HB1.out.trans (hb2.mono (Below.size HB1.out))).alloc (Nat.le_trans (Below.size HB1.out) hb2.size) (.cells #[.int .i64 0, .int .i64 f2] 27)); have HK2 := Lib.hid ((HK1.out.below hb2 HK1.out.lt).alloc (.cells #[.int .i64 0, .int .i64 f2] 27)); have HI2 := Lib.hid (HI1.out.up (hb2.alloc hb2.size (.cells #[.int .i64 0, .int .i64 f2] 27))); clear hb2)
    | (go_at_call 53; refine (KS.out).mono ?_; rintro e w1 ⟨hb1, a1, c1, rfl, hr1⟩; have HB1 := Lib.hid ((HB0.out.trans (hb1.mono (Below.size HB0.out))).alloc (Nat.le_trans (Below.size HB0.out) hb1.size) (.cells #[.int .i64 0, .int .i64 q2] 27)); have HK1 := Lib.hid ((HK0.out.below hb1 HK0.out.lt).alloc (.cells #[.int .i64 0, .int .i64 q2] 27)); have HI1 := Lib.hid (hr1.up ((Below.refl _ _).alloc (Nat.le_refl _) (.cells #[.int .i64 0, .int .i64 q2] 27))); clear hb1 hr1))
  refine bodyPost_ret (v := .tuple #[.agg #[.slice a3 l.length c3', .slice a4 l.length c4', .int .i64 0, .int .i64 0, .bool dn], .int .i64 0]) (by simp [results, Tryz.results27, go_sem, c0, c1, c2, c3, c4]) rfl (run_ret_ok HE.out ?_ ?_ ?_)
  · exact ((((HB4.out.setCell (Nat.le_refl _) _).setCell (Nat.le_refl _) _).setCell (Nat.le_refl _) _).setCell (Nat.le_refl _) _).setCell (Nat.le_refl _) _
  · have hn : ¬ New (w2.alloc (.cells #[.int .i64 0, .int .i64 f2] 27)) w.heap.size := fun h => by have h' : (w2.alloc (.cells #[.int .i64 0, .int .i64 f2] 27)).heap.size ≤ w.heap.size := h; simp at h'; omega
    exact RdFacts.newer (RdFacts.set_far (RdFacts.set_far (RdFacts.set_far (RdFacts.set_far (RdFacts.set_far HQ4.out hn _) hn _) hn _) hn _) hn _) (fun b hb => Nat.le_trans (Below.size HB2.out) hb)
  · have hn : ¬ New w3 w.heap.size := fun h => by have h' : w3.heap.size ≤ w.heap.size := h; omega
    exact RdFacts.newer (RdFacts.set_far (RdFacts.set_far (RdFacts.set_far (RdFacts.set_far (RdFacts.set_far HR4.out hn _) hn _) hn _) hn _) hn _) (fun b hb => Nat.le_trans (Below.size HB3.out) hb)
end Go.Proofs.YtbbiapgkcekabaaGreat
