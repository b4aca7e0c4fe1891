/-
  THE TEXTS NaiveK, Ref1Less, Ref1Same, one behind the other.
-/
import Derived.Test.YtbbiapgkcekabaaGreatPk3
import Derived.Test.YtbbiapgkcekabaaGreatPk5
import Derived.Test.YtbbiapgkcekabaaGreatPk14
import Derived.Test.YtbbiapgkcekabaaGreatChecked
/-
  WHAT THE LAWS OF CHAPTER 5 CALL, its answers being known.
-/
namespace Go.Proofs.YtbbiapgkcekabaaGreat
open Go.RowKit Go.ChangeShapes Go.WideShapes Go.Deep

theorem fix_nil {ps : List (PRule × Int)} {n : Int} : ∀ {k : Nat} {o : List PFact}, (fixP ps n k o).2 ≠ 0 → (fixP ps n k o).1 = []
  | 0, o, h => absurd rfl h
  | k + 1, o, h => by
    rw [fixP] at h ⊢
    split
    · rfl
    · rename_i h1
      rw [if_neg h1] at h
      split
      · rename_i h2; rw [if_pos h2] at h; exact absurd rfl h
      · rename_i h2; rw [if_neg h2] at h; exact fix_nil h
theorem run_nil {ps : List (PRule × Int)} : ∀ {k : Nat} {i : Int} {o : List PFact}, (runP ps k i o).2 ≠ 0 → (runP ps k i o).1 = []
  | 0, _, o, h => absurd rfl h
  | k + 1, i, o, h => by
    rw [runP] at h ⊢
    split
    · rfl
    · rename_i h1; rw [if_neg h1] at h; exact run_nil h
theorem naive_nil {st : List Int} {q : Int} {p : List PRule} {l : List PFact} (h : (naiveP st q p l).2 ≠ 0) : (naiveP st q p l).1 = [] := by
  unfold naiveP at h ⊢
  split
  · rfl
  · rename_i h1
    rw [if_neg h1] at h
    split
    · rfl
    · rename_i h2; rw [if_neg h2] at h; exact run_nil h
theorem less_nil {l m : List PFact} (h : ∀ x ∈ l, x ∈ m) : lessF l m = [] := List.filter_eq_nil_iff.2 fun x hx => by rw [(memF_iff x m).2 (h x hx)]; decide
theorem good_args {l : List PFact} (h : ∀ f ∈ l, wrongF f = 0) : ∀ x ∈ l, x.args.length ≤ 1048576 := fun x hx => by have := (wrongF_zero.1 (h x hx)).2.1; omega

/-- naive.All, read. -/
theorem naiveReads {S S3 : Nat → Prop} (p : List PRule) (v fv : Value) (st : List Int) (q : Int × Int) (l : List PFact) (w : World) (hS : StrataIs p st q) (h : RdRules S w v p) (hf : RdFacts S3 w fv l)
    (n1 : p.length ≤ 1048576) (n2 : ∀ r ∈ p, RuleSmall r) (n3 : ∀ r ∈ p, NameSmall r) (n4 : l.length ≤ 1048576) (n5 : ∀ x ∈ l, x.args.length ≤ 1048576) :
    Calls Tryz.prog 17 #[v, fv] w fun e w' => (∃ a c, e = .returned (.tuple #[.slice a (naiveP st q.1 p l).1.length c, .int .i64 (naiveP st q.1 p l).2]) ∧ RdFacts (fun _ => True) w' (.slice a (naiveP st q.1 p l).1.length c) (naiveP st q.1 p l).1) ∧ Below w.heap.size w w' :=
  naiveKnown rfl hS rfl h hf n1 n2 n3 n4 n5
/-- naive.Heads, read. -/
theorem headsReads {S S2 S3 : Nat → Prop} (x : PRule) (tv bv fv : Value) (facts : List PFact) (w : World) (ht : RdTerms S w tv x.head.terms) (hb : RdAtoms S2 w bv x.body) (hf : RdFacts S3 w fv facts)
    (hs : RuleSmall x) (n4 : facts.length ≤ 1048576) (n5 : ∀ x ∈ facts, x.args.length ≤ 1048576) :
    Calls Tryz.prog 25 #[.agg #[.bool x.head.neg, .string x.head.name, tv, bv], fv] w fun e w' => (∃ a c, e = .returned (.tuple #[.slice a (headsP x facts).1.length c, .int .i64 (headsP x facts).2]) ∧ RdFacts (fun _ => True) w' (.slice a (headsP x facts).1.length c) (headsP x facts).1) ∧ Below w.heap.size w w' :=
  (headsCalls x tv bv fv facts w ht hb hf hs n4 n5).mono fun e w' ⟨hb, v', he, ho⟩ => by
    have h' := (ho.read RFact.steady).more RFact.steady (S' := fun _ => True) (fun _ _ _ => trivial)
    obtain ⟨a, c, rfl, -, -, -⟩ := id h'.form
    exact ⟨⟨a, c, he, h'⟩, hb⟩
/-- fact.Less, read. -/
theorem lessReads {S T : Nat → Prop} {va vb : Value} {l m : List PFact} {w : World} (h : RdFacts S w va l) (hm : RdFacts T w vb m) (hs : Rising m) (n1 : l.length ≤ 1048576) (n2 : ∀ x ∈ l, x.args.length ≤ 1048576) (n3 : m.length ≤ 1048576) (n4 : ∀ x ∈ m, x.args.length ≤ 1048576) :
    Calls Tryz.prog 44 #[va, vb] w fun e w' => (∃ a c, e = .returned (.slice a (lessF l m).length c) ∧ RdFacts (fun _ => True) w' (.slice a (lessF l m).length c) (lessF l m)) ∧ Below w.heap.size w w' :=
  (lessCalls va vb l m w h hm hs (by omega) (fun x hx => by have := n2 x hx; omega) (by omega) (fun x hx => by have := n4 x hx; omega)).mono fun e w' ⟨⟨v', he, ho⟩, hb⟩ => by
    have h' := (ho.read RFact.steady).more RFact.steady (S' := fun _ => True) (fun _ _ _ => trivial)
    obtain ⟨a, c, rfl, -, -, -⟩ := id h'.form
    exact ⟨⟨a, c, he, h'⟩, hb⟩
theorem lessNone {S T : Nat → Prop} {va vb : Value} {l m : List PFact} {w : World} (hlm : ∀ x ∈ l, x ∈ m) (h : RdFacts S w va l) (hm : RdFacts T w vb m) (hs : Rising m) (n1 : l.length ≤ 1048576) (n2 : ∀ x ∈ l, x.args.length ≤ 1048576) (n3 : m.length ≤ 1048576) (n4 : ∀ x ∈ m, x.args.length ≤ 1048576) :
    Calls Tryz.prog 44 #[va, vb] w fun e w' => (∃ a c, e = .returned (.slice a 0 c)) ∧ Below w.heap.size w w' :=
  (lessReads h hm hs n1 n2 n3 n4).mono fun e w' ⟨⟨a, c, he, _⟩, hb⟩ => ⟨⟨a, c, by rw [he, less_nil hlm]; rfl⟩, hb⟩
theorem joinReads {S T : Nat → Prop} {va vb : Value} {a b : List PFact} {w : World} (ha : RdFacts S w va a) (hb : RdFacts T w vb b) (n1 : a.length ≤ 1048576) (n1' : b.length ≤ 1048576) (n2 : ∀ x ∈ a, x.args.length ≤ 1048576) (n3 : ∀ x ∈ b, x.args.length ≤ 1048576) :
    Calls Tryz.prog 38 #[va, vb] w fun e w' => (∃ q c, e = .returned (.slice q (joinF a b).length c) ∧ RdFacts (fun _ => True) w' (.slice q (joinF a b).length c) (joinF a b)) ∧ Below w.heap.size w w' :=
  (joinCalls va vb a b w ha hb (by omega) (fun x hx => by have := n2 x hx; omega) (fun x hx => by have := n3 x hx; omega)).mono fun e w' ⟨⟨v', he, ho⟩, hb⟩ => by
    have h' := (ho.read RFact.steady).more RFact.steady (S' := fun _ => True) (fun _ _ _ => trivial)
    obtain ⟨q, c, rfl, -, -, -⟩ := id h'.form
    exact ⟨⟨q, c, he, h'⟩, hb⟩
/-- A rule of a program, where it lies. -/
theorem RdRules.pick {S : Nat → Prop} {w : World} {a : Option Addr} {n cap : Nat} {l : List PRule} (h : RdRules S w (.slice a n cap) l) {i : Nat} {x : PRule} (hx : l[i]? = some x) :
    ∃ b o ta tc ba bc, a = some ⟨b, o, none⟩ ∧ RuleAt S w b (o + i * 4) x (.slice ta x.head.terms.length tc) (.slice ba x.body.length bc) := by
  obtain ⟨b1, o1, tv, bv, rfl, -, hb1, d0, d1, d2, d3, htv, hbv⟩ := RdRules.at h hx
  obtain ⟨ta, tc, rfl, -, -, -⟩ := id htv.form
  obtain ⟨ba, bc, rfl, -, -, -⟩ := id hbv.form
  exact ⟨b1, o1, ta, tc, ba, bc, rfl, hb1, d0, d1, d2, d3, htv, hbv⟩
theorem Opens.ruleArg {P : Program} {t : TypeId} {size : PRule → Nat} (h : Opens P t 4 RRule size) {fs : Array Field} (ht : P.underlying t = some (.struct fs)) {H : Type} {enc : TypeId × Value → H} {W : World} {r : Reach} {b : Nat} {v : Value} {d : DataW H} {p : List MemPlace}
    (hv : Value.okWide P W r b t v) (hd : DataW.Trod enc P W 0 (fun _ => true) true t v d p) : ∃ (x : PRule) (tv bv : Value), v = .agg #[.bool x.head.neg, .string x.head.name, tv, bv] ∧ RdTerms (fun _ => True) W tv x.head.terms ∧ RdAtoms (fun _ => True) W bv x.body ∧ size x ≤ Rows.uptoBulk d := by
  obtain ⟨f, cs, rfl, ⟨tv, bv, e, h1, h2⟩, hb⟩ := h.arg ht hv hd
  exact ⟨f, tv, bv, by rw [← Array.toArray_toList (xs := cs), e], h1, h2, hb⟩
theorem rule_small {r : PRule} (h : sizeRule r ≤ 1048576) : RuleSmall r := by
  simp only [sizeRule] at h
  have h3 := sizeL_le (size := sizeAtom) openAtom.one r.body
  obtain ⟨g1, g2, g3⟩ := atom_small (a := r.head)
  have hb : ∀ a ∈ r.body, sizeAtom a ≤ 1048576 := fun a ha => by have h2 := sizeL_mem (size := sizeAtom) ha; omega
  exact ⟨by omega, fun t ht => by have := g3 t ht; omega, by omega, fun a ha => by have := hb a ha; have := (atom_small (a := a)).2.1; omega, fun a ha t ht => by have := hb a ha; have := (atom_small (a := a)).2.2 t ht; omega⟩
end Go.Proofs.YtbbiapgkcekabaaGreat

/-
  THE WALKS OF cororef1.Less and cororef1.Equal: ltF; are they the same?
-/
namespace Go.Proofs.YtbbiapgkcekabaaGreat
open Go.RowKit

theorem ltF_name {f g : PFact} (h : f.name ≠ g.name) : ltF f g = strLt f.name g.name := by
  have h0 : cmpStr f.name g.name ≠ 0 := fun e => h ((cmpStr3.zero _ _).1 e)
  have h1 : cmpFact f g = cmpStr f.name g.name := by simp [cmpFact, orInt, h0]
  rw [Bool.eq_iff_iff]
  simp only [ltF, h1, decide_eq_true_eq]
  exact cmpStr_lt _ _
theorem ltF_len {f g : PFact} (h : f.name = g.name) (k : f.args.length ≠ g.args.length) : ltF f g = decide (f.args.length < g.args.length) := by
  have h0 : cmpStr f.name g.name = 0 := (cmpStr3.zero _ _).2 h
  have h2 : cmpInt (f.args.length : Int) g.args.length ≠ 0 := fun e => k (by have := (cmpInt3.zero _ _).1 e; omega)
  have h1 : cmpFact f g = cmpInt f.args.length g.args.length := by simp [cmpFact, orInt, h0, h2]
  rw [Bool.eq_iff_iff]
  simp only [ltF, h1, decide_eq_true_eq, cmpInt]
  split
  · constructor <;> intro <;> omega
  · split <;> constructor <;> intro <;> omega
theorem ltF_args {f g : PFact} (h : f.name = g.name) (k : f.args.length = g.args.length) : ltF f g = decide (cmpStrs f.args g.args < 0) := by
  have h0 : cmpStr f.name g.name = 0 := (cmpStr3.zero _ _).2 h
  have h2 : cmpInt (f.args.length : Int) g.args.length = 0 := (cmpInt3.zero _ _).2 (by omega)
  have h1 : cmpFact f g = cmpStrs f.args g.args := by
    simp only [cmpFact, orInt, h0, h2]
    simp
    intro e; exact e.symm
  simp only [ltF, h1]
theorem cmpStrs_same {x y : Str} {a b : List Str} (h : x = y) : cmpStrs (x :: a) (y :: b) = cmpStrs a b := by
  have h0 : cmpStr x y = 0 := (cmpStr3.zero _ _).2 h
  simp [cmpStrs, h0]
theorem cmpStrs_other {x y : Str} {a b : List Str} (h : x ≠ y) : decide (cmpStrs (x :: a) (y :: b) < 0) = strLt x y := by
  have h0 : cmpStr x y ≠ 0 := fun e => h ((cmpStr3.zero _ _).1 e)
  rw [Bool.eq_iff_iff, decide_eq_true_eq]
  simp only [cmpStrs, if_pos h0]
  exact cmpStr_lt _ _

theorem fresh_drewN {w w' : World} (h : Fresh w w') (n : Nat) : Fresh w (w'.drewN n) := h.trans ⟨n, #[], by simp⟩

attribute [local go_sem ↓] Go.wp_at_zero Go.wp_at_succ
set_option maxRecDepth 100000 in
set_option maxHeartbeats 2000000 in
theorem lessRef {S T : Nat → Prop} (f g : PFact) (av bv : Value) (w : World) (ha : RdStrs S w av f.args) (hb : RdStrs T w bv g.args) (n1 : f.args.length ≤ 1073741824) :
    Calls Tryz.prog 85 #[.agg #[.string f.name, av], .agg #[.string g.name, bv]] w fun e w' => e = .returned (.bool (ltF f g)) ∧ Fresh w w' := by
  obtain ⟨aa, ac, rfl, -, -, -⟩ := id ha.form
  obtain ⟨ba, bc, rfl, -, -, -⟩ := id hb.form
  have HF := Lib.hid (((Fresh.refl w).alloc (.cells #[.string f.name, .slice aa f.args.length ac] 61)).alloc (.cells #[.string g.name, .slice ba g.args.length bc] 61))
  by_cases hn : f.name = g.name
  · have g1 : (f.name.toList == g.name.toList) = true := by rw [hn]; exact beq_self_eq_true _
    by_cases hl : f.args.length = g.args.length
    · have HL := Lib.hid (ltF_args hn hl)
      have HA := Lib.hid (fun W (h : Agree (fun _ => True) w W) i x (hx : f.args[i]? = some x) => RdStrs.at ((ha.more RStr.steady (S' := fun _ => True) (fun _ _ _ => trivial)).agree RStr.steady h) hx)
      have HB := Lib.hid (fun W (h : Agree (fun _ => True) w W) i x (hx : g.args[i]? = some x) => RdStrs.at ((hb.more RStr.steady (S' := fun _ => True) (fun _ _ _ => trivial)).agree RStr.steady h) hx)
      have HN := Lib.hid hl
      rw [← hl]
      rw [← hl] at HF
      clear hn ha hb hl
      have c0 : ((w.alloc (.cells #[.string f.name, .slice aa f.args.length ac] 61)).alloc (.cells #[.string g.name, .slice ba f.args.length bc] 61)).cell? ⟨w.heap.size, 1, none⟩ = some (.slice aa f.args.length ac) := by
        rw [World.cell?_of_block (Below.heap_alloc _ _ _ (show w.heap.size < _ by simp))]; simp
      have c1 : ((w.alloc (.cells #[.string f.name, .slice aa f.args.length ac] 61)).alloc (.cells #[.string g.name, .slice ba f.args.length bc] 61)).cell? ⟨w.heap.size + 1, 1, none⟩ = some (.slice ba f.args.length bc) := by
        have e : w.heap.size + 1 = (w.alloc (.cells #[.string f.name, .slice aa f.args.length ac] 61)).heap.size := by simp
        rw [e]; simp
      have hsz : w.heap.size + 1 < ((w.alloc (.cells #[.string f.name, .slice aa f.args.length ac] 61)).alloc (.cells #[.string g.name, .slice ba f.args.length bc] 61)).heap.size := by simp
      go_enter Tryz.func85, Tryz.ntmps85
      go_wp2
      generalize (w.alloc (.cells #[.string f.name, .slice aa f.args.length ac] 61)).alloc (.cells #[.string g.name, .slice ba f.args.length bc] 61) = w0 at *
      go_loopw [33] (fun i wr => ∃ k : Nat, k ≤ f.args.length ∧ i = .int .i64 k ∧ Hid (ltF f g = decide (cmpStrs (f.args.drop k) (g.args.drop k) < 0)) ∧ Hid (Fresh w0 wr)) (fun i _ => f.args.length - (intOf i).toNat)
      case atStart => exact ⟨0, Nat.zero_le _, rfl, HL, Fresh.refl _⟩
      case round =>
        obtain ⟨k, hk, rfl, HR, HW⟩ := hrel
        have d0 := (cell_below HW.out.below (show w.heap.size < _ by omega) 1).trans c0
        have d1 := (cell_below HW.out.below hsz 1).trans c1
        clear c0 c1
        by_cases hlt : k < f.args.length
        · obtain ⟨x, hx⟩ : ∃ x, f.args[k]? = some x := ⟨_, List.getElem?_eq_getElem hlt⟩
          obtain ⟨y, hy⟩ : ∃ y, g.args[k]? = some y := ⟨_, List.getElem?_eq_getElem (by rw [← HN.out]; exact hlt)⟩
          have hag : Agree (fun _ => True) w wr := Below.agree (HF.out.trans HW.out).below
          obtain ⟨b1, o1, rfl, -, -, hc1⟩ := HA.out wr hag k x hx
          obtain ⟨b2, o2, rfl, -, -, hc2⟩ := HB.out wr hag k y hy
          have HX := Lib.hid hx
          have HY := Lib.hid hy
          clear hx hy hag
          have i1 : (0 : Int) ≤ (k : Int) := by omega
          have i2 : (k : Int) < (f.args.length : Int) := by omega
          by_cases hxy : x = y
          · have gz : (x.toList == y.toList) = true := by rw [hxy]; exact beq_self_eq_true _
            have HXY := Lib.hid hxy
            clear hxy
            go_wp2_with fail
            go_quiet (fail)
            go_wp2
            go_roundw
            case rel =>
              refine ⟨k + 1, by omega, by go_num, ?_, ?_⟩
              · rw [HR.out, drop_cons HX.out, drop_cons HY.out, cmpStrs_same HXY.out]; exact Lib.hid rfl
              · exact Lib.hid (fresh_drewN HW.out _)
            case measure => simp [intOf]; omega
          · have gz : (x.toList == y.toList) = false := by rw [beq_toList]; exact decide_eq_false hxy
            have HXY := Lib.hid (show ltF f g = strLt x y by rw [HR.out, drop_cons HX.out, drop_cons HY.out]; exact cmpStrs_other hxy)
            clear hxy
            obtain ⟨s, hs⟩ : ∃ s, strLt x y = s := ⟨_, rfl⟩
            rw [hs] at HXY
            have gs : Op.bytesLess x.toList y.toList = s := hs
            clear hs
            go_wp2_with fail
            go_quiet (fail)
            go_wp2_with fail
            go_quiet (fail)
            go_wp2
            go_ret
            refine ⟨ret_bool HXY.out.symm, ?_⟩
            exact fresh_drewN (fresh_drewN (HF.out.trans HW.out) _) _
        · have HE := Lib.hid (show ltF f g = false by rw [HR.out, drop_end (by omega : f.args.length ≤ k), drop_end (by rw [← HN.out]; omega : g.args.length ≤ k)]; rfl)
          go_wp2
          go_ret
          exact ⟨ret_bool HE.out.symm, HF.out.trans HW.out⟩
    · have HL := Lib.hid (ltF_len hn hl)
      have i1 : ((f.args.length : Int) == (g.args.length : Int)) = false := by simp; omega
      have i2 : ¬ ((f.args.length : Int) = (g.args.length : Int)) := by omega
      clear hn ha hb
      go_enter Tryz.func85, Tryz.ntmps85
      go_wp2
      go_ret
      exact ⟨by rw [HL.out]; simp, HF.out⟩
  · have HL := Lib.hid (ltF_name hn)
    have g1 : (f.name.toList == g.name.toList) = false := by rw [beq_toList]; exact decide_eq_false hn
    obtain ⟨s, hs⟩ : ∃ s, strLt f.name g.name = s := ⟨_, rfl⟩
    rw [hs] at HL
    have gs : Op.bytesLess f.name.toList g.name.toList = s := hs
    clear hs hn ha hb
    go_enter Tryz.func85, Tryz.ntmps85
    go_wp2
    go_ret
    exact ⟨ret_bool HL.out.symm, HF.out⟩

theorem equal_ltF (f g : PFact) : decide (f = g) = (!ltF f g && !ltF g f) := by
  rw [Bool.eq_iff_iff, decide_eq_true_eq]
  constructor
  · rintro rfl; simp [ltF_irrefl]
  · intro h
    simp only [Bool.and_eq_true, Bool.not_eq_true'] at h
    exact ltF_tri h.1 h.2

set_option maxHeartbeats 2000000 in
theorem equalRef {S T : Nat → Prop} (f g : PFact) (av bv : Value) (w : World) (ha : RdStrs S w av f.args) (hb : RdStrs T w bv g.args) (n1 : f.args.length ≤ 1073741824) (n2 : g.args.length ≤ 1073741824) :
    Calls Tryz.prog 56 #[.agg #[.string f.name, av], .agg #[.string g.name, bv]] w fun e w' => e = .returned (.bool (decide (f = g))) ∧ Fresh w w' := by
  obtain ⟨aa, ac, rfl, -, -, -⟩ := id ha.form
  obtain ⟨ba, bc, rfl, -, -, -⟩ := id hb.form
  have HF := Lib.hid (((Fresh.refl w).alloc (.cells #[.string f.name, .slice aa f.args.length ac] 61)).alloc (.cells #[.string g.name, .slice ba g.args.length bc] 61))
  have K1 := Lib.hid (fun W (h : Agree (fun _ => True) w W) => lessRef f g _ _ W ((ha.more RStr.steady (S' := fun _ => True) (fun _ _ _ => trivial)).agree RStr.steady h) ((hb.more RStr.steady (S' := fun _ => True) (fun _ _ _ => trivial)).agree RStr.steady h) n1)
  have K2 := Lib.hid (fun W (h : Agree (fun _ => True) w W) => lessRef g f _ _ W ((hb.more RStr.steady (S' := fun _ => True) (fun _ _ _ => trivial)).agree RStr.steady h) ((ha.more RStr.steady (S' := fun _ => True) (fun _ _ _ => trivial)).agree RStr.steady h) n2)
  have HE := Lib.hid (equal_ltF f g)
  clear ha hb
  cases h1 : ltF f g
  · rw [h1] at K1 HE
    clear h1
    have c0 : ((w.alloc (.cells #[.string f.name, .slice aa f.args.length ac] 61)).alloc (.cells #[.string g.name, .slice ba g.args.length bc] 61)).cell? ⟨w.heap.size, 0, none⟩ = some (.string f.name) := by
      rw [World.cell?_of_block (Below.heap_alloc _ _ _ (show w.heap.size < _ by simp))]; simp
    have c1 : ((w.alloc (.cells #[.string f.name, .slice aa f.args.length ac] 61)).alloc (.cells #[.string g.name, .slice ba g.args.length bc] 61)).cell? ⟨w.heap.size, 1, none⟩ = some (.slice aa f.args.length ac) := by
      rw [World.cell?_of_block (Below.heap_alloc _ _ _ (show w.heap.size < _ by simp))]; simp
    have e : w.heap.size + 1 = (w.alloc (.cells #[.string f.name, .slice aa f.args.length ac] 61)).heap.size := by simp
    have d0 : ((w.alloc (.cells #[.string f.name, .slice aa f.args.length ac] 61)).alloc (.cells #[.string g.name, .slice ba g.args.length bc] 61)).cell? ⟨w.heap.size + 1, 0, none⟩ = some (.string g.name) := by
      rw [e]; simp
    have d1 : ((w.alloc (.cells #[.string f.name, .slice aa f.args.length ac] 61)).alloc (.cells #[.string g.name, .slice ba g.args.length bc] 61)).cell? ⟨w.heap.size + 1, 1, none⟩ = some (.slice ba g.args.length bc) := by
      rw [e]; simp
    have hsz : w.heap.size + 1 < ((w.alloc (.cells #[.string f.name, .slice aa f.args.length ac] 61)).alloc (.cells #[.string g.name, .slice ba g.args.length bc] 61)).heap.size := by simp
    clear e
    go_enter Tryz.func56, Tryz.ntmps56
    go_wp2_with (first
      | (go_at_call 85; refine (K2.out _ (Below.agree (HF.out.trans HW1.out).below)).mono ?_; rintro e w2 ⟨rfl, hf2⟩; have HW2 := Lib.hid ((HF.out.trans HW1.out).trans hf2); clear hf2)
      | (go_at_call 85; refine (K1.out _ (Below.agree HF.out.below)).mono ?_; rintro e w1 ⟨rfl, hf1⟩; have HW1 := Lib.hid hf1; have x0 := (cell_below hf1.below (show w.heap.size < _ by omega) 0).trans c0; have x1 := (cell_below hf1.below (show w.heap.size < _ by omega) 1).trans c1; have y0 := (cell_below hf1.below hsz 0).trans d0; have y1 := (cell_below hf1.below hsz 1).trans d1; clear hf1))
    go_ret
    refine ⟨ret_bool ?_, HW2.out⟩
    rw [HE.out]; simp
  · rw [h1] at K1 HE
    clear h1
    go_enter Tryz.func56, Tryz.ntmps56
    go_wp2_with (go_at_call 85; refine (K1.out _ (Below.agree HF.out.below)).mono ?_; rintro e w1 ⟨rfl, hf1⟩)
    go_ret
    refine ⟨ret_bool ?_, HF.out.trans hf1⟩
    rw [HE.out]; simp
end Go.Proofs.YtbbiapgkcekabaaGreat

/-
  THE WALKS OF cororef1.Same and cororef1.In: are two lists of facts the same? Is a fact in a list?
-/
namespace Go.Proofs.YtbbiapgkcekabaaGreat
open Go.RowKit

theorem eq_of_get {a b : List PFact} (hl : a.length = b.length) (h : ∀ i x y, i < a.length → a[i]? = some x → b[i]? = some y → x = y) : a = b := by
  apply List.ext_getElem hl
  intro i h1 h2
  exact h i _ _ h1 (List.getElem?_eq_getElem h1) (List.getElem?_eq_getElem h2)

attribute [local go_sem ↓] Go.wp_at_zero Go.wp_at_succ
set_option maxRecDepth 100000 in
set_option maxHeartbeats 2000000 in
theorem sameRef {S T : Nat → Prop} (va vb : Value) (a b : List PFact) (w : World) (ha : RdFacts S w va a) (hb : RdFacts T w vb b) (n1 : a.length ≤ 1073741824) (n2 : ∀ x ∈ a, x.args.length ≤ 1073741824) (n3 : ∀ x ∈ b, x.args.length ≤ 1073741824) :
    Calls Tryz.prog 19 #[va, vb] w fun e w' => e = .returned (.bool (decide (a = b))) ∧ Fresh w w' := by
  obtain ⟨aa, ac, rfl, -, -, -⟩ := id ha.form
  obtain ⟨ba, bc, rfl, -, -, -⟩ := id hb.form
  by_cases hl : a.length = b.length
  · have HN := Lib.hid hl
    have HA := Lib.hid (fun W (h : Agree (fun _ => True) w W) i x (hx : a[i]? = some x) => RdFacts.at ((ha.more RFact.steady (S' := fun _ => True) (fun _ _ _ => trivial)).agree RFact.steady h) hx)
    have HB := Lib.hid (fun W (h : Agree (fun _ => True) w W) i x (hx : b[i]? = some x) => RdFacts.at ((hb.more RFact.steady (S' := fun _ => True) (fun _ _ _ => trivial)).agree RFact.steady h) hx)
    have N2 := Lib.hid n2
    have N3 := Lib.hid n3
    rw [← hl]
    clear ha hb hl n2 n3
    go_enter Tryz.func19, Tryz.ntmps19
    go_wp2
    go_loopw [13] (fun i wr => ∃ k : Nat, k ≤ a.length ∧ i = .int .i64 k ∧ Hid (∀ i x y, i < k → a[i]? = some x → b[i]? = some y → x = y) ∧ Hid (Fresh w wr)) (fun i _ => a.length - (intOf i).toNat)
    case atStart => exact ⟨0, Nat.zero_le _, rfl, Lib.hid (fun i x y h => by omega), Fresh.refl _⟩
    case round =>
      obtain ⟨k, hk, rfl, HR, HW⟩ := hrel
      by_cases hlt : k < a.length
      · obtain ⟨x, hx⟩ : ∃ x, a[k]? = some x := ⟨_, List.getElem?_eq_getElem hlt⟩
        obtain ⟨y, hy⟩ : ∃ y, b[k]? = some y := ⟨_, List.getElem?_eq_getElem (by rw [← HN.out]; exact hlt)⟩
        have hag : Agree (fun _ => True) w wr := Below.agree HW.out.below
        obtain ⟨b1, o1, av, rfl, -, hb1, c0, c1, hav⟩ := HA.out wr hag k x hx
        obtain ⟨b2, o2, bv, rfl, -, hb2, d0, d1, hbv⟩ := HB.out wr hag k y hy
        obtain ⟨xa, xc, rfl, -, -, -⟩ := id hav.form
        obtain ⟨ya, yc, rfl, -, -, -⟩ := id hbv.form
        have nx : x.args.length ≤ 1073741824 := N2.out x (List.mem_of_getElem? hx)
        have ny : y.args.length ≤ 1073741824 := N3.out y (List.mem_of_getElem? hy)
        have K := Lib.hid (fun W (h : Agree (fun _ => True) wr W) => equalRef x y _ _ W (hav.agree RStr.steady h) (hbv.agree RStr.steady h) nx ny)
        have HX := Lib.hid hx
        have HY := Lib.hid hy
        clear hx hy hag hav hbv nx ny
        have i1 : (0 : Int) ≤ (k : Int) := by omega
        have i2 : (k : Int) < (a.length : Int) := by omega
        cases hxy : decide (x = y)
        · rw [hxy] at K
          have HXY := Lib.hid (show a ≠ b from fun e => by
            have h1 := HX.out
            rw [e, HY.out] at h1
            exact of_decide_eq_false hxy (Option.some.inj h1).symm)
          clear hxy
          go_wp2_with fail
          go_region_held3 (fun w' => w'.cell? ⟨b1, o1 + k * 2, none⟩ = some (.string x.name) ∧ w'.cell? ⟨b1, o1 + k * 2 + 1, none⟩ = some (.slice xa x.args.length xc) ∧
              w'.cell? ⟨b2, o2 + k * 2, none⟩ = some (.string y.name) ∧ w'.cell? ⟨b2, o2 + k * 2 + 1, none⟩ = some (.slice ya y.args.length yc))
            (first | (refine ⟨?_, ?_, ?_, ?_⟩ <;> (first | (rw [hk2 _ hb1]; assumption) | (rw [hk2 _ hb2]; assumption))) | go_keep)
            (first
              | (go_at_call 56; refine (K.out _ (Agree.refl _ _).drew).mono ?_; rintro e w1 ⟨rfl, hf1⟩; have hk2 : ∀ c, c < wr.heap.size → ∀ off, w1.cell? ⟨c, off, none⟩ = wr.cell? ⟨c, off, none⟩ := fun c hc off => cell_below (w := wr.drew) hf1.below hc off))
          have HW2 := Lib.hid (HW.out.drew.trans hf1)
          clear hf1 hk2 c0 c1 d0 d1
          go_wp2
          go_ret
          exact ⟨ret_bool (decide_eq_false HXY.out).symm, HW2.out⟩
        · rw [hxy] at K
          have HXY := Lib.hid (of_decide_eq_true hxy)
          clear hxy
          go_wp2_with fail
          go_region_held3 (fun w' => w'.cell? ⟨b1, o1 + k * 2, none⟩ = some (.string x.name) ∧ w'.cell? ⟨b1, o1 + k * 2 + 1, none⟩ = some (.slice xa x.args.length xc) ∧
              w'.cell? ⟨b2, o2 + k * 2, none⟩ = some (.string y.name) ∧ w'.cell? ⟨b2, o2 + k * 2 + 1, none⟩ = some (.slice ya y.args.length yc))
            (first | (refine ⟨?_, ?_, ?_, ?_⟩ <;> (first | (rw [hk2 _ hb1]; assumption) | (rw [hk2 _ hb2]; assumption))) | go_keep)
            (first
              | (go_at_call 56; refine (K.out _ (Agree.refl _ _).drew).mono ?_; rintro e w1 ⟨rfl, hf1⟩; have hk2 : ∀ c, c < wr.heap.size → ∀ off, w1.cell? ⟨c, off, none⟩ = wr.cell? ⟨c, off, none⟩ := fun c hc off => cell_below (w := wr.drew) hf1.below hc off))
          have HW2 := Lib.hid (HW.out.drew.trans hf1)
          clear hf1 hk2 c0 c1 d0 d1
          go_wp2
          go_roundw
          case rel =>
            refine ⟨k + 1, by omega, by go_num, Lib.hid (fun i p q hi hp hq => ?_), HW2.out⟩
            by_cases e : i = k
            · subst e
              rw [HX.out] at hp
              rw [HY.out] at hq
              rw [← Option.some.inj hp, ← Option.some.inj hq]
              exact HXY.out
            · exact HR.out i p q (by omega) hp hq
          case measure => simp [intOf]; omega
      · have HE := Lib.hid (show a = b from eq_of_get HN.out (fun i x y hi => HR.out i x y (by omega)))
        go_wp2
        go_ret
        exact ⟨ret_bool (decide_eq_true HE.out).symm, HW.out⟩
  · have HE := Lib.hid (show a ≠ b from fun e => hl (by rw [e]))
    have i2 : ¬ ((a.length : Int) = (b.length : Int)) := by omega
    have i1 : ((a.length : Int) == (b.length : Int)) = false := by simp; omega
    clear ha hb
    go_enter Tryz.func19, Tryz.ntmps19
    go_wp2
    go_ret
    exact ⟨ret_bool (decide_eq_false HE.out).symm, Fresh.refl _⟩

theorem memF_drop {f x : PFact} {l : List PFact} {k : Nat} (h : l[k]? = some x) : memF f (l.drop k) = (decide (x = f) || memF f (l.drop (k + 1))) := by
  rw [Bool.eq_iff_iff]
  simp only [Bool.or_eq_true, decide_eq_true_eq, memF_iff]
  rw [drop_cons h, List.mem_cons]
  constructor
  · rintro (h | h)
    · exact .inl h.symm
    · exact .inr h
  · rintro (h | h)
    · exact .inl h.symm
    · exact .inr h

set_option maxRecDepth 100000 in
set_option maxHeartbeats 2000000 in
theorem inRef {S T : Nat → Prop} (v : Value) (l : List PFact) (f : PFact) (av : Value) (w : World) (h : RdFacts S w v l) (hf : RdStrs T w av f.args) (n1 : l.length ≤ 1073741824) (n2 : ∀ x ∈ l, x.args.length ≤ 1073741824) (n3 : f.args.length ≤ 1073741824) :
    Calls Tryz.prog 62 #[v, .agg #[.string f.name, av]] w fun e w' => e = .returned (.bool (memF f l)) ∧ Fresh w w' := by
  obtain ⟨a, c, rfl, -, -, -⟩ := id h.form
  obtain ⟨fa, fc, rfl, -, -, -⟩ := id hf.form
  have H := Lib.hid (fun W (ha : Agree (fun _ => True) w W) i x (hx : l[i]? = some x) => RdFacts.at ((h.more RFact.steady (S' := fun _ => True) (fun _ _ _ => trivial)).agree RFact.steady ha) hx)
  have HF := Lib.hid (fun W (ha : Agree (fun _ => True) w W) => (hf.more RStr.steady (S' := fun _ => True) (fun _ _ _ => trivial)).agree RStr.steady ha)
  have N2 := Lib.hid n2
  clear h hf n2
  have c0 : (w.alloc (.cells #[.string f.name, .slice fa f.args.length fc] 61)).cell? ⟨w.heap.size, 0, none⟩ = some (.string f.name) := by simp
  have c1 : (w.alloc (.cells #[.string f.name, .slice fa f.args.length fc] 61)).cell? ⟨w.heap.size, 1, none⟩ = some (.slice fa f.args.length fc) := by simp
  have hsz : w.heap.size < (w.alloc (.cells #[.string f.name, .slice fa f.args.length fc] 61)).heap.size := by simp
  have HF0 := Lib.hid ((Fresh.refl w).alloc (.cells #[.string f.name, .slice fa f.args.length fc] 61))
  go_enter Tryz.func62, Tryz.ntmps62
  go_wp2
  generalize w.alloc (.cells #[.string f.name, .slice fa f.args.length fc] 61) = w0 at *
  go_loopw [9] (fun i wr => ∃ k : Nat, k ≤ l.length ∧ i = .int .i64 k ∧ Hid (memF f l = memF f (l.drop k)) ∧ Hid (Fresh w0 wr)) (fun i _ => l.length - (intOf i).toNat)
  case atStart => exact ⟨0, Nat.zero_le _, rfl, Lib.hid rfl, Fresh.refl _⟩
  case round =>
    obtain ⟨k, hk, rfl, HR, HW⟩ := hrel
    have d0 := (cell_below HW.out.below hsz 0).trans c0
    have d1 := (cell_below HW.out.below hsz 1).trans c1
    have hsr : w.heap.size < wr.heap.size := Nat.lt_of_lt_of_le hsz HW.out.below.size
    clear c0 c1
    by_cases hlt : k < l.length
    · obtain ⟨x, hx⟩ : ∃ x, l[k]? = some x := ⟨_, List.getElem?_eq_getElem hlt⟩
      have hag : Agree (fun _ => True) w wr := Below.agree (HF0.out.trans HW.out).below
      obtain ⟨b1, o1, av, rfl, -, hb1, e0, e1, hav⟩ := H.out wr hag k x hx
      obtain ⟨xa, xc, rfl, -, -, -⟩ := id hav.form
      have nx : x.args.length ≤ 1073741824 := N2.out x (List.mem_of_getElem? hx)
      have K := Lib.hid (equalRef x f (.slice xa x.args.length xc) (.slice fa f.args.length fc) (wr.alloc (.cells #[.string x.name, .slice xa x.args.length xc] 61)) (hav.agree RStr.steady ((Agree.refl _ _).alloc _)) ((HF.out wr hag).agree RStr.steady ((Agree.refl _ _).alloc _)) nx n3)
      have HM := Lib.hid (memF_drop (f := f) hx)
      have m0 := (World.cell?_of_block (a := ⟨w.heap.size, 0, none⟩) (Below.heap_alloc wr (.cells #[.string x.name, .slice xa x.args.length xc] 61) w.heap.size hsr)).trans d0
      have m1 := (World.cell?_of_block (a := ⟨w.heap.size, 1, none⟩) (Below.heap_alloc wr (.cells #[.string x.name, .slice xa x.args.length xc] 61) w.heap.size hsr)).trans d1
      clear hx hag hav nx
      cases hxy : decide (x = f)
      · rw [hxy] at K HM
        clear hxy
        go_wp2_with (go_at_call 56; refine (K.out).mono ?_; rintro e w1 ⟨rfl, hf1⟩; have HW2 := Lib.hid ((HW.out.alloc _).trans hf1); clear hf1)
        go_roundw
        case rel => exact ⟨k + 1, by omega, by go_num, Lib.hid (by rw [HR.out, HM.out]; simp), HW2.out⟩
        case measure => simp [intOf]; omega
      · rw [hxy] at K HM
        clear hxy
        go_wp2_with (go_at_call 56; refine (K.out).mono ?_; rintro e w1 ⟨rfl, hf1⟩; have HW2 := Lib.hid ((HW.out.alloc _).trans hf1); clear hf1)
        go_ret
        exact ⟨ret_bool (by rw [HR.out, HM.out]; simp), HF0.out.trans HW2.out⟩
    · have HE := Lib.hid (show memF f l = false by rw [HR.out, drop_end (by omega : l.length ≤ k)]; rfl)
      go_wp2
      go_ret
      exact ⟨ret_bool HE.out.symm, HF0.out.trans HW.out⟩
end Go.Proofs.YtbbiapgkcekabaaGreat
