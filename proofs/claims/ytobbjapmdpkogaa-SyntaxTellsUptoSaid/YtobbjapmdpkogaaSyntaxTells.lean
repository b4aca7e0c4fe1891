/-
  CLAIM: SyntaxTells: of any text and any rules, of bulk at most 1048576 together, the law answers true and leaves its arguments as they were.
-/
import Derived.Test.YtobbjapmdpkogaaSyntaxAgain
import Derived.Test.YtobbjapmdpkogaaRef1Var
import Derived.Test.YtobbjapmdpkogaaRefW7
import Derived.Test.YtobbjapmdpkogaaRefW9
import Derived.Test.YtobbjapmdpkogaaSynW6
import Derived.Laws.StructEq
namespace Go.Proofs.Ytobbjapmdpkogaa
open Go.RowKit Go.ChangeShapes Go.WideShapes Go.ChangeAt

set_option maxRecDepth 100000 in
theorem neqFault2 (x y : Int) (w : World) : (binOp .neq 26 (.agg #[.int .i64 x, .int .i64 y]) (.agg #[.int .i64 x, .int .i64 y])).run Try.prog w = .ok (.bool false) w := by
  have hp : Try.prog.stoodInHeld 26 = false := by kernel_rfl
  have hf : Try.prog.fieldsOf 26 = (match Try.prog.underlying 26 with | some (.struct fs) => fs | _ => #[]) := rfl
  rw [Try.underlying26] at hf
  have hu : Try.prog.underlying 26 = some (.struct (Try.prog.fieldsOf 26)) := by rw [hf]; exact Try.underlying26
  simp only [binOp]
  simp [Op.equal, Op.maxDepth, run_equalIn_struct w 9999 _ _ _ hu hp, go_sem]

/-! ### How long rules' text is. -/
theorem sizeL_cons {α : Type} (size : α → Nat) (x : α) (l : List α) : sizeL size (x :: l) = size x + sizeL size l := by
  simp only [sizeL, List.map_cons, List.sum_cons]; omega
theorem namesB_bulk : ∀ l : List PTerm, (namesB l).length ≤ sizeL sizeTerm l
  | [] => by simp [namesB]
  | [t] => by
    have e : t.name.data.size = t.name.size := rfl
    simp only [namesB, List.append_nil, Array.length_toList, sizeL_cons, sizeTerm, sizeStr]; omega
  | t :: u :: l => by
    have ih := namesB_bulk (u :: l)
    have e : t.name.data.size = t.name.size := rfl
    rw [sizeL_cons]
    show (t.name.data.toList ++ 44 :: namesB (u :: l)).length ≤ _
    simp only [List.length_append, Array.length_toList, List.length_cons, sizeTerm, sizeStr] at ih ⊢
    omega
theorem atomB_bulk (a : PAtom) : (atomB a).length ≤ sizeAtom a + 2 := by
  have h2 := namesB_bulk a.terms
  have h4 : (argsB a.terms).length ≤ (namesB a.terms).length + 2 := by
    unfold argsB
    split
    · simp
    · simp
  unfold atomB
  simp only [List.length_append, Array.length_toList, sizeAtom, sizeStr]
  have h5 : (if a.neg then ([33] : Bytes) else []).length ≤ 1 := by split <;> simp
  have e : a.name.data.size = a.name.size := rfl
  omega
theorem sizeAtom_pos (a : PAtom) : 3 ≤ sizeAtom a := by simp only [sizeAtom, sizeStr]; omega
theorem bodyB_bulk : ∀ l : List PAtom, (bodyB l).length ≤ 3 * sizeL sizeAtom l
  | [] => by simp [bodyB]
  | [a] => by
    have := atomB_bulk a
    have := sizeAtom_pos a
    simp only [bodyB, List.append_nil, sizeL_cons]
    omega
  | a :: b :: l => by
    have h1 := atomB_bulk a
    have h2 := bodyB_bulk (b :: l)
    have := sizeAtom_pos a
    rw [sizeL_cons]
    show (atomB a ++ 44 :: 32 :: bodyB (b :: l)).length ≤ _
    simp only [List.length_append, List.length_cons] at h2 ⊢
    omega
theorem ruleB_bulk (r : PRule) : (ruleB r).length ≤ 5 * sizeRule r := by
  have h1 := atomB_bulk r.head
  have h2 := bodyB_bulk r.body
  have := sizeAtom_pos r.head
  have h4 : (tailB r.body).length ≤ (bodyB r.body).length + 4 := by
    unfold tailB
    split
    · simp
    · simp
  unfold ruleB
  simp only [List.length_append, List.length_cons, List.length_nil, sizeRule]
  have : 1 ≤ sizeL sizeAtom r.body := by simp [sizeL]
  omega
theorem progB_bulk : ∀ l : List PRule, (progB l).length ≤ 5 * sizeL sizeRule l
  | [] => by simp [progB]
  | r :: l => by
    have h1 := ruleB_bulk r
    have h2 := progB_bulk l
    rw [progB, List.length_append, sizeL_cons]
    omega

/-- What reading a body comes to. -/
theorem body_cases (s : Str) : (parseBodyF s).1.length ≤ 5 ∧ ∀ a ∈ (parseBodyF s).1, a.terms.length ≤ 4 := by
  unfold parseBodyF
  split
  · simp
  · unfold bodyAllF
    rcases hg : bodyF 5 [] s.data.toList with ⟨er, r'⟩ | ⟨l, r⟩
    · simp
    · obtain ⟨h1, h2⟩ := bodyF_ok 5 [] _ (by simp) hg
      dsimp only
      by_cases hz : blankF false r = []
      · rw [if_pos hz]; exact ⟨by simpa using h1, fun a ha => (h2 a ha).many⟩
      · rw [if_neg hz]; simp
theorem parse_small (s : Str) : (parseF s).1.length ≤ 16 ∧ ∀ r ∈ (parseF s).1, RuleSmall r := by
  rcases parse_cases s with ⟨e, k, _, _, h⟩ | ⟨l, h, h16, hok⟩
  · rw [h]; simp
  · rw [h]; exact ⟨h16, fun r hr => (hok r hr).small⟩
theorem rulesTold {s : Str} {l : List PRule} {n : Nat} {x y : Int} (hn : l.length = n) (h : parseF s = (l, x, y)) {w w' : World} {e : Ending} (hp : ParsePost s w e w') :
    (∃ a c, e = .returned (.tuple #[.slice a n c, .agg #[.int .i64 x, .int .i64 y]]) ∧ RdRules (New w) w' (.slice a n c) l) ∧ Below w.heap.size w w' := by
  obtain ⟨⟨v, he, hr⟩, hb⟩ := hp
  refine ⟨?_, hb⟩
  rw [h] at he hr
  obtain ⟨a, c, rfl, -, -, -⟩ := id hr.form
  subst hn
  exact ⟨a, c, he, hr⟩
theorem bodyTold {s : Str} {l : List PAtom} {n : Nat} {x y : Int} (hn : l.length = n) (h : parseBodyF s = (l, x, y)) {w w' : World} {e : Ending} (hp : BodyPost s w e w') :
    (∃ a c, e = .returned (.tuple #[.slice a n c, .agg #[.int .i64 x, .int .i64 y]]) ∧ RdAtoms (New w) w' (.slice a n c) l) ∧ Below w.heap.size w w' := by
  obtain ⟨⟨v, he, hr⟩, hb⟩ := hp
  refine ⟨?_, hb⟩
  rw [h] at he hr
  obtain ⟨a, c, rfl, -, -, -⟩ := id hr.form
  subst hn
  exact ⟨a, c, he, hr⟩

/-- The worlds of the law: two faults' cells. -/
structure TlW (w W : World) (f g : Nat) (fx fy gx gy : Int) : Prop where
  below : Below w.heap.size w W
  bf : Blk W f 26 #[.int .i64 fx, .int .i64 fy]
  bg : Blk W g 26 #[.int .i64 gx, .int .i64 gy]
  lf : w.heap.size ≤ f
  lg : w.heap.size ≤ g
  ne : f ≠ g
section
variable {w W W' : World} {f g : Nat} {fx fy gx gy : Int}
theorem TlW.next (h : TlW w W f g fx fy gx gy) (hb : Below W.heap.size W W') : TlW w W' f g fx fy gx gy :=
  ⟨h.below.trans (hb.mono h.below.size), h.bf.below hb h.bf.lt, h.bg.below hb h.bg.lt, h.lf, h.lg, h.ne⟩
theorem TlW.setF (h : TlW w W f g fx fy gx gy) (a b : Int) : TlW w ((W.setCell ⟨f, 0, none⟩ (.int .i64 a)).setCell ⟨f, 1, none⟩ (.int .i64 b)) f g a b gx gy :=
  ⟨(h.below.setCell (p := ⟨f, 0, none⟩) h.lf _).setCell (p := ⟨f, 1, none⟩) h.lf _, (h.bf.set_ 0 _).set_ 1 _, (h.bg.far (p := ⟨f, 0, none⟩) h.ne.symm _).far (p := ⟨f, 1, none⟩) h.ne.symm _, h.lf, h.lg, h.ne⟩
theorem TlW.setG (h : TlW w W f g fx fy gx gy) (a b : Int) : TlW w ((W.setCell ⟨g, 0, none⟩ (.int .i64 a)).setCell ⟨g, 1, none⟩ (.int .i64 b)) f g fx fy a b :=
  ⟨(h.below.setCell (p := ⟨g, 0, none⟩) h.lg _).setCell (p := ⟨g, 1, none⟩) h.lg _, (h.bf.far (p := ⟨g, 0, none⟩) h.ne _).far (p := ⟨g, 1, none⟩) h.ne _, (h.bg.set_ 0 _).set_ 1 _, h.lf, h.lg, h.ne⟩
end
theorem agreeSet2 {S : Nat → Prop} {W : World} {f : Nat} (hf : ¬ S f) (a b : Int) : Agree S W ((W.setCell ⟨f, 0, none⟩ (.int .i64 a)).setCell ⟨f, 1, none⟩ (.int .i64 b)) :=
  (Agree.setCell (p := ⟨f, 0, none⟩) hf _).trans (Agree.setCell (p := ⟨f, 1, none⟩) hf _)

attribute [local go_sem ↓] Go.wp_at_zero Go.wp_at_succ
set_option maxRecDepth 100000 in
set_option maxHeartbeats 8000000 in
theorem syntaxTellsCalls (s : Str) (p : List PRule) (v : Value) (w : World) (h : RdRules (fun _ => True) w v p) (hs : s.size ≤ 1048576) (n1 : p.length ≤ 1048576) (n2 : ∀ r ∈ p, RuleSmall r) (n3 : ∀ r ∈ p, NameSmall r) (n4 : (progB p).length ≤ 1099511627776) :
    Calls Try.prog 4 #[.string s, v] w fun e w' => e = .returned (.bool true) ∧ Below w.heap.size w w' := by
  obtain ⟨va, vc, rfl, -, -, -⟩ := id h.form
  have H := Lib.hid h
  have N2 := Lib.hid n2
  have N3 := Lib.hid n3
  obtain ⟨hl16, hsm⟩ := parse_small s
  obtain ⟨hb5, hbt⟩ := body_cases s
  obtain ⟨l, x, y, hp⟩ : ∃ l x y, parseF s = (l, x, y) := ⟨_, _, _, rfl⟩
  obtain ⟨bl, bx, by', hq⟩ : ∃ l x y, parseBodyF s = (l, x, y) := ⟨_, _, _, rfl⟩
  rw [hp] at hl16 hsm
  rw [hq] at hb5 hbt
  dsimp only at hl16 hsm hb5 hbt
  have K1 := Lib.hid (fun W => (parseCalls s W hs).mono fun e w' hh => rulesTold (n := l.length) rfl hp hh)
  have K2 := Lib.hid (fun W => (parseRef s W hs).mono fun e w' hh => rulesTold (n := l.length) rfl hp hh)
  have K3 := Lib.hid (fun W => (bodyTextCalls s W hs).mono fun e w' hh => bodyTold (n := bl.length) rfl hq hh)
  have K4 := Lib.hid (fun W => (bodyTextRef s W hs).mono fun e w' hh => bodyTold (n := bl.length) rfl hq hh)
  have K5 := Lib.hid (fun W => variableCalls s W (by omega))
  have K6 := Lib.hid (fun W => variableRef s W (by omega))
  obtain ⟨vb, hvb⟩ : ∃ vb, variableS s = vb := ⟨_, rfl⟩
  rw [hvb] at K5 K6
  obtain ⟨t, HT⟩ : ∃ t, Hid (strOf (progB p) = t) := ⟨_, Lib.hid rfl⟩
  have K7 : Hid (∀ W, Below w.heap.size w W → Calls Try.prog 23 #[.slice va p.length vc] W fun e w' => e = .returned (.string t) ∧ Below W.heap.size W w') := Lib.hid fun W hW => by
    have := printText p _ W (H.out.up hW) n1 N2.out N3.out n4
    rwa [HT.out] at this
  have K8 : Hid (∀ W, Below w.heap.size w W → Calls Try.prog 24 #[.slice va p.length vc] W fun e w' => e = .returned (.string t) ∧ Below W.heap.size W w') := Lib.hid fun W hW => by
    have := printTextRef p _ W (H.out.up hW) n1 N2.out N3.out n4
    rwa [HT.out] at this
  have hnf1 := fun w => neqFault2 x y w
  have hnf2 := fun w => neqFault2 bx by' w
  have HSM := Lib.hid hsm
  have HBT := Lib.hid (fun z (hz : z ∈ bl) => show z.terms.length ≤ 1073741824 by have := hbt z hz; omega)
  have hnn : l.length ≤ 1073741824 := by omega
  have hbn : bl.length ≤ 1073741824 := by omega
  have htt : (t.toList == t.toList) = true := beq_self_eq_true _
  clear hp hq hsm hbt hvb h n2 n3 n4 hs
  have HB0 := Lib.hid (Below.refl w.heap.size w)
  go_enter Try.func4, Try.ntmps4
  go_wp2_with (first
    | (go_at_call 24; refine (K8.out _ HI7.out.below).mono ?_; rintro e w8 ⟨rfl, hb8⟩; have HI8 := Lib.hid (HI7.out.next hb8); clear hb8)
    | (go_at_call 23; refine (K7.out _ HI6.out.below).mono ?_; rintro e w7 ⟨rfl, hb7⟩; have HI7 := Lib.hid (HI6.out.next hb7); clear hb7)
    | (go_at_call 22; refine (K6.out _).mono ?_; rintro e w6 ⟨rfl, hb6⟩; have HI6 := Lib.hid (HI5.out.next hb6); clear hb6)
    | (go_at_call 21; have hh := HI5.out; clear hh; refine (K5.out _).mono ?_; rintro e w9 ⟨rfl, rfl⟩)
    | (go_at_call 20; refine (sameProgramRef l _ _ _ HL2.out HQ2.out hnn HSM.out).mono ?_; rintro e w5 ⟨rfl, hb5⟩; have HI5 := Lib.hid (HI2.out.next hb5); clear hb5)
    | (go_at_call 19; refine (K2.out _).mono ?_; rintro e w2 ⟨⟨qa, qc, rfl, hq⟩, hb2⟩; have HL2 := Lib.hid ((HL1.out.agree RRule.steady (Below.agree hb2)).agree RRule.steady ((Agree.refl _ _).alloc (.cells #[.int .i64 x, .int .i64 y] 26))); have HQ2 := Lib.hid ((hq.more (S' := fun _ => True) RRule.steady (fun _ _ _ => trivial)).agree RRule.steady ((Agree.refl _ _).alloc (.cells #[.int .i64 x, .int .i64 y] 26))); have HI2 := Lib.hid (show TlW w (w2.alloc (.cells #[.int .i64 x, .int .i64 y] 26)) w1.heap.size w2.heap.size x y x y from ⟨(HB1.out.trans (hb2.mono HB1.out.size)).alloc (Nat.le_trans HB1.out.size hb2.size) _, (HF1.out.below hb2 HF1.out.lt).alloc _, Blk.new w2 _ _, HW1.out, Nat.le_trans HB1.out.size hb2.size, Nat.ne_of_lt (Nat.lt_of_lt_of_le HF1.out.lt hb2.size)⟩); clear hb2 hq; have hf1 := HI2.out.bf.cell 0; have hf2 := HI2.out.bf.cell 1; have hg1 := HI2.out.bg.cell 0; have hg2 := HI2.out.bg.cell 1; simp only [List.getElem?_toArray, List.getElem?_cons_zero, List.getElem?_cons_succ] at hf1 hf2 hg1 hg2)
    | (go_at_call 18; refine (K1.out _).mono ?_; rintro e w1 ⟨⟨la, lc, rfl, hl⟩, hb1⟩; have HB1 := Lib.hid ((HB0.out.trans (hb1.mono HB0.out.size)).alloc (Nat.le_trans HB0.out.size hb1.size) (.cells #[.int .i64 x, .int .i64 y] 26)); have HL1 := Lib.hid ((hl.more (S' := fun _ => True) RRule.steady (fun _ _ _ => trivial)).agree RRule.steady ((Agree.refl _ _).alloc (.cells #[.int .i64 x, .int .i64 y] 26))); have HF1 := Lib.hid (Blk.new w1 26 #[.int .i64 x, .int .i64 y]); have HW1 := Lib.hid hb1.size; clear hl hb1))
  clear HI2 HI5 HI6 HI7 HB1 HF1 HL1 HL2 HQ2 hf1 hf2 hg1 hg2 HB0
  go_wp2_with (first
    | (go_at_call 27; refine (sameAtomsRef bl _ _ _ HX11.out HY11.out hbn HBT.out).mono ?_; rintro e w12 ⟨rfl, hb12⟩; have HI12 := Lib.hid (HI11.out.next hb12); clear hb12)
    | (go_at_call 26; refine (K4.out _).mono ?_; rintro e w10 ⟨⟨ya, yc, rfl, hy⟩, hb10⟩; have HJ10 := Lib.hid (HI9.out.next hb10); have HI11 := Lib.hid (HJ10.out.setG bx by'); have HX11 := Lib.hid (((HX9.out.agree RAtom.steady (Below.agree hb10)).agree RAtom.steady (agreeSet2 (f := w2.heap.size) (fun h => h.2 rfl) bx by')).more (S' := fun _ => True) RAtom.steady (fun _ _ _ => trivial)); have HY11 := Lib.hid (((hy.more (S' := fun b => b ≠ w1.heap.size ∧ b ≠ w2.heap.size) RAtom.steady (fun b hb _ => by have h := hb; simp only [New] at h; have h1 := HI9.out.bf.lt; have h2 := HI9.out.bg.lt; constructor <;> omega)).agree RAtom.steady (agreeSet2 (f := w2.heap.size) (fun h => h.2 rfl) bx by')).more (S' := fun _ => True) RAtom.steady (fun _ _ _ => trivial)); have g0 := HJ10.out.bg.cell 0; have g1 := HJ10.out.bg.cell 1; have z0 := HJ10.out.bg.frozen 0; have z1 := HJ10.out.bg.frozen 1; have d0 := HI11.out.bf.cell 0; have d1 := HI11.out.bf.cell 1; have d2 := HI11.out.bg.cell 0; have d3 := HI11.out.bg.cell 1; simp only [List.getElem?_toArray, List.getElem?_cons_zero, List.getElem?_cons_succ] at g0 g1 d0 d1 d2 d3; clear hb10 hy)
    | (go_at_call 25; refine (K3.out _).mono ?_; rintro e w9 ⟨⟨xa, xc, rfl, hx⟩, hb9⟩; have HJ9 := Lib.hid (HI8.out.next hb9); have HI9 := Lib.hid (HJ9.out.setF bx by'); have HX9 := Lib.hid ((hx.more (S' := fun b => b ≠ w1.heap.size ∧ b ≠ w2.heap.size) RAtom.steady (fun b hb _ => by have h := hb; simp only [New] at h; have h1 := HI8.out.bf.lt; have h2 := HI8.out.bg.lt; constructor <;> omega)).agree RAtom.steady (agreeSet2 (f := w1.heap.size) (fun h => h.1 rfl) bx by')); have c0 := HJ9.out.bf.cell 0; have c1 := HJ9.out.bf.cell 1; have f0 := HJ9.out.bf.frozen 0; have f1 := HJ9.out.bf.frozen 1; simp only [List.getElem?_toArray, List.getElem?_cons_zero, List.getElem?_cons_succ] at c0 c1; clear hb9 hx))
  have HBE := Lib.hid HI12.out.below
  clear HI8 HI9 HI11 HI12 HJ9 HJ10 HX9 HX11 HY11 g0 g1 z0 z1 d0 d1 d2 d3 c0 c1 f0 f1 K1 K2 K3 K4 K5 K6 K7 K8 hnf1 hnf2 htt
  go_loopw [67] (fun i wr => ∃ k : Nat, k ≤ p.length ∧ i = .int .i64 k ∧ Hid (Below w.heap.size w wr)) (fun i _ => p.length - (intOf i).toNat)
  case atStart => exact ⟨0, Nat.zero_le _, rfl, HBE⟩
  case round =>
    clear HBE
    obtain ⟨k, hk, rfl, HP⟩ := hrel
    by_cases hlt : k < p.length
    · obtain ⟨z, hz⟩ : ∃ z, p[k]? = some z := ⟨_, List.getElem?_eq_getElem hlt⟩
      have hmem := List.mem_of_getElem? hz
      obtain ⟨b1, o1, tv, bv, rfl, -, hb1, d0, d1, d2, d3, htv, hbv⟩ := RdRules.at H.out hz
      obtain ⟨ta, tc, rfl, -, -, -⟩ := id htv.form
      obtain ⟨ba, bc, rfl, -, -, -⟩ := id hbv.form
      have HRA := Lib.hid (show RuleAt (fun _ => True) w b1 (o1 + k * 4) z (.slice ta z.head.terms.length tc) (.slice ba z.body.length bc) from ⟨hb1, d0, d1, d2, d3, htv, hbv⟩)
      have HS := Lib.hid (N2.out z hmem)
      have HN := Lib.hid (N3.out z hmem)
      clear d0 d1 d2 d3
      obtain ⟨-, d0, d1, d2, d3, -, -⟩ := HRA.out.up HP.out
      have HP1 := Lib.hid (HP.out.alloc HP.out.size (.cells #[.bool z.head.neg, .string z.head.name, .slice ta z.head.terms.length tc, .slice ba z.body.length bc] 33))
      have HR1 := Lib.hid (Blk.new wr 33 #[.bool z.head.neg, .string z.head.name, .slice ta z.head.terms.length tc, .slice ba z.body.length bc])
      have KA : Hid (∀ W, Below w.heap.size w W → Calls Try.prog 28 #[.agg #[.bool z.head.neg, .string z.head.name, .slice ta z.head.terms.length tc]] W fun e w' => e = .returned (.string (strOf (atomB z.head))) ∧ Below W.heap.size W w') := Lib.hid fun W hW => atomText z.head _ _ (HRA.out.up hW).t HS.out.h1 HS.out.h2 HN.out.h
      have KB : Hid (∀ W, Below w.heap.size w W → Calls Try.prog 29 #[.agg #[.bool z.head.neg, .string z.head.name, .slice ta z.head.terms.length tc]] W fun e w' => e = .returned (.string (strOf (atomB z.head))) ∧ Below W.heap.size W w') := Lib.hid fun W hW => atomTextRef z.head _ _ (HRA.out.up hW).t HS.out.h1 HS.out.h2 HN.out.h
      obtain ⟨W1, hW1⟩ : ∃ W1, wr.alloc (.cells #[.bool z.head.neg, .string z.head.name, .slice ta z.head.terms.length tc, .slice ba z.body.length bc] 33) = W1 := ⟨_, rfl⟩
      rw [hW1] at HP1 HR1
      obtain ⟨u, HU⟩ : ∃ u, Hid (strOf (atomB z.head) = u) := ⟨_, Lib.hid rfl⟩
      rw [HU.out] at KA KB
      have huu : (u.toList == u.toList) = true := beq_self_eq_true _
      have HPD := Lib.hid (belowDrew HP1.out)
      have HRD := Lib.hid HR1.out.drew
      have a0 := HRD.out.cell 0
      have a1 := HRD.out.cell 1
      have a2 := HRD.out.cell 2
      simp only [List.getElem?_toArray, List.getElem?_cons_zero, List.getElem?_cons_succ] at a0 a1 a2
      clear hz hmem htv hbv
      go_wp2_with fail
      go_region_held3 (fun w' => w'.cell? ⟨wr.heap.size, 0, none⟩ = some (.bool z.head.neg) ∧ w'.cell? ⟨wr.heap.size, 1, none⟩ = some (.string z.head.name) ∧ w'.cell? ⟨wr.heap.size, 2, none⟩ = some (.slice ta z.head.terms.length tc))
        (first | (exact ⟨e0, e1, e2⟩) | (exact ⟨b0, b1', b2⟩) | (exact ⟨a0, a1, a2⟩) | go_keep)
        (first
          | (go_at_call 28; refine (KA.out _ HPD.out).mono ?_; rintro e w2 ⟨rfl, hb2⟩; have HP2 := Lib.hid (HPD.out.trans (hb2.mono HPD.out.size)); have HR2 := Lib.hid (HRD.out.below hb2 HRD.out.lt); clear hb2; have b0 := HR2.out.cell 0; have b1' := HR2.out.cell 1; have b2 := HR2.out.cell 2; simp only [List.getElem?_toArray, List.getElem?_cons_zero, List.getElem?_cons_succ] at b0 b1' b2)
          | (go_at_call 29; refine (KB.out _ HP2.out).mono ?_; rintro e w3 ⟨rfl, hb3⟩; have HP3 := Lib.hid (HP2.out.trans (hb3.mono HP2.out.size)); have HR3 := Lib.hid (HR2.out.below hb3 HR2.out.lt); clear hb3; have e0 := HR3.out.cell 0; have e1 := HR3.out.cell 1; have e2 := HR3.out.cell 2; simp only [List.getElem?_toArray, List.getElem?_cons_zero, List.getElem?_cons_succ] at e0 e1 e2))
      all_goals
        go_wp2
        go_roundw
        case rel => exact ⟨k + 1, by omega, by go_num, HP3⟩
        case measure => simp [intOf]; omega
    · go_wp2
      go_ret
      exact ⟨rfl, HP.out⟩
namespace syntaxTells
theorem own : ownKnob Try.prog.godebug = none := by kernel_rfl

set_option maxRecDepth 100000 in
theorem contract (H : Type) (enc : TypeId × Value → H) (W : World) (base : Nat) (args : Array Value) (ds gs : List (DataW H)) (before : List MemPlace)
    (hval : ∀ (j : Nat) t v, Try.f4.params[j]? = some t → args[j]? = some v → Value.okWide Try.prog W .any base t v)
    (hW : DataW.Whole enc Try.prog Try.f4.params.toList Rows.syntaxTellsSpec.vars false W args.toList ds gs before) (hk : Rows.uptoSmall H (ds ++ gs) = true) :
    Calls Try.prog 4 args W fun e W' => ∃ v, e = .returned v ∧ Rows.syntaxTellsSpec.post enc Try.prog Try.f4 false true false false W args v W' := by
  have hW' := hW
  obtain ⟨p, q, hA0, hV, rfl, hfz, hnd⟩ := hW
  have hA : DataW.TrodAll enc Try.prog W 0 (fun _ => true) true Try.f4.params.toList args.toList ds p := hA0
  rw [Try.params4] at hA hval
  obtain ⟨v0, v1, d0, d1, p0, p1, rfl, rfl, rfl, h0, h1⟩ := trodAll_two hA
  obtain ⟨rfl, rfl⟩ := trodVars_none hV
  obtain ⟨x0, rfl, s0⟩ := openStr.strArg Try.underlying9 (hval 0 9 v0 rfl rfl) h0
  obtain ⟨x1, r1, s1⟩ := openRule.sliceArg Try.underlying23 (hval 1 23 v1 rfl rfl) h1
  rw [List.append_nil] at hk
  have hb : Rows.uptoBulkAll [d0, d1] ≤ 1048576 := of_decide_eq_true hk
  simp only [Rows.uptoBulkAll] at hb
  obtain ⟨l1, m1, k1⟩ := rules_small (p := x1) (by omega)
  refine (syntaxTellsCalls x0 x1 v1 W r1 (by omega) l1 m1 k1 (by have := progB_bulk x1; omega)).mono fun e W' ⟨he, hb'⟩ => ?_
  subst he
  exact ⟨_, rfl, law_post (tb := 4) hW' rfl rfl (by kernel_rfl) Try.underlying4 (by kernel_rfl) (by kernel_rfl) hb'⟩

set_option maxRecDepth 100000 in
theorem lifted (os : Os) (started : os.Started) (H : Type) (enc : TypeId × Value → H) (F : Stop.Interp) :
    ReturnsInHanded {} Try.checked os 4 .any ((Rows.OpenSpec.upto Rows.syntaxTellsSpec).pre6 enc Try.prog Try.f4 Rows.syntaxTellsUptoRow.domain false) (((Rows.OpenSpec.upto Rows.syntaxTellsSpec).at F).post enc Try.prog Try.f4 false true false false) := by
  refine returnsInHanded_of_cond (C := Try.checked) (s := Rows.OpenSpec.upto Rows.syntaxTellsSpec) (k := Rows.uptoSmall) rfl own started (by kernel_rfl) Try.func4
    (OpenSpec.witness (enc := enc) (C := Try.checked) (s := Rows.OpenSpec.upto Rows.syntaxTellsSpec) (k := Rows.uptoSmall) rfl false ⟨#[], #[.string .empty, .slice none 0 0], []⟩ 8 (by kernel_rfl) (by kernel_rfl) (by kernel_rfl)
      (x := ([.lit (.string []), .nil], [], [])) (by kernel_rfl) rfl (by kernel_rfl)) ?_
  intro W base args ds gs before hval hW _ hk _
  exact contract H enc W base args ds gs before hval hW hk

theorem proved : Rows.SyntaxTellsUptoSaid :=
  OpenClaim.holds_of_cond 4 Try.f4 rfl rfl rfl rfl rfl rfl rfl ⟨rfl, rfl, rfl, rfl, rfl⟩ rfl rfl rfl rfl rfl (by kernel_rfl) Try.func4 (by kernel_rfl)
    (of_decide_eq_true (by kernel_rfl)) (by unfold Func.isWrapper; first | (rw [if_pos (by decide +kernel)]; kernel_rfl) | (rw [if_neg (by decide +kernel)]; exact ⟨rfl, rfl⟩))
    (fun os started H enc _ F => lifted os started H enc F)
end syntaxTells


end Go.Proofs.Ytobbjapmdpkogaa
