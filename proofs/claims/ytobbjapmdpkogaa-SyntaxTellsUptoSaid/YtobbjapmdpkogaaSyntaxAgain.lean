/-
  CLAIM: SyntaxAgain: of any text of bulk at most 1048576 the law answers true.
-/
import Derived.Test.YtobbjapmdpkogaaAlive2
import Derived.Test.YtobbjapmdpkogaaSame2
import Derived.Test.YtobbjapmdpkogaaRulesIn
namespace Go.Proofs.Ytobbjapmdpkogaa
open Go.RowKit Go.ChangeShapes Go.WideShapes Go.ChangeAt

theorem nameL_len {l : Bytes} (h : nameL l = true ∨ varL l = true) : l.length ≤ 12 := by
  rcases h with h | h
  · simp only [nameL, Bool.and_eq_true, decide_eq_true_eq] at h; exact h.1
  · simp only [varL, Bool.and_eq_true, decide_eq_true_eq] at h; exact h.1
theorem name_size {s : Str} (h : nameL s.data.toList = true ∨ varL s.data.toList = true) : s.size ≤ 12 := by
  have := nameL_len h
  rwa [Array.length_toList] at this
theorem namesB_len12 : ∀ l : List PTerm, (∀ t ∈ l, t.name.size ≤ 12) → (namesB l).length ≤ l.length * 13
  | [], _ => by simp [namesB]
  | [t], h => by
    have := h t (by simp)
    simp only [namesB, List.length_append, Array.length_toList, List.length_nil, List.length_cons]
    have e : t.name.data.size = t.name.size := rfl
    omega
  | t :: u :: l, h => by
    have := h t (by simp)
    have ih := namesB_len12 (u :: l) (fun x hx => h x (by simp [hx]))
    show (t.name.data.toList ++ 44 :: namesB (u :: l)).length ≤ _
    simp only [List.length_append, Array.length_toList, List.length_cons] at ih ⊢
    have e : t.name.data.size = t.name.size := rfl
    omega
theorem AtomOk.len {a : PAtom} (h : AtomOk a) : (atomB a).length ≤ 67 := by
  have h1 := nameL_len (.inl h.name)
  have h2 := namesB_len12 a.terms (fun t ht => name_size (h.terms t ht).1)
  have h3 : a.terms.length * 13 ≤ 4 * 13 := Nat.mul_le_mul_right _ h.many
  have h4 : (argsB a.terms).length ≤ (namesB a.terms).length + 2 := by
    unfold argsB
    split
    · simp
    · simp
  unfold atomB
  simp only [List.length_append]
  have h5 : (if a.neg then ([33] : Bytes) else []).length ≤ 1 := by split <;> simp
  omega
theorem bodyB_len : ∀ l : List PAtom, (∀ a ∈ l, AtomOk a) → (bodyB l).length ≤ l.length * 69
  | [], _ => by simp [bodyB]
  | [a], h => by
    have := (h a (by simp)).len
    simp only [bodyB, List.append_nil, List.length_cons, List.length_nil]
    omega
  | a :: b :: l, h => by
    have h1 := (h a (by simp)).len
    have h2 := bodyB_len (b :: l) (fun x hx => h x (by simp [hx]))
    show (atomB a ++ 44 :: 32 :: bodyB (b :: l)).length ≤ _
    simp only [List.length_append, List.length_cons] at h2 ⊢
    omega
theorem RuleOk.len {r : PRule} (h : RuleOk r) : (ruleB r).length ≤ 418 := by
  have h1 := h.head.len
  have h2 := bodyB_len r.body h.body
  have h3 : r.body.length * 69 ≤ 5 * 69 := Nat.mul_le_mul_right _ h.many
  have h4 : (tailB r.body).length ≤ (bodyB r.body).length + 4 := by
    unfold tailB
    split
    · simp
    · simp
  unfold ruleB
  simp only [List.length_append, List.length_cons, List.length_nil]
  omega
theorem progB_len : ∀ l : List PRule, (∀ r ∈ l, RuleOk r) → (progB l).length ≤ l.length * 418
  | [], _ => by simp [progB]
  | r :: l, h => by
    have h1 := (h r (by simp)).len
    have h2 := progB_len l (fun x hx => h x (by simp [hx]))
    rw [progB, List.length_append, List.length_cons]
    omega
theorem RuleOk.small {r : PRule} (h : RuleOk r) : RuleSmall r := by
  refine ⟨by have := h.head.many; omega, fun t ht => by have := name_size (h.head.terms t ht).1; omega, by have := h.many; omega, fun a ha => by have := (h.body a ha).many; omega, fun a ha t ht => by have := name_size ((h.body a ha).terms t ht).1; omega⟩
theorem RuleOk.names {r : PRule} (h : RuleOk r) : NameSmall r :=
  ⟨by have := name_size (.inl h.head.name); omega, fun a ha => by have := name_size (.inl (h.body a ha).name); omega⟩

/-- What reading a text comes to. -/
theorem parse_cases (s : Str) : (∃ (e : Int) (k : Nat), e ≠ 0 ∧ k ≤ s.size ∧ parseF s = ([], e, (k : Int))) ∨ (∃ l, parseF s = (l, 0, 0) ∧ l.length ≤ 16 ∧ (∀ r ∈ l, RuleOk r)) := by
  by_cases h3 : 3000 < s.size
  · exact .inl ⟨4, 0, by decide, Nat.zero_le _, parseF_long h3⟩
  · rcases hg : progF 16 [] (rest s 0) with ⟨er, r'⟩ | ⟨l, r⟩
    · exact .inl ⟨er, posF s r', by have := progF_bad 16 [] (rest s 0); rw [hg] at this; exact this, posF_le s r', parseF_error h3 hg⟩
    · obtain ⟨h1, h2⟩ := progF_ok 16 [] _ (by simp) hg
      exact .inr ⟨l, parseF_ok h3 hg, by simpa using h1, h2⟩
theorem progF_wrong (n : Nat) (acc : List PRule) (r : Bytes) (e : Int) (r' : Bytes) (h : progF n acc r = .error (e, r')) : e ≠ 0 := by
  have := progF_bad n acc r
  rw [h] at this
  exact this
theorem parseTold {s : Str} {l : List PRule} {n : Nat} {x y : Int} (hn : l.length = n) (hs : s.size ≤ 1048576) (h : parseF s = (l, x, y)) (w : World) :
    Calls Try.prog 18 #[.string s] w fun e w' => (∃ a c, e = .returned (.tuple #[.slice a n c, .agg #[.int .i64 x, .int .i64 y]]) ∧ RdRules (New w) w' (.slice a n c) l) ∧ Below w.heap.size w w' := by
  refine (parseCalls s w hs).mono fun e w' ⟨⟨v, he, hr⟩, hb⟩ => ⟨?_, hb⟩
  rw [h] at he hr
  obtain ⟨a, c, rfl, -, -, -⟩ := id hr.form
  subst hn
  exact ⟨a, c, he, hr⟩
theorem strOf_size (l : Bytes) : (strOf l).size = l.length := by simp [strOf, ByteArray.size]

set_option maxRecDepth 100000 in
set_option maxHeartbeats 8000000 in
theorem syntaxAgainCalls (s : Str) (w : World) (hs : s.size ≤ 1048576) :
    Calls Try.prog 5 #[.string s] w fun e w' => e = .returned (.bool true) ∧ Below w.heap.size w w' := by
  rcases parse_cases s with ⟨er, k, he, hk, hp⟩ | ⟨l, hp, hl16, hok⟩
  · have K := Lib.hid (fun W => parseTold (n := 0) (by rfl) hs hp W)
    have hne : (er != 0) = true := by simpa using he
    have i1 : (0 : Int) ≤ (k : Int) := by omega
    have i2 : (k : Int) ≤ (s.size : Int) := by omega
    clear hp he
    go_enter Try.func5, Try.ntmps5
    go_wp2_with (first
      | (go_at_call 18; refine (K.out _).mono ?_; rintro e w2 ⟨⟨la, lc, rfl, -⟩, hb2⟩; have HB2 := Lib.hid ((HB1.out.trans (hb2.mono HB1.out.size)).alloc (Nat.le_trans HB1.out.size hb2.size) (.cells #[.int .i64 er, .int .i64 (k : Int)] 26)); clear hb2)
      | (go_at_call 30; refine (alive2Calls _).mono ?_; rintro e w1 ⟨rfl, hb1⟩; have HB1 := Lib.hid hb1; clear hb1))
    go_wp2
    go_ret
    exact ⟨rfl, HB2.out⟩
  have HPF := Lib.hid hp
  have K := Lib.hid (fun W => parseTold (n := l.length) (by rfl) hs hp W)
  have hpl : (progB l).length ≤ 1099511627776 := by
    have h1 := progB_len l hok
    have h2 : l.length * 418 ≤ 16 * 418 := Nat.mul_le_mul_right _ hl16
    omega
  have hll : l.length ≤ 1048576 := by omega
  have HSM := Lib.hid (fun r (hr : r ∈ l) => (hok r hr).small)
  have HNM := Lib.hid (fun r (hr : r ∈ l) => (hok r hr).names)
  have hprint := parseF_print hp (t := strOf (progB l)) (bytes_of_strOf _) progF_wrong
  obtain ⟨t, HT⟩ : ∃ t, Hid (strOf (progB l) = t) := ⟨_, Lib.hid rfl⟩
  rw [HT.out] at hprint
  have KP := Lib.hid (fun (v : Value) (W : World) (h : RdRules (fun _ => True) W v l) => show Calls Try.prog 23 #[v] W fun e w' => e = .returned (.string t) ∧ Below W.heap.size W w' from by
    have := printText l v W h hll HSM.out HNM.out hpl
    rwa [HT.out] at this)
  have hts : t.size ≤ 1099511627776 := by rw [← HT.out, strOf_size]; exact hpl
  have htl : t.size ≤ 1048576 := by
    rw [← HT.out, strOf_size]
    have h1 := progB_len l hok
    have h2 : l.length * 418 ≤ 16 * 418 := Nat.mul_le_mul_right _ hl16
    omega
  clear hp hok hpl
  by_cases hbig : 3000 < t.size
  · rw [if_pos hbig] at hprint
    have KT := Lib.hid (fun W => parseTold (n := 0) (by rfl) htl hprint W)
    have T1 := Lib.hid True.intro
    clear hprint hbig hts htl
    go_enter Try.func5, Try.ntmps5
    go_wp2_with (first
      | (go_at_call 18; have hb := HB3.out; clear hb; refine (KT.out _).mono ?_; rintro e w4 ⟨⟨qa, qc, rfl, -⟩, hb4⟩; have HB4 := Lib.hid (HB3.out.trans (hb4.mono HB3.out.size)); have HF4 := Lib.hid (HF3.out.below hb4 HF3.out.lt); clear hb4; have c0 := HF4.out.cell 0; have c1 := HF4.out.cell 1; have f0 := HF4.out.frozen 0; have f1 := HF4.out.frozen 1; simp only [List.getElem?_toArray, List.getElem?_cons_zero, List.getElem?_cons_succ] at c0 c1; have hf4 := HF4.out.lt)
      | (go_at_call 18; clear T1; refine (K.out _).mono ?_; rintro e w2 ⟨⟨la, lc, rfl, hl⟩, hb2⟩; have HB2 := Lib.hid ((HB1.out.trans (hb2.mono HB1.out.size)).alloc (Nat.le_trans HB1.out.size hb2.size) (.cells #[.int .i64 0, .int .i64 0] 26)); have HL2 := Lib.hid ((hl.more (S' := fun _ => True) RRule.steady (fun _ _ _ => trivial)).agree RRule.steady ((Agree.refl _ _).alloc (.cells #[.int .i64 0, .int .i64 0] 26))); have HF2 := Lib.hid (Blk.new w2 26 #[.int .i64 0, .int .i64 0]); have HW2 := Lib.hid (Nat.le_trans HB1.out.size hb2.size); clear hl hb2)
      | (go_at_call 23; refine (KP.out _ _ HL2.out).mono ?_; rintro e w3 ⟨rfl, hb3⟩; have HB3 := Lib.hid (HB2.out.trans (hb3.mono HB2.out.size)); have HF3 := Lib.hid (HF2.out.below hb3 HF2.out.lt); clear hb3)
      | (go_at_call 30; refine (alive2Calls _).mono ?_; rintro e w1 ⟨rfl, hb1⟩; have HB1 := Lib.hid hb1; clear hb1))
    go_wp2
    go_ret
    exact ⟨rfl, (HB4.out.setCell HW2.out _).setCell HW2.out _⟩
  · rw [if_neg hbig] at hprint
    have KT := Lib.hid (fun W => parseTold (n := l.length) (by rfl) htl hprint W)
    have T1 := Lib.hid True.intro
    have hnn : l.length ≤ 1073741824 := by omega
    have hss : (t.toList == t.toList) = true := beq_self_eq_true _
    clear hprint hbig hts htl
    go_enter Try.func5, Try.ntmps5
    go_wp2_with (first
      | (go_at_call 23; refine (KP.out _ _ HQ6.out).mono ?_; rintro e w7 ⟨rfl, hb7⟩; have HB7 := Lib.hid (HB6.out.trans (hb7.mono HB6.out.size)); clear hb7)
      | (go_at_call 20; refine (sameProgramRef l _ _ _ HL5.out HQ5.out hnn HSM.out).mono ?_; rintro e w6 ⟨rfl, hb6⟩; have HB6 := Lib.hid (HB5.out.trans (hb6.mono HB5.out.size)); have HQ6 := Lib.hid (HQ5.out.agree RRule.steady (Below.agree hb6)); clear hb6)
      | (go_at_call 18; have hb := HB3.out; clear hb; refine (KT.out _).mono ?_; rintro e w4 ⟨⟨qa, qc, rfl, hq⟩, hb4⟩; have HB4 := Lib.hid (HB3.out.trans (hb4.mono HB3.out.size)); have HF4 := Lib.hid (HF3.out.below hb4 HF3.out.lt); have HL4 := Lib.hid (HL3.out.agree RRule.steady (Below.agree hb4)); have HQ4 := Lib.hid (hq.more (S' := fun b => b ≠ w2.heap.size) RRule.steady (fun b hb _ => by have h1 : w3.heap.size ≤ b := hb; have h2 := HF3.out.lt; omega)); clear hb4 hq; have c0 := HF4.out.cell 0; have c1 := HF4.out.cell 1; have f0 := HF4.out.frozen 0; have f1 := HF4.out.frozen 1; simp only [List.getElem?_toArray, List.getElem?_cons_zero, List.getElem?_cons_succ] at c0 c1; have hf4 := HF4.out.lt; have hag : Agree (fun b => b ≠ w2.heap.size) w4 ((w4.setCell ⟨w2.heap.size, 0, none⟩ (.int .i64 0)).setCell ⟨w2.heap.size, 1, none⟩ (.int .i64 0)) := (Agree.setCell (p := ⟨w2.heap.size, 0, none⟩) (fun h => h rfl) _).trans (Agree.setCell (p := ⟨w2.heap.size, 1, none⟩) (fun h => h rfl) _); have HL5 := Lib.hid (HL4.out.agree RRule.steady hag); have HQ5 := Lib.hid ((HQ4.out.agree RRule.steady hag).more (S' := fun _ => True) RRule.steady (fun _ _ _ => trivial)); have HB5 := Lib.hid ((HB4.out.setCell (p := ⟨w2.heap.size, 0, none⟩) HW2.out (.int .i64 0)).setCell (p := ⟨w2.heap.size, 1, none⟩) HW2.out (.int .i64 0)); clear hag)
      | (go_at_call 18; clear T1; refine (K.out _).mono ?_; rintro e w2 ⟨⟨la, lc, rfl, hl⟩, hb2⟩; have HB2 := Lib.hid ((HB1.out.trans (hb2.mono HB1.out.size)).alloc (Nat.le_trans HB1.out.size hb2.size) (.cells #[.int .i64 0, .int .i64 0] 26)); have HL2 := Lib.hid ((hl.more (S' := fun b => b ≠ w2.heap.size) RRule.steady (fun _ _ hb => Nat.ne_of_lt hb)).agree RRule.steady ((Agree.refl _ _).alloc (.cells #[.int .i64 0, .int .i64 0] 26))); have HF2 := Lib.hid (Blk.new w2 26 #[.int .i64 0, .int .i64 0]); have HW2 := Lib.hid (Nat.le_trans HB1.out.size hb2.size); clear hl hb2)
      | (go_at_call 23; refine (KP.out _ _ (HL2.out.more (S' := fun _ => True) RRule.steady (fun _ _ _ => trivial))).mono ?_; rintro e w3 ⟨rfl, hb3⟩; have HB3 := Lib.hid (HB2.out.trans (hb3.mono HB2.out.size)); have HF3 := Lib.hid (HF2.out.below hb3 HF2.out.lt); have HL3 := Lib.hid (HL2.out.agree RRule.steady (Below.agree hb3)); clear hb3)
      | (go_at_call 30; refine (alive2Calls _).mono ?_; rintro e w1 ⟨rfl, hb1⟩; have HB1 := Lib.hid hb1; clear hb1))
    go_wp2
    go_ret
    exact ⟨rfl, HB7.out⟩
namespace syntaxAgain
theorem own : ownKnob Try.prog.godebug = none := by kernel_rfl

set_option maxRecDepth 100000 in
theorem contract (H : Type) (enc : TypeId × Value → H) (W : World) (base : Nat) (args : Array Value) (ds gs : List (DataW H)) (before : List MemPlace)
    (hval : ∀ (j : Nat) t v, Try.f5.params[j]? = some t → args[j]? = some v → Value.okWide Try.prog W .any base t v)
    (hW : DataW.Whole enc Try.prog Try.f5.params.toList Rows.syntaxAgainSpec.vars false W args.toList ds gs before) (hk : Rows.uptoSmall H (ds ++ gs) = true) :
    Calls Try.prog 5 args W fun e W' => ∃ v, e = .returned v ∧ Rows.syntaxAgainSpec.post enc Try.prog Try.f5 false true false false W args v W' := by
  have hW' := hW
  obtain ⟨p, q, hA0, hV, rfl, hfz, hnd⟩ := hW
  have hA : DataW.TrodAll enc Try.prog W 0 (fun _ => true) true Try.f5.params.toList args.toList ds p := hA0
  rw [Try.params5] at hA hval
  obtain ⟨v0, d0, rfl, rfl, h0⟩ := trodAll_one hA
  obtain ⟨rfl, rfl⟩ := trodVars_none hV
  obtain ⟨x0, rfl, s0⟩ := openStr.strArg Try.underlying9 (hval 0 9 v0 rfl rfl) h0
  rw [List.append_nil] at hk
  have hb : Rows.uptoBulkAll [d0] ≤ 1048576 := of_decide_eq_true hk
  simp only [Rows.uptoBulkAll] at hb
  refine (syntaxAgainCalls x0 W (by omega)).mono fun e W' ⟨he, hb'⟩ => ?_
  subst he
  exact ⟨_, rfl, law_post (tb := 4) hW' rfl rfl (by kernel_rfl) Try.underlying4 (by kernel_rfl) (by kernel_rfl) hb'⟩

set_option maxRecDepth 100000 in
theorem lifted (os : Os) (started : os.Started) (H : Type) (enc : TypeId × Value → H) (F : Stop.Interp) :
    ReturnsInHanded {} Try.checked os 5 .any ((Rows.OpenSpec.upto Rows.syntaxAgainSpec).pre6 enc Try.prog Try.f5 Rows.syntaxAgainUptoRow.domain false) (((Rows.OpenSpec.upto Rows.syntaxAgainSpec).at F).post enc Try.prog Try.f5 false true false false) := by
  refine returnsInHanded_of_cond (C := Try.checked) (s := Rows.OpenSpec.upto Rows.syntaxAgainSpec) (k := Rows.uptoSmall) rfl own started (by kernel_rfl) Try.func5
    (OpenSpec.witness (enc := enc) (C := Try.checked) (s := Rows.OpenSpec.upto Rows.syntaxAgainSpec) (k := Rows.uptoSmall) rfl false ⟨#[], #[.string .empty], []⟩ 8 (by kernel_rfl) (by kernel_rfl) (by kernel_rfl)
      (x := ([.lit (.string [])], [], [])) (by kernel_rfl) rfl (by kernel_rfl)) ?_
  intro W base args ds gs before hval hW _ hk _
  exact contract H enc W base args ds gs before hval hW hk

theorem proved : Rows.SyntaxAgainUptoSaid :=
  OpenClaim.holds_of_cond 5 Try.f5 rfl rfl rfl rfl rfl rfl rfl ⟨rfl, rfl, rfl, rfl, rfl⟩ rfl rfl rfl rfl rfl (by kernel_rfl) Try.func5 (by kernel_rfl)
    (of_decide_eq_true (by kernel_rfl)) (by unfold Func.isWrapper; first | (rw [if_pos (by decide +kernel)]; kernel_rfl) | (rw [if_neg (by decide +kernel)]; exact ⟨rfl, rfl⟩))
    (fun os started H enc _ F => lifted os started H enc F)
end syntaxAgain

end Go.Proofs.Ytobbjapmdpkogaa
