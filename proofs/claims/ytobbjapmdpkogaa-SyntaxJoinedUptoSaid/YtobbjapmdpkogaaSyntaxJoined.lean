/-
  CLAIM: SyntaxJoined: of any two texts of bulk at most 1048576 together the law answers true.
-/
import Derived.Test.YtobbjapmdpkogaaSyntaxAgain
import Derived.Test.YtobbjapmdpkogaaSynJ
import Derived.Test.YtobbjapmdpkogaaAppendW
namespace Go.Proofs.Ytobbjapmdpkogaa
open Go.RowKit Go.ChangeShapes Go.WideShapes Go.ChangeAt

set_option maxRecDepth 100000 in
set_option maxHeartbeats 8000000 in
theorem syntaxJoinedCalls (s t : Str) (w : World) (hs : s.size ≤ 1048576) (ht : t.size ≤ 1048576) :
    Calls Try.prog 6 #[.string s, .string t] w fun e w' => e = .returned (.bool true) ∧ Below w.heap.size w w' := by
  obtain ⟨⟨m, mx, my⟩, hq⟩ : ∃ q, parseF t = q := ⟨_, rfl⟩
  have KT := Lib.hid (fun W => parseTold (n := m.length) (by rfl) ht hq W)
  rcases parse_cases s with ⟨er, k, he, hk, hp⟩ | ⟨l, hp, hl16, hok⟩
  · have K := Lib.hid (fun W => parseTold (n := 0) (by rfl) hs hp W)
    have hne : (er != 0) = true := by simpa using he
    have T1 := Lib.hid True.intro
    clear hp he hq
    go_enter Try.func6, Try.ntmps6
    go_wp2_with (first
      | (go_at_call 18; have hb := HB2.out; clear hb; refine (KT.out _).mono ?_; rintro e w3 ⟨⟨ma, mc, rfl, -⟩, hb3⟩; have HB3 := Lib.hid ((HB2.out.trans (hb3.mono HB2.out.size)).alloc (Nat.le_trans HB2.out.size hb3.size) (.cells #[.int .i64 mx, .int .i64 my] 26)); have f0 := (HF2.out.below hb3 HF2.out.lt).cell 0; simp only [List.getElem?_toArray, List.getElem?_cons_zero] at f0; have hf2 := HF2.out.lt; have hf3 := Nat.lt_of_lt_of_le hf2 hb3.size; clear hb3)
      | (go_at_call 18; clear T1; refine (K.out _).mono ?_; rintro e w2 ⟨⟨la, lc, rfl, -⟩, hb2⟩; have HB2 := Lib.hid ((HB1.out.trans (hb2.mono HB1.out.size)).alloc (Nat.le_trans HB1.out.size hb2.size) (.cells #[.int .i64 er, .int .i64 (k : Int)] 26)); have HF2 := Lib.hid (Blk.new w2 26 #[.int .i64 er, .int .i64 (k : Int)]); clear hb2)
      | (go_at_call 30; refine (alive2Calls _).mono ?_; rintro e w1 ⟨rfl, hb1⟩; have HB1 := Lib.hid hb1; clear hb1))
    go_wp2
    go_ret
    exact ⟨rfl, HB3.out⟩
  have K := Lib.hid (fun W => parseTold (n := l.length) (by rfl) hs hp W)
  have HP := Lib.hid hp
  have HOK := Lib.hid hok
  clear hp hok
  have HEND : ∀ (hmx : mx ≠ 0 ∨ 16 < l.length + m.length ∨ 3000 ≤ s.size + t.size) (hm : mx = 0 → m.length ≤ 16), Calls Try.prog 6 #[.string s, .string t] w fun e w' => e = .returned (.bool true) ∧ Below w.heap.size w w' := by
    intro hmx hm
    have T1 := Lib.hid True.intro
    by_cases h1 : mx = 0
    · have h0 : (mx != 0) = false := by simpa using h1
      have hm16 := hm h1
      have hw1 : IntKind.i64.wrap ((l.length : Int) + (m.length : Int)) = (l.length : Int) + (m.length : Int) := by rw [IntKind.wrap_i64]; omega
      have hw2 : IntKind.i64.wrap ((s.size : Int) + (t.size : Int)) = (s.size : Int) + (t.size : Int) := by rw [IntKind.wrap_i64]; omega
      by_cases h2 : 16 < l.length + m.length
      · have i1 : (16 : Int) < (l.length : Int) + (m.length : Int) := by omega
        clear hmx hm h1 h2 hq
        go_enter Try.func6, Try.ntmps6
        go_wp2_with (first
          | (go_at_call 18; have hb := HB2.out; clear hb; refine (KT.out _).mono ?_; rintro e w3 ⟨⟨ma, mc, rfl, -⟩, hb3⟩; have HB3 := Lib.hid ((HB2.out.trans (hb3.mono HB2.out.size)).alloc (Nat.le_trans HB2.out.size hb3.size) (.cells #[.int .i64 mx, .int .i64 my] 26)); have f0 := (HF2.out.below hb3 HF2.out.lt).cell 0; simp only [List.getElem?_toArray, List.getElem?_cons_zero] at f0; have hf2 := HF2.out.lt; have hf3 := Nat.lt_of_lt_of_le hf2 hb3.size; clear hb3)
          | (go_at_call 18; clear T1; refine (K.out _).mono ?_; rintro e w2 ⟨⟨la, lc, rfl, -⟩, hb2⟩; have HB2 := Lib.hid ((HB1.out.trans (hb2.mono HB1.out.size)).alloc (Nat.le_trans HB1.out.size hb2.size) (.cells #[.int .i64 0, .int .i64 0] 26)); have HF2 := Lib.hid (Blk.new w2 26 #[.int .i64 0, .int .i64 0]); clear hb2)
          | (go_at_call 30; refine (alive2Calls _).mono ?_; rintro e w1 ⟨rfl, hb1⟩; have HB1 := Lib.hid hb1; clear hb1))
        go_wp2
        go_ret
        exact ⟨rfl, HB3.out⟩
      · have i1 : ¬ ((16 : Int) < (l.length : Int) + (m.length : Int)) := by omega
        have i2 : (3000 : Int) ≤ (s.size : Int) + (t.size : Int) := by omega
        clear hmx hm h1 h2 hq
        go_enter Try.func6, Try.ntmps6
        go_wp2_with (first
          | (go_at_call 18; have hb := HB2.out; clear hb; refine (KT.out _).mono ?_; rintro e w3 ⟨⟨ma, mc, rfl, -⟩, hb3⟩; have HB3 := Lib.hid ((HB2.out.trans (hb3.mono HB2.out.size)).alloc (Nat.le_trans HB2.out.size hb3.size) (.cells #[.int .i64 mx, .int .i64 my] 26)); have f0 := (HF2.out.below hb3 HF2.out.lt).cell 0; simp only [List.getElem?_toArray, List.getElem?_cons_zero] at f0; have hf2 := HF2.out.lt; have hf3 := Nat.lt_of_lt_of_le hf2 hb3.size; clear hb3)
          | (go_at_call 18; clear T1; refine (K.out _).mono ?_; rintro e w2 ⟨⟨la, lc, rfl, -⟩, hb2⟩; have HB2 := Lib.hid ((HB1.out.trans (hb2.mono HB1.out.size)).alloc (Nat.le_trans HB1.out.size hb2.size) (.cells #[.int .i64 0, .int .i64 0] 26)); have HF2 := Lib.hid (Blk.new w2 26 #[.int .i64 0, .int .i64 0]); clear hb2)
          | (go_at_call 30; refine (alive2Calls _).mono ?_; rintro e w1 ⟨rfl, hb1⟩; have HB1 := Lib.hid hb1; clear hb1))
        go_wp2
        go_ret
        exact ⟨rfl, HB3.out⟩
    · have h0 : (mx != 0) = true := by simpa using h1
      clear hmx hm h1 hq
      go_enter Try.func6, Try.ntmps6
      go_wp2_with (first
        | (go_at_call 18; have hb := HB2.out; clear hb; refine (KT.out _).mono ?_; rintro e w3 ⟨⟨ma, mc, rfl, -⟩, hb3⟩; have HB3 := Lib.hid ((HB2.out.trans (hb3.mono HB2.out.size)).alloc (Nat.le_trans HB2.out.size hb3.size) (.cells #[.int .i64 mx, .int .i64 my] 26)); have f0 := (HF2.out.below hb3 HF2.out.lt).cell 0; simp only [List.getElem?_toArray, List.getElem?_cons_zero] at f0; have hf2 := HF2.out.lt; have hf3 := Nat.lt_of_lt_of_le hf2 hb3.size; clear hb3)
        | (go_at_call 18; clear T1; refine (K.out _).mono ?_; rintro e w2 ⟨⟨la, lc, rfl, -⟩, hb2⟩; have HB2 := Lib.hid ((HB1.out.trans (hb2.mono HB1.out.size)).alloc (Nat.le_trans HB1.out.size hb2.size) (.cells #[.int .i64 0, .int .i64 0] 26)); have HF2 := Lib.hid (Blk.new w2 26 #[.int .i64 0, .int .i64 0]); clear hb2)
        | (go_at_call 30; refine (alive2Calls _).mono ?_; rintro e w1 ⟨rfl, hb1⟩; have HB1 := Lib.hid hb1; clear hb1))
      go_wp2
      go_ret
      exact ⟨rfl, HB3.out⟩
  rcases parse_cases t with ⟨er, k, he, hk, hp2⟩ | ⟨l2, hp2, hm16, hok2⟩
  · rw [hq] at hp2
    have e1 : mx = er := congrArg (fun x => x.2.1) hp2
    exact HEND (.inl (by rw [e1]; exact he)) (fun h => absurd (e1 ▸ h) he)
  rw [hq] at hp2
  obtain ⟨rfl, rfl, rfl⟩ : m = l2 ∧ mx = 0 ∧ my = 0 := by
    refine ⟨congrArg (fun x => x.1) hp2, congrArg (fun x => x.2.1) hp2, congrArg (fun x => x.2.2) hp2⟩
  by_cases hbig : 16 < l.length + m.length ∨ 3000 ≤ s.size + t.size
  · exact HEND (.inr hbig) (fun _ => hm16)
  clear HEND hp2
  obtain ⟨u, HU⟩ : ∃ u : Str, Hid ((s ++ ⟨#[10]⟩) ++ t = u) := ⟨_, Lib.hid rfl⟩
  have hub : u.data.toList = s.data.toList ++ 10 :: t.data.toList := by rw [← HU.out, bytes_app, bytes_app]; simp
  have hus : u.size = s.size + 1 + t.size := by
    have := congrArg List.length hub
    rw [Array.length_toList, List.length_append, List.length_cons, Array.length_toList, Array.length_toList] at this
    have e1 : u.data.size = u.size := rfl
    have e2 : s.data.size = s.size := rfl
    have e3 : t.data.size = t.size := rfl
    omega
  have hju := parseF_join hub HP.out hq (by omega) (by omega) progF_wrong
  have KU := Lib.hid (fun W => parseTold (n := l.length + m.length) (by simp) (show u.size ≤ 1048576 by omega) hju W)
  have HSM := Lib.hid (show ∀ r ∈ l ++ m, RuleSmall r from fun r hr => by
    rcases List.mem_append.1 hr with hr | hr
    · exact (HOK.out r hr).small
    · exact (hok2 r hr).small)
  have i1 : ¬ ((16 : Int) < (l.length : Int) + (m.length : Int)) := by omega
  have i2 : ¬ ((3000 : Int) ≤ (s.size : Int) + (t.size : Int)) := by omega
  have hw1 : IntKind.i64.wrap ((l.length : Int) + (m.length : Int)) = (l.length : Int) + (m.length : Int) := by rw [IntKind.wrap_i64]; omega
  have hw2 : IntKind.i64.wrap ((s.size : Int) + (t.size : Int)) = (s.size : Int) + (t.size : Int) := by rw [IntKind.wrap_i64]; omega
  have hc1 : ¬ (9223372036854775807 < s.size + 1) := by omega
  have hc2 : ¬ (9223372036854775807 < s.size + 1 + t.size) := by omega
  have hlm : (l ++ m).length ≤ 1073741824 := by rw [List.length_append]; omega
  have T1 := Lib.hid True.intro
  have T2 := Lib.hid True.intro
  have hue := HU.out
  clear hq hju hok2 hbig hub hus
  go_enter Try.func6, Try.ntmps6
  go_wp2_with (first
    | (go_at_call 18; clear T1; refine (K.out _).mono ?_; rintro e w2 ⟨⟨la, lc, rfl, hl⟩, hb2⟩; have HB2 := Lib.hid ((HB1.out.trans (hb2.mono HB1.out.size)).alloc (Nat.le_trans HB1.out.size hb2.size) (.cells #[.int .i64 0, .int .i64 0] 26)); have HL2 := Lib.hid ((hl.more (S' := fun b => b ≠ w2.heap.size) RRule.steady (fun _ _ hb => Nat.ne_of_lt hb)).agree RRule.steady ((Agree.refl _ _).alloc (.cells #[.int .i64 0, .int .i64 0] 26))); have HF2 := Lib.hid (Blk.new w2 26 #[.int .i64 0, .int .i64 0]); have HW2 := Lib.hid (Nat.le_trans HB1.out.size hb2.size); clear hl hb2 K)
    | (go_at_call 18; clear T2; refine (KT.out _).mono ?_; rintro e w3 ⟨⟨ma, mc, rfl, hm⟩, hb3⟩; have HB3 := Lib.hid ((HB2.out.trans (hb3.mono HB2.out.size)).alloc (Nat.le_trans HB2.out.size hb3.size) (.cells #[.int .i64 0, .int .i64 0] 26)); have HF3 := Lib.hid ((HF2.out.below hb3 HF2.out.lt).alloc (.cells #[.int .i64 0, .int .i64 0] 26)); have HL3 := Lib.hid ((HL2.out.agree RRule.steady (Below.agree hb3)).agree RRule.steady ((Agree.refl _ _).alloc (.cells #[.int .i64 0, .int .i64 0] 26))); have HM3 := Lib.hid ((hm.more (S' := fun b => b ≠ w2.heap.size) RRule.steady (fun b hb _ => by have h1 : (w2.alloc (.cells #[.int .i64 0, .int .i64 0] 26)).heap.size ≤ b := hb; simp at h1; omega)).agree RRule.steady ((Agree.refl _ _).alloc (.cells #[.int .i64 0, .int .i64 0] 26))); have f0 := HF3.out.cell 0; simp only [List.getElem?_toArray, List.getElem?_cons_zero] at f0; have hf2 := HF2.out.lt; have hf3 := Nat.lt_of_lt_of_le hf2 hb3.size; clear hb3 hm KT)
    | (go_at_call 18; refine (KU.out _).mono ?_; rintro e w5 ⟨⟨ra, rc, rfl, hr⟩, hb5⟩; have HB5 := Lib.hid (HB3.out.trans (hb5.mono HB3.out.size)); have HF5 := Lib.hid (HF3.out.below hb5 HF3.out.lt); have HL5 := Lib.hid (HL3.out.agree RRule.steady (Below.agree hb5)); have HM5 := Lib.hid (HM3.out.agree RRule.steady (Below.agree hb5)); have HR5 := Lib.hid (hr.more (S' := fun b => b ≠ w2.heap.size) RRule.steady (fun b hb _ => by have h1 : (w3.alloc (.cells #[.int .i64 0, .int .i64 0] 26)).heap.size ≤ b := hb; simp at h1; omega)); have c0 := HF5.out.cell 0; have c1 := HF5.out.cell 1; have g0 := HF5.out.frozen 0; have g1 := HF5.out.frozen 1; simp only [List.getElem?_toArray, List.getElem?_cons_zero, List.getElem?_cons_succ] at c0 c1; have hf5 := HF5.out.lt; clear hb5 hr; obtain ⟨W6, hW6⟩ : ∃ W6, (w5.setCell ⟨w2.heap.size, 0, none⟩ (.int .i64 0)).setCell ⟨w2.heap.size, 1, none⟩ (.int .i64 0) = W6 := ⟨_, rfl⟩; have hag : Agree (fun b => b ≠ w2.heap.size) w5 W6 := (by rw [← hW6]; exact (Agree.setCell (p := ⟨w2.heap.size, 0, none⟩) (fun h => h rfl) _).trans (Agree.setCell (p := ⟨w2.heap.size, 1, none⟩) (fun h => h rfl) _)); have HL6 := Lib.hid ((HL5.out.agree RRule.steady hag).more (S' := fun q => q < W6.heap.size) RRule.steady (fun _ _ h => h)); have HM6 := Lib.hid ((HM5.out.agree RRule.steady hag).more (S' := fun q => q < W6.heap.size) RRule.steady (fun _ _ h => h)); have HR6 := Lib.hid ((HR5.out.agree RRule.steady hag).more (S' := fun _ => True) RRule.steady (fun _ _ _ => trivial)); have HB6 := Lib.hid (show Below w.heap.size w W6 from by rw [← hW6]; exact (HB5.out.setCell (p := ⟨w2.heap.size, 0, none⟩) HW2.out (.int .i64 0)).setCell (p := ⟨w2.heap.size, 1, none⟩) HW2.out (.int .i64 0)); have h60 : W6.cell? ⟨w2.heap.size, 0, none⟩ = some (.int .i64 0) := (by rw [← hW6]; exact ((HF5.out.set_ 0 (.int .i64 0)).set_ 1 (.int .i64 0)).cell 0); clear hag HL5 HM5 HR5 HB5 HF5)
    | (at_builtin; have hx := HO7.out; clear hx; refine wpList_append_many_w (B := W6.heap.size) (e := 33) (S := fun q => q < W6.heap.size) (by rfl) _ _ 23 (by rfl) RRule.steady RRule.one rowRules _ ([] ++ l) (by rfl) HO7.out (.slice ma m.length mc) m (by rfl) (HM6.out.agree RRule.steady (Below.agree HB7.out)) (fun cs x' hr => RRule.steady.more (fun q hq _ => ⟨hq, fun e => by have := (HO7.out.row_lt e.symm).1; omega⟩) hr) (by simp; omega) HB7.out.size ?_; intro v8 w8 hown8 hg8 hat8; have HO8 := Lib.hid (show Owned 4 RRule W6.heap.size 33 (fun q => q < W6.heap.size) w8 v8 (l ++ m) from hown8); have HB8 := Lib.hid (HB7.out.grown hg8 HB7.out.size (fun q hq => (HO7.out.row_lt hq).1)); clear hown8 hg8 hat8)
    | (at_builtin; have HM := Lib.hid (Owned.made (α := PRule) (k := 4) (R := RRule) (B := W6.heap.size) (e := 33) (S := fun q => q < W6.heap.size) (w := W6) (cur := #[]) (cap := 0) (Nat.le_refl _) (Nat.zero_le _) rfl); refine wpList_append_many_w (B := W6.heap.size) (e := 33) (S := fun q => q < W6.heap.size) (by rfl) _ _ 23 (by rfl) RRule.steady RRule.one rowRules _ [] (by rfl) HM.out (.slice la l.length lc) l (by rfl) (HL6.out.agree RRule.steady ((Agree.refl _ _).alloc _)) (fun cs x' hr => RRule.steady.more (fun q hq _ => ⟨hq, fun e => by have := (HM.out.row_lt e.symm).1; omega⟩) hr) (by simp; omega) (by simp) ?_; intro v7 w7 hown7 hg7 hat7; have HO7 := Lib.hid hown7; have HB7 := Lib.hid (((Below.refl W6.heap.size W6).alloc (Nat.le_refl _) _).grown hg7 (by simp) (fun q hq => (HM.out.row_lt hq).1)); clear hown7 hg7 hat7)
    | (go_at_call 20; refine (sameProgramRef (l ++ m) _ _ _ (RdRules.up HR6.out HB8.out) (HO8.out.read RRule.steady) hlm HSM.out).mono ?_; rintro e w9 ⟨rfl, hb9⟩; have HB9 := Lib.hid ((HB6.out.trans (HB8.out.mono HB6.out.size)).trans (hb9.mono (Nat.le_trans HB6.out.size HB8.out.size))); clear hb9)
    | (go_at_call 30; refine (alive2Calls _).mono ?_; rintro e w1 ⟨rfl, hb1⟩; have HB1 := Lib.hid hb1; clear hb1))
  go_wp2
  go_ret
  exact ⟨rfl, HB9.out⟩
namespace syntaxJoined
theorem own : ownKnob Try.prog.godebug = none := by kernel_rfl

set_option maxRecDepth 100000 in
theorem contract (H : Type) (enc : TypeId × Value → H) (W : World) (base : Nat) (args : Array Value) (ds gs : List (DataW H)) (before : List MemPlace)
    (hval : ∀ (j : Nat) t v, Try.f6.params[j]? = some t → args[j]? = some v → Value.okWide Try.prog W .any base t v)
    (hW : DataW.Whole enc Try.prog Try.f6.params.toList Rows.syntaxJoinedSpec.vars false W args.toList ds gs before) (hk : Rows.uptoSmall H (ds ++ gs) = true) :
    Calls Try.prog 6 args W fun e W' => ∃ v, e = .returned v ∧ Rows.syntaxJoinedSpec.post enc Try.prog Try.f6 false true false false W args v W' := by
  have hW' := hW
  obtain ⟨p, q, hA0, hV, rfl, hfz, hnd⟩ := hW
  have hA : DataW.TrodAll enc Try.prog W 0 (fun _ => true) true Try.f6.params.toList args.toList ds p := hA0
  rw [Try.params6] at hA hval
  obtain ⟨v0, v1, d0, d1, p0, p1, rfl, rfl, rfl, h0, h1⟩ := trodAll_two hA
  obtain ⟨rfl, rfl⟩ := trodVars_none hV
  obtain ⟨x0, rfl, s0⟩ := openStr.strArg Try.underlying9 (hval 0 9 v0 rfl rfl) h0
  obtain ⟨x1, rfl, s1⟩ := openStr.strArg Try.underlying9 (hval 1 9 v1 rfl rfl) h1
  rw [List.append_nil] at hk
  have hb : Rows.uptoBulkAll [d0, d1] ≤ 1048576 := of_decide_eq_true hk
  simp only [Rows.uptoBulkAll] at hb
  refine (syntaxJoinedCalls x0 x1 W (by omega) (by omega)).mono fun e W' ⟨he, hb'⟩ => ?_
  subst he
  exact ⟨_, rfl, law_post (tb := 4) hW' rfl rfl (by kernel_rfl) Try.underlying4 (by kernel_rfl) (by kernel_rfl) hb'⟩

set_option maxRecDepth 100000 in
theorem lifted (os : Os) (started : os.Started) (H : Type) (enc : TypeId × Value → H) (F : Stop.Interp) :
    ReturnsInHanded {} Try.checked os 6 .any ((Rows.OpenSpec.upto Rows.syntaxJoinedSpec).pre6 enc Try.prog Try.f6 Rows.syntaxJoinedUptoRow.domain false) (((Rows.OpenSpec.upto Rows.syntaxJoinedSpec).at F).post enc Try.prog Try.f6 false true false false) := by
  refine returnsInHanded_of_cond (C := Try.checked) (s := Rows.OpenSpec.upto Rows.syntaxJoinedSpec) (k := Rows.uptoSmall) rfl own started (by kernel_rfl) Try.func6
    (OpenSpec.witness (enc := enc) (C := Try.checked) (s := Rows.OpenSpec.upto Rows.syntaxJoinedSpec) (k := Rows.uptoSmall) rfl false ⟨#[], #[.string .empty, .string .empty], []⟩ 8 (by kernel_rfl) (by kernel_rfl) (by kernel_rfl)
      (x := ([.lit (.string []), .lit (.string [])], [], [])) (by kernel_rfl) rfl (by kernel_rfl)) ?_
  intro W base args ds gs before hval hW _ hk _
  exact contract H enc W base args ds gs before hval hW hk

theorem proved : Rows.SyntaxJoinedUptoSaid :=
  OpenClaim.holds_of_cond 6 Try.f6 rfl rfl rfl rfl rfl rfl rfl ⟨rfl, rfl, rfl, rfl, rfl⟩ rfl rfl rfl rfl rfl (by kernel_rfl) Try.func6 (by kernel_rfl)
    (of_decide_eq_true (by kernel_rfl)) (by unfold Func.isWrapper; first | (rw [if_pos (by decide +kernel)]; kernel_rfl) | (rw [if_neg (by decide +kernel)]; exact ⟨rfl, rfl⟩))
    (fun os started H enc _ F => lifted os started H enc F)
end syntaxJoined

end Go.Proofs.Ytobbjapmdpkogaa
