/-
  THE TEXTS Ref1Word, Ref1Named, Ref1Var, CheckR1, CheckR2, Ref1Wrong, one behind the other.
-/
import Derived.Test.YthieomebngiabaaPk1
import Derived.Test.YthieomebngiabaaPk2
import Derived.Test.YthieomebngiabaaPk3
import Derived.Test.YthieomebngiabaaPk12
import Derived.Lib.ConvBytes
namespace Go.Proofs.Ythieomebngiabaa
open Go.RowKit
set_option maxHeartbeats 2000000 in
theorem smallRef (c : UInt8) (w : World) : Calls Try.prog 86 #[.int .u8 c.toNat] w fun e w' => e = .returned (.bool (smallB c)) ∧ w = w' := by
  rcases byte_cases c with ⟨⟨b1, b2⟩, q1, q2, q3⟩ | ⟨⟨b1, b2⟩, q1, q2, q3⟩ | ⟨⟨b1, b2⟩, q1, q2, q3⟩ | ⟨⟨b1, b2⟩, q1, q2, q3⟩ | ⟨⟨b1, b2⟩, q1, q2, q3⟩ | ⟨⟨b1, b2⟩, q1, q2, q3⟩ | ⟨⟨b1, b2⟩, q1, q2, q3⟩ | ⟨⟨b1, b2⟩, q1, q2, q3⟩ | ⟨⟨b1, b2⟩, q1, q2, q3⟩
  all_goals
    rw [q1]
    clear q1 q2 q3
    generalize (c.toNat : Int) = n at *
    try have z1 : decide (97 ≤ n) = true := decide_eq_true (by omega)
    try have z1 : decide (97 ≤ n) = false := decide_eq_false (by omega)
    try have z2 : decide (n ≤ 122) = true := decide_eq_true (by omega)
    try have z2 : decide (n ≤ 122) = false := decide_eq_false (by omega)
    try have z3 : decide (48 ≤ n) = true := decide_eq_true (by omega)
    try have z3 : decide (48 ≤ n) = false := decide_eq_false (by omega)
    try have z4 : decide (n ≤ 57) = true := decide_eq_true (by omega)
    try have z4 : decide (n ≤ 57) = false := decide_eq_false (by omega)
    go_enter Try.func86, Try.ntmps86
    go_wp2
    go_ret
    exact ⟨rfl, rfl⟩
set_option maxHeartbeats 2000000 in
theorem signRef (c : UInt8) (w : World) : Calls Try.prog 95 #[.int .u8 c.toNat] w fun e w' => e = .returned (.bool (signB c)) ∧ w = w' := by
  have K := Lib.hid (fun W => smallRef c W)
  rcases byte_cases c with ⟨⟨b1, b2⟩, q1, q2, q3⟩ | ⟨⟨b1, b2⟩, q1, q2, q3⟩ | ⟨⟨b1, b2⟩, q1, q2, q3⟩ | ⟨⟨b1, b2⟩, q1, q2, q3⟩ | ⟨⟨b1, b2⟩, q1, q2, q3⟩ | ⟨⟨b1, b2⟩, q1, q2, q3⟩ | ⟨⟨b1, b2⟩, q1, q2, q3⟩ | ⟨⟨b1, b2⟩, q1, q2, q3⟩ | ⟨⟨b1, b2⟩, q1, q2, q3⟩
  all_goals
    rw [q3]
    rw [q1] at K
    clear q1 q2 q3
    generalize (c.toNat : Int) = n at *
    try have z1 : decide (65 ≤ n) = true := decide_eq_true (by omega)
    try have z1 : decide (65 ≤ n) = false := decide_eq_false (by omega)
    try have z2 : decide (n ≤ 90) = true := decide_eq_true (by omega)
    try have z2 : decide (n ≤ 90) = false := decide_eq_false (by omega)
    try have z3 : (n == 95) = true := beq_iff_eq.2 (by omega)
    try have z3 : (n == 95) = false := beq_eq_false_iff_ne.2 (by omega)
    try have z4 : decide (n = 95) = true := decide_eq_true (by omega)
    try have z4 : decide (n = 95) = false := decide_eq_false (by omega)
    go_enter Try.func95, Try.ntmps95
    go_wp2_with (go_at_call 86; refine (K.out _).mono ?_; rintro e w' ⟨rfl, rfl⟩)
    go_ret
    exact ⟨rfl, rfl⟩
theorem bytesWorld_below (w : World) (e : TypeId) (s : ByteArray) : Below w.heap.size w (Lib.bytesWorld w e s) :=
  ⟨rfl, rfl, rfl, by rw [Lib.bytesWorld_size]; omega, fun k hk => Lib.bytesWorld_at_old w e s k hk⟩
theorem bytes_getD (s : Str) {k : Nat} (h : k < s.size) : s.data.toList.getD k 0 = s[k] := by
  have e : s.data.toList.length = s.size := by rw [Array.length_toList]; rfl
  rw [List.getD_eq_getElem?_getD, List.getElem?_eq_getElem (by omega)]
  rfl
set_option maxRecDepth 100000 in
set_option maxHeartbeats 2000000 in
theorem wordRef (s : Str) (w : World) (hsz : s.size ≤ 1099511627776) : Calls Try.prog 85 #[.string s] w fun e w' => e = .returned (.bool (s.data.toList.all signB && (decide (0 < s.size) && decide (s.size ≤ 12)))) ∧ Below w.heap.size w w' := by
  have hc := Lib.run_convert_string_bytes (P := Try.prog) w 9 127 5 s Try.underlying9 Try.underlying127 Try.underlying5
  have HB := Lib.hid (bytesWorld_below w 5 s)
  have HC := Lib.hid (fun j (hj : j < s.size) => Lib.bytesWorld_cell w 5 s j hj)
  generalize Lib.bytesWorld w 5 s = w0 at *
  generalize grownCap w s.size 0 5 = C at *
  obtain ⟨r, hr⟩ : ∃ r, s.data.toList.all signB = r := ⟨_, rfl⟩
  rw [hr]
  have HQ := Lib.hid hr
  clear hr
  go_enter Try.func85, Try.ntmps85
  go_wp2
  clear hc
  go_loop [8, 4] (fun i _ => ∃ k : Nat, k ≤ s.size ∧ i = .int .i64 k ∧ Hid (r = (s.data.toList.drop k).all signB)) (fun i _ => s.size - (intOf i).toNat)
  case atStart => exact ⟨0, Nat.zero_le _, rfl, Lib.hid HQ.out.symm⟩
  case round =>
    obtain ⟨k, hk, rfl, HR⟩ := hrel
    by_cases hlt : k < s.size
    · have hcell := HC.out k hlt
      rw [bytes_getD s hlt] at hcell
      have HD := Lib.hid (show (s.data.toList.drop k).all signB = (signB s[k] && (s.data.toList.drop (k + 1)).all signB) by rw [drop_bytes s k hlt]; rfl)
      have K := Lib.hid (fun W => signRef s[k] W)
      generalize s[k] = c at *
      cases hs : signB c
      · rw [hs] at K HD
        have HE := Lib.hid (HR.out.trans HD.out)
        clear hs
        go_wp2_with (go_at_call 95; refine (K.out _).mono ?_; rintro e w' ⟨rfl, rfl⟩)
        go_ret
        exact ⟨ret_bool (by rw [HE.out]; rfl), HB.out⟩
      · rw [hs] at K HD
        have HE := Lib.hid (HR.out.trans HD.out)
        clear hs
        go_wp2_with (go_at_call 95; refine (K.out _).mono ?_; rintro e w' ⟨rfl, rfl⟩)
        go_round
        case rel => exact ⟨k + 1, by omega, by go_num, Lib.hid (by rw [HE.out]; simp)⟩
        case measure => simp [intOf]; omega
    · have HE := Lib.hid (show r = true by rw [HR.out, drop_bytes_end s k (by omega)]; rfl)
      by_cases h0 : 0 < s.size
      · by_cases h12 : s.size ≤ 12
        · have i1 : (0 : Int) < (s.size : Int) := by omega
          have i2 : (s.size : Int) ≤ 12 := by omega
          go_wp2
          go_ret
          exact ⟨ret_bool (by first | (rw [HE.out]; done) | (rw [HE.out]; simp [h0, h12]; done) | (simp [h0, h12]; done)), HB.out⟩
        · have i1 : (0 : Int) < (s.size : Int) := by omega
          have i2 : ¬ (s.size : Int) ≤ 12 := by omega
          go_wp2
          go_ret
          exact ⟨ret_bool (by first | (rw [HE.out]; done) | (rw [HE.out]; simp [h0, h12]; done) | (simp; done)), HB.out⟩
      · have i1 : ¬ (0 : Int) < (s.size : Int) := by omega
        go_wp2
        go_ret
        exact ⟨ret_bool (by first | (rw [HE.out]; done) | (rw [HE.out]; simp [h0]; done) | (simp; done)), HB.out⟩
theorem named_word (s : Str) : named s = (s.data.toList.all signB && (decide (0 < s.size) && decide (s.size ≤ 12)) && (match s.data.toList with | [] => false | c :: _ => smallB c)) := by
  have e : s.data.toList.length = s.size := by rw [Array.length_toList]; rfl
  unfold named nameL
  rw [← e]
  cases s.data.toList with
  | nil => simp
  | cons c cs =>
    rw [Bool.eq_iff_iff]
    simp only [List.all_cons, List.length_cons, Bool.and_eq_true, decide_eq_true_eq, signB, Bool.or_eq_true]
    constructor
    · rintro ⟨h1, h2, h3⟩
      exact ⟨⟨⟨.inl (.inl h2), h3⟩, by omega, h1⟩, h2⟩
    · rintro ⟨⟨⟨-, h3⟩, -, h1⟩, h2⟩
      exact ⟨h1, h2, h3⟩
end Go.Proofs.Ythieomebngiabaa
namespace Go.Proofs.Ythieomebngiabaa
open Go.RowKit
set_option maxHeartbeats 2000000 in
theorem namedRef (s : Str) (w : World) (hsz : s.size ≤ 1099511627776) : Calls Try.prog 62 #[.string s] w fun e w' => e = .returned (.bool (named s)) ∧ Below w.heap.size w w' := by
  have K := Lib.hid (wordRef s w hsz)
  have HN := Lib.hid (named_word s)
  have e : s.data.toList.length = s.size := by rw [Array.length_toList]; rfl
  obtain ⟨r, hr⟩ : ∃ r, (s.data.toList.all signB && (decide (0 < s.size) && decide (s.size ≤ 12))) = r := ⟨_, rfl⟩
  rw [hr] at K HN
  cases hr1 : r
  · subst hr1
    clear hr
    go_enter Try.func62, Try.ntmps62
    go_wp2_with (go_at_call 85; refine (K.out).mono ?_; rintro e w' ⟨rfl, hb⟩)
    go_ret
    exact ⟨ret_bool (by rw [HN.out]; rfl), hb⟩
  · subst hr1
    have h0 : 0 < s.size := by
      simp only [Bool.and_eq_true, decide_eq_true_eq] at hr
      exact hr.2.1
    have HL := Lib.hid (show named s = smallB s[0] by
      rw [HN.out]
      have := drop_bytes s 0 h0
      rw [List.drop_zero] at this
      rw [this]; rfl)
    have KS := Lib.hid (fun W => smallRef s[0] W)
    clear hr e
    go_enter Try.func62, Try.ntmps62
    go_wp2_with (first
      | (go_at_call 85; refine (K.out).mono ?_; rintro e w' ⟨rfl, hb⟩; have HB := Lib.hid hb; clear hb)
      | (go_at_call 86; refine (KS.out _).mono ?_; rintro e w'' ⟨rfl, rfl⟩))
    go_ret
    exact ⟨ret_bool HL.out.symm, HB.out⟩
end Go.Proofs.Ythieomebngiabaa
namespace Go.Proofs.Ythieomebngiabaa
open Go.RowKit
theorem variable_word (s : Str) : variableS s = (s.data.toList.all signB && (decide (0 < s.size) && decide (s.size ≤ 12)) && (match s.data.toList with | [] => false | c :: _ => upperB c)) := by
  have e : s.data.toList.length = s.size := by rw [Array.length_toList]; rfl
  unfold variableS varL
  rw [← e]
  cases s.data.toList with
  | nil => simp
  | cons c cs =>
    simp only [List.all_cons, List.length_cons]
    cases hu : upperB c
    · simp
    · have : signB c = true := by simp [signB, hu]
      rw [this]
      have h0 : decide (0 < cs.length + 1) = true := by simp
      rw [h0]
      cases cs.all signB <;> simp
set_option maxHeartbeats 2000000 in
theorem variableRef (s : Str) (w : World) (hsz : s.size ≤ 1099511627776) : Calls Try.prog 63 #[.string s] w fun e w' => e = .returned (.bool (variableS s)) ∧ Below w.heap.size w w' := by
  have K := Lib.hid (wordRef s w hsz)
  have HN := Lib.hid (variable_word s)
  have e : s.data.toList.length = s.size := by rw [Array.length_toList]; rfl
  obtain ⟨r, hr⟩ : ∃ r, (s.data.toList.all signB && (decide (0 < s.size) && decide (s.size ≤ 12))) = r := ⟨_, rfl⟩
  rw [hr] at K HN
  cases hr1 : r
  · subst hr1
    clear hr
    go_enter Try.func63, Try.ntmps63
    go_wp2_with (go_at_call 85; refine (K.out).mono ?_; rintro e w' ⟨rfl, hb⟩)
    go_ret
    exact ⟨ret_bool (by rw [HN.out]; rfl), hb⟩
  · subst hr1
    have h0 : 0 < s.size := by
      simp only [Bool.and_eq_true, decide_eq_true_eq] at hr
      exact hr.2.1
    have HL := Lib.hid (show variableS s = upperB s[0] by
      rw [HN.out]
      have := drop_bytes s 0 h0
      rw [List.drop_zero] at this
      rw [this]; rfl)
    clear hr e
    have h0' : (0 : Int) < (s.size : Int) := by omega
    by_cases h1 : 65 ≤ s[0].toNat
    · have i1 : (65 : Int) ≤ (s[0].toNat : Int) := by omega
      by_cases h2 : s[0].toNat ≤ 90
      · have i2 : (s[0].toNat : Int) ≤ 90 := by omega
        have HU := Lib.hid (show upperB s[0] = true from decide_eq_true ⟨h1, h2⟩)
        clear h1 h2
        go_enter Try.func63, Try.ntmps63
        go_wp2_with (go_at_call 85; refine (K.out).mono ?_; rintro e w' ⟨rfl, hb⟩; have HB := Lib.hid hb; clear hb)
        go_ret
        exact ⟨ret_bool (by rw [HL.out, HU.out] <;> first | rfl | exact decide_eq_true i2 | exact decide_eq_false (by omega)), HB.out⟩
      · have i2 : ¬ ((s[0].toNat : Int) ≤ 90) := by omega
        have HU := Lib.hid (show upperB s[0] = false from decide_eq_false (fun h => h2 h.2))
        clear h1 h2
        go_enter Try.func63, Try.ntmps63
        go_wp2_with (go_at_call 85; refine (K.out).mono ?_; rintro e w' ⟨rfl, hb⟩; have HB := Lib.hid hb; clear hb)
        go_ret
        exact ⟨ret_bool (by rw [HL.out, HU.out] <;> first | rfl | exact decide_eq_true i2 | exact decide_eq_false (by omega)), HB.out⟩
    · have i1 : ¬ ((65 : Int) ≤ (s[0].toNat : Int)) := by omega
      have HU := Lib.hid (show upperB s[0] = false from decide_eq_false (fun h => h1 h.1))
      clear h1
      go_enter Try.func63, Try.ntmps63
      go_wp2_with (go_at_call 85; refine (K.out).mono ?_; rintro e w' ⟨rfl, hb⟩; have HB := Lib.hid hb; clear hb)
      go_ret
      exact ⟨ret_bool (by rw [HL.out, HU.out]), HB.out⟩
end Go.Proofs.Ythieomebngiabaa
namespace Go.Proofs.Ythieomebngiabaa
open Go.RowKit Go.Maps
theorem Owned.apart {k B m : Nat} {R : (Nat → Prop) → World → List Value → Str → Prop} {e : TypeId} {w w' : World} {v : Value} {l : List Str} (hR : Steady R) (h : Owned k R B e (fun _ => False) w v l) (hg : w.grownBy w' (some m)) (hne : ∀ q, v.ownBlock = some q → q ≠ m) : Owned k R B e (fun _ => False) w' v l :=
  h.keep hR ⟨hg.size, fun _ hb _ => hb.elim⟩ fun g hgg => hg.block g (h.row_lt hgg).2 (fun e => hne g hgg (Option.some.inj e))
set_option maxRecDepth 100000 in
set_option maxHeartbeats 4000000 in
theorem varsRef {S : Nat → Prop} (x : PAtom) (tv : Value) (w : World) (h : RdTerms S w tv x.terms) (n1 : x.terms.length ≤ 1048576) (n2 : ∀ t ∈ x.terms, t.name.size ≤ 1048576) :
    Calls Try.prog 64 #[.agg #[.bool x.neg, .string x.name, tv]] w fun e w' => (∃ v, e = .returned v ∧ Owned 1 RStr w.heap.size 9 (fun _ => False) w' v (varsOf x)) ∧ Below w.heap.size w w' := by
  obtain ⟨a, c, rfl, -, -, -⟩ := id h.form
  have H := Lib.hid h
  have N2 := Lib.hid n2
  clear h n2
  have hmm := @run_makeMap Try.prog
  obtain ⟨W0, hW0⟩ : ∃ W0, w.alloc (.cells #[.bool x.neg, .string x.name, .slice a x.terms.length c] 38) = W0 := ⟨_, rfl⟩
  have HB0 := Lib.hid (show Below w.heap.size w W0 from by rw [← hW0]; exact (Below.refl _ _).alloc (Nat.le_refl _) _)
  have HA0 := Lib.hid (show Blk W0 w.heap.size 38 #[.bool x.neg, .string x.name, .slice a x.terms.length c] from by rw [← hW0]; exact Blk.new w _ _)
  have HB1 := Lib.hid (HB0.out.alloc HB0.out.size (.map #[] 0))
  have HM1 := Lib.hid (MapB.made W0)
  have c2 := (HA0.out.alloc (.map #[] 0)).cell 2
  simp only [List.getElem?_toArray, List.getElem?_cons_zero, List.getElem?_cons_succ] at c2
  have hms : w.heap.size < W0.heap.size := HA0.out.lt
  go_enter Try.func64, Try.ntmps64
  go_wp2
  generalize HMB : W0.heap.size = mb at *
  clear HMB
  go_loopw [11, 3] (fun i v wr => ∃ k : Nat, k ≤ x.terms.length ∧ i = .int .i64 k ∧ Hid (Owned 1 RStr w.heap.size 9 (fun _ => False) wr v (varsF [] (x.terms.take k))) ∧ Hid (Below w.heap.size w wr) ∧ Hid (MapB wr mb (varsF [] (x.terms.take k))) ∧ Hid (∀ q, v.ownBlock = some q → q ≠ mb)) (fun i _ _ => x.terms.length - (intOf i).toNat)
  case atStart => exact ⟨0, Nat.zero_le _, rfl, Lib.hid Owned.nil, HB1, HM1, Lib.hid (fun q h => by cases h)⟩
  case round =>
    clear HB0 HB1 HM1 HA0 c2 hW0
    obtain ⟨k, hk, rfl, HO, HB, HM, HQ⟩ := hrel
    by_cases hlt : k < x.terms.length
    · obtain ⟨t, ht⟩ : ∃ t, x.terms[k]? = some t := ⟨_, List.getElem?_eq_getElem hlt⟩
      obtain ⟨b1, o1, rfl, -, -, d0, d1⟩ := RdTerms.at (H.out.up HB.out) ht
      have hsz := HB.out.size
      have hts := N2.out t (List.mem_of_getElem? ht)
      have HT := Lib.hid (show varsF [] (x.terms.take (k + 1)) = if t.var && !memS t.name (varsF [] (x.terms.take k)) then varsF [] (x.terms.take k) ++ [t.name] else varsF [] (x.terms.take k) by rw [List.take_add_one, ht]; exact varsF_snoc t _ _)
      have HLL := Lib.hid (show (varsF [] (x.terms.take k)).length ≤ x.terms.length by have := varsF_length (x.terms.take k) []; rw [List.length_take] at this; simp at this; omega)
      generalize varsF [] (x.terms.take k) = vs at *
      obtain ⟨va, vc, rfl, -, -, -⟩ := id (HO.out.read RStr.steady).form
      have HB1 := Lib.hid (HB.out.alloc hsz (.cells #[.bool t.var, .string t.name] 67))
      have HO1 := Lib.hid (HO.out.alloc RStr.steady (.cells #[.bool t.var, .string t.name] 67))
      have HM1 := Lib.hid (HM.out.alloc (.cells #[.bool t.var, .string t.name] 67))
      have hget := HM1.out.get (s := t.name) (by unfold maxLen; omega)
      have hmlt := HM.out.lt
      clear ht
      cases hv : t.var
      · rw [hv] at HT HB1 HO1 HM1 d0
        have HO2 := Lib.hid (show Owned 1 RStr w.heap.size 9 (fun _ => False) _ _ (varsF [] (x.terms.take (k + 1))) by rw [HT.out, if_neg (by simp)]; exact HO1.out)
        have HM2 := Lib.hid (show MapB _ mb (varsF [] (x.terms.take (k + 1))) by rw [HT.out, if_neg (by simp)]; exact HM1.out)
        clear hv
        go_wp2
        go_roundw
        case rel => exact ⟨k + 1, by omega, by go_num, HO2, HB1, HM2, HQ⟩
        case measure => simp [intOf]; omega
      · rw [hv] at HT HB1 HO1 HM1 d0 hget
        clear hv
        have hm : memS t.name vs = true ∨ memS t.name vs = false := by cases memS t.name vs <;> simp
        rcases hm with hm | hm
        · rw [hm] at HT hget
          have HO2 := Lib.hid (show Owned 1 RStr w.heap.size 9 (fun _ => False) _ _ (varsF [] (x.terms.take (k + 1))) by rw [HT.out, if_neg (by simp)]; exact HO1.out)
          have HM2 := Lib.hid (show MapB _ mb (varsF [] (x.terms.take (k + 1))) by rw [HT.out, if_neg (by simp)]; exact HM1.out)
          clear hm
          go_wp2
          go_roundw
          case rel => exact ⟨k + 1, by omega, by go_num, HO2, HB1, HM2, HQ⟩
          case measure => simp [intOf]; omega
        · rw [hm, if_pos (by rfl)] at HT
          rw [hm] at hget
          obtain ⟨w5, hput, hm5, hg5⟩ := HM1.out.put (by have := HLL.out; unfold maxLen; omega) (s := t.name) (by unfold maxLen; omega)
          have HM5 := Lib.hid hm5
          have HB5 := Lib.hid (HB1.out.grown hg5 (by simp; omega) (fun q hq => by injection hq with e; omega))
          have HO5 := Lib.hid (HO1.out.apart RStr.steady hg5 HQ.out)
          have HA5 := Lib.hid ((Blk.new wr 67 #[.bool true, .string t.name]).grown hg5 (fun e => by injection e with e; omega))
          have e1 := HA5.out.cell 1
          simp only [List.getElem?_toArray, List.getElem?_cons_zero, List.getElem?_cons_succ] at e1
          have hm5l := HM5.out.lt
          have hwl : (wr.alloc (.cells #[.bool true, .string t.name] 67)).heap.size ≤ w5.heap.size := hg5.size
          clear hm hm5 hg5
          go_wp2_with (at_builtin; refine wpList_append_one (B := w.heap.size) (e := 9) (S := fun _ => False) (by rfl) _ _ 39 (by rfl) RStr.steady rowStrs _ vs (by rfl) (HO5.out.alloc RStr.steady _) w5.heap.size 1 #[.string t.name] 9 (0, 0) t.name (by rfl) (heap_alloc_new _ _) rfl (by simp [Value.oneCell']) rfl (by have := HLL.out; omega) (by simp; omega) ?_; intro v2 w2 hown2 hg2 hat2; have HO2 := Lib.hid (show Owned 1 RStr w.heap.size 9 (fun _ => False) w2 v2 (varsF [] (x.terms.take (k + 1))) by rw [HT.out]; exact hown2); have HB2 := Lib.hid ((HB5.out.alloc HB5.out.size _).grown hg2 (by simp; have := HB5.out.size; omega) (fun q hq => (HO5.out.row_lt hq).1)); have HM2 := Lib.hid (show MapB w2 mb (varsF [] (x.terms.take (k + 1))) by rw [HT.out]; exact (HM5.out.alloc _).kept hg2 (fun e => HQ.out mb e.symm rfl)); have HQ2 := Lib.hid (show ∀ q, v2.ownBlock = some q → q ≠ mb from fun q hq => by rcases hat2 with h2 | h2 <;> rw [h2] at hq; (exact HQ.out q hq); (injection hq with e; simp at e; omega)); clear hown2 hg2 hat2)
          go_wp2
          go_roundw
          case rel => exact ⟨k + 1, by omega, by go_num, HO2, HB2, HM2, HQ2⟩
          case measure => simp [intOf]; omega
    · have htk : x.terms.take k = x.terms := List.take_of_length_le (by omega)
      rw [htk] at HO
      clear htk
      go_wp2
      go_ret
      exact ⟨⟨_, rfl, HO.out⟩, HB.out⟩
set_option maxRecDepth 100000 in
set_option maxHeartbeats 4000000 in
theorem wrongAtomRef {S : Nat → Prop} (x : PAtom) (tv : Value) (w : World) (h : RdTerms S w tv x.terms)
    (n0 : x.name.size ≤ 1099511627776) (n1 : x.terms.length ≤ 1073741824) (n2 : ∀ t ∈ x.terms, t.name.size ≤ 1099511627776) :
    Calls Try.prog 46 #[.agg #[.bool x.neg, .string x.name, tv]] w fun e w' => e = .returned (.int .i64 (atomBad x)) ∧ Below w.heap.size w w' := by
  obtain ⟨a, c, rfl, -, -, -⟩ := id h.form
  have H := Lib.hid h
  have N2 := Lib.hid n2
  clear h n2
  have KN := Lib.hid (fun W => namedRef x.name W n0)
  obtain ⟨W0, hW0⟩ : ∃ W0, w.alloc (.cells #[.bool x.neg, .string x.name, .slice a x.terms.length c] 38) = W0 := ⟨_, rfl⟩
  have HB0 := Lib.hid (show Below w.heap.size w W0 from by rw [← hW0]; exact (Below.refl _ _).alloc (Nat.le_refl _) _)
  have HA0 := Lib.hid (show Blk W0 w.heap.size 38 #[.bool x.neg, .string x.name, .slice a x.terms.length c] from by rw [← hW0]; exact Blk.new w _ _)
  have c1 := HA0.out.cell 1
  have c2 := HA0.out.cell 2
  simp only [List.getElem?_toArray, List.getElem?_cons_zero, List.getElem?_cons_succ] at c1 c2
  cases hn : named x.name
  · rw [hn] at KN
    have HE := Lib.hid (show atomBad x = 7 by unfold atomBad; rw [hn]; rfl)
    clear hn
    go_enter Try.func46, Try.ntmps46
    go_wp2_with (go_at_call 62; refine (KN.out _).mono ?_; rintro e w' ⟨rfl, hb⟩; have HBF := Lib.hid (HB0.out.trans (hb.mono HB0.out.size)); clear hb)
    go_ret
    exact ⟨ret_int HE.out.symm, HBF.out⟩
  rw [hn] at KN
  have HN := Lib.hid hn
  clear hn
  by_cases h4 : 4 < x.terms.length
  · have i4 : (4 : Int) < (x.terms.length : Int) := by omega
    have HE := Lib.hid (show atomBad x = 5 by unfold atomBad; rw [HN.out, if_neg (by simp), if_pos h4])
    go_enter Try.func46, Try.ntmps46
    go_wp2_with (go_at_call 62; refine (KN.out _).mono ?_; rintro e w' ⟨rfl, hb⟩; have HBF := Lib.hid (HB0.out.trans (hb.mono HB0.out.size)); have HAF := Lib.hid (HA0.out.below hb HA0.out.lt); clear hb; have d2 := HAF.out.cell 2; simp only [List.getElem?_toArray, List.getElem?_cons_zero, List.getElem?_cons_succ] at d2)
    go_ret
    exact ⟨ret_int HE.out.symm, HBF.out⟩
  have i4 : ¬ (4 : Int) < (x.terms.length : Int) := by omega
  go_enter Try.func46, Try.ntmps46
  go_wp2_with (go_at_call 62; refine (KN.out _).mono ?_; rintro e w' ⟨rfl, hb⟩; have HBF := Lib.hid (HB0.out.trans (hb.mono HB0.out.size)); have HAF := Lib.hid (HA0.out.below hb HA0.out.lt); clear hb; have d2 := HAF.out.cell 2; simp only [List.getElem?_toArray, List.getElem?_cons_zero, List.getElem?_cons_succ] at d2)
  go_loopw [16] (fun i wr => ∃ k : Nat, k ≤ x.terms.length ∧ i = .int .i64 k ∧ Hid (∀ t ∈ x.terms.take k, termOk t = true) ∧ Hid (Below w.heap.size w wr)) (fun i _ => x.terms.length - (intOf i).toNat)
  case atStart => exact ⟨0, Nat.zero_le _, rfl, Lib.hid (by simp), HBF⟩
  case round =>
    clear HBF HAF d2 c1 c2 HB0 HA0
    obtain ⟨k, hk, rfl, HO, HB⟩ := hrel
    by_cases hlt : k < x.terms.length
    · obtain ⟨t, ht⟩ : ∃ t, x.terms[k]? = some t := ⟨_, List.getElem?_eq_getElem hlt⟩
      obtain ⟨b1, o1, rfl, -, -, d0, d1⟩ := RdTerms.at (H.out.up HB.out) ht
      have hsz := HB.out.size
      have hbb := HB.out.alloc hsz (.cells #[.bool t.var, .string t.name] 67)
      have HB1 := Lib.hid hbb
      have HT1 := Lib.hid (Blk.new wr 67 #[.bool t.var, .string t.name])
      have HS1 := Lib.hid (show termOk t = true → ∀ y ∈ x.terms.take (k + 1), termOk y = true from fun hy y hm => by
        rw [List.take_add_one, ht] at hm
        rcases List.mem_append.1 hm with hm | hm
        · exact HO.out y hm
        · obtain rfl : y = t := by simpa using hm
          exact hy)
      have HBD := Lib.hid (show termOk t = false → atomBad x = 7 from fun hy => atomBad_term HN.out h4 (List.mem_of_getElem? ht) hy)
      have KV := Lib.hid (fun W => variableRef t.name W (N2.out t (List.mem_of_getElem? ht)))
      have KM := Lib.hid (fun W => namedRef t.name W (N2.out t (List.mem_of_getElem? ht)))
      clear ht hbb
      have hto : termOk t = if t.var then variableS t.name else named t.name := rfl
      rw [hto] at HS1 HBD
      clear hto
      cases hv : t.var
      all_goals
        rw [hv] at HS1 HBD d0 HB1 HT1
        clear hv
      · have hm : named t.name = true ∨ named t.name = false := by cases named t.name <;> simp
        rcases hm with hm | hm
        · rw [hm] at KM
          have HO1 := Lib.hid (HS1.out (by simpa using hm))
          clear hm HS1 HBD
          go_wp2_with (go_at_call 62; refine (KM.out _).mono ?_; rintro e w' ⟨rfl, hb⟩; have HBF := Lib.hid (HB1.out.trans (hb.mono HB1.out.size)); clear hb)
          go_roundw
          case rel => exact ⟨k + 1, by omega, by go_num, HO1, HBF⟩
          case measure => simp [intOf]; omega
        · rw [hm] at KM
          have HE := Lib.hid (HBD.out (by simpa using hm))
          clear hm HS1 HBD
          go_wp2_with (go_at_call 62; refine (KM.out _).mono ?_; rintro e w' ⟨rfl, hb⟩; have HBF := Lib.hid (HB1.out.trans (hb.mono HB1.out.size)); clear hb)
          go_ret
          exact ⟨ret_int HE.out.symm, HBF.out⟩
      · have hm : variableS t.name = true ∨ variableS t.name = false := by cases variableS t.name <;> simp
        rcases hm with hm | hm
        · rw [hm] at KV
          have HO1 := Lib.hid (HS1.out (by simpa using hm))
          clear hm HS1 HBD
          go_wp2_with (go_at_call 63; refine (KV.out _).mono ?_; rintro e w' ⟨rfl, hb⟩; have HBF := Lib.hid (HB1.out.trans (hb.mono HB1.out.size)); have HTF := Lib.hid (HT1.out.below hb HT1.out.lt); clear hb; have e0 := HTF.out.cell 0; have e1 := HTF.out.cell 1; simp only [List.getElem?_toArray, List.getElem?_cons_zero, List.getElem?_cons_succ] at e0 e1)
          go_roundw
          case rel => exact ⟨k + 1, by omega, by go_num, HO1, HBF⟩
          case measure => simp [intOf]; omega
        · rw [hm] at KV
          have HE := Lib.hid (HBD.out (by simpa using hm))
          clear hm HS1 HBD
          go_wp2_with (go_at_call 63; refine (KV.out _).mono ?_; rintro e w' ⟨rfl, hb⟩; have HBF := Lib.hid (HB1.out.trans (hb.mono HB1.out.size)); have HTF := Lib.hid (HT1.out.below hb HT1.out.lt); clear hb; have e0 := HTF.out.cell 0; have e1 := HTF.out.cell 1; simp only [List.getElem?_toArray, List.getElem?_cons_zero, List.getElem?_cons_succ] at e0 e1)
          go_ret
          exact ⟨ret_int HE.out.symm, HBF.out⟩
    · have HE := Lib.hid (show atomBad x = 0 from atomBad_ok HN.out h4 (by have := HO.out; rwa [List.take_of_length_le (by omega)] at this))
      go_wp2
      go_ret
      exact ⟨ret_int HE.out.symm, HB.out⟩
end Go.Proofs.Ythieomebngiabaa
namespace Go.Proofs.Ythieomebngiabaa
open Go.RowKit Go.Maps
theorem memS_append (v : Str) : ∀ l m : List Str, memS v (l ++ m) = (memS v l || memS v m)
  | [], m => by simp [memS]
  | x :: l, m => by rw [List.cons_append, memS, memS, memS_append v l m, Bool.or_assoc]
theorem memS_snoc (v u : Str) (l : List Str) : memS v (l ++ [u]) = (memS v l || decide (v = u)) := by rw [memS_append]; simp [memS]
theorem memS_held (v : Str) (l : List PAtom) (a : PAtom) : memS v (heldOf (l ++ [a])) = (memS v (heldOf l) || (!a.neg && memS v (varsOf a))) := by
  rw [heldOf_snoc]
  cases a.neg
  · simp [memS_append]
  · simp
def boundIn (held : List Str) (vs : List Str) : Bool := vs.all fun v => memS v held
set_option maxRecDepth 100000 in
set_option maxHeartbeats 8000000 in
theorem boundRef {S T : Nat → Prop} (x : PAtom) (tv : Value) (l : List PAtom) (lv : Value) (w : World) (h : RdTerms S w tv x.terms) (hl : RdAtoms T w lv l)
    (n1 : x.terms.length ≤ 1048576) (n2 : ∀ t ∈ x.terms, t.name.size ≤ 1048576) (m0 : l.length ≤ 1048576) (m1 : ∀ a ∈ l, a.terms.length ≤ 1048576) (m2 : ∀ a ∈ l, ∀ t ∈ a.terms, t.name.size ≤ 1048576) :
    Calls Try.prog 47 #[.agg #[.bool x.neg, .string x.name, tv], lv] w fun e w' => e = .returned (.bool (boundIn (heldOf l) (varsOf x))) ∧ Below w.heap.size w w' := by
  obtain ⟨a, c, rfl, -, -, -⟩ := id h.form
  obtain ⟨la, lc, rfl, -, -, -⟩ := id hl.form
  have H := Lib.hid h
  have HL := Lib.hid hl
  have M1 := Lib.hid m1
  have M2 := Lib.hid m2
  obtain ⟨W0, hW0⟩ : ∃ W0, w.alloc (.cells #[.bool x.neg, .string x.name, .slice a x.terms.length c] 38) = W0 := ⟨_, rfl⟩
  have HB0 := Lib.hid (show Below w.heap.size w W0 from by rw [← hW0]; exact (Below.refl _ _).alloc (Nat.le_refl _) _)
  have HA0 := Lib.hid (show Blk W0 w.heap.size 38 #[.bool x.neg, .string x.name, .slice a x.terms.length c] from by rw [← hW0]; exact Blk.new w _ _)
  have c0 := HA0.out.cell 0
  have c1 := HA0.out.cell 1
  have c2 := HA0.out.cell 2
  simp only [List.getElem?_toArray, List.getElem?_cons_zero, List.getElem?_cons_succ] at c0 c1 c2
  have KV := Lib.hid (varsRef x _ W0 (h.up HB0.out) n1 n2)
  have hvl : (varsOf x).length ≤ 1048576 := by have := varsF_length x.terms []; simp at this; show (varsF [] x.terms).length ≤ _; omega
  clear h hl n2 m1 m2
  generalize varsOf x = vs at *
  go_enter Try.func47, Try.ntmps47
  go_wp2_with (go_at_call 64; refine (KV.out).mono ?_; rintro e w2 ⟨⟨v2, rfl, hv2⟩, hb2⟩; have HBF := Lib.hid (HB0.out.trans (hb2.mono HB0.out.size)); have HV := Lib.hid ((hv2.read RStr.steady).more (S' := fun _ => True) RStr.steady (fun _ _ _ => trivial)); obtain ⟨va, vc, rfl, -, -, -⟩ := id (hv2.read RStr.steady).form; clear hb2 hv2)
  clear KV HB0 HA0 c0 c1 c2
  have HE0 := Lib.hid (show (∀ v ∈ vs.take 0, memS v (heldOf l) = true) from by simp)
  go_loopw [15] (fun i wr => ∃ k : Nat, k ≤ vs.length ∧ i = .int .i64 k ∧ Hid (∀ v ∈ vs.take k, memS v (heldOf l) = true) ∧ Hid (Below w.heap.size w wr) ∧ Hid (RdStrs (fun _ => True) wr (.slice va vs.length vc) vs)) (fun i _ => vs.length - (intOf i).toNat)
  case atStart => exact ⟨0, Nat.zero_le _, rfl, HE0, HBF, HV⟩
  case round =>
    clear HE0 HBF HV
    obtain ⟨k, hk, rfl, HE, HB, HV⟩ := hrel
    by_cases hlt : k < vs.length
    · obtain ⟨v, hv⟩ : ∃ v, vs[k]? = some v := ⟨_, List.getElem?_eq_getElem hlt⟩
      obtain ⟨b1, o1, rfl, -, -, d0⟩ := RdStrs.at HV.out hv
      have HVV := Lib.hid hv
      clear hv
      have HM0 := Lib.hid (show memS v (heldOf (l.take 0)) = false from rfl)
      go_wp2
      clear d0
      go_loopw [21, 7] (fun i b wr => ∃ (j : Nat) (q : Bool), j ≤ l.length ∧ i = .int .i64 j ∧ b = .bool q ∧ Hid (memS v (heldOf (l.take j)) = q) ∧ Hid (Below w.heap.size w wr) ∧ Hid (RdStrs (fun _ => True) wr (.slice (some ⟨b1, o1, none⟩) vs.length vc) vs)) (fun i _ _ => l.length - (intOf i).toNat)
      case atStart => exact ⟨0, false, Nat.zero_le _, rfl, rfl, HM0, HB, HV⟩
      case round =>
        clear HM0 HB HV
        obtain ⟨j, q, hj, rfl, rfl, HM, HB, HV⟩ := hrel
        by_cases hlj : j < l.length
        · obtain ⟨y, hy⟩ : ∃ y, l[j]? = some y := ⟨_, List.getElem?_eq_getElem hlj⟩
          have hym := List.mem_of_getElem? hy
          obtain ⟨b4, o4, yv, rfl, -, hb4, e0, e1, e2, hyv⟩ := RdAtoms.at (HL.out.up HB.out) hy
          obtain ⟨ya, yc, rfl, -, -, -⟩ := id hyv.form
          have HMS := Lib.hid (show memS v (heldOf (l.take (j + 1))) = (q || (!y.neg && memS v (varsOf y))) by rw [List.take_add_one, hy]; show memS v (heldOf (l.take j ++ [y])) = _; rw [memS_held, HM.out])
          obtain ⟨W1, hW1⟩ : ∃ W1, wr.alloc (.cells #[.bool y.neg, .string y.name, .slice ya y.terms.length yc] 38) = W1 := ⟨_, rfl⟩
          have HBA := Lib.hid (show Below wr.heap.size wr W1 from by rw [← hW1]; exact (Below.refl _ _).alloc (Nat.le_refl _) _)
          have HA1 := Lib.hid (show Blk W1 wr.heap.size 38 #[.bool y.neg, .string y.name, .slice ya y.terms.length yc] from by rw [← hW1]; exact Blk.new wr _ _)
          have HB1 := Lib.hid (HB.out.trans (HBA.out.mono HB.out.size))
          have HV1 := Lib.hid (HV.out.agree RStr.steady (Below.agree HBA.out))
          have a0 := HA1.out.cell 0
          have a1 := HA1.out.cell 1
          have a2 := HA1.out.cell 2
          simp only [List.getElem?_toArray, List.getElem?_cons_zero, List.getElem?_cons_succ] at a0 a1 a2
          have KV := Lib.hid (varsRef y _ W1 (hyv.up HBA.out) (M1.out y hym) (M2.out y hym))
          have hul : (varsOf y).length ≤ 1048576 := by have := varsF_length y.terms []; have := M1.out y hym; simp at *; show (varsF [] y.terms).length ≤ _; omega
          clear hy hym hyv HM
          generalize varsOf y = us at *
          go_wp2_with (go_at_call 64; refine (KV.out).mono ?_; rintro e w3 ⟨⟨v3, rfl, hv3⟩, hb3⟩; have HB3 := Lib.hid (HB1.out.trans (hb3.mono HB1.out.size)); have HA3 := Lib.hid (HA1.out.below hb3 HA1.out.lt); have HV3 := Lib.hid (HV1.out.agree RStr.steady (Below.agree hb3)); have HU := Lib.hid ((hv3.read RStr.steady).more (S' := fun _ => True) RStr.steady (fun _ _ _ => trivial)); obtain ⟨ua, uc, rfl, -, -, -⟩ := id (hv3.read RStr.steady).form; clear hb3 hv3)
          clear KV HBA HA1 HB1 HV1 a0 a1 a2
          have HM0 := Lib.hid (show (q || (!y.neg && memS v (us.take 0))) = q from by simp [memS])
          generalize HNB : wr.heap.size = nb at *
          clear HNB
          go_loopw [28, 7] (fun i b wr => ∃ (m : Nat) (r : Bool), m ≤ us.length ∧ i = .int .i64 m ∧ b = .bool r ∧ Hid ((q || (!y.neg && memS v (us.take m))) = r) ∧ Hid (Below w.heap.size w wr) ∧ Hid (RdStrs (fun _ => True) wr (.slice (some ⟨b1, o1, none⟩) vs.length vc) vs) ∧ Hid (RdStrs (fun _ => True) wr (.slice ua us.length uc) us) ∧ Hid (Blk wr nb 38 #[.bool y.neg, .string y.name, .slice ya y.terms.length yc])) (fun i _ _ => us.length - (intOf i).toNat)
          case atStart => exact ⟨0, q, Nat.zero_le _, rfl, rfl, HM0, HB3, HV3, HU, HA3⟩
          case round =>
            clear HM0 HB3 HV3 HU HA3
            obtain ⟨m, r, hm, rfl, rfl, HR, HB, HV, HU, HA⟩ := hrel
            by_cases hlm : m < us.length
            · obtain ⟨u, hu⟩ : ∃ u, us[m]? = some u := ⟨_, List.getElem?_eq_getElem hlm⟩
              obtain ⟨b5, o5, rfl, -, -, g0⟩ := RdStrs.at HU.out hu
              have HRS := Lib.hid (show (q || (!y.neg && memS v (us.take (m + 1)))) = (r || (!y.neg && decide (u = v))) by
                rw [List.take_add_one, hu]
                show (q || (!y.neg && memS v (us.take m ++ [u]))) = _
                rw [memS_snoc, ← HR.out, show decide (v = u) = decide (u = v) from decide_eq_decide.2 ⟨Eq.symm, Eq.symm⟩]
                cases q <;> cases y.neg <;> simp)
              have a0 := HA.out.cell 0
              simp only [List.getElem?_toArray, List.getElem?_cons_zero] at a0
              obtain ⟨be, hbe⟩ : ∃ be, decide (u = v) = be := ⟨_, rfl⟩
              rw [hbe] at HRS
              have hbe2 : (u.toList == v.toList) = be := by rw [beq_toList]; exact hbe
              clear hu HR hbe
              cases hn : y.neg <;> rw [hn] at HRS HA a0 <;> cases r <;> cases be
              all_goals
                have HRS2 := Lib.hid (HRS.out.trans (show _ = _ from rfl))
                clear HRS
                go_wp2
                go_roundw
                case rel => exact ⟨m + 1, _, by omega, by go_num, rfl, by first | exact HRS2 | (rw [hn]; exact HRS2), HB, HV, HU, by first | exact HA | (rw [hn]; exact HA)⟩
                case measure => simp [intOf]; omega
            · have HR2 := Lib.hid (show memS v (heldOf (l.take (j + 1))) = r from by
                rw [HMS.out, ← HR.out, List.take_of_length_le (by omega)])
              clear HR HMS
              go_wp2
              go_roundw
              case rel => exact ⟨j + 1, r, by omega, by go_num, rfl, HR2, HB, HV⟩
              case measure => simp [intOf]; omega
        · rw [List.take_of_length_le (show l.length ≤ j by omega)] at HM
          cases q
          · have HF := Lib.hid (show boundIn (heldOf l) vs = false from by
              unfold boundIn
              rw [List.all_eq_false]
              exact ⟨v, List.mem_of_getElem? HVV.out, by rw [HM.out]; simp⟩)
            go_wp2
            go_ret
            exact ⟨ret_bool HF.out.symm, HB.out⟩
          · have HE2 := Lib.hid (show ∀ z ∈ vs.take (k + 1), memS z (heldOf l) = true from fun z hz => by
              rw [List.take_add_one, HVV.out] at hz
              rcases List.mem_append.1 hz with hz | hz
              · exact HE.out z hz
              · obtain rfl : z = v := by simpa using hz
                exact HM.out)
            go_wp2
            go_roundw
            case rel => exact ⟨k + 1, by omega, by go_num, HE2, HB, HV⟩
            case measure => simp [intOf]; omega
    · have HF := Lib.hid (show boundIn (heldOf l) vs = true from by
        unfold boundIn
        rw [List.all_eq_true]
        intro z hz
        exact HE.out z (by rwa [List.take_of_length_le (by omega)]))
      go_wp2
      go_ret
      exact ⟨ret_bool HF.out.symm, HB.out⟩
set_option maxRecDepth 100000 in
set_option maxHeartbeats 8000000 in
theorem wrongBodyRef {T : Nat → Prop} (l : List PAtom) (lv : Value) (w : World) (hl : RdAtoms T w lv l)
    (m0 : l.length ≤ 1048576) (m1 : ∀ a ∈ l, a.terms.length ≤ 1048576) (m2 : ∀ a ∈ l, ∀ t ∈ a.terms, t.name.size ≤ 1048576) (m3 : ∀ a ∈ l, a.name.size ≤ 1048576) :
    Calls Try.prog 21 #[lv] w fun e w' => e = .returned (.int .i64 (bodyBad l)) ∧ Below w.heap.size w w' := by
  obtain ⟨la, lc, rfl, -, -, -⟩ := id hl.form
  have HL := Lib.hid hl
  have M1 := Lib.hid m1
  have M2 := Lib.hid m2
  have M3 := Lib.hid m3
  clear hl m1 m2 m3
  by_cases h5 : 5 < l.length
  · have i5 : (5 : Int) < (l.length : Int) := by omega
    have HE := Lib.hid (bodyBad_many h5)
    go_enter Try.func21, Try.ntmps21
    go_wp2
    go_ret
    exact ⟨ret_int HE.out.symm, Below.refl _ _⟩
  have i5 : ¬ (5 : Int) < (l.length : Int) := by omega
  go_enter Try.func21, Try.ntmps21
  go_wp2
  go_loopw [13] (fun i wr => ∃ k : Nat, k ≤ l.length ∧ i = .int .i64 k ∧ Hid (Below w.heap.size w wr) ∧ Hid (∀ i a, i < k → l[i]? = some a → atomBad a = 0)) (fun i _ => l.length - (intOf i).toNat)
  case atStart => exact ⟨0, Nat.zero_le _, rfl, Lib.hid (Below.refl _ _), Lib.hid (fun i a hi _ => by omega)⟩
  case round =>
    obtain ⟨k, hk, rfl, HB, HZ⟩ := hrel
    by_cases hlt : k < l.length
    · obtain ⟨y, hy⟩ : ∃ y, l[k]? = some y := ⟨_, List.getElem?_eq_getElem hlt⟩
      have hym := List.mem_of_getElem? hy
      obtain ⟨b4, o4, yv, rfl, -, hb4, e0, e1, e2, hyv⟩ := RdAtoms.at (HL.out.up HB.out) hy
      obtain ⟨ya, yc, rfl, -, -, -⟩ := id hyv.form
      obtain ⟨W1, hW1⟩ : ∃ W1, wr.alloc (.cells #[.bool y.neg, .string y.name, .slice ya y.terms.length yc] 38) = W1 := ⟨_, rfl⟩
      have HBA := Lib.hid (show Below wr.heap.size wr W1 from by rw [← hW1]; exact (Below.refl _ _).alloc (Nat.le_refl _) _)
      have HA1 := Lib.hid (show Blk W1 wr.heap.size 38 #[.bool y.neg, .string y.name, .slice ya y.terms.length yc] from by rw [← hW1]; exact Blk.new wr _ _)
      have HB1 := Lib.hid (HB.out.trans (HBA.out.mono HB.out.size))
      have a0 := HA1.out.cell 0
      have a1 := HA1.out.cell 1
      have a2 := HA1.out.cell 2
      simp only [List.getElem?_toArray, List.getElem?_cons_zero, List.getElem?_cons_succ] at a0 a1 a2
      have KA := Lib.hid (wrongAtomRef y _ W1 (hyv.up HBA.out) (by have := M3.out y hym; omega) (by have := M1.out y hym; omega) (fun t ht => by have := M2.out y hym t ht; omega))
      have HX := Lib.hid hy
      clear hy hym hyv
      by_cases hz : atomBad y = 0
      · rw [hz] at KA
        have HZ1 := Lib.hid (show ∀ i a, i < k + 1 → l[i]? = some a → atomBad a = 0 from fun i a hi ha => by
          by_cases e : i = k
          · subst e
            rw [HX.out] at ha
            rw [← Option.some.inj ha]; exact hz
          · exact HZ.out i a (by omega) ha)
        clear hz
        go_wp2_with (go_at_call 46; refine (KA.out).mono ?_; rintro e w3 ⟨rfl, hb3⟩; have HB3 := Lib.hid (HB1.out.trans (hb3.mono HB1.out.size)); clear hb3)
        go_roundw
        case rel => exact ⟨k + 1, by omega, by go_num, HB3, HZ1⟩
        case measure => simp [intOf]; omega
      · have HE := Lib.hid (bodyBad_at h5 HZ.out HX.out hz)
        have hne : (atomBad y != 0) = true := by simpa using hz
        clear hz
        generalize atomBad y = q at *
        go_wp2_with (go_at_call 46; refine (KA.out).mono ?_; rintro e w3 ⟨rfl, hb3⟩; have HB3 := Lib.hid (HB1.out.trans (hb3.mono HB1.out.size)); clear hb3)
        go_ret
        exact ⟨ret_int HE.out.symm, HB3.out⟩
    · have HZL := Lib.hid (show ∀ i a, i < l.length → l[i]? = some a → atomBad a = 0 from fun i a hi ha => HZ.out i a (by omega) ha)
      clear HZ
      go_wp2
      have HF0 := Lib.hid (show ∀ a ∈ l.take 0, boundIn (heldOf l) (varsOf a) = true from by simp)
      go_loopw [25] (fun i wr => ∃ k : Nat, k ≤ l.length ∧ i = .int .i64 k ∧ Hid (Below w.heap.size w wr) ∧ Hid (∀ a ∈ l.take k, boundIn (heldOf l) (varsOf a) = true)) (fun i _ => l.length - (intOf i).toNat)
      case atStart => exact ⟨0, Nat.zero_le _, rfl, HB, HF0⟩
      case round =>
        clear HB HF0
        obtain ⟨k, hk, rfl, HB, HF⟩ := hrel
        by_cases hlt : k < l.length
        · obtain ⟨y, hy⟩ : ∃ y, l[k]? = some y := ⟨_, List.getElem?_eq_getElem hlt⟩
          have hym := List.mem_of_getElem? hy
          obtain ⟨b4, o4, yv, rfl, -, hb4, e0, e1, e2, hyv⟩ := RdAtoms.at (HL.out.up HB.out) hy
          obtain ⟨ya, yc, rfl, -, -, -⟩ := id hyv.form
          obtain ⟨W1, hW1⟩ : ∃ W1, wr.alloc (.cells #[.bool y.neg, .string y.name, .slice ya y.terms.length yc] 38) = W1 := ⟨_, rfl⟩
          have HBA := Lib.hid (show Below wr.heap.size wr W1 from by rw [← hW1]; exact (Below.refl _ _).alloc (Nat.le_refl _) _)
          have HA1 := Lib.hid (show Blk W1 wr.heap.size 38 #[.bool y.neg, .string y.name, .slice ya y.terms.length yc] from by rw [← hW1]; exact Blk.new wr _ _)
          have HB1 := Lib.hid (HB.out.trans (HBA.out.mono HB.out.size))
          have a0 := HA1.out.cell 0
          have a1 := HA1.out.cell 1
          have a2 := HA1.out.cell 2
          simp only [List.getElem?_toArray, List.getElem?_cons_zero, List.getElem?_cons_succ] at a0 a1 a2
          have KA := Lib.hid (boundRef y _ l _ W1 (hyv.up HBA.out) (HL.out.up HB1.out) (M1.out y hym) (M2.out y hym) m0 M1.out M2.out)
          have HY := Lib.hid hym
          have HX := Lib.hid hy
          clear hy hym hyv
          obtain ⟨q, hq⟩ : ∃ q, boundIn (heldOf l) (varsOf y) = q := ⟨_, rfl⟩
          rw [hq] at KA
          cases q
          · have HE := Lib.hid (show bodyBad l = 9 from by
              unfold boundIn at hq
              rw [List.all_eq_false] at hq
              obtain ⟨v, hv, hb⟩ := hq
              exact bodyBad_free h5 HZL.out HY.out hv (by simpa using hb))
            clear hq
            go_wp2_with (go_at_call 47; refine (KA.out).mono ?_; rintro e w3 ⟨rfl, hb3⟩; have HB3 := Lib.hid (HB1.out.trans (hb3.mono HB1.out.size)); clear hb3)
            go_ret
            exact ⟨ret_int HE.out.symm, HB3.out⟩
          · have HF1 := Lib.hid (show ∀ a ∈ l.take (k + 1), boundIn (heldOf l) (varsOf a) = true from fun z hz => by
              rw [List.take_add_one, HX.out] at hz
              rcases List.mem_append.1 hz with hz | hz
              · exact HF.out z hz
              · obtain rfl : z = y := by simpa using hz
                exact hq)
            clear hq
            go_wp2_with (go_at_call 47; refine (KA.out).mono ?_; rintro e w3 ⟨rfl, hb3⟩; have HB3 := Lib.hid (HB1.out.trans (hb3.mono HB1.out.size)); clear hb3)
            go_roundw
            case rel => exact ⟨k + 1, by omega, by go_num, HB3, HF1⟩
            case measure => simp [intOf]; omega
        · have HE := Lib.hid (show bodyBad l = 0 from bodyBad_ok h5 HZL.out (fun a ha v hv => by
            have := HF.out a (by rwa [List.take_of_length_le (by omega)])
            unfold boundIn at this
            exact List.all_eq_true.1 this v hv))
          go_wp2
          go_ret
          exact ⟨ret_int HE.out.symm, HB.out⟩
end Go.Proofs.Ythieomebngiabaa
namespace Go.Proofs.Ythieomebngiabaa
open Go.RowKit
set_option maxHeartbeats 2000000 in
theorem wrongRef {S : Nat → Prop} (f : PFact) (av : Value) (w : World) (h : RdStrs S w av f.args) (n0 : f.name.size ≤ 1099511627776) (n1 : f.args.length ≤ 1073741824) (n2 : ∀ x ∈ f.args, x.size ≤ 1099511627776) :
    Calls Try.prog 48 #[.agg #[.string f.name, av]] w fun e w' => e = .returned (.int .i64 (wrongF f)) ∧ Below w.heap.size w w' := by
  obtain ⟨a, c, rfl, -, -, -⟩ := id h.form
  have H := Lib.hid (fun W (ha : Agree (fun _ => True) w W) i x (hx : f.args[i]? = some x) => RdStrs.at ((h.more RStr.steady (S' := fun _ => True) (fun _ _ _ => trivial)).agree RStr.steady ha) hx)
  have N2 := Lib.hid n2
  have K0 := Lib.hid (namedRef f.name (w.alloc (.cells #[.string f.name, .slice a f.args.length c] 41)) n0)
  have KN := Lib.hid (fun (x : Str) (hx : x.size ≤ 1099511627776) W => namedRef x W hx)
  have c0 : (w.alloc (.cells #[.string f.name, .slice a f.args.length c] 41)).cell? ⟨w.heap.size, 1, none⟩ = some (.slice a f.args.length c) := by simp
  have hsz : w.heap.size < (w.alloc (.cells #[.string f.name, .slice a f.args.length c] 41)).heap.size := by simp
  have HB0 := Lib.hid ((Below.refl w.heap.size w).alloc (Nat.le_refl _) (.cells #[.string f.name, .slice a f.args.length c] 41))
  have HW : Hid (wrongF f = if !named f.name then 7 else if 4 < f.args.length then 5 else if f.args.all named then 0 else 7) := Lib.hid (show wrongF f = if !named f.name then 7 else if 4 < f.args.length then 5 else if f.args.all named then 0 else 7 from rfl)
  clear h n2
  obtain ⟨q, hq⟩ : ∃ q, named f.name = q := ⟨_, rfl⟩
  rw [hq] at K0 HW
  clear hq
  cases q
  · go_enter Try.func48, Try.ntmps48
    go_wp2_with (go_at_call 62; refine (K0.out).mono ?_; rintro e w1 ⟨rfl, hb1⟩)
    go_ret
    exact ⟨ret_int (by rw [HW.out]; rfl), HB0.out.trans (hb1.mono (by simp))⟩
  · by_cases h4 : 4 < f.args.length
    · have HE := Lib.hid (show wrongF f = 5 by rw [HW.out]; simp [h4])
      have i1 : (4 : Int) < (f.args.length : Int) := by omega
      go_enter Try.func48, Try.ntmps48
      go_wp2_with (go_at_call 62; refine (K0.out).mono ?_; rintro e w1 ⟨rfl, hb1⟩; have d0 := (cell_below hb1 hsz 1).trans c0)
      go_ret
      exact ⟨ret_int HE.out.symm, HB0.out.trans (hb1.mono (by simp))⟩
    · have HE := Lib.hid (show wrongF f = if f.args.all named then 0 else 7 by rw [HW.out]; simp [h4])
      have i1 : ¬ (4 : Int) < (f.args.length : Int) := by omega
      go_enter Try.func48, Try.ntmps48
      go_wp2_with (go_at_call 62; refine (K0.out).mono ?_; rintro e w1 ⟨rfl, hb1⟩; have d0 := (cell_below hb1 hsz 1).trans c0; have HB1 := Lib.hid (HB0.out.trans (hb1.mono (by simp))); clear hb1)
      go_loopw [16, 4] (fun i _ wr => ∃ k : Nat, k ≤ f.args.length ∧ i = .int .i64 k ∧ Hid (f.args.all named = (f.args.drop k).all named) ∧ Hid (Below w.heap.size w wr)) (fun i _ _ => f.args.length - (intOf i).toNat)
      case atStart => exact ⟨0, Nat.zero_le _, rfl, Lib.hid rfl, HB1⟩
      case round =>
        obtain ⟨k, hk, rfl, HR, HB⟩ := hrel
        by_cases hlt : k < f.args.length
        · obtain ⟨x, hx⟩ : ∃ x, f.args[k]? = some x := ⟨_, List.getElem?_eq_getElem hlt⟩
          obtain ⟨b1, o1, rfl, -, -, hc1⟩ := H.out wr (Below.agree HB.out) k x hx
          have KX := Lib.hid (KN.out x (N2.out x (List.mem_of_getElem? hx)) wr)
          have HD := Lib.hid (show (f.args.drop k).all named = (named x && (f.args.drop (k + 1)).all named) by rw [drop_cons hx]; rfl)
          clear hx
          cases hs : named x
          · rw [hs] at KX HD
            have HF := Lib.hid (show wrongF f = 7 by rw [HE.out, HR.out, HD.out]; rfl)
            clear hs
            go_wp2_with (go_at_call 62; refine (KX.out).mono ?_; rintro e w2 ⟨rfl, hb2⟩)
            go_ret
            exact ⟨ret_int HF.out.symm, HB.out.trans (hb2.mono HB.out.size)⟩
          · rw [hs] at KX HD
            have HF := Lib.hid (HR.out.trans HD.out)
            clear hs
            go_wp2_with (go_at_call 62; refine (KX.out).mono ?_; rintro e w2 ⟨rfl, hb2⟩; have HB2 := Lib.hid (HB.out.trans (hb2.mono HB.out.size)); clear hb2)
            go_roundw
            case rel => exact ⟨k + 1, by omega, by go_num, Lib.hid (by rw [HF.out]; simp), HB2.out⟩
            case measure => simp [intOf]; omega
        · have HF := Lib.hid (show wrongF f = 0 by rw [HE.out, HR.out, drop_end (by omega : f.args.length ≤ k)]; rfl)
          go_wp2
          go_ret
          exact ⟨ret_int HF.out.symm, HB.out⟩
end Go.Proofs.Ythieomebngiabaa
