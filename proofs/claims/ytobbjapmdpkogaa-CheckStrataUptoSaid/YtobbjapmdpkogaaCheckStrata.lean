/-
  CLAIM: CheckStrata: of any program of bulk at most 1048576 the law answers true and leaves its argument as it was.
-/
import Derived.Test.YtobbjapmdpkogaaAlive3
import Derived.Test.YtobbjapmdpkogaaRulesIn
import Derived.Test.YtobbjapmdpkogaaMapN
import Derived.Test.YtobbjapmdpkogaaCheckLess
import Derived.Deep.QuietTactic
namespace Go.Proofs.Ytobbjapmdpkogaa
open Go.RowKit Go.ChangeShapes Go.WideShapes Go.ChangeAt

/-- The worlds of the law. -/
structure CsW (w wr : World) (hb : Nat) (vl : Value) (ls ks : List Int) : Prop where
  below : Below w.heap.size w wr
  ints : RdInts (fun b => b ≠ hb) wr vl ls
  map : MapN wr hb ks
  lt : w.heap.size ≤ hb
section
variable {w wr w' : World} {hb : Nat} {vl : Value} {ls ks : List Int}
theorem CsW.alloc (h : CsW w wr hb vl ls ks) (o : Obj) : CsW w (wr.alloc o) hb vl ls ks :=
  ⟨h.below.alloc h.below.size o, h.ints.agree RInt.steady ((Agree.refl _ _).alloc o), h.map.alloc o, h.lt⟩
theorem CsW.drewN (h : CsW w wr hb vl ls ks) (n : Nat) : CsW w (wr.drewN n) hb vl ls ks :=
  ⟨Below.drewN h.below n, h.ints.agree RInt.steady (Agree.drewN (Agree.refl _ _) n), h.map.drewN n, h.lt⟩
theorem CsW.put (h : CsW w wr hb vl ls ks) (hn : ks.length < maxLen) {n : Int} (hs : (Lit.int .i64 n).wf = true) :
    ∃ w', (Instr.mapUpdate 53 (.map (some hb)) (.int .i64 n) (.bool true)).run Try.prog wr = .ok () w' ∧ CsW w w' hb vl ls (ks ++ [n]) ∧ wr.grownBy w' (some hb) := by
  obtain ⟨w', h1, h2, h3⟩ := h.map.put hn hs
  exact ⟨w', h1, ⟨h.below.grown h3 h.below.size (fun q hq => by cases hq; exact h.lt), h.ints.agree RInt.steady ⟨h3.size, fun b hb hlt => h3.block b hlt (fun e => hb (Option.some.inj e))⟩, h2, h.lt⟩, h3⟩
end

attribute [local go_sem ↓] Go.wp_at_zero Go.wp_at_succ
set_option maxRecDepth 100000 in
set_option maxHeartbeats 8000000 in
theorem checkStrataCalls (p : List PRule) (v : Value) (w : World) (h : RdRules (fun _ => True) w v p) (n1 : p.length ≤ 1048576) (n2 : ∀ r ∈ p, RuleSmall r) (n3 : ∀ r ∈ p, NameSmall r) :
    Calls Try.prog 7 #[v] w fun e w' => e = .returned (.bool true) ∧ Below w.heap.size w w' := by
  obtain ⟨a, c, rfl, hc1, hc2, hc3⟩ := id h.form
  have H := Lib.hid h
  have N2 := Lib.hid n2
  have N3 := Lib.hid n3
  clear h n2 n3
  rcases strata_cases p with ⟨x, y, hx, hs⟩ | ⟨hz, L, hL, hs⟩
  · have KS := Lib.hid (fun (W : World) (hW : Below w.heap.size w W) => strataKnown (n := 0) (by rfl) hs (H.out.up hW) n1 N2.out N3.out)
    have hne : (x != 0) = true := by simpa using hx
    clear hs hx
    go_enter Try.func7, Try.ntmps7
    go_wp2_with (first
      | (go_at_call 16; refine (KS.out _ HB1.out).mono ?_; rintro e w2 ⟨⟨la, lc, rfl, -⟩, hb2⟩; have HB2 := Lib.hid ((HB1.out.trans (hb2.mono HB1.out.size)).alloc (Nat.le_trans HB1.out.size hb2.size) (.cells #[.int .i64 x, .int .i64 y] 26)); clear hb2)
      | (go_at_call 31; refine (alive3Calls _).mono ?_; rintro e w1 ⟨rfl, hb1⟩; have HB1 := Lib.hid hb1; clear hb1))
    go_wp2
    go_ret
    exact ⟨rfl, HB2.out⟩
  obtain ⟨ls, HLS⟩ : ∃ ls, Hid ((p.map fun r => (L r.head.name : Int)) = ls) := ⟨_, Lib.hid rfl⟩
  rw [HLS.out] at hs
  have hll : ls.length = p.length := by rw [← HLS.out]; simp
  have KS := Lib.hid (fun (W : World) (hW : Below w.heap.size w W) => strataKnown hll hs (H.out.up hW) n1 N2.out N3.out)
  have hp16 : p.length ≤ 16 := by
    apply Classical.byContradiction
    intro hm
    unfold wrongP at hz
    rw [if_pos (by omega)] at hz
    exact absurd hz (by decide)
  have HUP := Lib.hid (show ∀ r ∈ p, ∀ q ∈ p, ∀ a ∈ r.body, a.name = q.head.name → L q.head.name + (if a.neg then 1 else 0) ≤ L r.head.name from fun r hr q hq a ha e => by
    have h1 := hL.sol.up r hr a ha
    have h2 : dl p a = if a.neg then 1 else 0 := by
      unfold dl
      have : a.name ∈ headsOf p := List.mem_map.2 ⟨q, hq, e.symm⟩
      simp [this]
    rw [h2, e] at h1
    exact h1)
  have HLV := Lib.hid (show ∀ (j : Nat) (r : PRule), p[j]? = some r → ls[j]? = some (L r.head.name : Int) from fun j r hr => by rw [← HLS.out, List.getElem?_map, hr]; rfl)
  have HFU := Lib.hid (show ∀ k : Nat, k < (onceD ls).length → (k : Int) ∈ ls from fun k hk => by rw [← HLS.out] at hk ⊢; exact levels_full hL hk)
  have HSM := Lib.hid (show ∀ r ∈ p, L r.head.name < 16 from fun r hr => by
    have h1 := hL.bound (D := onceS (headsOf p)) (fun x hx => (mem_onceS x _).2 hx) (s := r.head.name) (List.mem_map.2 ⟨r, hr, rfl⟩)
    have h2 : (onceS (headsOf p)).length ≤ p.length := Dh_le p
    omega)
  have hod : (onceD ls).length ≤ 16 := by
    have := nodup_le (onceD_nodup ls) (fun x hx => (mem_onceD x ls).1 hx)
    omega
  clear hs hz hL
  have hmm := @run_makeMap Try.prog
  go_enter Try.func7, Try.ntmps7
  go_wp2_with (first
    | (go_at_call 16; refine (KS.out _ HB1.out).mono ?_; rintro e w2 ⟨⟨la, lc, rfl, hl⟩, hb2⟩; have HB2 := Lib.hid ((HB1.out.trans (hb2.mono HB1.out.size)).alloc (Nat.le_trans HB1.out.size hb2.size) (.cells #[.int .i64 0, .int .i64 0] 26)); have HL2 := Lib.hid ((hl.more (S' := fun b => b ≠ w2.heap.size + 1) RInt.steady (fun _ _ hb => by omega)).agree RInt.steady ((Agree.refl (fun b => b ≠ w2.heap.size + 1) _).alloc (.cells #[.int .i64 0, .int .i64 0] 26))); clear hb2 hl HB1)
    | (go_at_call 31; refine (alive3Calls _).mono ?_; rintro e w1 ⟨rfl, hb1⟩; have HB1 := Lib.hid hb1; clear hb1))
  have HW0 := Lib.hid (show CsW w ((w2.alloc (.cells #[.int .i64 0, .int .i64 0] 26)).alloc (.map #[] 0)) (w2.heap.size + 1) (.slice la p.length lc) ls (ls.take 0) from by
    have hs1 : (w2.alloc (.cells #[.int .i64 0, .int .i64 0] 26)).heap.size = w2.heap.size + 1 := by simp
    have h2 := HB2.out.size
    refine ⟨HB2.out.alloc HB2.out.size _, HL2.out.agree RInt.steady ((Agree.refl _ _).alloc _), ?_, by omega⟩
    have := MapN.made (w2.alloc (.cells #[.int .i64 0, .int .i64 0] 26))
    rwa [hs1] at this)
  clear HB2 HL2
  generalize (w2.alloc (.cells #[.int .i64 0, .int .i64 0] 26)).alloc (.map #[] 0) = w3 at *
  generalize w2.heap.size + 1 = hb at *
  go_loopw [29] (fun i wr => ∃ k : Nat, k ≤ p.length ∧ i = .int .i64 k ∧ Hid (CsW w wr hb (.slice la p.length lc) ls (ls.take k))) (fun i _ => p.length - (intOf i).toNat)
  case atStart => exact ⟨0, Nat.zero_le _, rfl, HW0⟩
  case round =>
    clear HW0
    obtain ⟨k, hk, rfl, HW⟩ := hrel
    by_cases hlt : k < p.length
    · obtain ⟨x, hx⟩ : ∃ x, p[k]? = some x := ⟨_, List.getElem?_eq_getElem hlt⟩
      have hmem := List.mem_of_getElem? hx
      obtain ⟨b1, o1, tv, bv, rfl, -, hb1, d0, d1, d2, d3, htv, hbv⟩ := RdRules.at H.out hx
      obtain ⟨ta, tc, rfl, -, -, -⟩ := id htv.form
      obtain ⟨ba, bc, rfl, -, -, -⟩ := id hbv.form
      have HRA := Lib.hid (show RuleAt (fun _ => True) w b1 (o1 + k * 4) x (.slice ta x.head.terms.length tc) (.slice ba x.body.length bc) from ⟨hb1, d0, d1, d2, d3, htv, hbv⟩)
      have hb0 := (N2.out x hmem).b0
      have hlk := HLV.out k x hx
      have hsm := HSM.out x hmem
      have HME := Lib.hid hmem
      clear d0 d1 d2 d3
      obtain ⟨-, d0, d1, d2, d3, -, -⟩ := HRA.out.up HW.out.below
      have HW1 := Lib.hid (HW.out.alloc (.cells #[.bool x.head.neg, .string x.head.name, .slice ta x.head.terms.length tc, .slice ba x.body.length bc] 33))
      have HR1 := Lib.hid (Blk.new wr 33 #[.bool x.head.neg, .string x.head.name, .slice ta x.head.terms.length tc, .slice ba x.body.length bc])
      obtain ⟨lb, lo, rfl, -, -, l5⟩ := RdInts.at HW1.out.ints hlk
      obtain ⟨w4, hput, hw4, hg4⟩ := HW1.out.put (by rw [List.length_take]; unfold maxLen; omega) (n := (L x.head.name : Int)) (WalkArith.wf_i64 (by omega))
      have HW4 := Lib.hid (show CsW w w4 hb (.slice (some ⟨lb, lo, none⟩) p.length lc) ls (ls.take (k + 1)) by
        have e : ls.take (k + 1) = ls.take k ++ [(L x.head.name : Int)] := by rw [List.take_add_one, hlk]; rfl
        rw [e]; exact hw4)
      have hbl : hb < wr.heap.size := HW.out.map.lt
      have HR4 := Lib.hid (HR1.out.grown hg4 (by simp; omega))
      have HLK := Lib.hid hlk
      clear hx hmem htv hbv hw4 hg4 HW1 HR1 hlk HW
      go_wp2
      clear d0 d1 d2 d3 l5 hput
      generalize wr.heap.size = rb at *
      go_loopw [41] (fun i wr => ∃ j : Nat, j ≤ p.length ∧ i = .int .i64 j ∧ Hid (CsW w wr hb (.slice (some ⟨lb, lo, none⟩) p.length lc) ls (ls.take (k + 1))) ∧ Hid (Blk wr rb 33 #[.bool x.head.neg, .string x.head.name, .slice ta x.head.terms.length tc, .slice ba x.body.length bc])) (fun i _ => p.length - (intOf i).toNat)
      case atStart => exact ⟨0, Nat.zero_le _, rfl, HW4, HR4⟩
      case round =>
        clear HW4 HR4
        obtain ⟨j, hj, rfl, HW, HR⟩ := hrel
        by_cases hlj : j < p.length
        · obtain ⟨q, hq⟩ : ∃ q, p[j]? = some q := ⟨_, List.getElem?_eq_getElem hlj⟩
          have hqm := List.mem_of_getElem? hq
          obtain ⟨b1', o1', qtv, qbv, e1', -, qb1, d0, d1, d2, d3, qhtv, qhbv⟩ := RdRules.at H.out hq
          injection e1' with e1'
          injection e1' with e1' e2'
          subst e1' e2'
          obtain ⟨qa, qc, rfl, -, -, -⟩ := id qhtv.form
          obtain ⟨pa, pc, rfl, -, -, -⟩ := id qhbv.form
          have HQA := Lib.hid (show RuleAt (fun _ => True) w b1 (o1 + j * 4) q (.slice qa q.head.terms.length qc) (.slice pa q.body.length pc) from ⟨qb1, d0, d1, d2, d3, qhtv, qhbv⟩)
          clear d0 d1 d2 d3
          obtain ⟨-, d0, d1, d2, d3, -, -⟩ := HQA.out.up HW.out.below
          have hlq := HLV.out j q hq
          have HUQ := Lib.hid (HUP.out x HME.out q hqm)
          have HW2 := Lib.hid (HW.out.alloc (.cells #[.bool q.head.neg, .string q.head.name, .slice qa q.head.terms.length qc, .slice pa q.body.length pc] 33))
          have HR2 := Lib.hid (HR.out.alloc (.cells #[.bool q.head.neg, .string q.head.name, .slice qa q.head.terms.length qc, .slice pa q.body.length pc] 33))
          have HQ2 := Lib.hid (Blk.new wr 33 #[.bool q.head.neg, .string q.head.name, .slice qa q.head.terms.length qc, .slice pa q.body.length pc])
          have HLQ := Lib.hid hlq
          obtain ⟨lb', lo', hlb, -, -, l1⟩ := RdInts.at HW2.out.ints HLK.out
          injection hlb with hlb; injection hlb with g1 g2; subst g1 g2
          obtain ⟨lb', lo', hlb, -, -, l2⟩ := RdInts.at HW2.out.ints hlq
          injection hlb with hlb; injection hlb with g1 g2; subst g1 g2
          have r1 := HR2.out.cell 1
          have r3 := HR2.out.cell 3
          have q1 := HQ2.out.cell 1
          simp only [List.getElem?_toArray, List.getElem?_cons_zero, List.getElem?_cons_succ] at r1 r3 q1
          have hrb : rb < wr.heap.size := HR.out.lt
          clear hq hqm qhtv qhbv hlq HW HR
          have hlen1 : k < p.length := hlt
          obtain ⟨lx, hlx⟩ : ∃ lx, L x.head.name = lx := ⟨_, rfl⟩
          obtain ⟨lq, hlq⟩ : ∃ lq, L q.head.name = lq := ⟨_, rfl⟩
          have hle : ∃ be, (q.head.name.toList == x.head.name.toList) = be ∧ (be = true → ((lx : Int) != (lq : Int)) = false) := by
            by_cases hnm : q.head.name = x.head.name
            · exact ⟨true, by rw [hnm]; exact beq_self_eq_true _, fun _ => by rw [← hlx, ← hlq, hnm]; simp⟩
            · exact ⟨false, by rw [beq_toList]; exact decide_eq_false hnm, fun h => by cases h⟩
          rw [hlx] at HLK l1 HUQ hsm
          rw [hlq] at HLQ l2 HUQ
          have HLX := Lib.hid hlx
          clear hlx hlq
          obtain ⟨be, g1, hbe⟩ := hle
          cases be
          all_goals
            try have hne := hbe rfl
            clear hbe
            go_wp2_with fail
            go_quiet (fail)
            go_wp2
            generalize hrq : wr.heap.size = rq at *
            clear hrq d0 d1 d2 d3 l1 l2 r1 r3 q1 g1
            try clear hne
            go_loopw [67] (fun i wr => ∃ t : Nat, t ≤ x.body.length ∧ i = .int .i64 t ∧ Hid (CsW w wr hb (.slice (some ⟨lb, lo, none⟩) p.length lc) ls (ls.take (k + 1))) ∧ Hid (Blk wr rb 33 #[.bool x.head.neg, .string x.head.name, .slice ta x.head.terms.length tc, .slice ba x.body.length bc]) ∧ Hid (Blk wr rq 33 #[.bool q.head.neg, .string q.head.name, .slice qa q.head.terms.length qc, .slice pa q.body.length pc])) (fun i _ => x.body.length - (intOf i).toNat)
            case atStart => exact ⟨0, Nat.zero_le _, rfl, Lib.hid (HW2.out.drewN _), Lib.hid (HR2.out.drewN _), Lib.hid (HQ2.out.drewN _)⟩
            case round =>
              clear HW2 HR2 HQ2
              obtain ⟨t, ht, rfl, HW, HR, HQ⟩ := hrel
              by_cases hlt2 : t < x.body.length
              · obtain ⟨y, hy⟩ : ∃ y, x.body[t]? = some y := ⟨_, List.getElem?_eq_getElem hlt2⟩
                have hym := List.mem_of_getElem? hy
                obtain ⟨b4, o4, yv, rfl, -, hb4, e0, e1, e2, hyv⟩ := RdAtoms.at ((HRA.out.up HW.out.below).b) hy
                obtain ⟨ya, yc, rfl, -, -, -⟩ := id hyv.form
                have HW5 := Lib.hid (HW.out.alloc (.cells #[.bool y.neg, .string y.name, .slice ya y.terms.length yc] 30))
                have HR5 := Lib.hid (HR.out.alloc (.cells #[.bool y.neg, .string y.name, .slice ya y.terms.length yc] 30))
                have HQ5 := Lib.hid (HQ.out.alloc (.cells #[.bool y.neg, .string y.name, .slice ya y.terms.length yc] 30))
                have q1 := HQ5.out.cell 1
                simp only [List.getElem?_toArray, List.getElem?_cons_zero, List.getElem?_cons_succ] at q1
                have hrq2 : rq < wr.heap.size := HQ.out.lt
                by_cases hnm : y.name = q.head.name
                · have g2 : (y.name.toList == q.head.name.toList) = true := by rw [hnm]; exact beq_self_eq_true _
                  have hup := HUQ.out y hym hnm
                  obtain ⟨lb', lo', hlb, -, -, l1⟩ := RdInts.at HW5.out.ints HLK.out
                  injection hlb with hlb; injection hlb with g3 g4; subst g3 g4
                  obtain ⟨lb', lo', hlb, -, -, l2⟩ := RdInts.at HW5.out.ints HLQ.out
                  injection hlb with hlb; injection hlb with g3 g4; subst g3 g4
                  have i1 : decide (lx < lq) = false := decide_eq_false (by split at hup <;> omega)
                  clear hnm hy hym hyv HW HR HQ
                  cases hn : y.neg
                  · rw [hn] at e0 HW5 HR5 HQ5 q1 l1 l2
                    clear hn hup
                    go_wp2_with fail
                    go_quiet (fail)
                    go_wp2
                    go_roundw
                    case rel => exact ⟨t + 1, by omega, by go_num, Lib.hid (HW5.out.drewN _), Lib.hid (HR5.out.drewN _), Lib.hid (HQ5.out.drewN _)⟩
                    case measure => simp [intOf]; omega
                  · have i2 : decide (lx ≤ lq) = false := decide_eq_false (by rw [hn] at hup; simp at hup; omega)
                    rw [hn] at e0 HW5 HR5 HQ5 q1 l1 l2
                    clear hn hup
                    go_wp2_with fail
                    go_quiet (fail)
                    go_wp2
                    go_roundw
                    case rel => exact ⟨t + 1, by omega, by go_num, Lib.hid (HW5.out.drewN _), Lib.hid (HR5.out.drewN _), Lib.hid (HQ5.out.drewN _)⟩
                    case measure => simp [intOf]; omega
                · have g2 : (y.name.toList == q.head.name.toList) = false := by rw [beq_toList]; exact decide_eq_false hnm
                  clear hnm hy hym hyv HW HR HQ
                  go_wp2_with fail
                  go_quiet (fail)
                  go_wp2
                  go_roundw
                  case rel => exact ⟨t + 1, by omega, by go_num, Lib.hid (HW5.out.drewN _), Lib.hid (HR5.out.drewN _), Lib.hid (HQ5.out.drewN _)⟩
                  case measure => simp [intOf]; omega
              · clear HQ
                go_wp2
                go_roundw
                case rel => exact ⟨j + 1, by omega, by go_num, HW, HR⟩
                case measure => simp [intOf]; omega
        · go_wp2
          go_roundw
          case rel => exact ⟨k + 1, by omega, by go_num, HW⟩
          case measure => simp [intOf]; omega
    · have htk : ls.take k = ls := List.take_of_length_le (by omega)
      rw [htk] at HW
      have hlen := HW.out.map.len 3
      clear htk
      have HLL := Lib.hid hll
      generalize hN : (onceD ls).length = N at *
      have HFN := Lib.hid HFU.out
      clear hll
      go_wp2
      clear hlen
      go_loopw [108] (fun i wr => ∃ j : Nat, j ≤ N ∧ i = .int .i64 j ∧ Hid (CsW w wr hb (.slice la p.length lc) ls ls)) (fun i _ => N - (intOf i).toNat)
      case atStart => exact ⟨0, Nat.zero_le _, rfl, HW⟩
      case round =>
        clear HW
        obtain ⟨j, hj, rfl, HW⟩ := hrel
        by_cases hlj : j < N
        · have hget := HW.out.map.get (n := (j : Int)) (WalkArith.wf_i64 (by omega))
          have hmj : decide ((j : Int) ∈ ls) = true := decide_eq_true (HFN.out j hlj)
          rw [hmj] at hget
          clear hmj
          go_wp2
          go_roundw
          case rel => exact ⟨j + 1, by omega, by go_num, HW⟩
          case measure => simp [intOf]; omega
        · go_wp2
          go_ret
          exact ⟨rfl, HW.out.below⟩
namespace checkStrata
theorem own : ownKnob Try.prog.godebug = none := by kernel_rfl

set_option maxRecDepth 100000 in
theorem contract (H : Type) (enc : TypeId × Value → H) (W : World) (base : Nat) (args : Array Value) (ds gs : List (DataW H)) (before : List MemPlace)
    (hval : ∀ (j : Nat) t v, Try.f7.params[j]? = some t → args[j]? = some v → Value.okWide Try.prog W .any base t v)
    (hW : DataW.Whole enc Try.prog Try.f7.params.toList Rows.checkStrataSpec.vars false W args.toList ds gs before) (hk : Rows.uptoSmall H (ds ++ gs) = true) :
    Calls Try.prog 7 args W fun e W' => ∃ v, e = .returned v ∧ Rows.checkStrataSpec.post enc Try.prog Try.f7 false true false false W args v W' := by
  have hW' := hW
  obtain ⟨p, q, hA0, hV, rfl, hfz, hnd⟩ := hW
  have hA : DataW.TrodAll enc Try.prog W 0 (fun _ => true) true Try.f7.params.toList args.toList ds p := hA0
  rw [Try.params7] at hA hval
  obtain ⟨v0, d0, rfl, rfl, h0⟩ := trodAll_one hA
  obtain ⟨rfl, rfl⟩ := trodVars_none hV
  obtain ⟨x0, r0, s0⟩ := openRule.sliceArg Try.underlying23 (hval 0 23 v0 rfl rfl) h0
  rw [List.append_nil] at hk
  have hb : Rows.uptoBulkAll [d0] ≤ 1048576 := of_decide_eq_true hk
  simp only [Rows.uptoBulkAll] at hb
  obtain ⟨l0, m0, k0⟩ := rules_small (p := x0) (by omega)
  refine (checkStrataCalls x0 v0 W r0 l0 m0 k0).mono fun e W' ⟨he, hb'⟩ => ?_
  subst he
  exact ⟨_, rfl, law_post (tb := 4) hW' rfl rfl (by kernel_rfl) Try.underlying4 (by kernel_rfl) (by kernel_rfl) hb'⟩

set_option maxRecDepth 100000 in
theorem lifted (os : Os) (started : os.Started) (H : Type) (enc : TypeId × Value → H) (F : Stop.Interp) :
    ReturnsInHanded {} Try.checked os 7 .any ((Rows.OpenSpec.upto Rows.checkStrataSpec).pre6 enc Try.prog Try.f7 Rows.checkStrataUptoRow.domain false) (((Rows.OpenSpec.upto Rows.checkStrataSpec).at F).post enc Try.prog Try.f7 false true false false) := by
  refine returnsInHanded_of_cond (C := Try.checked) (s := Rows.OpenSpec.upto Rows.checkStrataSpec) (k := Rows.uptoSmall) rfl own started (by kernel_rfl) Try.func7
    (OpenSpec.witness (enc := enc) (C := Try.checked) (s := Rows.OpenSpec.upto Rows.checkStrataSpec) (k := Rows.uptoSmall) rfl false ⟨#[], #[.slice none 0 0], []⟩ 8 (by kernel_rfl) (by kernel_rfl) (by kernel_rfl)
      (x := ([.nil], [], [])) (by kernel_rfl) rfl (by kernel_rfl)) ?_
  intro W base args ds gs before hval hW _ hk _
  exact contract H enc W base args ds gs before hval hW hk

theorem proved : Rows.CheckStrataUptoSaid :=
  OpenClaim.holds_of_cond 7 Try.f7 rfl rfl rfl rfl rfl rfl rfl ⟨rfl, rfl, rfl, rfl, rfl⟩ rfl rfl rfl rfl rfl (by kernel_rfl) Try.func7 (by kernel_rfl)
    (of_decide_eq_true (by kernel_rfl)) (by unfold Func.isWrapper; first | (rw [if_pos (by decide +kernel)]; kernel_rfl) | (rw [if_neg (by decide +kernel)]; exact ⟨rfl, rfl⟩))
    (fun os started H enc _ F => lifted os started H enc F)
end checkStrata

end Go.Proofs.Ytobbjapmdpkogaa
