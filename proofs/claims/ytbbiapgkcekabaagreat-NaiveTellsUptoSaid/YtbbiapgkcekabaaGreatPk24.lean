/-
  THE TEXTS EnvO, EnvR, EnvV, RoundS, RoundT, one behind the other.
-/
import Derived.Test.YtbbiapgkcekabaaGreatPk13
import Derived.Test.YtbbiapgkcekabaaGreatPk14
import Derived.Test.YtbbiapgkcekabaaGreatPk17
import Derived.Test.YtbbiapgkcekabaaGreatPk18
import Derived.Test.YtbbiapgkcekabaaGreatPk21
import Derived.Test.YtbbiapgkcekabaaGreatPk23
/-
  THE WALK OF cororef4.Once.
-/
namespace Go.Proofs.YtbbiapgkcekabaaGreat
open Go.RowKit Go.Maps

/-- Facts, and an error, that a call answers. -/
def FactsQ (S : Nat → Prop) (r : List PFact × Int) (w : World) (e : Ending) (w' : World) : Prop :=
  Below w.heap.size w w' ∧ ∃ a c, e = .returned (.tuple #[.slice a r.1.length c, .int .i64 r.2]) ∧ RdFacts (fun q => S q ∨ w.heap.size ≤ q) w' (.slice a r.1.length c) r.1
theorem factsQ_err {S : Nat → Prop} {r : List PFact × Int} {n : Int} {w w' : World} (h : r = ([], n)) (hb : Below w.heap.size w w') : FactsQ S r w (.returned (.tuple #[.slice none 0 0, .int .i64 n])) w' := by
  subst h; exact ⟨hb, none, 0, rfl, RdFacts.nil⟩
theorem factsQ_ok {S : Nat → Prop} {r : List PFact × Int} {l : List PFact} {w w' : World} {a : Option Addr} {c : Nat} (h : r = (l, 0)) (hb : Below w.heap.size w w') (hr : RdFacts (fun q => S q ∨ w.heap.size ≤ q) w' (.slice a l.length c) l) : FactsQ S r w (.returned (.tuple #[.slice a l.length c, .int .i64 0])) w' := by
  subst h; exact ⟨hb, a, c, rfl, hr⟩
theorem RdFacts.anyS {S : Nat → Prop} {w : World} {v : Value} {l : List PFact} (h : RdFacts S w v l) : RdFacts (fun _ => True) w v l := h.more RFact.steady (fun _ _ _ => trivial)
/-- cororef4.Heads, of a right body and a set, as naive.Heads is told. -/
theorem headsRefQ {S S2 S3 : Nat → Prop} (x : PRule) (tv bv fv : Value) (facts : List PFact) (w : World) (ht : RdTerms S w tv x.head.terms) (hb : RdAtoms S2 w bv x.body) (hf : RdFacts S3 w fv facts)
    (hs : RuleSmall x) (hz : bodyBad x.body = 0) (h0 : (setF facts).1 = 0) (n4 : facts.length ≤ 1048576) (n5 : FactsSmall facts) :
    Calls Tryz.prog 26 #[.agg #[.bool x.head.neg, .string x.head.name, tv, bv], fv] w (FactsQ (fun _ => False) (headsP x facts) w) := by
  rw [← headsE_eq hz h0]
  exact (headsRef x tv bv fv facts w ht hb hf hs hz n4 fun y hy => ⟨(n5 y hy).1, (n5 y hy).2.2⟩).mono fun e w' ⟨⟨a, c, h1, h2⟩, h3⟩ => ⟨h3, a, c, h1, h2.more RFact.steady (fun _ h _ => .inr h)⟩

attribute [local go_sem ↓] Go.wp_at_zero Go.wp_at_succ
set_option maxRecDepth 100000 in
set_option maxHeartbeats 8000000 in
theorem onceRef {S S2 S3 : Nat → Prop} (p : List PRule) (v sv fv : Value) (st : List Int) (n : Int) (l : List PFact) (w : World) (h : RdRules S w v p) (hst : RdInts S2 w sv st) (hf : RdFacts S3 w fv l) (hlen : st.length = p.length)
    (n1 : p.length ≤ 1048576) (n2 : ∀ r ∈ p, RuleSmall r) (hz : ∀ r ∈ p, bodyBad r.body = 0) (h0 : (setF l).1 = 0) (n4 : l.length ≤ 1048576) (n5 : FactsSmall l) :
    Calls Tryz.prog 24 #[v, sv, .int .i64 n, fv] w (FactsQ S3 (onceP n l (p.zip st) l) w) := by
  obtain ⟨a, c, rfl, -, -, -⟩ := id h.form
  obtain ⟨sa, sc, rfl, -, -, -⟩ := id hst.form
  obtain ⟨fa, fc, rfl, -, -, -⟩ := id hf.form
  have H := Lib.hid h
  have HST := Lib.hid hst
  have HFA := Lib.hid hf
  have N2 := Lib.hid n2
  have N5 := Lib.hid n5
  have HZ := Lib.hid hz
  have H0 := Lib.hid h0
  have HO1 := Lib.hid (hf.more RFact.steady (S' := fun q => S3 q ∨ w.heap.size ≤ q) (fun _ h _ => .inl h))
  have HB1 := Lib.hid (Below.refl w.heap.size w)
  have hl200 := (setF_set h0).1
  have NA := Lib.hid (fun x (hx : x ∈ l) => (n5 x hx).1)
  have HLEN := Lib.hid hlen
  clear h hst hf n2 n5 hz h0 hlen
  go_enter Tryz.func24, Tryz.ntmps24
  go_wp2
  go_loopw [18, 10] (fun i v wr => ∃ (k : Nat) (o : List PFact) (oa : Option Addr) (oc : Nat), k ≤ p.length ∧ i = .int .i64 k ∧ v = .slice oa o.length oc ∧ o.length ≤ 200 ∧ Hid (∀ x ∈ o, x.args.length ≤ 1048576) ∧ Hid (RdFacts (fun q => S3 q ∨ w.heap.size ≤ q) wr (.slice oa o.length oc) o) ∧ Hid (Below w.heap.size w wr) ∧ Hid (onceP n l (p.zip st) l = onceP n l ((p.zip st).drop k) o)) (fun i _ _ => p.length - (intOf i).toNat)
  case atStart => exact ⟨0, l, _, _, Nat.zero_le _, rfl, rfl, hl200, NA, HO1, HB1, Lib.hid rfl⟩
  case round =>
    clear HO1 HB1
    obtain ⟨k, o, oa, oc, hk, rfl, rfl, hol, HOA, HO, HB, HE⟩ := hrel
    by_cases hlt : k < p.length
    · obtain ⟨x, hx⟩ : ∃ x, p[k]? = some x := ⟨_, List.getElem?_eq_getElem hlt⟩
      obtain ⟨s, hsx⟩ : ∃ s, st[k]? = some s := ⟨_, List.getElem?_eq_getElem (by have := HLEN.out; omega)⟩
      have hmem := List.mem_of_getElem? hx
      obtain ⟨b1, o1, tv, bv, rfl, -, hb1, d0, d1, d2, d3, htv, hbv⟩ := RdRules.at H.out hx
      obtain ⟨ta, tc, rfl, -, -, -⟩ := id htv.form
      obtain ⟨ba, bc, rfl, -, -, -⟩ := id hbv.form
      have HRA := Lib.hid (show RuleAt S w b1 (o1 + k * 4) x (.slice ta x.head.terms.length tc) (.slice ba x.body.length bc) from ⟨hb1, d0, d1, d2, d3, htv, hbv⟩)
      obtain ⟨b2, o2, rfl, -, hb2, e0⟩ := RdInts.at HST.out hsx
      have f0 := (cell_below HB.out hb2 _).trans e0
      have HS := Lib.hid (N2.out x hmem)
      clear d0 d1 d2 d3 e0
      obtain ⟨-, d0, d1, d2, d3, -, -⟩ := HRA.out.up HB.out
      have hsz := HB.out.size
      have hbl2 : b2 < wr.heap.size := Nat.lt_of_lt_of_le hb2 hsz
      have hbx : Below wr.heap.size wr (wr.alloc (.cells #[.bool x.head.neg, .string x.head.name, .slice ta x.head.terms.length tc, .slice ba x.body.length bc] 43)) := (Below.refl _ _).alloc (Nat.le_refl _) _
      have HB1 := Lib.hid (HB.out.trans (hbx.mono hsz))
      have HO1 := Lib.hid (RdFacts.hold HO.out hbx)
      have HE1 := Lib.hid (show onceP n l (p.zip st) l = onceP n l ((x, s) :: (p.zip st).drop (k + 1)) o by rw [HE.out, at_drop (zip_at hx hsx)])
      have i2 : ¬ (st.length : Int) ≤ (k : Int) := by have := HLEN.out; omega
      have i3 : (k : Int) < (st.length : Int) := by have := HLEN.out; omega
      have i4 : (0 : Int) ≤ (k : Int) := by omega
      have hzx := HZ.out x hmem
      clear hx hsx hmem htv hbv hbx HE
      by_cases hs : s = n
      case neg =>
        have g1 : (s != n) = true := by simpa using hs
        have HE2 := Lib.hid (HE1.out.trans (once_skip hs))
        clear hs HE1
        go_wp2
        go_roundw
        case rel => exact ⟨k + 1, o, _, _, by omega, by go_num, rfl, hol, HOA, HO1, HB1, HE2⟩
        case measure => simp [intOf]; omega
      have g1 : (s != n) = false := by simpa using hs
      have KH := Lib.hid (headsRefQ x (.slice ta x.head.terms.length tc) (.slice ba x.body.length bc) (.slice fa l.length fc) l (wr.alloc (.cells #[.bool x.head.neg, .string x.head.name, .slice ta x.head.terms.length tc, .slice ba x.body.length bc] 43)) (HRA.out.up HB1.out).t (HRA.out.up HB1.out).b (HFA.out.up HB1.out) HS.out hzx H0.out n4 N5.out)
      have HHL := Lib.hid (heads_len x l)
      have HHA := Lib.hid (show ∀ y ∈ (headsP x l).1, y.args.length ≤ 1048576 from fun y hy => by rw [heads_args hy]; exact HS.out.h1)
      have H1 := Lib.hid (fun (he : (headsP x l).2 ≠ 0) => HE1.out.trans (once_err hs he))
      have H2 := Lib.hid (fun (he : (headsP x l).2 = 0) hm => HE1.out.trans (once_many hs he hm))
      have H3 := Lib.hid (fun (he : (headsP x l).2 = 0) hm => HE1.out.trans (once_next hs he hm))
      clear hs HE1
      generalize headsP x l = r at *
      obtain ⟨hl, q⟩ := r
      dsimp only at *
      by_cases hq : q = 0
      case neg =>
        have g2 : (q != 0) = true := by simpa using hq
        have HE2 := Lib.hid (H1.out hq)
        clear hq H1 H2 H3
        go_wp2_with (go_at_call 26; refine (KH.out).mono ?_; rintro e w3 ⟨hb3, a3, c3, rfl, ho3⟩; have HB3 := Lib.hid (HB1.out.trans (hb3.mono (Below.size HB1.out))); clear hb3 ho3)
        go_ret2
        exact factsQ_err HE2.out HB3.out
      subst hq
      have KJ := Lib.hid (fun W va vb (h1 : RdFacts (fun q => S3 q ∨ w.heap.size ≤ q) W va o) (h2 : RdFacts (fun q => S3 q ∨ w.heap.size ≤ q) W vb hl) => bothRefU va vb o hl W h1 h2 (by omega) (by have := HHL.out; omega) (fun x hx => by have := HOA.out x hx; omega) (fun x hx => by have := HHA.out x hx; omega))
      have HJA := Lib.hid (show ∀ y ∈ joinF o hl, y.args.length ≤ 1048576 from fun y hy => by
        rcases (mem_joinF _ _ y).1 hy with h | h
        · exact HOA.out y h
        · exact HHA.out y h)
      have H4 := Lib.hid (H2.out rfl)
      have H5 := Lib.hid (H3.out rfl)
      clear H1 H2 H3
      generalize joinF o hl = j at *
      by_cases hm : 200 < j.length
      · have HE2 := Lib.hid (H4.out hm)
        have i5 : (200 : Int) < (j.length : Int) := by omega
        clear hm H4 H5
        go_wp2_with (first
          | (go_at_call 59; have hh := HR3.out; clear hh; refine (KJ.out _ _ _ HO3.out HR3.out).mono ?_; rintro e w4 ⟨⟨v4, rfl, ho4⟩, hb4⟩; obtain ⟨a4, c4, rfl, -, -, -⟩ := id ho4.form; have HB4 := Lib.hid (HB3.out.trans (hb4.mono (Below.size HB3.out))); clear hb4 ho4)
          | (go_at_call 26; refine (KH.out).mono ?_; rintro e w3 ⟨hb3, a3, c3, rfl, ho3⟩; have HB3 := Lib.hid (HB1.out.trans (hb3.mono (Below.size HB1.out))); have HR3 := Lib.hid (ho3.more RFact.steady (S' := fun q => S3 q ∨ w.heap.size ≤ q) (fun q hq _ => hq.elim False.elim (fun h => .inr (Nat.le_trans (Below.size HB1.out) h)))); have HO3 := Lib.hid (RdFacts.hold HO1.out hb3); clear hb3 ho3))
        go_ret2
        exact factsQ_err HE2.out HB4.out
      · have HE2 := Lib.hid (H5.out hm)
        have i5 : ¬ (200 : Int) < (j.length : Int) := by omega
        have hjl : j.length ≤ 200 := by omega
        clear hm H4 H5
        go_wp2_with (first
          | (go_at_call 59; have hh := HR3.out; clear hh; refine (KJ.out _ _ _ HO3.out HR3.out).mono ?_; rintro e w4 ⟨⟨v4, rfl, ho4⟩, hb4⟩; obtain ⟨a4, c4, rfl, -, -, -⟩ := id ho4.form; have HB4 := Lib.hid (HB3.out.trans (hb4.mono (Below.size HB3.out))); have HO4 := Lib.hid (ho4.more RFact.steady (S' := fun q => S3 q ∨ w.heap.size ≤ q) (fun q hq _ => hq.elim id (fun h => .inr (Nat.le_trans (Below.size HB3.out) h)))); clear hb4 ho4)
          | (go_at_call 26; refine (KH.out).mono ?_; rintro e w3 ⟨hb3, a3, c3, rfl, ho3⟩; have HB3 := Lib.hid (HB1.out.trans (hb3.mono (Below.size HB1.out))); have HR3 := Lib.hid (ho3.more RFact.steady (S' := fun q => S3 q ∨ w.heap.size ≤ q) (fun q hq _ => hq.elim False.elim (fun h => .inr (Nat.le_trans (Below.size HB1.out) h)))); have HO3 := Lib.hid (RdFacts.hold HO1.out hb3); clear hb3 ho3))
        go_roundw
        case rel => exact ⟨k + 1, j, _, _, by omega, by go_num, rfl, hjl, HJA, HO4, HB4, HE2⟩
        case measure => simp [intOf]; omega
    · have HE2 := Lib.hid (show onceP n l (p.zip st) l = (o, 0) by rw [HE.out, List.drop_eq_nil_of_le (by rw [List.length_zip]; have := HLEN.out; omega)]; rfl)
      go_wp2
      go_ret2
      exact factsQ_ok HE2.out HB.out HO.out
end Go.Proofs.YtbbiapgkcekabaaGreat

/-
  PLAIN: a round at a time, stratum by stratum, comes to what naive.All comes to.
-/
namespace Go.Proofs.YtbbiapgkcekabaaGreat

/-- What is left to do, of stratum i, cur being known: it comes to T. -/
def Going (ps : List (PRule × Int)) (cnt i : Nat) (cur : List PFact) (T : List PFact × Int) : Prop :=
  if i < cnt then ∃ k, 200 < k + cur.length ∧ T = (if (fixP ps (i : Int) k cur).2 ≠ 0 then ([], (fixP ps (i : Int) k cur).2) else runP ps (cnt - i - 1) ((i : Int) + 1) (fixP ps (i : Int) k cur).1) else T = (cur, 0)
theorem going_run {ps : List (PRule × Int)} {cnt i : Nat} {cur : List PFact} : Going ps (cnt + i) i cur (runP ps cnt (i : Int) cur) := by
  unfold Going
  cases cnt with
  | zero => rw [if_neg (by omega)]; rfl
  | succ n =>
    rw [if_pos (by omega)]
    refine ⟨201, by omega, ?_⟩
    rw [runP, show n + 1 + i - i - 1 = n by omega]
theorem going_end {ps : List (PRule × Int)} {cnt i : Nat} {cur : List PFact} {T : List PFact × Int} (h : Going ps cnt i cur T) (hi : ¬ i < cnt) : T = (cur, 0) := by unfold Going at h; rwa [if_neg hi] at h
theorem going_err {ps : List (PRule × Int)} {cnt i : Nat} {cur : List PFact} {T : List PFact × Int} (h : Going ps cnt i cur T) (hg : Good cur) (hi : i < cnt) (he : (onceP (i : Int) cur ps cur).2 ≠ 0) : T = ([], (onceP (i : Int) cur ps cur).2) := by
  unfold Going at h
  rw [if_pos hi] at h
  obtain ⟨k, hk, hT⟩ := h
  obtain ⟨k, rfl⟩ : ∃ j, k = j + 1 := ⟨k - 1, by have := hg.len; omega⟩
  rw [fixP, if_pos he, if_pos he] at hT
  exact hT
theorem going_same {ps : List (PRule × Int)} {cnt i : Nat} {cur : List PFact} {T : List PFact × Int} (h : Going ps cnt i cur T) (hg : Good cur) (hi : i < cnt) (he : (onceP (i : Int) cur ps cur).2 = 0) (hl : (onceP (i : Int) cur ps cur).1.length = cur.length) :
    (onceP (i : Int) cur ps cur).1 = cur ∧ Going ps cnt (i + 1) cur T := by
  unfold Going at h
  rw [if_pos hi] at h
  obtain ⟨k, hk, hT⟩ := h
  obtain ⟨k, rfl⟩ : ∃ j, k = j + 1 := ⟨k - 1, by have := hg.len; omega⟩
  have hF : fixP ps (i : Int) (k + 1) cur = (cur, 0) := by rw [fixP, if_neg (by simpa using he), if_pos hl]
  rw [hF, if_neg (by simp)] at hT
  have hR := once_round he hg.rise hg.len
  refine ⟨(rising_sub_len hg.rise hR.rise (fun x hx => (hR.mem x).2 (.inl hx)) hl).symm, ?_⟩
  rw [hT]
  have := going_run (ps := ps) (cnt := cnt - i - 1) (i := i + 1) (cur := cur)
  rw [show cnt - i - 1 + (i + 1) = cnt by omega] at this
  have e : ((i + 1 : Nat) : Int) = (i : Int) + 1 := by omega
  rw [e] at this
  exact this
theorem going_more {ps : List (PRule × Int)} {cnt i : Nat} {cur : List PFact} {T : List PFact × Int} (h : Going ps cnt i cur T) (hg : Good cur) (hi : i < cnt) (he : (onceP (i : Int) cur ps cur).2 = 0) (hl : (onceP (i : Int) cur ps cur).1.length ≠ cur.length) :
    cur.length + 1 ≤ (onceP (i : Int) cur ps cur).1.length ∧ Going ps cnt i (onceP (i : Int) cur ps cur).1 T := by
  unfold Going at h
  rw [if_pos hi] at h
  obtain ⟨k, hk, hT⟩ := h
  obtain ⟨k, rfl⟩ : ∃ j, k = j + 1 := ⟨k - 1, by have := hg.len; omega⟩
  have hF : fixP ps (i : Int) (k + 1) cur = fixP ps (i : Int) k (onceP (i : Int) cur ps cur).1 := by rw [fixP, if_neg (by simpa using he), if_neg hl]
  rw [hF] at hT
  have hR := once_round he hg.rise hg.len
  have hle : cur.length ≤ (onceP (i : Int) cur ps cur).1.length := rising_sub_le hg.rise fun x hx => (hR.mem x).2 (.inl hx)
  refine ⟨by omega, ?_⟩
  unfold Going
  rw [if_pos hi]
  exact ⟨k, by omega, hT⟩
end Go.Proofs.YtbbiapgkcekabaaGreat

/-
  THE WALKS OF cororef4.Rounds, All.
-/
namespace Go.Proofs.YtbbiapgkcekabaaGreat
open Go.RowKit Go.Maps

/-- cororef1.Strata, told. -/
theorem strataRefT {S : Nat → Prop} {p : List PRule} {v : Value} {st : List Int} {q : Int × Int} {w : World} (hS : StrataIs p st q) (h : RdRules S w v p) (n1 : p.length ≤ 1048576) (n2 : ∀ r ∈ p, RuleSmall r) (n3 : ∀ r ∈ p, NameSmall r) :
    Calls Tryz.prog 20 #[v] w fun e w' => Below w.heap.size w w' ∧ ∃ a c, e = .returned (.tuple #[.slice a st.length c, .agg #[.int .i64 q.1, .int .i64 q.2]]) ∧ RdInts (fun _ => True) w' (.slice a st.length c) st :=
  (strataRef p v w h n1 n2 n3).mono fun e w' ⟨hb, v', l', q', he, hr, hs⟩ => by
    obtain ⟨rfl, rfl⟩ := hs.unique hS
    obtain ⟨a, c, rfl, -, -, -⟩ := id hr.form
    exact ⟨hb, a, c, he, hr.more RInt.steady (fun _ _ _ => trivial)⟩
theorem good_smallF {l : List PFact} (h : ∀ x ∈ l, wrongF x = 0) : FactsSmall l := fun x hx => by
  obtain ⟨h1, h2, h3⟩ := wrongF_zero.1 (h x hx)
  have := named_size h1
  exact ⟨by omega, by omega, fun a ha => by have := named_size (h3 a ha); omega⟩

/-- Lists of facts. -/
def RList : Reader (List PFact) := fun S w cs l => ∃ v, cs = [v] ∧ RdFacts S w v l
theorem RList.steady : Steady RList :=
  ⟨fun h ⟨v, hc, r⟩ => ⟨v, hc, r.agree RFact.steady h⟩, fun h ⟨v, hc, r⟩ => ⟨v, hc, r.more RFact.steady h⟩⟩
abbrev RdLists := RdSlice 1 RList
theorem RdLists.at {S : Nat → Prop} {w : World} {a : Option Addr} {n cap : Nat} {l : List (List PFact)} (h : RdLists S w (.slice a n cap) l) {i : Nat} {x : List PFact} (hx : l[i]? = some x) :
    ∃ b off v, a = some ⟨b, off, none⟩ ∧ S b ∧ b < w.heap.size ∧ w.cell? ⟨b, off + i, none⟩ = some v ∧ RdFacts S w v x := by
  obtain ⟨a', cap', hv, h1, h2, h0, h3⟩ := h
  obtain ⟨b, off, cs, ha, hS, hb, hk, hc, ⟨v, rfl, hq⟩⟩ := h3 i x hx
  injection hv with e1 e2 e3
  subst e1
  refine ⟨b, off, v, ha, hS, hb, ?_, hq⟩
  have := hc 0 _ rfl
  simpa using this
theorem rowLists : RowT Tryz.prog 80 24 1 := RowT.mk' (b := 24) (z := .slice none 0 0) Tryz.underlying80 (by kernel_rfl) (by omega) rfl (by omega)
/-- An element of a row of one's own, and where it is read. -/
theorem Owned.elemL {B : Nat} {e : TypeId} {S : Nat → Prop} {w : World} {a : Option Addr} {n c : Nat} {zs : List (List PFact)} (h : Owned 1 RList B e S w (.slice a n c) zs) {i : Nat} {x : List PFact} (hx : zs[i]? = some x) :
    ∃ g v, a = some ⟨g, 0, none⟩ ∧ B ≤ g ∧ g < w.heap.size ∧ w.cell? ⟨g, i, none⟩ = some v ∧ RdFacts (fun q => S q ∧ q ≠ g) w v x := by
  generalize hv : Value.slice a n c = v0 at h
  obtain ⟨css, h1, h2, ho, h3⟩ := h
  have hi := (List.getElem?_eq_some_iff.1 hx).1
  rcases ho.2 with ⟨rfl, h0⟩ | ⟨g, cap, cur, rfl, hb, hgg, hnc, hcm, hcs, htake⟩
  · exfalso; omega
  · injection hv with e1 e2 e3
    obtain ⟨cs, hcss⟩ : ∃ cs, css[i]? = some cs := ⟨_, List.getElem?_eq_getElem (by omega)⟩
    obtain ⟨v, rfl, hr⟩ := h3 i cs x hcss hx
    refine ⟨g, v, e1, hb, (Array.getElem?_eq_some_iff.1 hgg).1, ?_, hr.more RFact.steady (fun q hq _ => ⟨hq.1, fun e => hq.2 (by rw [e]; rfl)⟩)⟩
    have := ho.cells (g := g) rfl (i * 1 + 0) v (flatten_get css h2 i [v] 0 v hcss rfl)
    have hadd : (⟨g, 0, none⟩ : Addr).add (i * 1 + 0) = ⟨g, i, none⟩ := by unfold Addr.add; split <;> simp_all
    rwa [hadd] at this
def sizeV : Value → Nat
  | .slice _ n _ => n
  | _ => 0
/-- What Rounds answers. -/
def RoundsPost (r : List PFact × Int) (w : World) (e : Ending) (w' : World) : Prop :=
  Below w.heap.size w w' ∧ ((∃ n, r = ([], n) ∧ n ≠ 0 ∧ e = .returned (.tuple #[.slice none 0 0, .int .i64 n])) ∨
    ∃ l, r = (l, 0) ∧ ∃ (a : Option Addr) (c m : Nat) (zs : List (List PFact)), m < 1000 ∧ zs.length = m + 1 ∧ e = .returned (.tuple #[.slice a (m + 1) c, .int .i64 0]) ∧ RdLists (fun _ => True) w' (.slice a (m + 1) c) zs ∧ zs[m]? = some l)
theorem naive_q {st : List Int} {q : Int} {p : List PRule} {l : List PFact} (h : q ≠ 0) : naiveP st q p l = ([], q) := by unfold naiveP; rw [if_pos h]
theorem naive_f {st : List Int} {p : List PRule} {l : List PFact} (h : (factsBad p l).1 ≠ 0) : naiveP st 0 p l = ([], (factsBad p l).1) := by unfold naiveP; rw [if_neg (by simp), if_pos h]
theorem naive_r {st : List Int} {p : List PRule} {l : List PFact} (h : (factsBad p l).1 = 0) : naiveP st 0 p l = runP (p.zip st) (countP st).toNat 0 l := by unfold naiveP; rw [if_neg (by simp), if_neg (by simpa using h)]

attribute [local go_sem ↓] Go.wp_at_zero Go.wp_at_succ
set_option maxRecDepth 100000 in
set_option maxHeartbeats 8000000 in
theorem roundsRef {S S2 : Nat → Prop} (p : List PRule) (v fv : Value) (st : List Int) (q : Int × Int) (l : List PFact) (w : World) (hS : StrataIs p st q) (h : RdRules S w v p) (hf : RdFacts S2 w fv l)
    (n1 : p.length ≤ 1048576) (n2 : ∀ r ∈ p, RuleSmall r) (n3 : ∀ r ∈ p, NameSmall r) (n4 : l.length ≤ 1048576) (n5 : FactsSmall l) :
    Calls Tryz.prog 55 #[v, fv] w (RoundsPost (naiveP st q.1 p l) w) := by
  obtain ⟨a, c, rfl, -, -, -⟩ := id h.form
  obtain ⟨fa, fc, rfl, -, -, -⟩ := id hf.form
  have H := Lib.hid h
  have HFA := Lib.hid (RdFacts.anyS hf)
  have N2 := Lib.hid n2
  have N5 := Lib.hid n5
  have HS := Lib.hid hS
  have KS := Lib.hid (strataRefT hS h n1 n2 n3)
  clear h hf n2 n3 n5 hS
  obtain ⟨q1, q2⟩ := q
  dsimp only at *
  by_cases hq : q1 = 0
  case neg =>
    have g1 : (q1 != 0) = true := by simpa using hq
    have HE := Lib.hid (naive_q (st := st) (p := p) (l := l) hq)
    have HQ := Lib.hid hq
    clear hq
    go_enter Tryz.func55, Tryz.ntmps55
    go_wp2_with (go_at_call 20; refine (KS.out).mono ?_; rintro e w1 ⟨hb1, a1, c1, rfl, hr1⟩; have HB1 := Lib.hid (hb1.alloc hb1.size (.cells #[.int .i64 q1, .int .i64 q2] 27)); have HK1 := Lib.hid ((Blk.new w1 27 #[.int .i64 q1, .int .i64 q2]).drew); clear hb1 hr1)
    generalize w1.alloc (.cells #[.int .i64 q1, .int .i64 q2] 27) = w2 at *
    have k0 := HK1.out.cell 0
    simp at k0
    go_region_held3 (fun w' => w'.cell? ⟨w1.heap.size, 0, none⟩ = some (.int .i64 q1)) (first | go_keep) (fail)
    go_wp2
    refine bodyPost_ret (v := .tuple #[.slice none 0 0, .int .i64 q1]) (by simp [results, Tryz.results55, go_sem]) rfl ?_
    exact ⟨HB1.out.drew, .inl ⟨q1, HE.out, HQ.out, rfl⟩⟩
  obtain ⟨hsl, h16, h5, hz16, hc0, hc17⟩ := strata_bd HS.out hq
  subst hq
  obtain ⟨hru, hwr, -⟩ := strata_zero HS.out rfl
  have HAR := Lib.hid (wrongP_iff.1 hwr).2.2
  have HRU := Lib.hid hru
  have HZB := Lib.hid (fun r hr => (ruleBad_zero (hru r hr)).2.2.1)
  have HZ := Lib.hid hz16
  have HSL := Lib.hid hsl
  have KF := Lib.hid (fun W (hW : Below w.heap.size w W) => factsRef p (.slice a p.length c) (.slice fa l.length fc) l W (H.out.up hW) (HFA.out.up hW) HAR.out n1 N2.out n4 N5.out)
  clear hru hwr hz16 hsl h5
  by_cases hf : (factsBad p l).1 = 0
  case neg =>
    have g1 : ((factsBad p l).1 != 0) = true := by simpa using hf
    have HE := Lib.hid (naive_f (st := st) hf)
    have HQ := Lib.hid hf
    clear hf
    generalize factsBad p l = f at *
    obtain ⟨f1, f2⟩ := f
    dsimp only at *
    go_enter Tryz.func55, Tryz.ntmps55
    go_wp2_with (first
      | (go_at_call 16; have hh := HB1.out; clear hh; refine (KF.out _ HB1.out).mono ?_; rintro e w2 ⟨rfl, hb2⟩; have HB2 := Lib.hid ((HB1.out.trans (hb2.mono (Below.size HB1.out))).alloc (Nat.le_trans (Below.size HB1.out) hb2.size) (.cells #[.int .i64 f1, .int .i64 f2] 27)); have HK2 := Lib.hid ((Blk.new w2 27 #[.int .i64 f1, .int .i64 f2]).drew); clear hb2)
      | (go_at_call 20; refine (KS.out).mono ?_; rintro e w1 ⟨hb1, a1, c1, rfl, hr1⟩; have HB1 := Lib.hid (hb1.alloc hb1.size (.cells #[.int .i64 0, .int .i64 q2] 27)); clear hb1 hr1))
    generalize w2.alloc (.cells #[.int .i64 f1, .int .i64 f2] 27) = w3 at *
    have k0 := HK2.out.cell 0
    simp at k0
    go_region_held3 (fun w' => w'.cell? ⟨w2.heap.size, 0, none⟩ = some (.int .i64 f1)) (first | go_keep) (fail)
    go_wp2
    refine bodyPost_ret (v := .tuple #[.slice none 0 0, .int .i64 f1]) (by simp [results, Tryz.results55, go_sem]) rfl ?_
    exact ⟨HB2.out.drew, .inl ⟨f1, HE.out, HQ.out, rfl⟩⟩
  have hgl := good_of (factsBad_set hf)
  have hl2 := hgl.len
  obtain ⟨cn, hcn⟩ : ∃ cn : Nat, countP st = cn := ⟨(countP st).toNat, by omega⟩
  have HT := Lib.hid (show Going (p.zip st) cn 0 l (naiveP st 0 p l) by
    rw [naive_r hf]
    have h1 := going_run (ps := p.zip st) (cnt := (countP st).toNat) (i := 0) (cur := l)
    rw [show (countP st).toNat + 0 = cn by omega] at h1
    rw [show (countP st).toNat = cn by omega] at h1 ⊢
    exact h1)
  have KC := Lib.hid (fun W sv (h1 : RdInts (fun _ => True) W sv st) => (countRef sv st W h1 (by rw [HSL.out]; omega) (fun z hz => by have := HZ.out z hz; omega)))
  rw [hcn] at KC
  rw [hf] at KF
  have hcnb : cn ≤ 17 := by omega
  have HGL := Lib.hid hgl
  generalize naiveP st 0 p l = T at *
  generalize (factsBad p l).2 = f2 at *
  clear hf hgl hc0 hc17 hcn
  go_enter Tryz.func55, Tryz.ntmps55
  go_wp2_with (first
    | (go_at_call 16; have hh := HB1.out; clear hh; refine (KF.out _ HB1.out).mono ?_; rintro e w2 ⟨rfl, hb2⟩; have HB2 := Lib.hid ((HB1.out.trans (hb2.mono (Below.size HB1.out))).alloc (Nat.le_trans (Below.size HB1.out) hb2.size) (.cells #[.int .i64 0, .int .i64 f2] 27)); have HI2 := Lib.hid (HI1.out.up (hb2.alloc hb2.size (.cells #[.int .i64 0, .int .i64 f2] 27))); clear hb2)
    | (go_at_call 20; refine (KS.out).mono ?_; rintro e w1 ⟨hb1, a1, c1, rfl, hr1⟩; have HB1 := Lib.hid (hb1.alloc hb1.size (.cells #[.int .i64 0, .int .i64 q2] 27)); have HI1 := Lib.hid (hr1.up ((Below.refl _ _).alloc (Nat.le_refl _) (.cells #[.int .i64 0, .int .i64 q2] 27))); clear hb1 hr1))
  have hse : (w2.alloc (.cells #[.int .i64 0, .int .i64 f2] 27)).heap.size = w2.heap.size + 1 := by simp
  generalize hW2 : w2.alloc (.cells #[.int .i64 0, .int .i64 f2] 27) = W2 at *
  clear hW2
  have hwW := Below.size HB2.out
  have HOW := Lib.hid (Owned.lit (k := 1) (R := RList) (B := W2.heap.size) (e := 24) (S := fun _ => True) (w := W2) (l := [l]) [[.slice fa l.length fc]] #[.slice fa l.length fc] rfl (by simp) (by simp) rfl (Nat.le_refl _) (by simp [maxLen]) (fun i c z hc hz => by
    rcases i with _ | i
    · simp at hc hz
      subst hc hz
      exact ⟨_, rfl, (HFA.out.more (S' := fun q => True ∧ some q ≠ some W2.heap.size) RFact.steady (fun q _ hq => ⟨trivial, fun e => by injection e with e; omega⟩)).agree RFact.steady (Below.agree (HB2.out.alloc hwW _))⟩
    · simp at hc))
  have HB3 := Lib.hid ((Below.refl W2.heap.size W2).alloc (Nat.le_refl _) (.cells #[.slice fa l.length fc] 24))
  have HZ0 : Hid ([l][0]? = some l) := Lib.hid rfl
  have HOW2 : Hid (Owned 1 RList W2.heap.size 24 (fun _ => True) (W2.alloc (.cells #[.slice fa l.length fc] 24)) (.slice (some ⟨w2.heap.size + 1, 0, none⟩) (0 + 1) 1) [l]) := Lib.hid (by have h := HOW.out; rw [hse] at h ⊢; exact h)
  clear HOW hse
  generalize hW3 : W2.alloc (.cells #[.slice fa l.length fc] 24) = W3 at *
  clear hW3
  go_loopw [10, 9] (fun i v wx => ∃ (n m : Nat) (zs : List (List PFact)) (cur : List PFact) (za : Option Addr) (zc : Nat), i = .int .i64 n ∧ n ≤ cn ∧ v = .slice za (m + 1) zc ∧ zs.length = m + 1 ∧ m ≤ n + cur.length ∧ Hid (Good cur) ∧ Hid (zs[m]? = some cur) ∧ Hid (Owned 1 RList W2.heap.size 24 (fun _ => True) wx (.slice za (m + 1) zc) zs) ∧ Hid (Below W2.heap.size W2 wx) ∧ Hid (Going (p.zip st) cn n cur T)) (fun i v _ => 400 - sizeV v)
  case atStart => exact ⟨0, 0, [l], l, _, _, rfl, Nat.zero_le _, rfl, rfl, Nat.zero_le _, HGL, HZ0, HOW2, HB3, HT⟩
  case round =>
    clear HZ0 HOW2 HB3 HT HGL
    obtain ⟨n, m, zs, cur, za, zc, rfl, hn, rfl, hzl, hmn, HG, HZ1, HO, HBR, HT⟩ := hrel
    have HB := Lib.hid (HB2.out.trans (HBR.out.mono hwW))
    have HI := Lib.hid (HI2.out.up HBR.out)
    have hrs := Below.size HBR.out
    have hcl := HG.out.len
    have hbs := Below.size HB.out
    by_cases hlt : n < cn
    case neg =>
      have HE := Lib.hid (going_end HT.out hlt)
      have HRD := Lib.hid ((HO.out.read RList.steady).more RList.steady (S' := fun _ => True) (fun _ _ _ => trivial))
      have hm1 : m < 1000 := by omega
      clear HO HT
      go_wp2_with (go_at_call 22; refine (KC.out _ _ HI.out).mono ?_; rintro e w6 ⟨rfl, rfl⟩)
      refine bodyPost_ret (v := .tuple #[.slice za (m + 1) zc, .int .i64 0]) (by simp [results, Tryz.results55, go_sem]) rfl ?_
      exact ⟨HB.out, .inr ⟨cur, HE.out, za, zc, m, zs, hm1, hzl, rfl, HRD.out, HZ1.out⟩⟩
    obtain ⟨g, cv, rfl, hg1, hg2, c2, hcv⟩ := Owned.elemL HO.out HZ1.out
    obtain ⟨ca, cc, rfl, -, -, -⟩ := id hcv.form
    have KO := Lib.hid (onceRef p (.slice a p.length c) (.slice a1 st.length c1) (.slice ca cur.length cc) st (n : Int) cur wr (H.out.up HB.out) HI.out hcv HSL.out n1 N2.out HZB.out (by rw [HG.out.set]) (by omega) (good_smallF HG.out.fine))
    have hw1 : IntKind.i64.wrap ((m : Int) + 1 - 1) = (m : Int) := by rw [IntKind.wrap_i64]; omega
    have hw2 : IntKind.i64.wrap (m : Int) = (m : Int) := by rw [IntKind.wrap_i64]; omega
    have hw3 : IntKind.i64.wrap ((n : Int) + 1) = (n : Int) + 1 := by rw [IntKind.wrap_i64]; omega
    have i1 : (0 : Int) ≤ (m : Int) := by omega
    have i2 : (m : Int) < (m : Int) + 1 := by omega
    have H1 := Lib.hid (fun he => going_err HT.out HG.out hlt he)
    have H2 := Lib.hid (fun he hl => going_same HT.out HG.out hlt he hl)
    have H3 := Lib.hid (fun he hl => going_more HT.out HG.out hlt he hl)
    have H4 := Lib.hid (fun he => once_good HG.out (ps := p.zip st) (n := (n : Int)) (fun r s hm => HRU.out r (List.of_mem_zip hm).1) HG.out he)
    clear hcv HG HT
    generalize onceP (n : Int) cur (p.zip st) cur = r at *
    obtain ⟨xl, xe⟩ := r
    dsimp only at *
    by_cases he : xe = 0
    case neg =>
      have g1 : (xe != 0) = true := by simpa using he
      have HE := Lib.hid (H1.out he)
      have HQ := Lib.hid he
      clear he H1 H2 H3 H4
      go_wp2_with (first
        | (go_at_call 24; refine (KO.out).mono ?_; rintro e w6 ⟨hb6, a6, c6, rfl, hr6⟩; have HB6 := Lib.hid (HB.out.trans (hb6.mono hbs)); clear hb6 hr6)
        | (go_at_call 22; refine (KC.out _ _ HI.out).mono ?_; rintro e w5 ⟨rfl, rfl⟩))
      refine bodyPost_ret (v := .tuple #[.slice none 0 0, .int .i64 xe]) (by simp [results, Tryz.results55, go_sem]) rfl ?_
      exact ⟨HB6.out, .inl ⟨xe, HE.out, HQ.out, rfl⟩⟩
    subst he
    have hgx := H4.out rfl
    have hxl := hgx.len
    have HGX := Lib.hid hgx
    have HNL := Lib.hid (show zs.length < 1099511627776 by omega)
    have HZL := Lib.hid hzl
    have HZ7 := Lib.hid (show (zs ++ [xl])[m + 1]? = some xl by rw [List.getElem?_append_right (by omega), hzl]; simp)
    clear H1 H4 hgx hzl
    by_cases hle : xl.length = cur.length
    · have i5 : (xl.length : Int) = (cur.length : Int) := by omega
      obtain ⟨hxc, hgo⟩ := H2.out rfl hle
      have HT2 := Lib.hid hgo
      subst hxc
      clear hgo H2 H3 hle i5
      go_wp2_with (first
        | (at_builtin; have hh := HO6.out; clear hh; refine wpList_append_one (B := W2.heap.size) (e := 24) (S := fun _ => True) (by rfl) _ _ 80 (by rfl) RList.steady rowLists _ zs (by rfl) (HO6.out.alloc RList.steady _) w6.heap.size 1 #[.slice a6 xl.length c6] 24 (0, 0) xl (by rfl) (heap_new_at rfl) rfl (by simp [Value.oneCell']) (HRX.out _) HNL.out (by have := Below.size HBR6.out; simp; omega) ?_; intro v7 w7 hown7 hg7 hat7; obtain ⟨a7, c7, rfl, -, -, -⟩ := id (hown7.read RList.steady).form; rw [show (zs ++ [xl]).length = m + 1 + 1 by simp [HZL.out]] at hown7; have HO7 := Lib.hid hown7; have HB7 := Lib.hid ((HBR6.out.alloc (Below.size HBR6.out) _).grown hg7 (by have := Below.size HBR6.out; simp; omega) (fun q hq => (HO6.out.row_lt hq).1)); clear hown7 hg7 hat7)
        | (go_at_call 24; refine (KO.out).mono ?_; rintro e w6 ⟨hb6, a6, c6, rfl, hr6⟩; have HBR6 := Lib.hid (HBR.out.trans (hb6.mono hrs)); have HO6 := Lib.hid (HO.out.below RList.steady hb6); have HRX := Lib.hid (fun o => (show RList (fun q => True ∧ some q ≠ some g) (w6.alloc o) [.slice a6 xl.length c6] xl from ⟨_, rfl, (hr6.more RFact.steady (fun q hq _ => ⟨trivial, fun e => by injection e with e; rcases hq with h | h; (· exact h.2 e); (· omega)⟩)).agree RFact.steady ((Agree.refl _ _).alloc o)⟩)); clear hb6 hr6)
        | (go_at_call 22; refine (KC.out _ _ HI.out).mono ?_; rintro e w5 ⟨rfl, rfl⟩))
      go_roundw
      case rel => exact ⟨n + 1, m + 1, zs ++ [xl], xl, _, _, by go_num, by omega, by first | rfl | rw [HZL.out], by rw [List.length_append, HZL.out]; rfl, by omega, HGX, HZ7, HO7, HB7, HT2⟩
      case measure => have := HZL.out; simp [sizeV]; omega
    · have i5 : ¬ (xl.length : Int) = (cur.length : Int) := by omega
      obtain ⟨hxc, hgo⟩ := H3.out rfl hle
      have HT2 := Lib.hid hgo
      clear hgo H2 H3 hle
      go_wp2_with (first
        | (at_builtin; have hh := HO6.out; clear hh; refine wpList_append_one (B := W2.heap.size) (e := 24) (S := fun _ => True) (by rfl) _ _ 80 (by rfl) RList.steady rowLists _ zs (by rfl) (HO6.out.alloc RList.steady _) w6.heap.size 1 #[.slice a6 xl.length c6] 24 (0, 0) xl (by rfl) (heap_new_at rfl) rfl (by simp [Value.oneCell']) (HRX.out _) HNL.out (by have := Below.size HBR6.out; simp; omega) ?_; intro v7 w7 hown7 hg7 hat7; obtain ⟨a7, c7, rfl, -, -, -⟩ := id (hown7.read RList.steady).form; rw [show (zs ++ [xl]).length = m + 1 + 1 by simp [HZL.out]] at hown7; have HO7 := Lib.hid hown7; have HB7 := Lib.hid ((HBR6.out.alloc (Below.size HBR6.out) _).grown hg7 (by have := Below.size HBR6.out; simp; omega) (fun q hq => (HO6.out.row_lt hq).1)); clear hown7 hg7 hat7)
        | (go_at_call 24; refine (KO.out).mono ?_; rintro e w6 ⟨hb6, a6, c6, rfl, hr6⟩; have HBR6 := Lib.hid (HBR.out.trans (hb6.mono hrs)); have HO6 := Lib.hid (HO.out.below RList.steady hb6); have HRX := Lib.hid (fun o => (show RList (fun q => True ∧ some q ≠ some g) (w6.alloc o) [.slice a6 xl.length c6] xl from ⟨_, rfl, (hr6.more RFact.steady (fun q hq _ => ⟨trivial, fun e => by injection e with e; rcases hq with h | h; (· exact h.2 e); (· omega)⟩)).agree RFact.steady ((Agree.refl _ _).alloc o)⟩)); clear hb6 hr6)
        | (go_at_call 22; refine (KC.out _ _ HI.out).mono ?_; rintro e w5 ⟨rfl, rfl⟩))
      go_roundw
      case rel => exact ⟨n, m + 1, zs ++ [xl], xl, _, _, rfl, by omega, by first | rfl | rw [HZL.out], by rw [List.length_append, HZL.out]; rfl, by omega, HGX, HZ7, HO7, HB7, HT2⟩
      case measure => have := HZL.out; simp [sizeV]; omega

set_option maxRecDepth 100000 in
set_option maxHeartbeats 4000000 in
theorem allRefQ {S S2 : Nat → Prop} (p : List PRule) (v fv : Value) (st : List Int) (q : Int × Int) (l : List PFact) (w : World) (hS : StrataIs p st q) (h : RdRules S w v p) (hf : RdFacts S2 w fv l)
    (n1 : p.length ≤ 1048576) (n2 : ∀ r ∈ p, RuleSmall r) (n3 : ∀ r ∈ p, NameSmall r) (n4 : l.length ≤ 1048576) (n5 : FactsSmall l) :
    Calls Tryz.prog 18 #[v, fv] w fun e w' => (∃ a c, e = .returned (.tuple #[.slice a (naiveP st q.1 p l).1.length c, .int .i64 (naiveP st q.1 p l).2]) ∧ RdFacts (fun _ => True) w' (.slice a (naiveP st q.1 p l).1.length c) (naiveP st q.1 p l).1) ∧ Below w.heap.size w w' := by
  obtain ⟨a, c, rfl, -, -, -⟩ := id h.form
  obtain ⟨fa, fc, rfl, -, -, -⟩ := id hf.form
  have K := Lib.hid (roundsRef p _ _ st q l w hS h hf n1 n2 n3 n4 n5)
  clear h hf n2 n3 n5 hS
  generalize naiveP st q.1 p l = r at *
  by_cases he : r.2 = 0
  · have KN := Lib.hid (K.out.mono (R' := fun e w' => (∃ (a : Option Addr) (c m : Nat) (zs : List (List PFact)), m < 1000 ∧ zs.length = m + 1 ∧ e = .returned (.tuple #[.slice a (m + 1) c, .int .i64 0]) ∧ RdLists (fun _ => True) w' (.slice a (m + 1) c) zs ∧ zs[m]? = some r.1) ∧ Below w.heap.size w w') fun e w' ⟨h1, h2⟩ => by
      rcases h2 with ⟨n, h3, h4, -⟩ | ⟨l, h3, h4⟩
      · rw [h3] at he; exact absurd he h4
      · rw [h3]; exact ⟨h4, h1⟩)
    obtain ⟨rl, re⟩ := r
    dsimp only at *
    subst he
    clear K
    go_enter Tryz.func18, Tryz.ntmps18
    go_wp2_with (go_at_call 55; refine (KN.out).mono ?_; rintro e w1 ⟨⟨a1, c1, m, zs, hm, hzl, rfl, hr1, hz1⟩, hb1⟩; obtain ⟨g, o, cv, rfl, -, hg2, c2, hcv⟩ := RdLists.at hr1 hz1; obtain ⟨ca, cc, rfl, -, -, -⟩ := id hcv.form; have HB1 := Lib.hid hb1; have HCV := Lib.hid hcv; have hw1 : IntKind.i64.wrap ((m : Int) + 1 - 1) = (m : Int) := (by rw [IntKind.wrap_i64]; omega); have hw2 : IntKind.i64.wrap (m : Int) = (m : Int) := (by rw [IntKind.wrap_i64]; omega); have i1 : (0 : Int) ≤ (m : Int) := (by omega); have i2 : (m : Int) < (m : Int) + 1 := (by omega); clear hr1 hz1 hcv hb1)
    refine bodyPost_ret (v := .tuple #[.slice ca rl.length cc, .int .i64 0]) (by simp [results, Tryz.results18, go_sem]) rfl ?_
    exact ⟨⟨ca, cc, rfl, HCV.out⟩, HB1.out⟩
  · have KN := Lib.hid (K.out.mono (R' := fun e w' => (r.1 = [] ∧ e = .returned (.tuple #[.slice none 0 0, .int .i64 r.2])) ∧ Below w.heap.size w w') fun e w' ⟨h1, h2⟩ => by
      rcases h2 with ⟨n, h3, h4, h5⟩ | ⟨l, h3, h4⟩
      · rw [h3]; exact ⟨⟨rfl, h5⟩, h1⟩
      · rw [h3] at he; exact absurd rfl he)
    obtain ⟨rl, re⟩ := r
    dsimp only at *
    have g1 : (re != 0) = true := by simpa using he
    clear K he
    go_enter Tryz.func18, Tryz.ntmps18
    go_wp2_with (go_at_call 55; refine (KN.out).mono ?_; rintro e w1 ⟨⟨rfl, rfl⟩, hb1⟩; have HB1 := Lib.hid hb1; clear hb1)
    refine bodyPost_ret (v := .tuple #[.slice none 0 0, .int .i64 re]) (by simp [results, Tryz.results18, go_sem]) rfl ?_
    exact ⟨⟨none, 0, rfl, RdFacts.nil⟩, HB1.out⟩
end Go.Proofs.YtbbiapgkcekabaaGreat

/-
  PLAIN: what is new of what was new, or all over and over: it comes to the same; told what follows, nothing is new (chapter 6).
-/
namespace Go.Proofs.YtbbiapgkcekabaaGreat

/-- What a rule of the stratum makes of all that is known is known, or it is made of what is new. -/
def Sync (ps : List (PRule × Int)) (s : Int) (known new : List PFact) : Prop := ∀ r t, (r, t) ∈ ps → t = s → ∀ x, Derives r known x → x ∈ known ∨ Makes r known new x
theorem sync_all (ps : List (PRule × Int)) (s : Int) (known : List PFact) : Sync ps s known known := fun r t _ _ x hx => by
  by_cases h : ∃ a ∈ r.body, a.neg = false
  · obtain ⟨a, ha, hn⟩ := h
    obtain ⟨i, hi⟩ := List.mem_iff_getElem?.1 ha
    obtain ⟨m, hm, hf⟩ := hx
    refine .inr (.inl ⟨i, a, m, hi, hn, ?_, hf⟩)
    have e : pickP known known (i : Int) = fun _ => known := funext fun j => by unfold pickP; split <;> rfl
    rw [e]; exact hm
  · refine .inr (.inr ⟨fun a ha => ?_, hx⟩)
    cases hn : a.neg
    · exact absurd ⟨a, ha, hn⟩ h
    · rfl
/-- What must not be so does not turn in a step. -/
def Still (ps : List (PRule × Int)) (s : Int) (known known' : List PFact) : Prop := ∀ r t, (r, t) ∈ ps → t = s → ∀ a ∈ r.body, a.neg = true → ∀ f ∈ known', f.name = a.name → f ∈ known
theorem still_of {p : List PRule} {L : Str → Nat} (hS : Sol p L) {n : Int} {r r' : PRun} (hsub : ∀ x ∈ r.new, x ∈ r.known) (h : Stepped (withL L p) n r r') : Still (withL L p) r.stratum r.known r'.known := fun r0 t hm e a ha hn f hf hname => by
  rcases (h.mem f).1 hf with h1 | h1
  · exact h1
  · obtain ⟨r1, t1, hm1, e1, hd⟩ := h1.derives hsub
    obtain ⟨k1, k2⟩ := mem_withL.1 hm1
    obtain ⟨g1, g2⟩ := mem_withL.1 hm
    have hnm := hd.name
    have hhead : a.name ∈ headsOf p := by rw [← hname, hnm]; exact List.mem_map.2 ⟨r1, k1, rfl⟩
    have hdl : dl p a = 1 := by unfold dl; rw [if_pos ⟨hn, hhead⟩]
    have := hS.up r0 g1 a ha
    rw [hdl, ← hname, hnm] at this
    omega
/-- All that rules of the stratum make of what was known is known then. -/
theorem Stepped.all {ps : List (PRule × Int)} {n : Int} {r r' : PRun} (hy : Sync ps r.stratum r.known r.new) (h : Stepped ps n r r') {r0 : PRule} {t : Int} (hm : (r0, t) ∈ ps) (e : t = r.stratum) {x : PFact} (hd : Derives r0 r.known x) : x ∈ r'.known := by
  rcases hy r0 t hm e x hd with h1 | h1
  · exact h.sub x h1
  · exact (h.mem x).2 (.inr ⟨r0, t, hm, e, h1⟩)
theorem Stepped.sync {ps : List (PRule × Int)} {n : Int} {r r' : PRun} (hy : Sync ps r.stratum r.known r.new) (h : Stepped ps n r r') (hst : Still ps r.stratum r.known r'.known) : Sync ps r'.stratum r'.known r'.new := by
  rcases h.how with ⟨e1, e2, -, -⟩ | ⟨e1, -, -, e2⟩
  · rw [e1, e2]; exact sync_all _ _ _
  · intro r0 t hm e x hd
    rw [e1] at e
    obtain ⟨m, ⟨t1, t2, t3, t4⟩, hf⟩ := hd
    by_cases hnew : ∃ (i : Nat) (a : PAtom) (f : PFact), r0.body[i]? = some a ∧ a.neg = false ∧ fillP a m = some f ∧ f ∈ r'.new
    · obtain ⟨i, a, f, hi, hn, hfa, hfn⟩ := hnew
      refine .inr (.inl ⟨i, a, m, hi, hn, ⟨t1, t2, t3, fun j c hc => ?_⟩, hf⟩)
      obtain ⟨g, k1, k2⟩ := t4 j c hc
      refine ⟨g, k1, ?_⟩
      unfold pickP
      by_cases ej : (j : Int) = (i : Int)
      · rw [if_pos ej]
        have ej' : j = i := by omega
        subst ej'
        rw [hi] at hc; injection hc with hc; subst hc
        rw [hfa] at k1; injection k1 with k1; subst k1
        rw [hn]
        exact (memF_iff f r'.new).2 hfn
      · rw [if_neg ej]; exact k2
    · refine .inl (h.all hy hm e ⟨m, ⟨t1, t2, t3, fun j c hc => ?_⟩, hf⟩)
      obtain ⟨g, k1, k2⟩ := t4 j c hc
      refine ⟨g, k1, ?_⟩
      cases hn : c.neg
      · rw [hn] at k2
        have hg : g ∈ r'.known := (memF_iff g r'.known).1 k2
        refine (memF_iff g r.known).2 (Classical.byContradiction fun hno => ?_)
        exact hnew ⟨j, c, g, hc, hn, k1, (e2 g).2 ⟨hg, hno⟩⟩
      · rw [hn] at k2
        show memF g r.known = false
        rw [Bool.eq_false_iff]
        intro hk
        have := (memF_iff g r'.known).2 (h.sub g ((memF_iff g r.known).1 hk))
        rw [this] at k2; cases k2
/-- A stratum: by steps, or over and over. -/
theorem sim_stratum {p : List PRule} {L : Str → Nat} (hS : Sol p L) {st : List Int} (hst : p.zip st = withL L p) (hR : Ruled st p) : ∀ {k N : Nat} {r : PRun}, RunOk st p r → r.done = false → Sync (p.zip st) r.stratum r.known r.new →
    200 < k + r.known.length → r.rounds + N ≤ 1000 → 201 - r.known.length ≤ N →
    (fixP (p.zip st) r.stratum k r.known).2 = 4 ∨ (iterP st 0 p N r).2 = 4 ∨ ((fixP (p.zip st) r.stratum k r.known) = ([], 5) ∧ iterP st 0 p N r = (zeroRun, 5)) ∨
    ((fixP (p.zip st) r.stratum k r.known).2 = 0 ∧ ∃ (j : Nat) (r' : PRun), j + r.known.length ≤ r'.known.length + 1 ∧ j ≤ N ∧ iterP st 0 p N r = iterP st 0 p (N - j) r' ∧ RunOk st p r' ∧ r'.known = (fixP (p.zip st) r.stratum k r.known).1 ∧ r'.new = r'.known ∧ r'.stratum = r.stratum + 1 ∧ r'.rounds = r.rounds + j)
  | 0, N, r, h, _, _, hk, _, _ => by have := h.known.len; omega
  | k + 1, N, r, h, hd, hy, hk, hN, hN2 => by
    have hlen := h.known.len
    obtain ⟨N, rfl⟩ : ∃ M, N = M + 1 := ⟨N - 1, by omega⟩
    have hit : iterP st 0 p (N + 1) r = if (goodStep st p r).2 ≠ 0 then (zeroRun, (goodStep st p r).2) else iterP st 0 p N (goodStep st p r).1 := by
      rw [iterP, if_neg (by rw [hd]; simp), step_good_eq h]
    have hb : ∀ r s, (r, s) ∈ p.zip st → bodyBad r.body = 0 := fun r s hm => hR.body hm
    have hset : (setF r.known).1 = 0 := by rw [h.known.set]
    have hreach : ∀ x, ReachF r.stratum r.known (p.zip st) r.known x → x ∈ r.known ∨ ∃ r0 t, (r0, t) ∈ p.zip st ∧ t = r.stratum ∧ Derives r0 r.known x := fun x hx => by
      rcases hx with hx | ⟨r0, s, hm, e, hx⟩
      · exact .inl hx
      · refine .inr ⟨r0, s, hm, e, ?_⟩
        by_cases he : (headsP r0 r.known).2 = 0
        · exact (mem_heads he x).1 hx
        · rw [(heads_err he).1] at hx; simp at hx
    rw [fixP]
    rcases step_cases hR h hd with h1 | ⟨h1, h2⟩ | ⟨h1, h2, h3⟩
    · exact .inr (.inl (by rw [hit, h1]; rfl))
    · have h5 : iterP st 0 p (N + 1) r = (zeroRun, 5) := by rw [hit, h1]; rfl
      rcases once_cases hset hb (n := r.stratum) (out := r.known) with g | ⟨g, -⟩ | ⟨g, -⟩
      · exfalso
        have hRd := once_round g h.known.rise hlen
        rcases h2 with h2 | ⟨l, l1, l2, l3⟩
        · omega
        · have := rising_sub_le (a := l) (b := (onceP r.stratum r.known (p.zip st) r.known).1) l1 fun x hx => by
            rcases (l3 x).1 hx with hx | hx
            · exact (hRd.mem x).2 (.inl hx)
            · obtain ⟨r0, t, hm, e, hdv⟩ := hx.derives h.sub
              exact (hRd.mem x).2 (.inr ⟨r0, t, hm, e, (mem_heads (hRd.ok r0 t hm e) x).2 hdv⟩)
          have := hRd.len
          omega
      · exact .inl (by rw [if_pos (by rw [g]; decide), g])
      · exact .inr (.inr (.inl ⟨by rw [if_pos (by rw [g]; decide), g], h5⟩))
    · have hiN : iterP st 0 p (N + 1) r = iterP st 0 p N (goodStep st p r).1 := by rw [hit, if_neg (by simpa using h1)]
      have hok := h3.ok hR h hd h2
      generalize goodStep st p r = rs at *
      obtain ⟨r', e'⟩ := rs
      dsimp only at h1 h3 hok hiN
      rcases once_cases hset hb (n := r.stratum) (out := r.known) with g | ⟨g, -⟩ | ⟨g, g2⟩
      · have hRd := once_round g h.known.rise hlen
        have heq : (onceP r.stratum r.known (p.zip st) r.known).1 = r'.known := rising_ext hRd.rise h3.rise fun x => by
          rw [hRd.mem]
          constructor
          · intro hx
            rcases hreach x hx with hx | ⟨r0, t, hm, e, hdv⟩
            · exact h3.sub x hx
            · exact h3.all hy hm e hdv
          · intro hx
            rcases (h3.mem x).1 hx with hx | hx
            · exact .inl hx
            · obtain ⟨r0, t, hm, e, hdv⟩ := hx.derives h.sub
              exact .inr ⟨r0, t, hm, e, (mem_heads (hRd.ok r0 t hm e) x).2 hdv⟩
        rw [if_neg (by simpa using g), heq]
        rcases h3.how with ⟨a1, a2, a3, a4⟩ | ⟨a1, a2, ⟨x, hx⟩, a4⟩
        · rw [if_pos (by rw [a1])]
          refine .inr (.inr (.inr ⟨rfl, 1, r', by rw [a1]; omega, by omega, ?_, hok, a1, by rw [a1, a2], a3, h3.rounds⟩))
          rw [hiN]; rfl
        · have hlt : r.known.length + 1 ≤ r'.known.length := by
            obtain ⟨b1, b2⟩ := (a4 x).1 hx
            have := nodup_le (l := x :: r.known) (m := r'.known) (List.nodup_cons.2 ⟨b2, nodup_rising h.known.rise⟩) fun y hy => by
              rcases List.mem_cons.1 hy with rfl | hy
              · exact b1
              · exact h3.sub y hy
            simpa using this
          rw [if_neg (by omega)]
          have hst' : Still (p.zip st) r.stratum r.known r'.known := by rw [hst] at h3 ⊢; exact still_of hS h.sub h3
          have hr := h3.rounds
          have ih := sim_stratum hS hst hR (k := k) (N := N) hok a2 (h3.sync hy hst') (by omega) (by omega) (by omega)
          rw [a1] at ih
          rw [hiN]
          rcases ih with ih | ih | ih | ⟨i0, j, r2, i1, i2, i3, i4, i5, i6, i7, i8⟩
          · exact .inl ih
          · exact .inr (.inl ih)
          · exact .inr (.inr (.inl ih))
          · refine .inr (.inr (.inr ⟨i0, j + 1, r2, by omega, by omega, ?_, i4, i5, i6, i7, by omega⟩))
            rw [i3, show N + 1 - (j + 1) = N - j by omega]
      · exact .inl (by rw [if_pos (by rw [g]; decide), g])
      · exfalso
        have := g2 r'.known h3.rise fun x hx => by
          rcases hreach x hx with hx | ⟨r0, t, hm, e, hdv⟩
          · exact h3.sub x hx
          · exact h3.all hy hm e hdv
        have := h3.len
        omega
theorem sim_run {p : List PRule} {L : Str → Nat} (hS : Sol p L) {st : List Int} (hst : p.zip st = withL L p) (hR : Ruled st p) : ∀ {k N : Nat} {r : PRun}, RunOk st p r → r.new = r.known → r.stratum + k = countP st → r.rounds + N ≤ 1000 → 200 + k ≤ N + r.known.length →
    (runP (p.zip st) k r.stratum r.known).2 = 4 ∨ (iterP st 0 p N r).2 = 4 ∨ ((runP (p.zip st) k r.stratum r.known) = ([], 5) ∧ iterP st 0 p N r = (zeroRun, 5)) ∨
    ((runP (p.zip st) k r.stratum r.known).2 = 0 ∧ (iterP st 0 p N r).2 = 0 ∧ (iterP st 0 p N r).1.known = (runP (p.zip st) k r.stratum r.known).1)
  | 0, N, r, h, hn, hk, hN, hN2 => by
    have hd : r.done = true := by rw [h.done]; simp; omega
    rw [iter_still hd]
    exact .inr (.inr (.inr ⟨rfl, rfl, rfl⟩))
  | k + 1, N, r, h, hn, hk, hN, hN2 => by
    have hd : r.done = false := by rw [h.done]; simp; omega
    have hlen := h.known.len
    have hsim := sim_stratum hS hst hR (k := 201) (N := N) h hd (by rw [hn]; exact sync_all _ _ _) (by omega) hN (by omega)
    rw [runP]
    rcases hsim with g | g | ⟨g1, g2⟩ | ⟨g0, j, r', i1, i2, i3, i4, i5, i6, i7, i8⟩
    · exact .inl (by rw [if_pos (by rw [g]; decide), g])
    · exact .inr (.inl g)
    · exact .inr (.inr (.inl ⟨by rw [if_pos (by rw [g1]; decide), g1], g2⟩))
    · rw [if_neg (by simpa using g0), i3, ← i5, ← i7]
      have hlen' := i4.known.len
      exact sim_run hS hst hR (k := k) (N := N - j) i4 i6 (by omega) (by omega) (by omega)
/-- IT COMES TO THE SAME. -/
theorem round_same {p : List PRule} {l : List PFact} {st : List Int} {q : Int × Int} (hs : StrataIs p st q) : (naiveP st q.1 p l).2 = 4 ∨ (allRun st q.1 p l).2 = 4 ∨ naiveP st q.1 p l = allRun st q.1 p l := by
  by_cases h1 : q.1 = 0
  case neg =>
    refine .inr (.inr ?_)
    unfold naiveP allRun beginP
    rw [if_pos h1, if_pos h1, if_pos h1]
  by_cases h2 : (factsBad p l).1 = 0
  case neg =>
    refine .inr (.inr ?_)
    have hb : beginP st q.1 p l = (zeroRun, (factsBad p l).1) := by unfold beginP; rw [if_neg (by simpa using h1), if_pos h2]
    unfold naiveP allRun
    rw [hb, if_neg (by simpa using h1), if_pos h2, if_pos h2]
  obtain ⟨hR, c0, c1, L, hL, e⟩ := strata_count hs h1
  have hb0 : (beginP st q.1 p l).2 = 0 := by unfold beginP; rw [if_neg (by simpa using h1), if_neg (by simpa using h2)]
  obtain ⟨-, -, b1, b2⟩ := begin_ok hs hb0
  have hst : p.zip st = withL L p := by rw [e]; exact zip_withL L p
  have hn : naiveP st q.1 p l = runP (p.zip st) (countP st).toNat 0 l := by unfold naiveP; rw [if_neg (by simpa using h1), if_neg (by simpa using h2)]
  rw [b1] at b2
  have hstep := steps_good b2 (n := 1000) (by omega) (by omega)
  have ha : allRun st q.1 p l = if (iterP st 0 p 1000 ⟨l, l, 0, 0, countP st == 0⟩).2 ≠ 0 then ([], (iterP st 0 p 1000 ⟨l, l, 0, 0, countP st == 0⟩).2) else ((iterP st 0 p 1000 ⟨l, l, 0, 0, countP st == 0⟩).1.known, 0) := by
    unfold allRun
    rw [b1, if_neg (by simp), h1]
    show (if (stepsRun st 0 p ⟨l, l, 0, 0, countP st == 0⟩ 1000).2 ≠ 0 then _ else _) = _
    rw [hstep]
    rfl
  have hsim := sim_run hL.sol hst hR (k := (countP st).toNat) (N := 1000) (r := ⟨l, l, 0, 0, countP st == 0⟩) b2 rfl (by show (0 : Int) + _ = _; omega) (by show (0 : Int) + ((1000 : Nat) : Int) ≤ 1000; omega) (by show 200 + _ ≤ 1000 + l.length; omega)
  rw [hn, ha]
  generalize iterP st 0 p 1000 ⟨l, l, 0, 0, countP st == 0⟩ = I at *
  obtain ⟨I1, I2⟩ := I
  rcases hsim with g | g | ⟨g1, g2⟩ | ⟨g1, g2, g3⟩
  · exact .inl g
  · have g : I2 = 4 := g
    subst g
    exact .inr (.inl rfl)
  · refine .inr (.inr ?_)
    have e1 : runP (p.zip st) (countP st).toNat 0 l = ([], 5) := g1
    rw [e1, g2]; rfl
  · refine .inr (.inr ?_)
    have g2 : I2 = 0 := g2
    subst g2
    have g1 : (runP (p.zip st) (countP st).toNat 0 l).2 = 0 := g1
    have g3 : I1.known = (runP (p.zip st) (countP st).toNat 0 l).1 := g3
    show _ = (I1.known, (0 : Int))
    rw [g3]
    exact Prod.ext rfl g1
/-- Of rules that ask for nothing not to be so: what a run knows that is done is closed. -/
structure Toward (st : List Int) (p : List PRule) (r : PRun) : Prop where
  ok : RunOk st p r
  on : r.done = false → r.stratum = 0 ∧ Sync (p.zip st) 0 r.known r.new
  closed : r.done = true → ∀ x0 ∈ p, ∀ x, Derives x0 r.known x → x ∈ r.known
theorem all_zero {p : List PRule} (hp : Plain p) {L : Str → Nat} (hL : Least p L) : L = fun _ => 0 := hL.unique (least_plain hp)
theorem zero_zip {p : List PRule} {x : PRule} (h : x ∈ p) : (x, (0 : Int)) ∈ withL (fun _ => 0) p := mem_withL.2 ⟨h, rfl⟩
theorem Toward.iter {p : List PRule} {st : List Int} (hR : Ruled st p) (hst : p.zip st = withL (fun _ => 0) p) (hS : Sol p fun _ => 0) (hc : countP st ≤ 1) : ∀ {n : Nat} {r : PRun}, Toward st p r → (iterP st 0 p n r).2 = 0 → Toward st p (iterP st 0 p n r).1
  | 0, r, h, _ => h
  | n + 1, r, h, hz => by
    cases hd : r.done
    case true => rw [iter_still hd]; exact h
    rw [iterP, if_neg (by rw [hd]; simp), step_good_eq h.ok] at hz ⊢
    rcases step_cases hR h.ok hd with h1 | ⟨h1, -⟩ | ⟨h1, h2, h3⟩
    · rw [h1] at hz; exact absurd hz (by simp)
    · rw [h1] at hz; exact absurd hz (by simp)
    rw [if_neg (by simpa using h1)] at hz ⊢
    refine Toward.iter hR hst hS hc ⟨h3.ok hR h.ok hd h2, ?_, ?_⟩ hz
    · intro hd'
      obtain ⟨s0, hy⟩ := h.on hd
      rw [← s0] at hy
      have hstl : Still (p.zip st) r.stratum r.known (goodStep st p r).1.known := by rw [hst] at h3 ⊢; exact still_of hS h.ok.sub h3
      have hsy := h3.sync hy hstl
      rcases h3.how with ⟨a1, a2, a3, a4⟩ | ⟨a1, a2, a3, a4⟩
      · exfalso
        have hok := h3.ok hR h.ok hd h2
        have k1 := hok.done
        rw [hd'] at k1
        have k2 : (goodStep st p r).1.stratum ≠ countP st := by simpa using k1.symm
        have k3 := hok.s1
        omega
      · rw [a1, s0] at hsy ⊢; exact ⟨rfl, hsy⟩
    · intro hd' x0 hx0 x hx
      obtain ⟨s0, hy⟩ := h.on hd
      rcases h3.how with ⟨a1, a2, a3, a4⟩ | ⟨a1, a2, a3, a4⟩
      · rw [a1] at hx
        rw [← s0] at hy
        exact h3.all hy (r0 := x0) (t := 0) (by rw [hst]; exact zero_zip hx0) s0.symm hx
      · rw [a2] at hd'; cases hd'
theorem plain_count {p : List PRule} {st : List Int} (e : st = p.map fun _ => (0 : Int)) : countP st ≤ 1 ∧ (p ≠ [] → countP st = 1) ∧ (p = [] → countP st = 0) := by
  rcases count_is st with ⟨h, k⟩ | ⟨x, hx, k⟩
  · refine ⟨by omega, fun hp => ?_, fun _ => k⟩
    rw [h] at e
    exact absurd (List.map_eq_nil_iff.1 e.symm) hp
  · rw [e] at hx
    obtain ⟨y, hy, rfl⟩ := List.mem_map.1 hx
    refine ⟨by omega, fun _ => by omega, fun hp => ?_⟩
    rw [hp] at hy; simp at hy
/-- TOLD WHAT FOLLOWS, NOTHING IS NEW. -/
theorem round_told {p : List PRule} (hp : Plain p) {l : List PFact} {st : List Int} {q : Int × Int} (hs : StrataIs p st q) (h : (allRun st q.1 p l).2 = 0) :
    allRun st q.1 p (allRun st q.1 p l).1 = ((allRun st q.1 p l).1, 0) ∨ (allRun st q.1 p (allRun st q.1 p l).1).2 = 4 := by
  have hb0 : (beginP st q.1 p l).2 = 0 := by
    unfold allRun at h
    by_cases hb : (beginP st q.1 p l).2 = 0
    · exact hb
    · rw [if_pos hb] at h; exact absurd h hb
  obtain ⟨h1, h2, b1, b2⟩ := begin_ok hs hb0
  obtain ⟨hR, c0, c1, L, hL, e⟩ := strata_count hs h1
  obtain rfl := all_zero hp hL
  have hst : p.zip st = withL (fun _ => 0) p := by rw [e]; exact zip_withL (fun _ => 0) p
  obtain ⟨cc, cp, cn⟩ := plain_count (p := p) (st := st) e
  rw [b1] at b2
  have hall : ∀ k : List PFact, RunOk st p ⟨k, k, 0, 0, countP st == 0⟩ → (factsBad p k).1 = 0 → allRun st q.1 p k = if (iterP st 0 p 1000 ⟨k, k, 0, 0, countP st == 0⟩).2 ≠ 0 then ([], (iterP st 0 p 1000 ⟨k, k, 0, 0, countP st == 0⟩).2) else ((iterP st 0 p 1000 ⟨k, k, 0, 0, countP st == 0⟩).1.known, 0) := fun k hk hf => by
    have hstep := steps_good hk (n := 1000) (by omega) (by omega)
    have hbe : beginP st q.1 p k = (⟨k, k, 0, 0, countP st == 0⟩, 0) := by unfold beginP; rw [if_neg (by simpa using h1), if_neg (by simpa using hf)]
    unfold allRun
    rw [hbe, if_neg (by simp), h1]
    show (if (stepsRun st 0 p ⟨k, k, 0, 0, countP st == 0⟩ 1000).2 ≠ 0 then _ else _) = _
    rw [hstep]
    rfl
  have hend := steps_end hR c1 b2
  rw [steps_good b2 (by omega) (by omega)] at hend
  have hz : (iterP st 0 p 1000 ⟨l, l, 0, 0, countP st == 0⟩).2 = 0 := by
    rw [hall l b2 h2] at h
    by_cases hz : (iterP st 0 p 1000 ⟨l, l, 0, 0, countP st == 0⟩).2 = 0
    · exact hz
    · rw [if_pos hz] at h; exact absurd h hz
  have hM : (allRun st q.1 p l).1 = (iterP st 0 p 1000 ⟨l, l, 0, 0, countP st == 0⟩).1.known := by rw [hall l b2 h2, if_neg (by simpa using hz)]
  have hT : Toward st p (iterP st 0 p 1000 ⟨l, l, 0, 0, countP st == 0⟩).1 := by
    refine Toward.iter hR hst hL.sol cc ⟨b2, fun _ => ⟨rfl, sync_all _ _ _⟩, fun hd => ?_⟩ hz
    have hd : (countP st == 0) = true := hd
    have hc0 : countP st = 0 := by simpa using hd
    have hpn : p = [] := Classical.byContradiction fun hne => by have := cp hne; omega
    rw [hpn]; intro x0 hx0; simp at hx0
  have hdone : (iterP st 0 p 1000 ⟨l, l, 0, 0, countP st == 0⟩).1.done = true := by
    have hend' : (iterP st 0 p (1000 : Int).toNat ⟨l, l, 0, 0, countP st == 0⟩).2 = 4 ∨ (iterP st 0 p (1000 : Int).toNat ⟨l, l, 0, 0, countP st == 0⟩).2 = 5 ∨ (iterP st 0 p (1000 : Int).toNat ⟨l, l, 0, 0, countP st == 0⟩).2 = 0 ∧ _ := hend
    rw [show (1000 : Int).toNat = 1000 from rfl] at hend'
    rcases hend' with g | g | ⟨-, -, g⟩
    · rw [hz] at g; cases g
    · rw [hz] at g; cases g
    · exact g
  rw [hM]
  have hok := hT.ok
  have hcl := hT.closed hdone
  generalize (iterP st 0 p 1000 ⟨l, l, 0, 0, countP st == 0⟩).1 = R at hok hcl
  have hk2 : RunOk st p ⟨R.known, R.known, 0, 0, countP st == 0⟩ := ⟨hok.known, hok.fit, hok.known, by show (0 : Int) ≤ 0; omega, by show (0 : Int) ≤ 1000; omega, by show (0 : Int) ≤ 0; omega, c0, by show (countP st == 0) = ((0 : Int) == countP st); rw [Bool.beq_comm], fun x hx => hx⟩
  rw [hall R.known hk2 hok.fit]
  cases hd : (countP st == 0)
  case true =>
    rw [iter_still rfl, if_neg (by simp)]
    exact .inl rfl
  rw [hd] at hk2
  have hc1 : countP st = 1 := by
    have : ¬ countP st = 0 := by simpa using hd
    omega
  have hmk : ∀ x, MakesS (p.zip st) 0 R.known R.known x → x ∈ R.known := fun x hx => by
    obtain ⟨r0, t, hm, -, hdv⟩ := hx.derives fun y hy => hy
    exact hcl r0 (List.of_mem_zip hm).1 x hdv
  have hit : iterP st 0 p 1000 ⟨R.known, R.known, 0, 0, false⟩ = if (goodStep st p ⟨R.known, R.known, 0, 0, false⟩).2 ≠ 0 then (zeroRun, (goodStep st p ⟨R.known, R.known, 0, 0, false⟩).2) else iterP st 0 p 999 (goodStep st p ⟨R.known, R.known, 0, 0, false⟩).1 := by
    show iterP st 0 p (999 + 1) _ = _
    rw [iterP, if_neg (by simp), step_good_eq hk2]
  rcases step_cases hR hk2 rfl with g | ⟨g, g2 | ⟨k, g2, g3, g4⟩⟩ | ⟨g1, g2, g3⟩
  · right
    rw [hit, g]; rfl
  · exact absurd g2 (by show ¬ (0 : Int) = 1000; omega)
  · exfalso
    have := rising_sub_le (a := k) (b := R.known) g2 fun x hx => by
      rcases (g4 x).1 hx with hx | hx
      · exact hx
      · exact hmk x hx
    have := hok.known.len
    omega
  · left
    have hit2 : iterP st 0 p 1000 ⟨R.known, R.known, 0, 0, false⟩ = iterP st 0 p 999 (goodStep st p ⟨R.known, R.known, 0, 0, false⟩).1 := by rw [hit, if_neg (by simpa using g1)]
    rw [hit2]
    generalize (goodStep st p ⟨R.known, R.known, 0, 0, false⟩).1 = r' at g3
    rcases g3.how with ⟨a1, a2, a3, a4⟩ | ⟨a1, a2, ⟨x, hx⟩, a4⟩
    · have hd' : r'.done = true := by rw [a4, hc1]; rfl
      rw [iter_still hd', if_neg (by simp), a1]
    · exfalso
      obtain ⟨b1, b2⟩ := (a4 x).1 hx
      rcases (g3.mem x).1 b1 with b | b
      · exact b2 b
      · exact b2 (hmk x b)
end Go.Proofs.YtbbiapgkcekabaaGreat

/-
  PLAIN: what round.All answers is small and good.
-/
namespace Go.Proofs.YtbbiapgkcekabaaGreat

theorem all_zero2 {p : List PRule} {st : List Int} {q : Int} {l : List PFact} (h : (allRun st q p l).2 = 0) : (beginP st q p l).2 = 0 ∧ (stepsRun st q p (beginP st q p l).1 1000).2 = 0 ∧ (allRun st q p l).1 = (stepsRun st q p (beginP st q p l).1 1000).1.known := by
  unfold allRun at *
  by_cases h1 : (beginP st q p l).2 = 0
  case neg => rw [if_pos h1] at h; exact absurd h h1
  rw [if_neg (by simpa using h1)] at h ⊢
  by_cases h2 : (stepsRun st q p (beginP st q p l).1 1000).2 = 0
  case neg => rw [if_pos h2] at h; exact absurd h h2
  rw [if_neg (by simpa using h2)]
  exact ⟨h1, h2, rfl⟩
theorem all_none {p : List PRule} {st : List Int} {q : Int} {l : List PFact} (h : (allRun st q p l).2 ≠ 0) : (allRun st q p l).1 = [] := by
  unfold allRun at *
  by_cases h1 : (beginP st q p l).2 = 0
  case neg => rw [if_pos h1]
  rw [if_neg (by simpa using h1)] at h ⊢
  by_cases h2 : (stepsRun st q p (beginP st q p l).1 1000).2 = 0
  case neg => rw [if_pos h2]
  rw [if_neg (by simpa using h2)] at h
  exact absurd rfl h
theorem all_good {p : List PRule} {st : List Int} {q : Int × Int} (hs : StrataIs p st q) {l : List PFact} (h : (allRun st q.1 p l).2 = 0) : Good (allRun st q.1 p l).1 := by
  obtain ⟨h1, h2, h3⟩ := all_zero2 h
  obtain ⟨hq, -, -, hok⟩ := begin_ok hs h1
  obtain ⟨hR, -, hc, -⟩ := strata_count hs hq
  rw [h3]
  rw [hq] at h2 hok ⊢
  rcases steps_end hR hc hok with g | g | ⟨-, g, -⟩
  · rw [h2] at g; cases g
  · rw [h2] at g; cases g
  · exact g.known
theorem all_small {p : List PRule} {st : List Int} {q : Int × Int} (hs : StrataIs p st q) {l : List PFact} : (allRun st q.1 p l).1.length ≤ 1048576 ∧ ∀ x ∈ (allRun st q.1 p l).1, x.args.length ≤ 1048576 := by
  by_cases h : (allRun st q.1 p l).2 = 0
  · have hg := all_good hs h
    exact ⟨by have := hg.len; omega, fun x hx => by have := (wrongF_zero.1 (hg.fine x hx)).2.1; omega⟩
  · rw [all_none h]; exact ⟨by simp, fun x hx => by simp at hx⟩
end Go.Proofs.YtbbiapgkcekabaaGreat
