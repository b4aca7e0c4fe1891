/-
  THE WALK OF syntax.Print: rules' text.
-/
import Derived.Test.YtobbjapmdpkogaaAtomS
import Derived.Test.YtobbjapmdpkogaaCheckW3
namespace Go.Proofs.Ytobbjapmdpkogaa
open Go.RowKit

theorem progB_append : ∀ l m : List PRule, progB (l ++ m) = progB l ++ progB m
  | [], m => rfl
  | r :: l, m => by rw [List.cons_append, progB, progB, progB_append l m, List.append_assoc]
theorem bodyB_snoc : ∀ (l : List PAtom) (a : PAtom), l ≠ [] → bodyB (l ++ [a]) = bodyB l ++ 44 :: 32 :: atomB a
  | [], _, h => absurd rfl h
  | [x], a, _ => by simp [bodyB]
  | x :: y :: l, a, _ => by
    have ih := bodyB_snoc (y :: l) a (by simp)
    show atomB x ++ 44 :: 32 :: bodyB ((y :: l) ++ [a]) = (atomB x ++ 44 :: 32 :: bodyB (y :: l)) ++ 44 :: 32 :: atomB a
    rw [ih]
    simp
theorem tailB_snoc (l : List PAtom) (a : PAtom) : tailB (l ++ [a]) = tailB l ++ ((if l = [] then [32, 58, 45, 32] else [44, 32]) ++ atomB a) := by
  cases l with
  | nil => simp [tailB, bodyB]
  | cons x l =>
    show 32 :: 58 :: 45 :: 32 :: bodyB ((x :: l) ++ [a]) = (32 :: 58 :: 45 :: 32 :: bodyB (x :: l)) ++ _
    rw [bodyB_snoc (x :: l) a (by simp)]
    simp
theorem tailB_mono (l : List PAtom) : ∀ m : List PAtom, (tailB l).length ≤ (tailB (l ++ m)).length := by
  intro m
  rw [← List.reverse_reverse m]
  induction m.reverse with
  | nil => simp
  | cons a m ih =>
    rw [List.reverse_cons, ← List.append_assoc, tailB_snoc, List.length_append]
    omega
theorem tailB_take (l : List PAtom) (k : Nat) : (tailB (l.take k)).length ≤ (tailB l).length := by
  have := tailB_mono (l.take k) (l.drop k)
  rwa [List.take_append_drop] at this
theorem progB_take {p : List PRule} {k : Nat} {x : PRule} (h : p[k]? = some x) : (progB (p.take k)).length + (ruleB x).length ≤ (progB p).length := by
  have e : p = p.take k ++ x :: p.drop (k + 1) := by rw [← at_drop h, List.take_append_drop]
  conv => rhs; rw [e]
  rw [progB_append, progB, List.length_append, List.length_append]
  omega

/-- The worlds of Print: the builder is block w.heap.size. -/
structure PrW (w wr : World) (l : Bytes) : Prop where
  below : Below w.heap.size w wr
  bld : Lib.IsBuilderF 88 5 w.heap.size w.heap.size (Lib.byteCells l) wr
theorem builder_below {B b : Nat} {p : Value} {bs : List Value} {w w' : World} (h : Lib.BuilderAtF 88 5 B b p bs w) (hb : Below w.heap.size w w') : Lib.BuilderAtF 88 5 B b p bs w' := by
  have hlt := h.lt
  obtain ⟨hB, v, hbk, hown, hne⟩ := h
  exact ⟨hB, v, (hb.block b hlt).trans hbk, hown.kept (row := none) ⟨hb.os, hb.tape, hb.output, hb.size, fun k hk _ => hb.block k hk⟩ (by cases hv : v.ownBlock <;> simp), hne⟩
section
variable {w wr w' : World} {l : Bytes}
theorem PrW.next (h : PrW w wr l) (hb : Below wr.heap.size wr w') : PrW w w' l :=
  ⟨h.below.trans (hb.mono h.below.size), h.bld.elim (fun x => .inl (builder_below x hb)) (fun x => .inr (builder_below x hb))⟩
theorem PrW.alloc (h : PrW w wr l) (o : Obj) : PrW w (wr.alloc o) l := h.next ((Below.refl _ _).alloc (Nat.le_refl _) o)
theorem PrW.lt (h : PrW w wr l) : w.heap.size < wr.heap.size := h.bld.elim (fun x => x.lt) (fun x => x.lt)
theorem PrW.start (w : World) : PrW w (w.alloc (.cells #[.pointer none, .slice none 0 0] 88)) [] := by
  exact ⟨(Below.refl _ _).alloc (Nat.le_refl _) _, Lib.IsBuilderF.of (Lib.fresh_isBuilder _ _ w)⟩
theorem PrW.write (h : PrW w wr l) (s : Str) (hl : l.length + s.size ≤ 140737488355328) :
    Calls Try.prog 53 #[.pointer (some ⟨w.heap.size, 0, none⟩), .string s] wr fun e w' => e = .returned (.tuple #[.int .i64 s.size, .nilIface]) ∧ PrW w w' (l ++ s.data.toList) ∧ Lib.OthersKept 5 (some w.heap.size) wr w' := by
  refine (writeB w.heap.size w.heap.size (Lib.byteCells l) s wr h.bld (by rw [Lib.byteCells_length]; exact hl) h.below.size).mono ?_
  rintro e w' ⟨he, hA, hb, hk⟩
  refine ⟨he, ⟨h.below.trans hb, .inr ?_⟩, hk⟩
  rw [Lib.byteCells_append, ← Lib.strCells_eq]
  exact hA
theorem PrW.text (h : PrW w wr l) :
    Calls Try.prog 54 #[.pointer (some ⟨w.heap.size, 0, none⟩)] wr fun e w' => e = .returned (.string (strOf l)) ∧ Below w.heap.size w w' := by
  refine (stringB w.heap.size w.heap.size l wr h.bld h.below.size).mono ?_
  rintro e w' ⟨he, -, hb, -⟩
  exact ⟨he, h.below.trans hb⟩
end
theorem Blk.others {w w' : World} {g B : Nat} {t : TypeId} {cs : Array Value} (h : Blk w g t cs) (hk : Lib.OthersKept 5 (some B) w w') (hg : g ≠ B) (ht : t ≠ 5) : Blk w' g t cs :=
  hk g _ h (fun e => hg (Option.some.inj e)) (fun c fz e => ht (by injection e))

set_option maxRecDepth 100000 in
set_option maxHeartbeats 8000000 in
theorem printText {S : Nat → Prop} (p : List PRule) (v : Value) (w : World) (h : RdRules S w v p) (n1 : p.length ≤ 1048576) (n2 : ∀ r ∈ p, RuleSmall r) (n3 : ∀ r ∈ p, NameSmall r) (n4 : (progB p).length ≤ 1099511627776) :
    Calls Try.prog 23 #[v] w fun e w' => e = .returned (.string (strOf (progB p))) ∧ Below w.heap.size w w' := by
  obtain ⟨a, c, rfl, -, -, -⟩ := id h.form
  have H := Lib.hid h
  have N2 := Lib.hid n2
  have N3 := Lib.hid n3
  clear h n2 n3
  have HP0 := Lib.hid (show PrW w (w.alloc (.cells #[.pointer none, .slice none 0 0] 88)) (progB (p.take 0)) from PrW.start w)
  go_enter Try.func23, Try.ntmps23
  go_wp2
  go_loopw [10] (fun i wr => ∃ k : Nat, k ≤ p.length ∧ i = .int .i64 k ∧ Hid (PrW w wr (progB (p.take k)))) (fun i _ => p.length - (intOf i).toNat)
  case atStart => exact ⟨0, Nat.zero_le _, rfl, HP0⟩
  case round =>
    clear HP0
    obtain ⟨k, hk, rfl, HP⟩ := hrel
    by_cases hlt : k < p.length
    · obtain ⟨x, hx⟩ : ∃ x, p[k]? = some x := ⟨_, List.getElem?_eq_getElem hlt⟩
      have hmem := List.mem_of_getElem? hx
      obtain ⟨b1, o1, tv, bv, rfl, -, hb1, d0, d1, d2, d3, htv, hbv⟩ := RdRules.at H.out hx
      obtain ⟨ta, tc, rfl, -, -, -⟩ := id htv.form
      obtain ⟨ba, bc, rfl, -, -, -⟩ := id hbv.form
      have HRA := Lib.hid (show RuleAt S w b1 (o1 + k * 4) x (.slice ta x.head.terms.length tc) (.slice ba x.body.length bc) from ⟨hb1, d0, d1, d2, d3, htv, hbv⟩)
      have HS := Lib.hid (N2.out x hmem)
      have HN := Lib.hid (N3.out x hmem)
      have hb0 := HS.out.b0
      have hlen := progB_take hx
      have hrl : (ruleB x).length = (atomB x.head).length + ((tailB x.body).length + 2) := by unfold ruleB; simp
      have HTK := Lib.hid (show progB (p.take (k + 1)) = progB (p.take k) ++ ((atomB x.head ++ tailB x.body) ++ [46, 10]) by
        rw [List.take_add_one, hx]
        show progB (p.take k ++ [x]) = _
        rw [progB_append]
        simp [progB, ruleB])
      clear d0 d1 d2 d3
      obtain ⟨-, d0, d1, d2, d3, -, -⟩ := HRA.out.up HP.out.below
      generalize progB (p.take k) = pl at *
      have HP1 := Lib.hid (HP.out.alloc (.cells #[.bool x.head.neg, .string x.head.name, .slice ta x.head.terms.length tc, .slice ba x.body.length bc] 33))
      have HR1 := Lib.hid (Blk.new wr 33 #[.bool x.head.neg, .string x.head.name, .slice ta x.head.terms.length tc, .slice ba x.body.length bc])
      have hwl := HP.out.lt
      have KA := Lib.hid (atomText x.head _ _ (HRA.out.up HP1.out.below).t HS.out.h1 HS.out.h2 HN.out.h)
      have hln : pl.length + (strOf (atomB x.head)).size ≤ 140737488355328 := by
        have : (strOf (atomB x.head)).size = (atomB x.head).length := by simp [strOf, ByteArray.size]
        omega
      clear hx hmem htv hbv HP
      go_wp2_with (first
        | (go_at_call 53; refine (HP2.out.write _ hln).mono ?_; rintro e w3 ⟨rfl, hp3, hk3⟩; have HP3 := Lib.hid hp3; have HR3 := Lib.hid (HR2.out.others hk3 (by omega) (by decide)); have r3 := HR3.out.cell 3; simp only [List.getElem?_toArray, List.getElem?_cons_zero, List.getElem?_cons_succ] at r3; clear hp3 hk3)
        | (go_at_call 28; refine (KA.out).mono ?_; rintro e w2 ⟨rfl, hb2⟩; have HP2 := Lib.hid (HP1.out.next hb2); have HR2 := Lib.hid (HR1.out.below hb2 HR1.out.lt); clear hb2))
      have HP4 := Lib.hid (show PrW w w3 (pl ++ (atomB x.head ++ tailB (x.body.take 0))) from by
        have := HP3.out
        rw [bytes_of_strOf] at this
        simpa [tailB] using this)
      clear HP1 HP2 HP3 HR1 HR2 HR3 d0 d1 d2 d3 KA r3
      go_loopw [21] (fun i wr => ∃ j : Nat, j ≤ x.body.length ∧ i = .int .i64 j ∧ Hid (PrW w wr (pl ++ (atomB x.head ++ tailB (x.body.take j))))) (fun i _ => x.body.length - (intOf i).toNat)
      case atStart => exact ⟨0, Nat.zero_le _, rfl, HP4⟩
      case round =>
        clear HP4
        obtain ⟨j, hj, rfl, HP⟩ := hrel
        by_cases hlj : j < x.body.length
        · obtain ⟨y, hy⟩ : ∃ y, x.body[j]? = some y := ⟨_, List.getElem?_eq_getElem hlj⟩
          have hym := List.mem_of_getElem? hy
          obtain ⟨b4, o4, yv, rfl, -, hb4, e0, e1, e2, hyv⟩ := RdAtoms.at HRA.out.b hy
          obtain ⟨ya, yc, rfl, -, -, -⟩ := id hyv.form
          replace e0 := (cell_below HP.out.below hb4 _).trans e0
          replace e1 := (cell_below HP.out.below hb4 _).trans e1
          replace e2 := (cell_below HP.out.below hb4 _).trans e2
          have HY1 := Lib.hid (HS.out.b1 y hym)
          have HY2 := Lib.hid (HS.out.b2 y hym)
          have HY3 := Lib.hid (HN.out.b y hym)
          have HYV := Lib.hid hyv
          obtain ⟨sp, HSP⟩ : ∃ sp : Bytes, Hid ((if x.body.take j = [] then ([32, 58, 45, 32] : Bytes) else [44, 32]) = sp) := ⟨_, Lib.hid rfl⟩
          have HTJ := Lib.hid (show tailB (x.body.take (j + 1)) = tailB (x.body.take j) ++ (sp ++ atomB y) by
            rw [List.take_add_one, hy]
            show tailB (x.body.take j ++ [y]) = _
            rw [tailB_snoc, HSP.out])
          have htl := tailB_take x.body (j + 1)
          rw [HTJ.out] at htl
          simp only [List.length_append] at htl
          have HP1 := Lib.hid (HP.out.alloc (.cells #[.bool y.neg, .string y.name, .slice ya y.terms.length yc] 30))
          have HA1 := Lib.hid (Blk.new wr 30 #[.bool y.neg, .string y.name, .slice ya y.terms.length yc])
          have hwl := HP.out.lt
          have hsy : (strOf (atomB y)).size = (atomB y).length := by simp [strOf, ByteArray.size]
          by_cases hj0 : j = 0
          · have hz : ((j : Int) == 0) = true := by rw [hj0]; rfl
            have hsp : sp = [32, 58, 45, 32] := by rw [← HSP.out, hj0]; simp
            have HSP2 := Lib.hid hsp
            have hl1 : (pl ++ (atomB x.head ++ tailB (x.body.take j))).length + (⟨#[32, 58, 45, 32]⟩ : Str).size ≤ 140737488355328 := by
              have : (⟨#[32, 58, 45, 32]⟩ : Str).size = 4 := rfl
              simp only [List.length_append]; omega
            have hl2 : (pl ++ (atomB x.head ++ tailB (x.body.take j)) ++ (⟨#[32, 58, 45, 32]⟩ : Str).data.toList).length + (strOf (atomB y)).size ≤ 140737488355328 := by
              have : (⟨#[32, 58, 45, 32]⟩ : Str).data.toList.length = 4 := rfl
              simp only [List.length_append, this]; omega
            clear hy hym hyv hj0 hsp HP
            go_wp2_with (first
              | (go_at_call 53; refine (HP3.out.write _ hl2).mono ?_; rintro e w4 ⟨rfl, hp4, -⟩; have HP4 := Lib.hid hp4; clear hp4)
              | (go_at_call 53; refine (HP1.out.write _ hl1).mono ?_; rintro e w2 ⟨rfl, hp2, hk2⟩; have HP2 := Lib.hid hp2; have HA2 := Lib.hid (HA1.out.others hk2 (by omega) (by decide)); have a0 := HA2.out.cell 0; have a1 := HA2.out.cell 1; have a2 := HA2.out.cell 2; simp only [List.getElem?_toArray, List.getElem?_cons_zero, List.getElem?_cons_succ] at a0 a1 a2; clear hp2 hk2 HP1)
              | (go_at_call 28; refine (atomText y _ _ (HYV.out.up HP2.out.below) HY1.out HY2.out HY3.out).mono ?_; rintro e w3 ⟨rfl, hb3⟩; have HP3 := Lib.hid (HP2.out.next hb3); clear hb3))
            have HP5 := Lib.hid (show PrW w w4 (pl ++ (atomB x.head ++ tailB (x.body.take (j + 1)))) from by
              have := HP4.out
              rw [bytes_of_strOf] at this
              rw [HTJ.out, HSP2.out]
              simpa using this)
            go_wp2
            go_roundw
            case rel => exact ⟨j + 1, by omega, by go_num, HP5⟩
            case measure => simp [intOf]; omega
          · have hz : ((j : Int) == 0) = false := beq_eq_false_iff_ne.2 (by omega)
            have hsp : sp = [44, 32] := by
              rw [← HSP.out, if_neg]
              intro e
              have h2 : (x.body.take j).length = 0 := by rw [e]; rfl
              rw [List.length_take] at h2
              omega
            have HSP2 := Lib.hid hsp
            have hl1 : (pl ++ (atomB x.head ++ tailB (x.body.take j))).length + (⟨#[44, 32]⟩ : Str).size ≤ 140737488355328 := by
              have : (⟨#[44, 32]⟩ : Str).size = 2 := rfl
              simp only [List.length_append]; omega
            have hl2 : (pl ++ (atomB x.head ++ tailB (x.body.take j)) ++ (⟨#[44, 32]⟩ : Str).data.toList).length + (strOf (atomB y)).size ≤ 140737488355328 := by
              have : (⟨#[44, 32]⟩ : Str).data.toList.length = 2 := rfl
              simp only [List.length_append, this]; omega
            clear hy hym hyv hj0 hsp HP
            go_wp2_with (first
              | (go_at_call 53; refine (HP3.out.write _ hl2).mono ?_; rintro e w4 ⟨rfl, hp4, -⟩; have HP4 := Lib.hid hp4; clear hp4)
              | (go_at_call 53; refine (HP1.out.write _ hl1).mono ?_; rintro e w2 ⟨rfl, hp2, hk2⟩; have HP2 := Lib.hid hp2; have HA2 := Lib.hid (HA1.out.others hk2 (by omega) (by decide)); have a0 := HA2.out.cell 0; have a1 := HA2.out.cell 1; have a2 := HA2.out.cell 2; simp only [List.getElem?_toArray, List.getElem?_cons_zero, List.getElem?_cons_succ] at a0 a1 a2; clear hp2 hk2 HP1)
              | (go_at_call 28; refine (atomText y _ _ (HYV.out.up HP2.out.below) HY1.out HY2.out HY3.out).mono ?_; rintro e w3 ⟨rfl, hb3⟩; have HP3 := Lib.hid (HP2.out.next hb3); clear hb3))
            have HP5 := Lib.hid (show PrW w w4 (pl ++ (atomB x.head ++ tailB (x.body.take (j + 1)))) from by
              have := HP4.out
              rw [bytes_of_strOf] at this
              rw [HTJ.out, HSP2.out]
              simpa using this)
            go_wp2
            go_roundw
            case rel => exact ⟨j + 1, by omega, by go_num, HP5⟩
            case measure => simp [intOf]; omega
        · have htj : x.body.take j = x.body := List.take_of_length_le (by omega)
          rw [htj] at HP
          clear htj
          have hl1 : (pl ++ (atomB x.head ++ tailB x.body)).length + (⟨#[46, 10]⟩ : Str).size ≤ 140737488355328 := by
            have : (⟨#[46, 10]⟩ : Str).size = 2 := rfl
            simp only [List.length_append]; omega
          go_wp2_with (go_at_call 53; refine (HP.out.write _ hl1).mono ?_; rintro e w4 ⟨rfl, hp4, -⟩; have HP4 := Lib.hid hp4; clear hp4)
          have HP5 := Lib.hid (show PrW w w4 (progB (p.take (k + 1))) from by
            rw [HTK.out]
            have := HP4.out
            rwa [List.append_assoc] at this)
          go_wp2
          go_roundw
          case rel => exact ⟨k + 1, by omega, by go_num, HP5⟩
          case measure => simp [intOf]; omega
    · have htk : p.take k = p := List.take_of_length_le (by omega)
      rw [htk] at HP
      clear htk
      go_wp2_with (go_at_call 54; refine (HP.out.text).mono ?_; rintro e w3 ⟨rfl, hb3⟩; have HB3 := Lib.hid hb3; clear hb3)
      go_ret
      exact ⟨rfl, HB3.out⟩
end Go.Proofs.Ytobbjapmdpkogaa
