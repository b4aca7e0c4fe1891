/-
  THE WALKS OF slices.Grow, slices.Concat AT FACTS, of fact.Of and of fact.Join.
-/
import Derived.Test.YtgdokncccldgiaaClone
import Derived.Test.YtgdokncccldgiaaFactSort
import Derived.Test.YtgdokncccldgiaaFactCompact
import Derived.Lib.AppendZerosOnto
namespace Go.Proofs.Ytgdokncccldgiaa
open Go.RowKit

theorem wpList_append_run {P : Program} {ops : Array Oper} {rest : List Oper} {o : Oper} {a : Act} {w : World} {Q : Exit → Act → World → Prop} (hgd : o.guard = none) (s x : Operand) (t tn : TypeId)
    (ho : o.op = .call { callee := .builtin .append, args := #[s, x], argTypes := #[t, tn] }) (v u v' : Value) (w' : World) (hs : a.eval s = v) (hx : a.eval x = u)
    (hrun : (Builtin.append_ #[t, tn] o.type #[v, u]).run P w = .ok v' w') (h : wpList P ops Q rest (a.put o.dst v') w') : wpList P ops Q (o :: rest) a w :=
  wpList_plain hgd fun K hK => by
    unfold Oper.wp execOp
    simp only [ho, resolve, invoke, builtin, Sem.run_bind, Sem.run_pure, Result.andThen_ok, List.map_toArray, List.map_cons, List.map_nil, hs, hx, hrun]
    exact hK _ _ h

set_option maxRecDepth 100000 in
set_option maxHeartbeats 1000000 in
theorem growFacts {S : Nat → Prop} (w : World) (n : Nat) (hn : n ≤ 4294967296) :
    Calls Try.prog 130 #[.slice none 0 0, .int .i64 n] w fun e w' => (∃ v', e = .returned v' ∧ Owned 2 RFact w.heap.size 57 S w' v' []) ∧ Below w.heap.size w w' := by
  by_cases h0 : n = 0
  · subst h0
    go_enter Try.func130, Try.ntmps130
    go_wp2
    go_ret
    exact ⟨⟨_, rfl, Owned.nil⟩, Below.refl _ _⟩
  · have i1 : (0 : Int) < (n : Int) := by omega
    have i2 : ¬ ((n : Int) < 0) := by omega
    have i3 : IntKind.i64.wrap (n : Int) = n := by rw [IntKind.wrap_i64]; omega
    obtain ⟨i, z, hi, hz, hsize, hby, hzs⟩ := rowFacts.ex
    have hb : i.bytes = 40 := by
      have e : (Try.prog.info? 57).map (·.bytes) = some 40 := by kernel_rfl
      rw [hi] at e
      exact Option.some.inj e
    have hrun := Lib.run_append_grow_zeros (P := Try.prog) w 55 3 55 57 i z .i64 .i64 Try.underlying55 Try.underlying3 hi hz none 0 0 [] (run_firstCells_none _ _ _ _ _) n (by omega) (by omega) (by omega) (by omega) (by rw [hb]; omega)
      (growslice_fits (by omega) (by rw [hb]; omega))
    obtain ⟨G, hG⟩ : ∃ G, G = grownCap w (0 + n) 0 57 := ⟨_, rfl⟩
    have hGn : 0 + n ≤ G := by rw [hG]; exact grownCap_ge w _ _ _
    have hGm : G ≤ maxLen := by rw [hG]; exact grownCap_le_maxLen w _ _ _ (by unfold maxLen; omega)
    rw [← hG] at hrun
    clear hG
    obtain ⟨cur, hcur⟩ : ∃ cur, cur = (#[] : Array Value) ++ Builtin.zeroCells z.cells n ++ Builtin.zeroCells z.cells (G - (0 + n)) := ⟨_, rfl⟩
    have hsz : cur.size = G * 2 := by
      rw [hcur]
      simp only [Array.size_append, size_zeroCells, hzs]
      simp; omega
    rw [show ([] : List Value).toArray = #[] from rfl, ← hcur] at hrun
    have HC := Lib.hid hcur
    have HS := Lib.hid hsz
    clear hcur hsz hi hz hzs hsize hby hb
    rw [Nat.zero_add] at hrun hGn
    have hG63 : G ≤ 9223372036854775807 := by unfold maxLen at hGm; omega
    have HR := Lib.hid hrun
    clear hrun
    go_enter Try.func130, Try.ntmps130
    go_wp2_with (at_builtin; refine wpList_append_run (by rfl) _ _ 55 3 (by rfl) _ _ _ _ (by rfl) (by rfl) HR.out ?_)
    go_wp2
    go_ret
    exact ⟨⟨_, rfl, Owned.made (w := w.drew) (Nat.le_refl _) hGm HS.out⟩, ((Below.refl _ _).drew).alloc (Nat.le_refl _) _⟩

theorem Owned.base {α : Type} {k : Nat} {R : Reader α} {B B' : Nat} {e : TypeId} {S : Nat → Prop} {w : World} {v : Value} {l : List α} (h : Owned k R B e S w v l) (hb : B' ≤ B) : Owned k R B' e S w v l := by
  obtain ⟨css, h1, h2, ho, h3⟩ := h
  refine ⟨css, h1, h2, ⟨ho.1, ?_⟩, h3⟩
  rcases ho.2 with hn | ⟨g, cap, cur, rfl, hg, rest⟩
  · exact .inl hn
  · exact .inr ⟨g, cap, cur, rfl, Nat.le_trans hb hg, rest⟩

/-- The k first of two lists, one behind the other. -/
def two {α : Type} (a b : List α) (k : Nat) : List α := ([a, b].take k).flatten

theorem RdSlice.old {α : Type} {k : Nat} {R : Reader α} (hR : Steady R) {S : Nat → Prop} {w w' : World} {v : Value} {l : List α} (h : RdSlice k R S w v l) (hb : Below w.heap.size w w') : RdSlice k R (fun b => b < w.heap.size) w' v l :=
  (h.more hR (fun _ _ h => h)).agree hR (Below.agree hb)

set_option maxRecDepth 100000 in
set_option maxHeartbeats 2000000 in
theorem concatFacts {S T : Nat → Prop} (w : World) (va vb : Value) (a b : List PFact) (g : Nat) (ha : RdFacts S w va a) (hb : RdFacts T w vb b) (c0 : w.cell? ⟨g, 0, none⟩ = some va) (c1 : w.cell? ⟨g, 1, none⟩ = some vb) (hg : g < w.heap.size)
    (n1 : a.length ≤ 1073741824) (n2 : b.length ≤ 1073741824) :
    Calls Try.prog 105 #[.slice (some ⟨g, 0, none⟩) 2 2] w fun e w' => (∃ v', e = .returned v' ∧ Owned 2 RFact w.heap.size 57 (fun q => q < w.heap.size) w' v' (a ++ b)) ∧ Below w.heap.size w w' := by
  obtain ⟨aa, ac, rfl, -, -, -⟩ := id ha.form
  obtain ⟨ba, bc, rfl, -, -, -⟩ := id hb.form
  have HA := Lib.hid (fun W (h : Below w.heap.size w W) => ha.old RFact.steady h)
  have HB := Lib.hid (fun W (h : Below w.heap.size w W) => hb.old RFact.steady h)
  clear ha hb
  go_enter Try.func105, Try.ntmps105
  go_wp2
  go_loop [3, 11, 5] (fun us uk _ => ∃ k : Nat, k ≤ 2 ∧ uk = .int .i64 k ∧ us = .int .i64 ((two a b k).length : Int)) (fun _ uk _ => 2 - (intOf uk).toNat)
  case atStart => exact ⟨0, by omega, rfl, rfl⟩
  case round =>
    obtain ⟨k, hk, rfl, rfl⟩ := hrel
    rcases (show k = 0 ∨ k = 1 ∨ k = 2 by omega) with rfl | rfl | rfl
    · have e0 : ((two a b 0).length : Int) = 0 := by simp [two]
      have z0 : ((0 : Nat) : Int) = 0 := rfl
      rw [e0, z0]
      go_wp2
      go_round
      case rel => exact ⟨1, by omega, by go_num, by simp [two]⟩
      case measure => simp [intOf]
    · have e1 : (two a b 1).length = a.length := by simp [two]
      rw [e1]
      go_wp2
      go_round
      case rel => exact ⟨2, by omega, by go_num, by simp [two]⟩
      case measure => simp [intOf]
    · have e2 : (two a b 2).length = a.length + b.length := by simp [two]
      rw [e2]
      have HG := Lib.hid (growFacts (S := fun q => q < w.heap.size) w (a.length + b.length) (by omega))
      go_wp2_with (go_at_call 130; refine (HG.out).mono ?_; rintro e w1 ⟨⟨v1, rfl, ho1⟩, hb1⟩)
      have HO := Lib.hid ho1
      have HW := Lib.hid hb1
      have hg1 : g < w1.heap.size := Nat.lt_of_lt_of_le hg hb1.size
      clear ho1 hb1
      go_wp2
      go_loopw [27, 6, 8] (fun uk uv _ wr => ∃ k : Nat, k ≤ 2 ∧ uk = .int .i64 k ∧ Hid (Owned 2 RFact w.heap.size 57 (fun q => q < w.heap.size) wr uv (two a b k)) ∧ Hid (Below w.heap.size w wr)) (fun uk _ _ _ => 2 - (intOf uk).toNat)
      case atStart => exact ⟨0, by omega, rfl, HO, HW⟩
      case round =>
        obtain ⟨k, hk, rfl, hown, hbel⟩ := hrel
        have d0 := (cell_below hbel.out hg 0).trans c0
        have d1 := (cell_below hbel.out hg 1).trans c1
        rcases (show k = 0 ∨ k = 1 ∨ k = 2 by omega) with rfl | rfl | rfl
        · have z0 : ((0 : Nat) : Int) = 0 := rfl
          rw [z0]
          go_wp2_with (at_builtin; refine wpList_append_many (B := w.heap.size) (e := 57) (S := fun q => q < w.heap.size) (by rfl) _ _ 55 (by rfl) RFact.steady RFact.one rowFacts _ (two a b 0) (by rfl) hown.out _ a (by rfl) (HA.out _ hbel.out) (fun cs x hr => RFact.steady.more (fun q hq _ => ⟨hq, fun e => by have := (hown.out.row_lt e.symm).1; omega⟩) hr) (by simp [two]; omega) hbel.out.size ?_; intro v' w' hown' hg' hat'; have HO' := Lib.hid hown'; have HB' := Lib.hid (hbel.out.grown hg' hbel.out.size (fun q hq => (hown.out.row_lt hq).1)); clear hown' hg' hat')
          go_wp2
          go_roundw
          case rel => exact ⟨1, by omega, by go_num, by simpa [two] using HO', HB'⟩
          case measure => simp [intOf]
        · have z0 : ((1 : Nat) : Int) = 1 := rfl
          rw [z0]
          go_wp2_with (at_builtin; refine wpList_append_many (B := w.heap.size) (e := 57) (S := fun q => q < w.heap.size) (by rfl) _ _ 55 (by rfl) RFact.steady RFact.one rowFacts _ (two a b 1) (by rfl) hown.out _ b (by rfl) (HB.out _ hbel.out) (fun cs x hr => RFact.steady.more (fun q hq _ => ⟨hq, fun e => by have := (hown.out.row_lt e.symm).1; omega⟩) hr) (by simp [two]; omega) hbel.out.size ?_; intro v' w' hown' hg' hat'; have HO' := Lib.hid hown'; have HB' := Lib.hid (hbel.out.grown hg' hbel.out.size (fun q hq => (hown.out.row_lt hq).1)); clear hown' hg' hat')
          go_wp2
          go_roundw
          case rel => exact ⟨2, by omega, by go_num, by simpa [two] using HO', HB'⟩
          case measure => simp [intOf]
        · have z0 : ((2 : Nat) : Int) = 2 := rfl
          rw [z0]
          go_wp2
          go_ret
          exact ⟨⟨_, rfl, by simpa [two] using hown.out⟩, hbel.out⟩

set_option maxHeartbeats 2000000 in
theorem ofCalls {S : Nat → Prop} (v : Value) (l : List PFact) (w : World) (h : RdFacts S w v l) (n1 : l.length ≤ 1073741824) (n2 : ∀ x ∈ l, x.args.length ≤ 1073741824) :
    Calls Try.prog 47 #[v] w fun e w' => (∃ v', e = .returned v' ∧ Owned 2 RFact w.heap.size 57 (New w) w' v' (ofF l)) ∧ Below w.heap.size w w' := by
  obtain ⟨a, c, rfl, -, -, -⟩ := id h.form
  have K := Lib.hid (ownCalls _ l w h n1 n2)
  have N2 := Lib.hid n2
  clear h n2
  go_enter Try.func47, Try.ntmps47
  go_wp2_with (first
    | (go_at_call 46; refine (K.out).mono ?_; rintro e w1 ⟨⟨v1, rfl, ho1⟩, hb1⟩; obtain ⟨a1, c1, rfl, -, -, -⟩ := id (ho1.read RFact.steady).form)
    | (go_at_call 101; refine (sortFacts ho1 n1 N2.out).mono ?_; rintro e w2 ⟨rfl, l2, hp, hs, ho2, hg2⟩; have HC := Lib.hid (compact_of hp hs); have HP := Lib.hid hp; have HB := Lib.hid (hb1.grown hg2 hb1.size (fun k hk => (ho1.row_lt hk).1)); clear hs hp hg2 ho1 hb1)
    | (go_at_call 102; refine (compactFacts ho2 (by rw [HP.out.length_eq]; exact n1) (fun x hx => N2.out x (HP.out.mem_iff.1 hx))).mono ?_; rintro e w3 ⟨⟨v3, rfl, ho3⟩, hg3⟩; have HO := Lib.hid ho3; have HB3 := Lib.hid (HB.out.grown hg3 HB.out.size (fun k hk => (ho2.row_lt hk).1)); clear ho3 hg3 ho2))
  go_ret
  rw [HC.out] at HO
  exact ⟨⟨_, rfl, HO.out⟩, HB3.out⟩

set_option maxHeartbeats 2000000 in
theorem joinCalls {S T : Nat → Prop} (va vb : Value) (a b : List PFact) (w : World) (ha : RdFacts S w va a) (hb : RdFacts T w vb b) (n1 : a.length + b.length ≤ 1073741824) (n2 : ∀ x ∈ a, x.args.length ≤ 1073741824) (n3 : ∀ x ∈ b, x.args.length ≤ 1073741824) :
    Calls Try.prog 49 #[va, vb] w fun e w' => (∃ v', e = .returned v' ∧ Owned 2 RFact w.heap.size 57 (New w) w' v' (joinF a b)) ∧ Below w.heap.size w w' := by
  obtain ⟨aa, ac, rfl, -, -, -⟩ := id ha.form
  obtain ⟨ba, bc, rfl, -, -, -⟩ := id hb.form
  have HA := Lib.hid ha
  have HB := Lib.hid hb
  have N := Lib.hid (fun x (hx : x ∈ a ++ b) => (List.mem_append.1 hx).elim (n2 x) (n3 x))
  clear ha hb n2 n3
  go_enter Try.func49, Try.ntmps49
  go_wp2_with (first
    | (go_at_call 105; refine (concatFacts (S := fun _ => True) (T := fun _ => True) _ _ _ a b w.heap.size ((HA.out.more RFact.steady (fun _ _ _ => trivial)).agree RFact.steady ((Agree.refl _ _).alloc _)) ((HB.out.more RFact.steady (fun _ _ _ => trivial)).agree RFact.steady ((Agree.refl _ _).alloc _)) (by simp) (by simp) (by simp) (by omega) (by omega)).mono ?_; rintro e w1 ⟨⟨v1, rfl, ho1⟩, hb1⟩; have HR := Lib.hid (ho1.read RFact.steady); have HB1 := Lib.hid (((Below.refl w.heap.size w).alloc (Nat.le_refl _) _).trans (hb1.mono (by simp))); clear ho1 hb1)
    | (go_at_call 47; refine (ofCalls _ (a ++ b) _ HR.out (by simp; omega) N.out).mono ?_; rintro e w2 ⟨⟨v2, rfl, ho2⟩, hb2⟩; have HO := Lib.hid ho2; have HB2 := Lib.hid (HB1.out.trans (hb2.mono HB1.out.size)); clear ho2 hb2))
  go_ret
  exact ⟨⟨_, rfl, Owned.base (HO.out.moreS RFact.steady (fun b hb _ => Nat.le_trans HB1.out.size hb)) HB1.out.size⟩, HB2.out⟩
end Go.Proofs.Ytgdokncccldgiaa
