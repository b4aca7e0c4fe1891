/-
  slices.CompactFunc AT FACTS: a row of one's own: neighbours that are the same fall together.
-/
import Derived.Test.YtgdokncccldgiaaCompactG
import Derived.Test.YtgdokncccldgiaaIn
namespace Go.Proofs.Ytgdokncccldgiaa
open Go.RowKit

theorem eqFact {S T : Nat → Prop} (f g : PFact) (va vb : Value) (w : World) (h1 : RdStrs S w va f.args) (h2 : RdStrs T w vb g.args) (n1 : f.args.length ≤ 1073741824) :
    Calls Try.prog 103 #[.agg #[.string f.name, va], .agg #[.string g.name, vb]] w fun e w' => e = .returned (.bool (decide (f = g))) ∧ Fresh w w' := by
  obtain ⟨a1, c1, rfl, -, -, -⟩ := id h1.form
  obtain ⟨a2, c2, rfl, -, -, -⟩ := id h2.form
  have K := Lib.hid (fun W (ha : Agree (fun _ => True) w W) => compareFact f g _ _ W ((h1.more RStr.steady (fun _ _ _ => trivial)).agree RStr.steady ha) ((h2.more RStr.steady (fun _ _ _ => trivial)).agree RStr.steady ha) n1)
  have e : decide (f = g) = (cmpFact f g == 0) := by rw [Bool.eq_iff_iff, decide_eq_true_eq, beq_iff_eq, cmpFact3.zero]
  have HE := Lib.hid e
  clear h1 h2 e
  generalize cmpFact f g = q at *
  go_enter Try.func103, Try.ntmps103
  go_wp2_with (go_at_call 51; refine (K.out _ (((Agree.refl _ _).alloc _).alloc _)).mono ?_; rintro e w1 ⟨rfl, hf1⟩)
  go_ret
  exact ⟨ret_bool HE.out.symm, (((Fresh.refl _).alloc _).alloc _).trans hf1⟩

theorem flatten_take {k : Nat} : ∀ (css : List (List Value)), (∀ cs ∈ css, cs.length = k) → ∀ i, css.flatten.take (i * k) = (css.take i).flatten
  | [], _, i => by simp
  | c :: css, hk, 0 => by simp
  | c :: css, hk, i + 1 => by
    have hc : c.length = k := hk c (by simp)
    rw [List.flatten_cons, List.take_succ_cons, List.flatten_cons, List.take_append, hc, List.take_of_length_le (by rw [hc, Nat.add_mul]; omega), show (i + 1) * k - k = i * k by rw [Nat.add_mul]; omega, flatten_take css (fun c hc => hk c (by simp [hc])) i]

/-- The row's elements' cells: the first i read as what is kept, those from p on as they did. -/
def HalfRow (w : World) (S : Nat → Prop) (g n cap i p : Nat) (B : Nat) (css : List (List Value)) (acc l : List PFact) : Prop :=
  css.length = n ∧ (∀ cs ∈ css, cs.length = 2) ∧ w.ownsRow B 57 2 (.slice (some ⟨g, 0, none⟩) n cap) n css.flatten ∧ acc.length = i ∧ i ≤ p ∧
  (∀ q cs x, q < i → css[q]? = some cs → acc[q]? = some x → RFact (fun b => S b ∧ b ≠ g) w cs x) ∧ (∀ q cs x, p ≤ q → css[q]? = some cs → l[q]? = some x → RFact (fun b => S b ∧ b ≠ g) w cs x)

theorem HalfRow.fresh {w w' : World} {S : Nat → Prop} {g n cap i p B : Nat} {css : List (List Value)} {acc l : List PFact} (h : HalfRow w S g n cap i p B css acc l) (hb : Below w.heap.size w w') : HalfRow w' S g n cap i p B css acc l := by
  obtain ⟨h1, h2, h3, h4, h5, h6, h7⟩ := h
  have hg : w.grownBy w' none := ⟨hb.os, hb.tape, hb.output, hb.size, fun k hk _ => hb.block k hk⟩
  exact ⟨h1, h2, h3.kept hg (.inr (by simp [Value.ownBlock])), h4, h5, fun q cs x a b c => RFact.steady.agree (Below.agree hb) (h6 q cs x a b c), fun q cs x a b c => RFact.steady.agree (Below.agree hb) (h7 q cs x a b c)⟩

theorem HalfRow.cellsAt {w : World} {S : Nat → Prop} {g n cap i p B : Nat} {css : List (List Value)} {acc l : List PFact} (h : HalfRow w S g n cap i p B css acc l) {q : Nat} {x : PFact} (hq : p ≤ q) (hx : l[q]? = some x) (hl : l.length = n) :
    ∃ av, css[q]? = some [.string x.name, av] ∧ RdStrs (fun b => S b ∧ b ≠ g) w av x.args ∧ w.cell? ⟨g, q * 2, none⟩ = some (.string x.name) ∧ w.cell? ⟨g, q * 2 + 1, none⟩ = some av := by
  obtain ⟨h1, h2, h3, h4, h5, h6, h7⟩ := h
  have hqn : q < n := by rw [← hl]; exact (List.getElem?_eq_some_iff.1 hx).1
  have hcs : css[q]? = some css[q] := List.getElem?_eq_getElem (by omega)
  obtain ⟨av, hc, hr⟩ := h7 q _ x hq hcs hx
  rw [hc] at hcs
  have a0 := flatten_get css h2 q _ 0 _ hcs rfl
  have a1 := flatten_get css h2 q _ 1 _ hcs rfl
  exact ⟨av, hcs, hr, by rw [h3.cellAt _ (by omega)]; exact a0, by rw [h3.cellAt _ (by omega)]; exact a1⟩

theorem HalfRow.put {w : World} {S : Nat → Prop} {g n cap i p B : Nat} {css : List (List Value)} {acc l : List PFact} (h : HalfRow w S g n cap i p B css acc l) {y : PFact} {c0 c1 : Value} (hy : l[p + 1]? = some y) (hc : css[p + 1]? = some [c0, c1]) :
    HalfRow ((w.setCell ⟨g, i * 2, none⟩ c0).setCell ⟨g, i * 2 + 1, none⟩ c1) S g n cap (i + 1) (p + 1) B (css.set i [c0, c1]) (acc ++ [y]) l := by
  obtain ⟨h1, h2, h3, h4, h5, h6, h7⟩ := h
  have hp1 : p + 1 < css.length := (List.getElem?_eq_some_iff.1 hc).1
  have hag : Agree (fun b => S b ∧ b ≠ g) w ((w.setCell ⟨g, i * 2, none⟩ c0).setCell ⟨g, i * 2 + 1, none⟩ c1) :=
    ⟨by simp [World.setCell], fun b hb _ => (Below.heap_setCell _ _ _ _ hb.2).trans (Below.heap_setCell _ _ _ _ hb.2)⟩
  refine ⟨by simp [h1], ?_, ?_, by simp [h4], by omega, ?_, ?_⟩
  · intro cs hcs
    rcases List.mem_or_eq_of_mem_set hcs with hcs | rfl
    · exact h2 cs hcs
    · rfl
  · rw [← flatten_set2 css h2 i c0 c1 (by omega)]
    exact ((h3.stored _ _).1.stored _ _).1
  · intro q cs x hq hcs hx
    by_cases e : q = i
    · subst e
      rw [List.getElem?_set_self (by omega)] at hcs
      rw [List.getElem?_append_right (by omega), h4, Nat.sub_self] at hx
      obtain rfl : [c0, c1] = cs := Option.some.inj hcs
      obtain rfl : y = x := by simpa using hx
      exact RFact.steady.agree hag (h7 (p + 1) _ y (by omega) hc hy)
    · rw [List.getElem?_set_ne (Ne.symm e)] at hcs
      rw [List.getElem?_append_left (by omega)] at hx
      exact RFact.steady.agree hag (h6 q cs x (by omega) hcs hx)
  · intro q cs x hq hcs hx
    rw [List.getElem?_set_ne (by omega)] at hcs
    exact RFact.steady.agree hag (h7 q cs x (by omega) hcs hx)

theorem HalfRow.start {w : World} {S : Nat → Prop} {g n cap B : Nat} {l : List PFact} (h : Owned 2 RFact B 57 S w (.slice (some ⟨g, 0, none⟩) n cap) l) (hl : l.length = n) {i : Nat} (hi : i ≤ n) (h1 : 1 ≤ i) :
    ∃ css, HalfRow w S g n cap i (i - 1 + 1) B css (l.take i) l := by
  obtain ⟨css, q1, q2, q3, q4⟩ := h
  rw [hl] at q3 q1
  have hm : ∀ {cs x}, RFact (fun b => S b ∧ some b ≠ (Value.slice (some ⟨g, 0, none⟩) n cap).ownBlock) w cs x → RFact (fun b => S b ∧ b ≠ g) w cs x := fun hr => RFact.steady.more (fun b hb _ => ⟨hb.1, fun e => hb.2 (by rw [e]; rfl)⟩) hr
  refine ⟨css, q1, q2, q3, by rw [List.length_take]; omega, by omega, ?_, fun q cs x _ hcs hx => hm (q4 q cs x hcs hx)⟩
  intro q cs x hq hcs hx
  rw [List.getElem?_take_of_lt hq] at hx
  exact hm (q4 q cs x hcs hx)

theorem Below.grownBy {w w' : World} (hb : Below w.heap.size w w') (row : Option Nat) : w.grownBy w' row := ⟨hb.os, hb.tape, hb.output, hb.size, fun k hk _ => hb.block k hk⟩

/-- The cells of the place that is written. -/
theorem HalfRow.spot {w : World} {S : Nat → Prop} {g n cap i p B : Nat} {css : List (List Value)} {acc l : List PFact} (h : HalfRow w S g n cap i p B css acc l) (hi : i < n) (u : Value) :
    ∃ d0 d1, w.cell? ⟨g, i * 2, none⟩ = some d0 ∧ w.frozen? ⟨g, i * 2, none⟩ = false ∧ w.cell? ⟨g, i * 2 + 1, none⟩ = some d1 ∧ (w.setCell ⟨g, i * 2, none⟩ u).cell? ⟨g, i * 2 + 1, none⟩ = some d1 ∧ (w.setCell ⟨g, i * 2, none⟩ u).frozen? ⟨g, i * 2 + 1, none⟩ = false ∧ w.frozen? ⟨g, i * 2 + 1, none⟩ = false := by
  have ho := h.2.2.1
  have hl : css.flatten.length = n * 2 := ho.1
  have e1 : i * 2 + 1 < n * 2 := by omega
  have c1 : w.cell? ⟨g, i * 2 + 1, none⟩ = some (css.flatten[i * 2 + 1]'(by omega)) := by rw [ho.cellAt _ e1]; exact List.getElem?_eq_getElem _
  refine ⟨_, _, by rw [ho.cellAt _ (by omega)]; exact List.getElem?_eq_getElem (by omega), ho.frozenAt _, c1, ?_, (ho.stored _ _).1.frozenAt _, ho.frozenAt _⟩
  rw [(ho.stored _ _).1.cellAt _ e1, List.getElem?_set_ne (by omega)]
  exact List.getElem?_eq_getElem _

theorem wpList_clear_own {P : Program} {t e : TypeId} {k : Nat} {z : Value} (hk : 0 < k) (ht : P.underlying t = some (.slice e)) (hz : ∀ w, (zeroValue e).run P w = .ok z w) (hzs : z.cells.size = k) (hz1 : ∀ u ∈ z.cells, u.oneCell' = true)
    {ops : Array Oper} {rest : List Oper} {o : Oper} {a : Act} {Q : Exit → Act → World → Prop} (hgd : o.guard = none) (s : Operand) (ho : o.op = .call { callee := .builtin .clear, args := #[s], argTypes := #[t] }) (hd : o.dst = none)
    {w : World} {B g n cap : Nat} {xs : List Value} (hown : w.ownsRow B e k (.slice (some ⟨g, 0, none⟩) n cap) n xs) (i c : Nat) (hi : i ≤ n) (hs : a.eval s = .slice (some ⟨g, i * k, none⟩) (n - i) c)
    (h : ∀ w', w'.ownsRow B e k (.slice (some ⟨g, 0, none⟩) i cap) i (xs.take (i * k)) → w.grownBy w' (some g) → wpList P ops Q rest a w') : wpList P ops Q (o :: rest) a w :=
  wpList_plain hgd fun K hK => by
    obtain ⟨w', hrun, h1, h2⟩ := run_clear_own (P := P) (ty := o.type) hk ht hz hzs hz1 hown i c hi
    unfold Oper.wp execOp
    simp only [ho, resolve, invoke, builtin, Sem.run_bind, Sem.run_pure, Result.andThen_ok, List.map_toArray, List.map_cons, List.map_nil, hs, hrun]
    show K (a.put o.dst _) w'
    rw [hd]
    exact hK _ _ (h w' h1 h2)

theorem HalfRow.shut {w w' : World} {S : Nat → Prop} {g n cap i p B : Nat} {css : List (List Value)} {acc l : List PFact} (h : HalfRow w S g n cap i p B css acc l) (hi : i ≤ n)
    (ho : w'.ownsRow B 57 2 (.slice (some ⟨g, 0, none⟩) i cap) i (css.flatten.take (i * 2))) (hg : w.grownBy w' (some g)) : Owned 2 RFact B 57 S w' (.slice (some ⟨g, 0, none⟩) i cap) acc := by
  obtain ⟨h1, h2, h3, h4, h5, h6, h7⟩ := h
  have hfl : css.flatten.take (i * 2) = (css.take i).flatten := by
    rw [flatten_take css h2 i]
  rw [hfl] at ho
  refine ⟨css.take i, by rw [List.length_take]; omega, fun cs hcs => h2 cs (List.mem_of_mem_take hcs), by rw [h4]; exact ho, fun q cs x hcs hx => ?_⟩
  have hq : q < i := by have := (List.getElem?_eq_some_iff.1 hx).1; omega
  rw [List.getElem?_take_of_lt hq] at hcs
  have r := RFact.steady.agree (w' := w') ⟨hg.size, fun b hb hlt => hg.block b hlt (fun e => hb.2 (Option.some.inj e))⟩ (h6 q cs x hq hcs hx)
  exact RFact.steady.more (fun b hb _ => ⟨hb.1, fun e => hb.2 (Option.some.inj e)⟩) r

attribute [local go_sem ↓] Go.wp_at_zero Go.wp_at_succ
set_option maxRecDepth 100000 in
set_option maxHeartbeats 4000000 in
theorem compactFacts {B : Nat} {S : Nat → Prop} {w : World} {v : Value} {l : List PFact} (hown : Owned 2 RFact B 57 S w v l) (n1 : l.length ≤ 1073741824) (n2 : ∀ x ∈ l, x.args.length ≤ 1073741824) :
    Calls Try.prog 102 #[v, .func (.func 103) #[] #[]] w fun en w' => (∃ v', en = .returned v' ∧ Owned 2 RFact B 57 S w' v' (compactL l)) ∧ w.grownBy w' v.ownBlock := by
  by_cases hl2 : l.length < 2
  · have hc : compactL l = l := by
      match l, hl2 with
      | [], _ => rfl
      | [x], _ => rfl
    rw [hc]
    obtain ⟨a, c, rfl, -, -, -⟩ := id (hown.read RFact.steady).form
    have HO := Lib.hid hown
    clear hown
    go_enter Try.func102, Try.ntmps102
    go_wp2
    go_ret
    exact ⟨⟨_, rfl, HO.out⟩, ⟨rfl, rfl, rfl, Nat.le_refl _, fun _ _ _ => rfl⟩⟩
  · have hO := hown
    obtain ⟨css0, -, -, ho, -⟩ := hown
    rcases ho.2 with ⟨_, h0⟩ | ⟨g, cap, cur, rfl, hgB, -, hcap, hcm, -, -⟩
    · omega
    · have HO := Lib.hid hO
      have N2 := Lib.hid n2
      clear hO ho n2
      have hcm' : cap ≤ 9223372036854775807 := by unfold maxLen at hcm; omega
      obtain ⟨n, hn⟩ : ∃ n, l.length = n := ⟨_, rfl⟩
      rw [hn] at hl2 n1 hcap HO ⊢
      have HN := Lib.hid hn
      clear hn
      have hl2' : decide ((n : Int) < 2) = false := by simp; omega
      go_enter Try.func102, Try.ntmps102
      go_wp2

      go_loopw [5, 6, 7] (fun ui _ _ wr => ∃ j : Nat, j + 1 ≤ n ∧ ui = .int .i64 ((j : Int) + 1) ∧ Hid (∀ p x y, p + 1 < j + 1 → l[p]? = some x → l[p + 1]? = some y → x ≠ y) ∧ Hid (Owned 2 RFact B 57 S wr (.slice (some ⟨g, 0, none⟩) n cap) l) ∧ Hid (Below w.heap.size w wr))
        (fun ui _ _ _ => n - (intOf ui).toNat)
      case atStart => exact ⟨0, by omega, rfl, fun p x y h => by omega, HO, Below.refl _ _⟩
      case round =>
        obtain ⟨j, hj, rfl, hne, hown, hbel⟩ := hrel
        by_cases hlt : j + 1 < n
        · obtain ⟨x, hx⟩ : ∃ x, l[j + 1]? = some x := ⟨_, List.getElem?_eq_getElem (by rw [HN.out]; omega)⟩
          obtain ⟨y, hy⟩ : ∃ y, l[j]? = some y := ⟨_, List.getElem?_eq_getElem (by rw [HN.out]; omega)⟩
          obtain ⟨g1, o1, av, e1, -, hg1, cx0, cx1, hav⟩ := RdFacts.at (hown.out.read RFact.steady) hx
          obtain ⟨g2, o2, bv, e2, -, -, cy0, cy1, hbv⟩ := RdFacts.at (hown.out.read RFact.steady) hy
          obtain ⟨aa, ac, rfl, -, -, -⟩ := id hav.form
          obtain ⟨ba, bc, rfl, -, -, -⟩ := id hbv.form
          injection e1 with e1; injection e1 with e1 e1' _; injection e2 with e2; injection e2 with e2 e2' _
          subst e1 e1' e2 e2'
          have n2x : x.args.length ≤ 1073741824 := N2.out x (List.mem_of_getElem? hx)
          have K := Lib.hid (fun W (ha : Agree (fun b => S b ∨ B ≤ b) wr W) => eqFact x y _ _ W (hav.agree RStr.steady ha) (hbv.agree RStr.steady ha) n2x)
          have HX := Lib.hid hx
          have HY := Lib.hid hy
          clear hx hy hav hbv n2x
          have i1 : (0 : Int) ≤ (j : Int) := by omega
          have i2 : (j : Int) + 1 < (n : Int) := by omega
          have i3 : (j : Int) < (n : Int) := by omega
          have i4 : (0 : Int) ≤ (j : Int) + 1 := by omega
          have i5 : IntKind.i64.wrap (j : Int) = j := by rw [IntKind.wrap_i64]; omega
          simp only [Nat.zero_add] at cx0 cx1 cy0 cy1
          by_cases hxy : x = y
          · have hd : decide (x = y) = true := decide_eq_true hxy
            rw [hd] at K
            have HXY := Lib.hid hxy
            clear hxy hd
            go_wp2_with fail
            go_region_held3 (fun w' => w'.cell? ⟨g, (j + 1) * 2, none⟩ = some (.string x.name) ∧ w'.cell? ⟨g, (j + 1) * 2 + 1, none⟩ = some (.slice aa x.args.length ac) ∧
                w'.cell? ⟨g, j * 2, none⟩ = some (.string y.name) ∧ w'.cell? ⟨g, j * 2 + 1, none⟩ = some (.slice ba y.args.length bc))
              (first | (refine ⟨?_, ?_, ?_, ?_⟩ <;> (rw [hk2 _ hg1]; assumption)) | go_keep)
              (first
                | (go_at_call 103; refine (K.out _ (Agree.refl _ _).drew).mono ?_; rintro e w1 ⟨rfl, hf1⟩; have hk2 : ∀ c, c < wr.heap.size → ∀ off, w1.cell? ⟨c, off, none⟩ = wr.cell? ⟨c, off, none⟩ := fun c hc off => cell_below (w := wr.drew) hf1.below hc off))
            have hB2 : Below w.heap.size w w1 := hbel.out.drew.trans (hf1.below.mono hbel.out.size)
            obtain ⟨css, hrow⟩ := HalfRow.start ((hown.out.drew RFact.steady).below RFact.steady hf1.below) HN.out (i := j + 1) (by omega) (by omega)
            have hacc : compactL (l.take (j + 1 + 1)) = l.take (j + 1) := by
              rw [compactL_same HY.out (by rw [← HXY.out]; exact HX.out), compactL_apart (j + 1) (by rw [HN.out]; omega) hne.out]
            have HR := Lib.hid hrow
            have HB2 := Lib.hid (Below.grownBy hB2 (some g))
            have HACC := Lib.hid hacc
            clear hB2 hrow hacc hf1 hk2 cx0 cx1 cy0 cy1
            go_wp2
            clear HX HY HXY K hg1 hown hbel
            obtain ⟨m, hm⟩ : ∃ m, n - (j + 1) = m := ⟨_, rfl⟩
            obtain ⟨c2, hc2⟩ : ∃ c2, cap - (j + 1) = c2 := ⟨_, rfl⟩
            rw [hm, hc2]
            go_loopw [5, 7] (fun ui uk wr2 => ∃ i q : Nat, ∃ css acc, q + 1 ≤ m ∧ ui = .int .i64 i ∧ uk = .int .i64 ((q : Int) + 1) ∧ Hid (HalfRow wr2 S g n cap i (j + 1 + q) B css acc l) ∧ Hid (acc = compactL (l.take (j + 1 + q + 1))) ∧ Hid (w.grownBy wr2 (some g)))
              (fun _ uk _ => m - (intOf uk).toNat)
            case atStart => exact ⟨j + 1, 0, css, _, by omega, by simp, by simp, HR.out, HACC.out.symm, HB2.out⟩
            case round =>
              obtain ⟨i, q, css, acc, hq, rfl, rfl, hrow, hacc, hbel⟩ := hrel
              by_cases hlt2 : q + 1 < m
              · obtain ⟨x2, hx⟩ : ∃ x2, l[j + 1 + q + 1]? = some x2 := ⟨_, List.getElem?_eq_getElem (by rw [HN.out]; omega)⟩
                obtain ⟨y2, hy⟩ : ∃ y2, l[j + 1 + q]? = some y2 := ⟨_, List.getElem?_eq_getElem (by rw [HN.out]; omega)⟩
                obtain ⟨av, hcx, hav, cx0, cx1⟩ := hrow.out.cellsAt (q := j + 1 + q + 1) (by omega) hx HN.out
                obtain ⟨bv, hcy, hbv, cy0, cy1⟩ := hrow.out.cellsAt (q := j + 1 + q) (by omega) hy HN.out
                obtain ⟨aa, ac, rfl, -, -, -⟩ := id hav.form
                obtain ⟨ba, bc, rfl, -, -, -⟩ := id hbv.form
                have n2x : x2.args.length ≤ 1073741824 := N2.out x2 (List.mem_of_getElem? hx)
                have K := Lib.hid (fun W (ha : Agree (fun b => S b ∧ b ≠ g) wr W) => eqFact x2 y2 _ _ W (hav.agree RStr.steady ha) (hbv.agree RStr.steady ha) n2x)
                have hg1 : g < wr.heap.size := (hrow.out.2.2.1.lt g rfl).2
                have HX := Lib.hid hx
                have HY := Lib.hid hy
                have HCX := Lib.hid hcx
                clear hx hy hav hbv n2x hcx hcy
                have i1 : (0 : Int) ≤ (q : Int) := by omega
                have i2 : (q : Int) + 1 < (m : Int) := by omega
                have i3 : (q : Int) < (m : Int) := by omega
                have i4 : (0 : Int) ≤ (q : Int) + 1 := by omega
                have i5 : IntKind.i64.wrap (q : Int) = q := by rw [IntKind.wrap_i64]; omega
                have e1 : (j + 1 + q + 1) * 2 = (j + 1) * 2 + (q + 1) * 2 := by omega
                have e2 : (j + 1 + q) * 2 = (j + 1) * 2 + q * 2 := by omega
                rw [e1] at cx0 cx1
                rw [e2] at cy0 cy1
                clear e1 e2
                cases hxy : decide (x2 = y2)
                · rw [hxy] at K
                  have HXY := Lib.hid hxy
                  clear hxy
                  go_wp2_with fail
                  go_region_held3 (fun w' => w'.cell? ⟨g, (j + 1) * 2 + (q + 1) * 2, none⟩ = some (.string x2.name) ∧ w'.cell? ⟨g, (j + 1) * 2 + (q + 1) * 2 + 1, none⟩ = some (.slice aa x2.args.length ac) ∧
                      w'.cell? ⟨g, (j + 1) * 2 + q * 2, none⟩ = some (.string y2.name) ∧ w'.cell? ⟨g, (j + 1) * 2 + q * 2 + 1, none⟩ = some (.slice ba y2.args.length bc))
                    (first | (refine ⟨?_, ?_, ?_, ?_⟩ <;> (rw [hk2 _ hg1]; assumption)) | go_keep)
                    (first
                      | (go_at_call 103; refine (K.out _ (Agree.refl _ _).drew).mono ?_; rintro e w3 ⟨rfl, hf1⟩; have hk2 : ∀ c, c < wr.heap.size → ∀ off, w3.cell? ⟨c, off, none⟩ = wr.cell? ⟨c, off, none⟩ := fun c hc off => cell_below (w := wr.drew) hf1.below hc off))
                  have hrow3 := hrow.out.fresh (show Below wr.heap.size wr w3 from (Below.refl _ _).drew.trans hf1.below)
                  obtain ⟨d0, d1, s0, s1, s2, s3, s4, s5⟩ := hrow3.spot (show i < n by have := hrow3.2.2.2.2.1; omega) (.string x2.name)
                  have HR3 := Lib.hid (hrow3.put HX.out HCX.out)
                  have HG3 := Lib.hid ((hbel.out.trans (Below.grownBy (show Below wr.heap.size wr w3 from (Below.refl _ _).drew.trans hf1.below) (some g))).trans ((((hrow3.2.2.1.stored (i * 2) (.string x2.name)).2).trans (((hrow3.2.2.1.stored (i * 2) (.string x2.name)).1.stored (i * 2 + 1) (.slice aa x2.args.length ac)).2))))
                  have hin : (i : Int) < n := by have := hrow3.2.2.2.2.1; omega
                  have i6 : (0 : Int) ≤ (i : Int) := by omega
                  clear hrow3 hf1 hk2
                  go_wp2
                  go_roundw
                  case rel =>
                    refine ⟨i + 1, q + 1, _, acc ++ [x2], by omega, by go_num, by go_num, HR3.out, ?_, HG3.out⟩
                    rw [show j + 1 + (q + 1) + 1 = j + 1 + q + 2 by omega, compactL_other HY.out HX.out (fun e => of_decide_eq_false HXY.out e.symm), ← hacc.out]
                    exact Lib.hid rfl
                  case measure => simp [intOf]; omega
                · rw [hxy] at K
                  have HXY := Lib.hid (of_decide_eq_true hxy)
                  clear hxy
                  go_wp2_with fail
                  go_region_held3 (fun w' => w'.cell? ⟨g, (j + 1) * 2 + (q + 1) * 2, none⟩ = some (.string x2.name) ∧ w'.cell? ⟨g, (j + 1) * 2 + (q + 1) * 2 + 1, none⟩ = some (.slice aa x2.args.length ac) ∧
                      w'.cell? ⟨g, (j + 1) * 2 + q * 2, none⟩ = some (.string y2.name) ∧ w'.cell? ⟨g, (j + 1) * 2 + q * 2 + 1, none⟩ = some (.slice ba y2.args.length bc))
                    (first | (refine ⟨?_, ?_, ?_, ?_⟩ <;> (rw [hk2 _ hg1]; assumption)) | go_keep)
                    (first
                      | (go_at_call 103; refine (K.out _ (Agree.refl _ _).drew).mono ?_; rintro e w3 ⟨rfl, hf1⟩; have hk2 : ∀ c, c < wr.heap.size → ∀ off, w3.cell? ⟨c, off, none⟩ = wr.cell? ⟨c, off, none⟩ := fun c hc off => cell_below (w := wr.drew) hf1.below hc off))
                  have HR3 := Lib.hid (hrow.out.fresh (show Below wr.heap.size wr w3 from (Below.refl _ _).drew.trans hf1.below))
                  have HG3 := Lib.hid (hbel.out.trans (Below.grownBy (show Below wr.heap.size wr w3 from (Below.refl _ _).drew.trans hf1.below) (some g)))
                  clear hf1 hk2
                  go_wp2
                  go_roundw
                  case rel =>
                    refine ⟨i, q + 1, css, acc, by omega, by go_num, by go_num, ?_, ?_, HG3.out⟩
                    · obtain ⟨h1, h2, h3, h4, h5, h6, h7⟩ := HR3.out
                      exact ⟨h1, h2, h3, h4, by omega, h6, fun q' cs x hq' => h7 q' cs x (by omega)⟩
                    · rw [show j + 1 + (q + 1) + 1 = j + 1 + q + 2 by omega, compactL_same HY.out (by rw [← HXY.out]; exact HX.out), ← hacc.out]
                      exact Lib.hid rfl
                  case measure => simp [intOf]; omega
              · have hqm : q + 1 = m := by omega
                have hin : i ≤ n := by have := hrow.out.2.2.2.2.1; omega
                have hin' : (i : Int) ≤ n := by omega
                have hic : i ≠ cap := by have := hrow.out.2.2.2.2.1; omega
                have hic' : cap ≠ i := fun e => hic e.symm
                have hic2 : i < cap := by omega
                have hic3 : (i : Int) < cap := by omega
                have i6 : (0 : Int) ≤ (i : Int) := by omega
                have hacc' : acc = compactL l := by rw [hacc.out, List.take_of_length_le (by rw [HN.out]; omega)]
                have HA := Lib.hid hacc'
                clear hacc'
                go_wp2
                obtain ⟨w5, hrun5, hown5, hg5⟩ := run_clear_own (P := Try.prog) (t := 55) (ty := 0) (k := 2) (by omega) Try.underlying55 Try.zeroValue57 rfl (by simp [Value.cells, Value.oneCell']) hrow.out.2.2.1 i (cap - i) hin
                have HO5 := Lib.hid (hrow.out.shut hin hown5 hg5)
                have HG5 := Lib.hid (hbel.out.trans hg5)
                clear hown5 hg5
                rw [hrun5]
                go_wp2
                go_ret
                exact ⟨⟨_, rfl, by rw [← HA.out]; exact HO5.out⟩, HG5.out⟩
          · have hd : decide (x = y) = false := decide_eq_false hxy
            rw [hd] at K
            have HXY := Lib.hid hxy
            clear hxy hd
            go_wp2_with fail
            go_region_held3 (fun w' => w'.cell? ⟨g, (j + 1) * 2, none⟩ = some (.string x.name) ∧ w'.cell? ⟨g, (j + 1) * 2 + 1, none⟩ = some (.slice aa x.args.length ac) ∧
                w'.cell? ⟨g, j * 2, none⟩ = some (.string y.name) ∧ w'.cell? ⟨g, j * 2 + 1, none⟩ = some (.slice ba y.args.length bc))
              (first | (refine ⟨?_, ?_, ?_, ?_⟩ <;> (rw [hk2 _ hg1]; assumption)) | go_keep)
              (first
                | (go_at_call 103; refine (K.out _ (Agree.refl _ _).drew).mono ?_; rintro e w1 ⟨rfl, hf1⟩; have hk2 : ∀ c, c < wr.heap.size → ∀ off, w1.cell? ⟨c, off, none⟩ = wr.cell? ⟨c, off, none⟩ := fun c hc off => cell_below (w := wr.drew) hf1.below hc off))
            have HB2 := Lib.hid (hbel.out.drew.trans (hf1.below.mono hbel.out.size))
            have HO2 := Lib.hid ((hown.out.drew RFact.steady).below RFact.steady hf1.below)
            clear hf1 hk2 cx0 cx1 cy0 cy1
            go_wp2
            go_roundw
            case rel =>
              refine ⟨j + 1, by omega, by go_num, ?_, HO2.out, HB2.out⟩
              intro p a b hp ha hb
              by_cases hpj : p = j
              · subst hpj
                rw [HY.out] at ha
                rw [HX.out] at hb
                obtain rfl := Option.some.inj ha
                obtain rfl := Option.some.inj hb
                exact fun e => HXY.out e.symm
              · exact hne.out p a b (by omega) ha hb
            case measure => simp [intOf]; omega
        · have hjn : j + 1 = n := by omega
          have hc : compactL l = l := by
            have := compactL_apart (l := l) (j + 1) (by rw [HN.out]; omega) hne.out
            rwa [List.take_of_length_le (by rw [HN.out]; omega)] at this
          have HC := Lib.hid hc
          clear hc
          go_wp2
          go_ret
          exact ⟨⟨_, rfl, by rw [HC.out]; exact hown.out⟩, Below.grownBy hbel.out _⟩
end Go.Proofs.Ytgdokncccldgiaa
