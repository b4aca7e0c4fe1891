/-
  THE WALK OF match.Fill.
-/
import Derived.Test.YtmnpneandkiblaaSynW3
import Derived.Test.YtmnpneandkiblaaBindW
namespace Go.Proofs.Ytmnpneandkiblaa
open Go.RowKit

theorem fillArgs_snoc {l : Binds} {t : PTerm} {n : Str} (hv : valT l t = some n) : ∀ {ts : List PTerm} {ns : List Str}, fillArgs l ts = some ns → fillArgs l (ts ++ [t]) = some (ns ++ [n])
  | [], ns, h => by obtain rfl := Option.some.inj h; simp [fillArgs, hv]
  | u :: ts, ns, h => by
    rw [List.cons_append]
    unfold fillArgs at h ⊢
    cases hu : valT l u with
    | none => rw [hu] at h; cases h
    | some m =>
      rw [hu] at h
      dsimp only at h ⊢
      cases hr : fillArgs l ts with
      | none => rw [hr] at h; cases h
      | some r => rw [hr] at h; obtain rfl := Option.some.inj h; rw [fillArgs_snoc hv hr]; rfl
theorem fillArgs_none {l : Binds} {t : PTerm} (hv : valT l t = none) : ∀ {ts : List PTerm}, t ∈ ts → fillArgs l ts = none
  | u :: ts, h => by
    unfold fillArgs
    rcases List.mem_cons.1 h with rfl | h
    · rw [hv]
    · cases hu : valT l u with
      | none => rfl
      | some m => dsimp only; rw [fillArgs_none hv h]; rfl
def FillPost (a : PAtom) (l : Binds) (w : World) (e : Ending) (w' : World) : Prop :=
  Below w.heap.size w w' ∧ match fillP a l with
    | none => e = .returned (.tuple #[.agg #[.string ⟨#[]⟩, .slice none 0 0], .bool false])
    | some f => ∃ v, e = .returned (.tuple #[.agg #[.string f.name, v], .bool true]) ∧ RdStrs (New w) w' v f.args
theorem fill_no {a : PAtom} {l : Binds} {w w' : World} (h : fillP a l = none) (hb : Below w.heap.size w w') : FillPost a l w (.returned (.tuple #[.agg #[.string ⟨#[]⟩, .slice none 0 0], .bool false])) w' := ⟨hb, by rw [h]⟩
theorem fill_yes {a : PAtom} {l : Binds} {w w' : World} {v : Value} {ns : List Str} (h : fillArgs l a.terms = some ns) (hb : Below w.heap.size w w') (hv : RdStrs (New w) w' v ns) : FillPost a l w (.returned (.tuple #[.agg #[.string a.name, v], .bool true])) w' :=
  ⟨hb, by unfold fillP; rw [h]; exact ⟨v, rfl, hv⟩⟩

attribute [local go_sem ↓] Go.wp_at_zero Go.wp_at_succ
set_option maxRecDepth 100000 in
set_option maxHeartbeats 8000000 in
theorem fillCalls {S S2 : Nat → Prop} (a : PAtom) (tv : Value) (lv : Value) (l : Binds) (w : World) (ht : RdTerms S w tv a.terms) (hl : RdBinds S2 w lv l) (n1 : a.terms.length ≤ 1048576) (n2 : l.length ≤ 1073741824) :
    Calls Try.prog 11 #[.agg #[.bool a.neg, .string a.name, tv], lv] w (FillPost a l w) := by
  obtain ⟨ta, tc, rfl, -, -, -⟩ := id ht.form
  obtain ⟨la, lc, rfl, -, -, -⟩ := id hl.form
  have HT := Lib.hid ht
  have HL := Lib.hid hl
  clear ht hl
  go_enter Try.func11, Try.ntmps11
  go_wp2
  have HB0 := Lib.hid ((((Below.refl w.heap.size w).alloc (Nat.le_refl _) (.cells #[.bool a.neg, .string a.name, .slice ta a.terms.length tc] 38)).alloc (by simp) (.cells #[.string ⟨#[]⟩, .slice none 0 0] 41)).alloc (by simp; omega) (.cells #[.string a.name, .slice none 0 0] 41))
  have HK1 := Lib.hid (((show Blk ((w.alloc (.cells #[.bool a.neg, .string a.name, .slice ta a.terms.length tc] 38)).alloc (.cells #[.string ⟨#[]⟩, .slice none 0 0] 41)) (w.heap.size + 1) 41 #[.string ⟨#[]⟩, .slice none 0 0] from heap_new_at (by simp)).alloc (.cells #[.string a.name, .slice none 0 0] 41)))
  have HK2 := Lib.hid (show Blk (((w.alloc (.cells #[.bool a.neg, .string a.name, .slice ta a.terms.length tc] 38)).alloc (.cells #[.string ⟨#[]⟩, .slice none 0 0] 41)).alloc (.cells #[.string a.name, .slice none 0 0] 41)) (w.heap.size + 1 + 1) 41 #[.string a.name, .slice none 0 0] from heap_new_at (by simp))
  go_loopw [18] (fun i wr => ∃ (k : Nat) (ns : List Str) (av : Value), k ≤ a.terms.length ∧ i = .int .i64 k ∧ Hid (Below w.heap.size w wr) ∧ Hid (fillArgs l (a.terms.take k) = some ns) ∧ Hid (Blk wr (w.heap.size + 1) 41 #[.string ⟨#[]⟩, .slice none 0 0]) ∧ Hid (Blk wr (w.heap.size + 1 + 1) 41 #[.string a.name, av]) ∧ Hid (Owned 1 RStr (w.heap.size + 3) 9 (fun _ => False) wr av ns)) (fun i _ => a.terms.length - (intOf i).toNat)
  case atStart => exact ⟨0, [], _, Nat.zero_le _, rfl, HB0, Lib.hid (by rw [List.take_zero]; rfl), HK1, HK2, Lib.hid Owned.nil⟩
  case round =>
    clear HB0 HK1 HK2
    obtain ⟨k, ns, av, hk, rfl, HB, HF, HK1, HK2, HO⟩ := hrel
    obtain ⟨aa, ac, efm, -, -, -⟩ := (HO.out.read RStr.steady).form
    subst efm
    have HNL := Lib.hid (show ns.length < 1099511627776 by have := fillArgs_len HF.out; rw [List.length_take] at this; omega)
    have hsz : w.heap.size + 3 ≤ wr.heap.size := by have := HK2.out.lt; omega
    by_cases hlt : k < a.terms.length
    · obtain ⟨t, hx⟩ : ∃ t, a.terms[k]? = some t := ⟨_, List.getElem?_eq_getElem hlt⟩
      obtain ⟨b1, o1, rfl, -, -, d0, d1⟩ := RdTerms.at (HT.out.up HB.out) hx
      have HS := Lib.hid (fun n (hv : valT l t = some n) => (show fillArgs l (a.terms.take (k + 1)) = some (ns ++ [n]) by rw [List.take_add_one, hx]; exact fillArgs_snoc hv HF.out))
      have HNO := Lib.hid (fun (hv : valT l t = none) => (show fillP a l = none by unfold fillP; rw [fillArgs_none hv (List.mem_of_getElem? hx)]; rfl))
      obtain ⟨W1, hW1⟩ : ∃ W1 : World, wr.alloc (.cells #[.bool t.var, .string t.name] 71) = W1 := ⟨_, rfl⟩
      have hs1 : W1.heap.size = wr.heap.size + 1 := by subst hW1; simp
      have hbx : Below wr.heap.size wr W1 := by subst hW1; exact (Below.refl _ _).alloc (Nat.le_refl _) _
      have HB1 := Lib.hid (HB.out.trans (hbx.mono HB.out.size))
      have HO1 := Lib.hid (HO.out.below RStr.steady hbx)
      have HK11 := Lib.hid (HK1.out.below hbx (by omega))
      have HK21 := Lib.hid (HK2.out.below hbx (by omega))
      have KG := Lib.hid (getCalls (.slice la l.length lc) l t.name W1 (HL.out.up HB1.out) (by omega))
      have e1 : W1.cell? ⟨wr.heap.size, 1, none⟩ = some (.string t.name) := by subst hW1; simp
      have e0 : W1.cell? ⟨wr.heap.size, 0, none⟩ = some (.bool t.var) := by subst hW1; simp
      have hne : wr.heap.size ≠ w.heap.size + 1 + 1 := by omega
      clear hx hbx HB HO HK1 HK2
      cases htv : t.var
      · have hv : valT l t = some t.name := by unfold valT; rw [htv]; rfl
        have HF1 := Lib.hid (HS.out _ hv)
        rw [htv] at d0 hW1 e0
        clear hv htv HNO KG
        have g1 : W1.cell? ⟨w.heap.size + 1 + 1, 1, none⟩ = some (.slice aa ns.length ac) := HK21.out.cell 1
        go_wp2_with (at_builtin; refine wpList_append_one (B := w.heap.size + 3) (e := 9) (S := fun _ => False) (by rfl) _ _ 39 (by rfl) RStr.steady rowStrs _ ns (by rfl) (HO1.out.alloc RStr.steady _) (wr.heap.size + 1) 1 #[.string t.name] 9 (0, 0) t.name (by rfl) (heap_new_at hs1) rfl (by simp [Value.oneCell']) rfl HNL.out (by simp; omega) ?_; intro v2 w2 hown2 hg2 hat2; obtain ⟨a2, c2, rfl, -, -, -⟩ := id (hown2.read RStr.steady).form; rw [show (ns ++ [t.name]).length = ns.length + 1 by simp] at hown2; have HO2 := Lib.hid hown2; have HB2 := Lib.hid ((HB1.out.alloc (by have := HB1.out.size; omega) _).grown hg2 (by have := HB1.out.size; simp; omega) (fun q hq => by have := (HO1.out.row_lt hq).1; omega)); have HK12 := Lib.hid ((HK11.out.alloc _).grown hg2 (fun e => by have := (HO1.out.row_lt e.symm).1; omega)); have HK22 := Lib.hid ((HK21.out.alloc _).grown hg2 (fun e => by have := (HO1.out.row_lt e.symm).1; omega)); have g2 : w2.cell? ⟨w.heap.size + 1 + 1, 1, none⟩ = some (.slice aa ns.length ac) := HK22.out.cell 1; have x2 := HK22.out.frozen 1; clear hown2 hg2 hat2)
        have hcs : (2 : Nat) ≠ 1 := by omega
        go_roundw
        case rel => exact ⟨k + 1, _, _, by omega, by go_num, Lib.hid (HB2.out.setCell (by show w.heap.size ≤ w.heap.size + 1 + 1; omega) _), HF1, Lib.hid (HK12.out.far (p := ⟨w.heap.size + 1 + 1, 1, none⟩) (by show w.heap.size + 1 ≠ w.heap.size + 1 + 1; omega) _), Lib.hid (HK22.out.set_ 1 _), Lib.hid (HO2.out.setCell RStr.steady (p := ⟨w.heap.size + 1 + 1, 1, none⟩) (fun h => h) (fun e => by have := (HO2.out.row_lt e).1; have h2 : w.heap.size + 3 ≤ w.heap.size + 1 + 1 := this; omega) _)⟩
        case measure => simp [intOf]; omega
      · have hv : valT l t = getB t.name l := by unfold valT; rw [htv]; rfl
        rw [htv] at d0 hW1 e0
        clear htv
        cases hg : getB t.name l with
        | none =>
          rw [hg] at KG hv
          have HE := Lib.hid (HNO.out hv)
          clear hg hv HS HNO
          go_wp2_with (go_at_call 16; refine (KG.out).mono ?_; rintro e w1 ⟨rfl, hb1⟩; dsimp only [getV]; have HB2 := Lib.hid (HB1.out.trans (hb1.mono (Below.size HB1.out))); have HO2 := Lib.hid (HO1.out.below RStr.steady hb1); have HK12 := Lib.hid (HK11.out.below hb1 (by omega)); have HK22 := Lib.hid (HK21.out.below hb1 (by omega)); have hs2 : wr.heap.size + 1 ≤ w1.heap.size := (by have := hb1.size; omega); have z0 : w1.cell? ⟨w.heap.size + 1, 0, none⟩ = some (.string ⟨#[]⟩) := HK12.out.cell 0; have z1 : w1.cell? ⟨w.heap.size + 1, 1, none⟩ = some (.slice none 0 0) := HK12.out.cell 1; have x0 := HK12.out.frozen 0; have x1 := HK12.out.frozen 1; have g1 : w1.cell? ⟨w.heap.size + 1 + 1, 1, none⟩ = some (.slice aa ns.length ac) := HK22.out.cell 1; clear hb1)
          refine bodyPost_ret (v := .tuple #[.agg #[.string ⟨#[]⟩, .slice none 0 0], .bool false]) (by simp [results, Try.results11, go_sem, z0, z1]) rfl ?_
          exact fill_no HE.out ((HB2.out.setCell (by show w.heap.size ≤ w.heap.size + 1; omega) _).setCell (by show w.heap.size ≤ w.heap.size + 1; omega) _)
        | some x =>
          rw [hg] at KG hv
          have HF1 := Lib.hid (HS.out _ hv)
          clear hg hv HS HNO
          go_wp2_with (first
            | (go_at_call 16; refine (KG.out).mono ?_; rintro e w1 ⟨rfl, hb1⟩; dsimp only [getV]; have HB2 := Lib.hid (HB1.out.trans (hb1.mono (Below.size HB1.out))); have HO2 := Lib.hid (HO1.out.below RStr.steady hb1); have HK12 := Lib.hid (HK11.out.below hb1 (by omega)); have HK22 := Lib.hid (HK21.out.below hb1 (by omega)); have hs2 : wr.heap.size + 1 ≤ w1.heap.size := (by have := hb1.size; omega); have z0 : w1.cell? ⟨w.heap.size + 1, 0, none⟩ = some (.string ⟨#[]⟩) := HK12.out.cell 0; have z1 : w1.cell? ⟨w.heap.size + 1, 1, none⟩ = some (.slice none 0 0) := HK12.out.cell 1; have x0 := HK12.out.frozen 0; have x1 := HK12.out.frozen 1; have g1 : w1.cell? ⟨w.heap.size + 1 + 1, 1, none⟩ = some (.slice aa ns.length ac) := HK22.out.cell 1; clear hb1)
            | (at_builtin; refine wpList_append_one (B := w.heap.size + 3) (e := 9) (S := fun _ => False) (by rfl) _ _ 39 (by rfl) RStr.steady rowStrs _ ns (by rfl) (HO2.out.alloc RStr.steady _) w1.heap.size 1 #[.string x] 9 (0, 0) x (by rfl) (heap_new_at rfl) rfl (by simp [Value.oneCell']) rfl HNL.out (by simp; omega) ?_; intro v3 w3 hown2 hg2 hat2; obtain ⟨a2, c2, rfl, -, -, -⟩ := id (hown2.read RStr.steady).form; rw [show (ns ++ [x]).length = ns.length + 1 by simp] at hown2; have HO3 := Lib.hid hown2; have HB3 := Lib.hid ((HB2.out.alloc (by have := HB2.out.size; omega) _).grown hg2 (by have := HB2.out.size; simp; omega) (fun q hq => by have := (HO2.out.row_lt hq).1; omega)); have HK13 := Lib.hid ((HK12.out.alloc _).grown hg2 (fun e => by have := (HO2.out.row_lt e.symm).1; omega)); have HK23 := Lib.hid ((HK22.out.alloc _).grown hg2 (fun e => by have := (HO2.out.row_lt e.symm).1; omega)); have g2 : w3.cell? ⟨w.heap.size + 1 + 1, 1, none⟩ = some (.slice aa ns.length ac) := HK23.out.cell 1; have y2 := HK23.out.frozen 1; clear hown2 hg2 hat2))
          go_roundw
          case rel => exact ⟨k + 1, _, _, by omega, by go_num, Lib.hid (HB3.out.setCell (by show w.heap.size ≤ w.heap.size + 1 + 1; omega) _), HF1, Lib.hid (HK13.out.far (p := ⟨w.heap.size + 1 + 1, 1, none⟩) (by show w.heap.size + 1 ≠ w.heap.size + 1 + 1; omega) _), Lib.hid (HK23.out.set_ 1 _), Lib.hid (HO3.out.setCell RStr.steady (p := ⟨w.heap.size + 1 + 1, 1, none⟩) (fun h => h) (fun e => by have := (HO3.out.row_lt e).1; have h2 : w.heap.size + 3 ≤ w.heap.size + 1 + 1 := this; omega) _)⟩
          case measure => simp [intOf]; omega
    · have HA := Lib.hid (show fillArgs l a.terms = some ns by have := HF.out; rwa [List.take_of_length_le (by omega)] at this)
      have z0 : wr.cell? ⟨w.heap.size + 1, 0, none⟩ = some (.string ⟨#[]⟩) := HK1.out.cell 0
      have z1 : wr.cell? ⟨w.heap.size + 1, 1, none⟩ = some (.slice none 0 0) := HK1.out.cell 1
      have x0 := HK1.out.frozen 0
      have x1 := HK1.out.frozen 1
      have y0 : wr.cell? ⟨w.heap.size + 1 + 1, 0, none⟩ = some (.string a.name) := HK2.out.cell 0
      have y1 : wr.cell? ⟨w.heap.size + 1 + 1, 1, none⟩ = some (.slice aa ns.length ac) := HK2.out.cell 1
      go_wp2
      refine bodyPost_ret (v := .tuple #[.agg #[.string a.name, .slice aa ns.length ac], .bool true]) (by simp [results, Try.results11, go_sem, z0, z1]) rfl ?_
      refine fill_yes HA.out ((HB.out.setCell (by show w.heap.size ≤ w.heap.size + 1; omega) _).setCell (by show w.heap.size ≤ w.heap.size + 1; omega) _) ?_
      have hno : ∀ i : Nat, (Value.slice aa ns.length ac).ownBlock ≠ some (⟨w.heap.size + 1, i, none⟩ : Addr).block := fun i e => by have := (HO.out.row_lt e).1; have h2 : w.heap.size + 3 ≤ w.heap.size + 1 := this; omega
      exact (((HO.out.setCell RStr.steady (fun h => h) (hno 0) _).setCell RStr.steady (fun h => h) (hno 1) _).read RStr.steady).more RStr.steady (fun b hb _ => hb.elim False.elim (fun h => by show w.heap.size ≤ b; omega))
end Go.Proofs.Ytmnpneandkiblaa
