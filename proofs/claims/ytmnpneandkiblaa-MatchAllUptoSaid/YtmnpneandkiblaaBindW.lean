/-
  THE WALKS OF match.Get, slices.Clone at binds, match.Meet.
-/
import Derived.Test.YtmnpneandkiblaaCheckW1
import Derived.Test.YtmnpneandkiblaaMatchN
namespace Go.Proofs.Ytmnpneandkiblaa
open Go.RowKit

theorem RdBinds.at {S : Nat → Prop} {w : World} {a : Option Addr} {n cap : Nat} {l : Binds} (h : RdBinds S w (.slice a n cap) l) {i : Nat} {x : PBind} (hx : l[i]? = some x) :
    ∃ b off, a = some ⟨b, off, none⟩ ∧ S b ∧ b < w.heap.size ∧ w.cell? ⟨b, off + i * 2, none⟩ = some (.string x.var) ∧ w.cell? ⟨b, off + i * 2 + 1, none⟩ = some (.string x.name) := by
  obtain ⟨a', cap', hv, _, _, _, h3⟩ := h
  obtain ⟨b, off, cs, ha, hS, hb, hk, hc, hr⟩ := h3 i x hx
  injection hv with e1 e2 e3
  subst e1
  have hr' : cs = [.string x.var, .string x.name] := hr
  subst hr'
  exact ⟨b, off, ha, hS, hb, by simpa using hc 0 _ rfl, by simpa using hc 1 _ rfl⟩
theorem RdBinds.up {S : Nat → Prop} {w w' : World} {v : Value} {l : Binds} (h : RdBinds S w v l) (hb : Below w.heap.size w w') : RdBinds (fun _ => True) w' v l := (h.more RBind.steady (fun _ _ _ => trivial)).agree RBind.steady (Below.agree hb)

def getV : Option Str → Value
  | none => .tuple #[.string ⟨#[]⟩, .bool false]
  | some x => .tuple #[.string x, .bool true]
theorem getB_none_of {v : Str} {l : Binds} (h : ∀ b ∈ l, b.var ≠ v) : getB v l = none := getB_none.2 fun hm => by
  obtain ⟨b, hb, e⟩ := List.mem_map.1 hm
  exact h b hb e
theorem getB_hit {v : Str} {l : Binds} {k : Nat} {x : PBind} (h : ∀ b ∈ l.take k, b.var ≠ v) (hx : l[k]? = some x) (hv : x.var = v) : getB v l = some x.name := by
  have e : l = l.take k ++ x :: l.drop (k + 1) := by rw [← drop_cons hx, List.take_append_drop]
  rw [e, getB_append, getB_none_of h]
  simp [getB, hv]

set_option maxRecDepth 100000 in
set_option maxHeartbeats 4000000 in
theorem getCalls {S : Nat → Prop} (v : Value) (l : Binds) (s : Str) (w : World) (h : RdBinds S w v l) (n1 : l.length ≤ 1099511627776) :
    Calls Try.prog 16 #[v, .string s] w fun e w' => e = .returned (getV (getB s l)) ∧ Below w.heap.size w w' := by
  obtain ⟨a, c, rfl, -, -, -⟩ := id h.form
  have H := Lib.hid h
  clear h
  go_enter Try.func16, Try.ntmps16
  go_wp2
  go_loopw [10] (fun i wr => ∃ k : Nat, k ≤ l.length ∧ i = .int .i64 k ∧ Hid (∀ b ∈ l.take k, b.var ≠ s) ∧ Hid (Below w.heap.size w wr)) (fun i _ => l.length - (intOf i).toNat)
  case atStart => exact ⟨0, Nat.zero_le _, rfl, Lib.hid (by simp), Lib.hid (Below.refl _ _)⟩
  case round =>
    obtain ⟨k, hk, rfl, HO, HB⟩ := hrel
    by_cases hlt : k < l.length
    · obtain ⟨x, hx⟩ : ∃ x, l[k]? = some x := ⟨_, List.getElem?_eq_getElem hlt⟩
      obtain ⟨b1, o1, rfl, -, -, d0, d1⟩ := RdBinds.at (H.out.up HB.out) hx
      have hsz := HB.out.size
      have HB1 := Lib.hid (HB.out.alloc hsz (.cells #[.string x.var, .string x.name] 34))
      have HX := Lib.hid hx
      clear hx
      by_cases hv : x.var = s
      · have HE := Lib.hid (getB_hit HO.out HX.out hv)
        have gz : (x.var.toList == s.toList) = true := by rw [hv]; simp
        clear hv
        go_wp2
        refine bodyPost_ret (v := .tuple #[.string x.name, .bool true]) (by simp [results, Try.results16, go_sem]) rfl ?_
        exact ⟨by rw [HE.out]; rfl, HB1.out⟩
      · have gz : (x.var.toList == s.toList) = false := by rw [beq_toList]; exact decide_eq_false hv
        have HO1 := Lib.hid (show ∀ b ∈ l.take (k + 1), b.var ≠ s from fun b hb => by
          rw [List.take_add_one, HX.out] at hb
          rcases List.mem_append.1 hb with hb | hb
          · exact HO.out b hb
          · obtain rfl : b = x := by simpa using hb
            exact hv)
        clear hv
        go_wp2
        go_roundw
        case rel => exact ⟨k + 1, by omega, by go_num, HO1, HB1⟩
        case measure => simp [intOf]; omega
    · have HE := Lib.hid (getB_none_of (v := s) (l := l) (by have := HO.out; rwa [List.take_of_length_le (by omega)] at this))
      go_wp2
      refine bodyPost_ret (v := .tuple #[.string ⟨#[]⟩, .bool false]) (by simp [results, Try.results16, go_sem]) rfl ?_
      exact ⟨by rw [HE.out]; rfl, HB.out⟩

set_option maxHeartbeats 400000 in
theorem cloneBind {S : Nat → Prop} (v : Value) (l : Binds) (w : World) (h : RdBinds S w v l) (n1 : l.length ≤ 1073741824) :
    Calls Try.prog 33 #[v] w fun e w' => (∃ v', e = .returned v' ∧ OB w.heap.size w' v' l) ∧ Below w.heap.size w w' := by
  obtain ⟨a, c, rfl, -, -, hnil⟩ := id h.form
  have heq := fun (w : World) (n c n' c' : Nat) => Lib.run_eql_slice_nil (P := Try.prog) w 24 34 a n c n' c' Try.underlying24
  cases a with
  | none =>
    have hl : l = [] := by
      cases l with
      | nil => rfl
      | cons x r =>
        obtain ⟨b, o, ha, _⟩ := h.at (i := 0) (x := x) rfl
        cases ha
    subst hl
    obtain rfl := hnil rfl
    clear h hnil
    go_enter Try.func33, Try.ntmps33
    go_wp2
    go_ret
    exact ⟨⟨_, rfl, Owned.nil⟩, Below.refl _ _⟩
  | some ad =>
    clear hnil
    have H := Lib.hid h
    clear h
    go_enter Try.func33, Try.ntmps33
    go_wp2_with (at_builtin; refine wpList_append_many (B := w.heap.size) (e := 34) (S := fun _ => False) (by rfl) _ _ 24 (by rfl) RBind.steady RBind.one rowBinds _ [] (by rfl) (Owned.made (w := w) (cur := #[]) (cap := 0) (Nat.le_refl _) (Nat.zero_le _) rfl) _ l (by rfl) (H.out.agree RBind.steady (Agree.alloc (Agree.refl _ _) _)) (fun _ _ h => h) ?hl ?hb ?_)
    case hl => simp; omega
    case hb => simp
    · intro v' w' hown hg hat
      try rw [List.nil_append] at hown
      have hown' := Lib.hid hown
      have hg' := Lib.hid hg
      clear hown hg hat
      go_wp2
      go_ret
      exact ⟨⟨_, rfl, hown'.out⟩, (((Below.refl _ _).alloc (Nat.le_refl _) _).grown hg'.out (by simp) (fun k hk => by cases hk; exact Nat.le_refl _))⟩
theorem Owned.lower {α : Type} {k : Nat} {R : Reader α} {B B' : Nat} {e : TypeId} {S : Nat → Prop} {w : World} {v : Value} {l : List α} (h : Owned k R B e S w v l) (hB : B' ≤ B) : Owned k R B' e S w v l := by
  obtain ⟨css, h1, h2, ho, h3⟩ := h
  refine ⟨css, h1, h2, ⟨ho.1, ?_⟩, h3⟩
  rcases ho.2 with h | ⟨g, cap, cur, e1, hb, r⟩
  · exact .inl h
  · exact .inr ⟨g, cap, cur, e1, Nat.le_trans hB hb, r⟩
theorem kept_grown {W1 w2 : World} {o : Obj} {r : Option Nat} {c : Nat} (hg2 : (W1.alloc o).grownBy w2 r) (hc : c < W1.heap.size) (hr : r ≠ some c) (off : Nat) : w2.cell? ⟨c, off, none⟩ = W1.cell? ⟨c, off, none⟩ :=
  kept_cell (Below.refl _ _) hg2 hc hr off

/-! ### Meet -/
theorem meetP_name {a : PAtom} {f : PFact} {l : Binds} (h : a.name ≠ f.name) : meetP a f l = none := if_neg fun e => h e.1
theorem meetP_len {a : PAtom} {f : PFact} {l : Binds} (h : a.terms.length ≠ f.args.length) : meetP a f l = none := if_neg fun e => h e.2
theorem meetL_yes {m : Binds} {t : PTerm} {ts : List PTerm} {n x : Str} {ns : List Str} (h : valT m t = some x) (he : x = n) : meetL m (t :: ts) (n :: ns) = meetL m ts ns := by rw [meetL, h]; simp [he]
theorem meetL_no {m : Binds} {t : PTerm} {ts : List PTerm} {n x : Str} {ns : List Str} (h : valT m t = some x) (he : x ≠ n) : meetL m (t :: ts) (n :: ns) = none := by rw [meetL, h]; simp [he]
theorem meetL_new {m : Binds} {t : PTerm} {ts : List PTerm} {n : Str} {ns : List Str} (h : valT m t = none) : meetL m (t :: ts) (n :: ns) = meetL (m ++ [⟨t.name, n⟩]) ts ns := by rw [meetL, h]
def MeetPost (a : PAtom) (f : PFact) (l : Binds) (w : World) (e : Ending) (w' : World) : Prop :=
  Below w.heap.size w w' ∧ match meetP a f l with
    | none => e = .returned (.tuple #[.slice none 0 0, .bool false])
    | some m => ∃ v, e = .returned (.tuple #[v, .bool true]) ∧ OB w.heap.size w' v m
theorem meet_none {a : PAtom} {f : PFact} {l : Binds} {w w' : World} (h : meetP a f l = none) (hb : Below w.heap.size w w') : MeetPost a f l w (.returned (.tuple #[.slice none 0 0, .bool false])) w' := ⟨hb, by rw [h]⟩
theorem meet_some {a : PAtom} {f : PFact} {l m : Binds} {w w' : World} {v : Value} (h : meetP a f l = some m) (hb : Below w.heap.size w w') (ho : OB w.heap.size w' v m) : MeetPost a f l w (.returned (.tuple #[v, .bool true])) w' := ⟨hb, by rw [h]; exact ⟨v, rfl, ho⟩⟩

set_option maxRecDepth 100000 in
set_option maxHeartbeats 8000000 in
theorem meetCalls {S S2 S3 : Nat → Prop} (a : PAtom) (tv : Value) (f : PFact) (fv : Value) (lv : Value) (l : Binds) (w : World) (ht : RdTerms S w tv a.terms) (hf : RdStrs S2 w fv f.args) (hl : RdBinds S3 w lv l)
    (n1 : a.terms.length ≤ 1048576) (n2 : f.args.length ≤ 1048576) (n3 : l.length ≤ 536870912) :
    Calls Try.prog 14 #[.agg #[.bool a.neg, .string a.name, tv], .agg #[.string f.name, fv], lv] w (MeetPost a f l w) := by
  obtain ⟨ta, tc, rfl, -, -, -⟩ := id ht.form
  obtain ⟨fa, fc, rfl, -, -, -⟩ := id hf.form
  obtain ⟨la, lc, rfl, -, -, -⟩ := id hl.form
  have HT := Lib.hid ht
  have HF := Lib.hid hf
  have HL := Lib.hid hl
  clear ht hf hl
  have hB0 : Below w.heap.size w ((w.alloc (.cells #[.bool a.neg, .string a.name, .slice ta a.terms.length tc] 38)).alloc (.cells #[.string f.name, .slice fa f.args.length fc] 41)) := ((Below.refl _ _).alloc (Nat.le_refl _) _).alloc (by simp) _
  have HB0 := Lib.hid hB0
  clear hB0
  by_cases hn : a.name = f.name
  case neg =>
    have gz : (a.name.toList == f.name.toList) = false := by rw [beq_toList]; exact decide_eq_false hn
    have HE := Lib.hid (meetP_name (l := l) hn)
    clear hn
    go_enter Try.func14, Try.ntmps14
    go_wp2
    refine bodyPost_ret (v := .tuple #[.slice none 0 0, .bool false]) (by simp [results, Try.results14, go_sem]) rfl ?_
    exact meet_none HE.out HB0.out
  have gz : (a.name.toList == f.name.toList) = true := by rw [hn]; simp
  have HN := Lib.hid hn
  clear hn
  by_cases hq : a.terms.length = f.args.length
  case neg =>
    have i1 : ¬ (a.terms.length : Int) = (f.args.length : Int) := by omega
    have HE := Lib.hid (meetP_len (l := l) hq)
    clear hq
    go_enter Try.func14, Try.ntmps14
    go_wp2
    refine bodyPost_ret (v := .tuple #[.slice none 0 0, .bool false]) (by simp [results, Try.results14, go_sem]) rfl ?_
    exact meet_none HE.out HB0.out
  have HE := Lib.hid (show meetP a f l = meetL l a.terms f.args from if_pos ⟨HN.out, hq⟩)
  have HQ := Lib.hid hq
  have i1 : (a.terms.length : Int) = (f.args.length : Int) := by omega
  clear hq
  have KC := Lib.hid (fun W (hW : Below w.heap.size w W) => cloneBind (.slice la l.length lc) l W (HL.out.up hW) (by omega))
  go_enter Try.func14, Try.ntmps14
  obtain ⟨W0, hW0⟩ : ∃ W0 : World, (w.alloc (.cells #[.bool a.neg, .string a.name, .slice ta a.terms.length tc] 38)).alloc (.cells #[.string f.name, .slice fa f.args.length fc] 41) = W0 := ⟨_, rfl⟩
  have hs0 : W0.heap.size = w.heap.size + 2 := by subst hW0; simp
  have t0 : W0.cell? ⟨w.heap.size, 2, none⟩ = some (.slice ta a.terms.length tc) := by subst hW0; simp
  have t1 : W0.cell? ⟨w.heap.size + 1, 1, none⟩ = some (.slice fa f.args.length fc) := by subst hW0; simp
  have t2 : W0.cell? ⟨w.heap.size, 1, none⟩ = some (.string a.name) := by subst hW0; simp
  have t3 : W0.cell? ⟨w.heap.size + 1, 0, none⟩ = some (.string f.name) := by subst hW0; simp
  rw [hW0] at HB0
  go_wp2_with (go_at_call 33; refine (KC.out _ HB0.out).mono ?_; rintro e w1 ⟨⟨v1, rfl, ho1⟩, hb1⟩; have HO1 := Lib.hid ho1; have HB1 := Lib.hid hb1; have a2 := (cell_below hb1 (show w.heap.size < W0.heap.size by omega) 2).trans t0; clear ho1 hb1)
  clear a2 t2 t3
  have T0 := Lib.hid t0
  have T1 := Lib.hid t1
  clear t0 t1 hW0 KC
  go_loopw [33, 8] (fun i v wr => ∃ k : Nat, k ≤ f.args.length ∧ i = .int .i64 k ∧ ∃ m : Binds, Hid (OB W0.heap.size wr v m) ∧ Hid (Below W0.heap.size W0 wr) ∧ Hid (meetP a f l = meetL m (a.terms.drop k) (f.args.drop k)) ∧ Hid (m.length ≤ l.length + k)) (fun i _ _ => f.args.length - (intOf i).toNat)
  case atStart => exact ⟨0, Nat.zero_le _, rfl, l, HO1, HB1, Lib.hid (by rw [HE.out]; rfl), Lib.hid (by omega)⟩
  case round =>
    clear HO1 HB1
    obtain ⟨k, hk, rfl, m, HO, HB, HM, HL1⟩ := hrel
    obtain ⟨va, vc, efm, -, -, -⟩ := (OB.read HO.out).form
    subst efm
    have hBw := HB0.out.trans (HB.out.mono HB0.out.size)
    have HBw := Lib.hid hBw
    clear hBw
    by_cases hlt : k < f.args.length
    · obtain ⟨t, hx⟩ : ∃ t, a.terms[k]? = some t := ⟨_, List.getElem?_eq_getElem (by have := HQ.out; omega)⟩
      obtain ⟨n, hy⟩ : ∃ n, f.args[k]? = some n := ⟨_, List.getElem?_eq_getElem hlt⟩
      obtain ⟨b1, o1, rfl, -, -, d0, d1⟩ := RdTerms.at (HT.out.up HBw.out) hx
      obtain ⟨b2, o2, rfl, -, hb2, -⟩ := RdStrs.at HF.out hy
      have c2 : wr.cell? ⟨b2, o2 + k, none⟩ = some (.string n) := by
        obtain ⟨b3, o3, e3, -, -, h3⟩ := RdStrs.at (HF.out.up HBw.out) hy
        injection e3 with e3
        injection e3 with e3 e4 _
        rw [e3, e4]; exact h3
      have hsz := HB.out.size
      have c1 := (cell_below HB.out (show w.heap.size + 1 < W0.heap.size by omega) 1).trans T1.out
      have i2 : (0 : Int) ≤ (k : Int) := by omega
      have i3 : (k : Int) < (f.args.length : Int) := by omega
      have i4 : (k : Int) < (a.terms.length : Int) := by omega
      have HM0 := Lib.hid (show meetP a f l = meetL m (t :: a.terms.drop (k + 1)) (n :: f.args.drop (k + 1)) by rw [HM.out, drop_cons hx, drop_cons hy])
      obtain ⟨W1, hW1⟩ : ∃ W1 : World, wr.alloc (.cells #[.bool t.var, .string t.name] 71) = W1 := ⟨_, rfl⟩
      have hs1 : W1.heap.size = wr.heap.size + 1 := by subst hW1; simp
      have hbx : Below wr.heap.size wr W1 := by subst hW1; exact (Below.refl _ _).alloc (Nat.le_refl _) _
      have HBX := Lib.hid (HB.out.trans (hbx.mono hsz))
      have HBY := Lib.hid hbx
      have HOX := Lib.hid (HO.out.below RBind.steady hbx)
      have HWX := Lib.hid hW1
      have j1 : w.heap.size + 1 < wr.heap.size := by omega
      have j2 : b2 < wr.heap.size := by have := HBw.out.size; omega
      clear hx hy hbx hW1 HM
      cases htv : t.var
      · have hv : valT m t = some t.name := by unfold valT; rw [htv]; rfl
        rw [htv] at d0 HWX
        by_cases hz : t.name = n
        · have gz2 : (t.name.toList == n.toList) = true := by rw [hz]; simp
          have HM1 := Lib.hid (HM0.out.trans (meetL_yes hv hz))
          have HL2 := Lib.hid (show m.length ≤ l.length + (k + 1) by have := HL1.out; omega)
          rw [← HWX.out] at HBX HOX
          clear hz hv htv hs1 HBY
          go_wp2
          go_roundw
          case rel => exact ⟨k + 1, by omega, by go_num, m, HOX, HBX, HM1, HL2⟩
          case measure => simp [intOf]; omega
        · have gz2 : (t.name.toList == n.toList) = false := by rw [beq_toList]; exact decide_eq_false hz
          have HR := Lib.hid (HM0.out.trans (meetL_no hv hz))
          rw [← HWX.out] at HBX
          clear hz hv htv hs1 HBY
          go_wp2
          refine bodyPost_ret (v := .tuple #[.slice none 0 0, .bool false]) (by simp [results, Try.results14, go_sem]) rfl ?_
          exact meet_none HR.out (HB0.out.trans (HBX.out.mono HB0.out.size))
      · have hv : valT m t = getB t.name m := by unfold valT; rw [htv]; rfl
        rw [htv] at d0 HWX
        have e0 : W1.cell? ⟨wr.heap.size, 0, none⟩ = some (.bool true) := by rw [← HWX.out]; simp
        have e1 : W1.cell? ⟨wr.heap.size, 1, none⟩ = some (.string t.name) := by rw [← HWX.out]; simp
        have KG := Lib.hid (getCalls (.slice va m.length vc) m t.name W1 (OB.read HOX.out) (by have := HL1.out; omega))
        have hW1 := HWX.out
        clear HWX
        have f1 := (cell_below HBY.out (show w.heap.size + 1 < wr.heap.size by omega) 1).trans c1
        have f2 := (cell_below HBY.out (show b2 < wr.heap.size by have := HBw.out.size; omega) (o2 + k)).trans c2
        have E1 := Lib.hid e1
        have F1 := Lib.hid f1
        have F2 := Lib.hid f2
        clear f1 f2
        have hb2' : b2 < W1.heap.size := by have := HBw.out.size; omega
        have HB2 := Lib.hid hb2
        clear hb2
        cases hg : getB t.name m with
        | none =>
          rw [hg] at KG hv
          have HM1 := Lib.hid (HM0.out.trans (meetL_new hv))
          have hls : ([(⟨t.name, n⟩ : PBind)] : Binds).length = 1 := rfl
          have HL2 := Lib.hid (show (m ++ [(⟨t.name, n⟩ : PBind)]).length ≤ l.length + (k + 1) by have := HL1.out; rw [List.length_append, hls]; omega)
          have HLM := Lib.hid (show m.length < 1099511627776 by have := HL1.out; omega)
          clear hls hg hv htv
          go_wp2_with (go_at_call 16; refine (KG.out).mono ?_; rintro e w1 ⟨rfl, hb1⟩; dsimp only [getV]; have HBG := Lib.hid hb1; have e1 := (cell_below hb1 (show wr.heap.size < W1.heap.size by omega) 1).trans E1.out; have f1 := (cell_below hb1 (show w.heap.size + 1 < W1.heap.size by omega) 1).trans F1.out; have f2 := (cell_below hb1 hb2' (o2 + k)).trans F2.out; clear hb1)
          have HB3 := Lib.hid (HBX.out.trans (HBG.out.mono (by omega)))
          have HO3 := Lib.hid (HOX.out.below RBind.steady HBG.out)
          have hq1 : ∀ c, c < W1.heap.size → (c < W0.heap.size ∨ c = wr.heap.size) → (Value.slice va m.length vc).ownBlock ≠ some c := fun c hc ho e => by
            obtain ⟨g1, g2⟩ := HO.out.row_lt e
            omega
          have hq2 : ∀ c, c < W1.heap.size → c < w1.heap.size := fun c hc => by have := HBG.out.size; omega
          have HQ1 := Lib.hid hq1
          have HQ2 := Lib.hid hq2
          clear hq1 hq2
          go_region_held3 (fun w' => w'.cell? ⟨wr.heap.size, 1, none⟩ = some (.string t.name) ∧ w'.cell? ⟨w.heap.size + 1, 1, none⟩ = some (.slice (some ⟨b2, o2, none⟩) f.args.length fc) ∧ w'.cell? ⟨b2, o2 + k, none⟩ = some (.string n))
            (first
              | (refine ⟨?_, ?_, ?_⟩ <;> (first | (rw [hk1]; assumption) | (rw [hk2]; assumption) | (rw [hk3]; assumption)))
              | go_keep)
            (first
              | (refine step_append_one (by rfl) _ _ 24 (by rfl) RBind.steady rowBinds _ m (by rfl) ((HO3.out.drew RBind.steady).alloc RBind.steady _) _ 1 #[.string t.name, .string n] 34 (0, 0) ⟨t.name, n⟩ (by rfl) (heap_alloc_new _ _) rfl (by simp [Value.oneCell']) rfl HLM.out (by have := HB3.out.size; simp; omega) ?_; intro v2 w2 hown2 hg2 hat2; have hk1 := fun off => kept_grown (W1 := w1.drew) hg2 (show wr.heap.size < w1.heap.size from HQ2.out _ (by omega)) (HQ1.out _ (by omega) (by omega)) off; have hk2 := fun off => kept_grown (W1 := w1.drew) hg2 (show w.heap.size + 1 < w1.heap.size from HQ2.out _ (by omega)) (HQ1.out _ (by omega) (by omega)) off; have hk3 := fun off => kept_grown (W1 := w1.drew) hg2 (show b2 < w1.heap.size from HQ2.out _ (by omega)) (HQ1.out _ (by omega) (by have := HB2.out; omega)) off))
          have HO4 := Lib.hid hown2
          have HB4 := Lib.hid ((HB3.out.drew.alloc (by have := HB3.out.size; simp; omega) _).grown hg2 (by have := HB3.out.size; simp; omega) (fun q hq => (HO3.out.row_lt hq).1))
          clear hown2 hg2 hat2 hk1 hk2 hk3
          go_wp2
          go_roundw
          case rel => exact ⟨k + 1, by omega, by go_num, _, HO4, HB4, HM1, HL2⟩
          case measure => simp [intOf]; omega
        | some x =>
          rw [hg] at KG hv
          by_cases hz : x = n
          · have gz2 : (x.toList == n.toList) = true := by rw [hz]; simp
            have HM1 := Lib.hid (HM0.out.trans (meetL_yes hv hz))
            have HL2 := Lib.hid (show m.length ≤ l.length + (k + 1) by have := HL1.out; omega)
            clear hz hg hv htv
            go_wp2_with (go_at_call 16; refine (KG.out).mono ?_; rintro e w1 ⟨rfl, hb1⟩; dsimp only [getV]; have HBG := Lib.hid hb1; have e1 := (cell_below hb1 (show wr.heap.size < W1.heap.size by omega) 1).trans E1.out; have f1 := (cell_below hb1 (show w.heap.size + 1 < W1.heap.size by omega) 1).trans F1.out; have f2 := (cell_below hb1 hb2' (o2 + k)).trans F2.out; clear hb1)
            have HB3 := Lib.hid (HBX.out.trans (HBG.out.mono (by omega)))
            have HO3 := Lib.hid (HOX.out.below RBind.steady HBG.out)
            go_roundw
            case rel => exact ⟨k + 1, by omega, by go_num, m, HO3, HB3, HM1, HL2⟩
            case measure => simp [intOf]; omega
          · have gz2 : (x.toList == n.toList) = false := by rw [beq_toList]; exact decide_eq_false hz
            have HR := Lib.hid (HM0.out.trans (meetL_no hv hz))
            clear hz hg hv htv
            go_wp2_with (go_at_call 16; refine (KG.out).mono ?_; rintro e w1 ⟨rfl, hb1⟩; dsimp only [getV]; have HBG := Lib.hid hb1; have e1 := (cell_below hb1 (show wr.heap.size < W1.heap.size by omega) 1).trans E1.out; have f1 := (cell_below hb1 (show w.heap.size + 1 < W1.heap.size by omega) 1).trans F1.out; have f2 := (cell_below hb1 hb2' (o2 + k)).trans F2.out; clear hb1)
            have HB3 := Lib.hid (HBX.out.trans (HBG.out.mono (by omega)))
            refine bodyPost_ret (v := .tuple #[.slice none 0 0, .bool false]) (by simp [results, Try.results14, go_sem]) rfl ?_
            exact meet_none HR.out (HB0.out.trans (HB3.out.mono HB0.out.size))
    · have HR := Lib.hid (show meetP a f l = some m by rw [HM.out, drop_end (by have := HQ.out; omega), drop_end (by omega)]; rfl)
      go_wp2
      refine bodyPost_ret (v := .tuple #[.slice va m.length vc, .bool true]) (by simp [results, Try.results14, go_sem]) rfl ?_
      exact meet_some HR.out HBw.out (HO.out.lower (by omega))
end Go.Proofs.Ytmnpneandkiblaa
