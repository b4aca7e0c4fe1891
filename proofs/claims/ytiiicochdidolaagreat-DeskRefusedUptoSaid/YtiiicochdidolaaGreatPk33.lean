/-
  THE TEXTS DeskD6, Alive8, OpenDo, one behind the other.
-/
import Derived.Test.YtiiicochdidolaaGreatPk10
import Derived.Test.YtiiicochdidolaaGreatPk17
import Derived.Test.YtiiicochdidolaaGreatPk18
import Derived.Test.YtiiicochdidolaaGreatPk22
import Derived.Test.YtiiicochdidolaaGreatPk32
namespace Go.Proofs.YtiiicochdidolaaGreat
open Go.RowKit
def RDo : Reader PDo := fun S w cs x => ∃ av, cs = [.int .i64 x.kind, .int .i64 x.n, .string x.fact.name, av, .string x.text] ∧ RdStrs S w av x.fact.args
theorem RDo.steady : Steady RDo := ⟨fun h ⟨av, hc, r⟩ => ⟨av, hc, r.agree RStr.steady h⟩, fun h ⟨av, hc, r⟩ => ⟨av, hc, r.more RStr.steady h⟩⟩
abbrev RdDos := RdSlice 5 RDo
def RAns : Reader PAns := fun S w cs a => ∃ ba bc s0 aa an ac rl ka kn kc, cs = [.int .i64 a.err, .int .i64 a.at', .int .i64 a.n, .slice ba a.binds.length bc, .string s0, .slice aa an ac, .int .i64 rl, .slice ka kn kc] ∧ RdBindss S w (.slice ba a.binds.length bc) a.binds
theorem RAns.steady : Steady RAns :=
  ⟨fun h ⟨ba, bc, s0, aa, an, ac, rl, ka, kn, kc, hc, r⟩ => ⟨ba, bc, s0, aa, an, ac, rl, ka, kn, kc, hc, RdSlice.agree RBinds.steady h r⟩, fun h ⟨ba, bc, s0, aa, an, ac, rl, ka, kn, kc, hc, r⟩ => ⟨ba, bc, s0, aa, an, ac, rl, ka, kn, kc, hc, RdSlice.more RBinds.steady h r⟩⟩
abbrev RdAnss := RdSlice 8 RAns
theorem RdDos.at {S : Nat → Prop} {w : World} {a : Option Addr} {n cap : Nat} {l : List PDo} (h : RdDos S w (.slice a n cap) l) {i : Nat} {x : PDo} (hx : l[i]? = some x) : ∃ b off aa ac, a = some ⟨b, off, none⟩ ∧ DoAt w b (off + i * 5) x aa ac := by
  obtain ⟨a', cap', hv, _, _, _, h3⟩ := h
  obtain ⟨b, off, cs, ha, hS, hb, hk, hc, av, hr, hq⟩ := h3 i x hx
  injection hv with e1 e2 e3
  subst e1
  subst hr
  obtain ⟨aa, ac, rfl, -, -, -⟩ := id hq.form
  exact ⟨b, off, aa, ac, ha, hb, by simpa using hc 0 _ rfl, hc 1 _ rfl, hc 2 _ rfl, hc 3 _ rfl, hc 4 _ rfl, hq.more RStr.steady (fun _ _ _ => trivial)⟩
theorem rowAns : RowT Tryz.prog 32 46 8 := RowT.mk' (b := 120) (z := .agg #[.int .i64 0, .int .i64 0, .int .i64 0, .slice none 0 0, .string ⟨#[]⟩, .slice none 0 0, .int .i64 0, .slice none 0 0]) Tryz.underlying32 (by kernel_rfl) (by omega) rfl (by omega)
structure DkRd (d : PDesk) (tv rv kv nv sv : Value) (w : World) : Prop where
  told : RdFacts (fun _ => True) w tv d.told
  rules : RdRules (fun _ => True) w rv d.rules
  known : RdFacts (fun _ => True) w kv d.run.known
  new : RdFacts (fun _ => True) w nv d.run.new
  saved : SavedRd (fun _ => True) d.saved w sv
abbrev deskV (d : PDesk) (tv rv kv nv sv : Value) : Value := .agg #[tv, rv, .bool d.running, kv, nv, .int .i64 d.run.stratum, .int .i64 d.run.rounds, .bool d.run.done, sv]
def PlayPost (r : PDesk × List PAns × Int) (w : World) (e : Ending) (w' : World) : Prop :=
  Below w.heap.size w w' ∧ ∃ ta tc ra rc ka kc na nc sa sn sc oa oc, e = .returned (.tuple #[deskV r.1 (.slice ta r.1.told.length tc) (.slice ra r.1.rules.length rc) (.slice ka r.1.run.known.length kc) (.slice na r.1.run.new.length nc) (.slice sa sn sc), .slice oa r.2.1.length oc, .int .i64 r.2.2]) ∧
    DkRd r.1 (.slice ta r.1.told.length tc) (.slice ra r.1.rules.length rc) (.slice ka r.1.run.known.length kc) (.slice na r.1.run.new.length nc) (.slice sa sn sc) w' ∧ RdAnss (fun _ => True) w' (.slice oa r.2.1.length oc) r.2.1
theorem playL_snoc {sp : StrataFn} (l : List PDo) (d : PDesk) {i : Nat} {x : PDo} (h : l[i]? = some x) : (playL sp d (l.take (i + 1))).2 = (playL sp d (l.take i)).2 ++ [(doP sp (playL sp d (l.take i)).1 x).2] := by
  rw [List.take_add_one, h, playL_append]
  rfl
theorem DkAt.rd {S : Nat → Prop} {D : Nat} {d : PDesk} {tv rv kv nv sv : Value} {w : World} (h : DkAt S D d tv rv kv nv sv w) : DkRd d tv rv kv nv sv w :=
  ⟨h.told.more RFact.steady (fun _ _ _ => trivial), RdSlice.more RRule.steady (fun _ _ _ => trivial) h.rules, h.known.more RFact.steady (fun _ _ _ => trivial), h.new.more RFact.steady (fun _ _ _ => trivial), h.saved.more (fun _ _ _ => trivial)⟩
theorem DkRd.agree {d : PDesk} {tv rv kv nv sv : Value} {w w' : World} (h : DkRd d tv rv kv nv sv w) (ha : Agree (fun _ => True) w w') : DkRd d tv rv kv nv sv w' := ⟨h.told.agree ha, h.rules.agree ha, h.known.agree ha, h.new.agree ha, h.saved.agree ha⟩
theorem Dk.grown {U : Nat → Prop} {D : Nat} {d : PDesk} {w w' : World} {v v' : Value} (h : Dk (fun q => U q ∧ some q ≠ v.ownBlock) D d w) (hg : w.grownBy w' v.ownBlock) (hD : v.ownBlock ≠ some D) (hat : v'.ownBlock = v.ownBlock ∨ v'.ownBlock = some w.heap.size) : Dk (fun q => U q ∧ some q ≠ v'.ownBlock) D d w' := by
  obtain ⟨tv, rv, kv, nv, sv, h⟩ := h
  have h1 : DkAt (fun q => (U q ∧ some q ≠ v.ownBlock) ∧ q < w.heap.size) D d tv rv kv nv sv w := h.more fun q hq hl => ⟨hq, hl⟩
  have h2 := h1.to (w' := w') (h1.blk.grown hg (fun e => hD e.symm)) ⟨hg.size, fun q hq hl => hg.block q hl hq.1.2⟩
  refine ⟨tv, rv, kv, nv, sv, h2.more fun q hq _ => ⟨hq.1.1, fun e => ?_⟩⟩
  rcases hat with e1 | e1
  · exact hq.1.2 (by rw [e, e1])
  · rw [e1] at e
    have := Option.some.inj e
    have := hq.2
    omega
theorem Dk.alloc {S : Nat → Prop} {D : Nat} {d : PDesk} {w : World} (h : Dk S D d w) (o : Obj) : Dk S D d (w.alloc o) := by obtain ⟨tv, rv, kv, nv, sv, h⟩ := h; exact ⟨tv, rv, kv, nv, sv, h.alloc o⟩
theorem Dk.lt {S : Nat → Prop} {D : Nat} {d : PDesk} {w : World} (h : Dk S D d w) : D < w.heap.size := by obtain ⟨tv, rv, kv, nv, sv, h⟩ := h; exact h.lt
def set9 (W : World) (A : Nat) (u0 u1 u2 u3 u4 u5 u6 u7 u8 : Value) : World := ((((((((W.setCell ⟨A, 0, none⟩ u0).setCell ⟨A, 1, none⟩ u1).setCell ⟨A, 2, none⟩ u2).setCell ⟨A, 3, none⟩ u3).setCell ⟨A, 4, none⟩ u4).setCell ⟨A, 5, none⟩ u5).setCell ⟨A, 6, none⟩ u6).setCell ⟨A, 7, none⟩ u7).setCell ⟨A, 8, none⟩ u8
theorem agree_set9 {S : Nat → Prop} {w : World} {A : Nat} (hp : ¬ S A) (u0 u1 u2 u3 u4 u5 u6 u7 u8 : Value) : Agree S w (set9 w A u0 u1 u2 u3 u4 u5 u6 u7 u8) :=
  (agree_set8 hp u0 u1 u2 u3 u4 u5 u6 u7).trans (Agree.setCell (p := ⟨A, 8, none⟩) hp u8)
theorem below_set9 {w W : World} {A B : Nat} (h : Below B w W) (hA : B ≤ A) (u0 u1 u2 u3 u4 u5 u6 u7 u8 : Value) : Below B w (set9 W A u0 u1 u2 u3 u4 u5 u6 u7 u8) :=
  ((((((((h.setCell hA _).setCell hA _).setCell hA _).setCell hA _).setCell hA _).setCell hA _).setCell hA _).setCell hA _).setCell hA _
def DoSmall (x : PDo) : Prop := x.fact.args.length ≤ 1048576 ∧ x.text.size ≤ 1048576
attribute [local go_sem ↓] Go.wp_at_zero Go.wp_at_succ
set_option maxRecDepth 100000 in
set_option maxHeartbeats 8000000 in
theorem playCalls {S : Nat → Prop} {sp : StrataFn} (hsp : ∀ p, StrataIs p (sp p).1 (sp p).2) (l : List PDo) (lv : Value) (w : World) (h : RdDos S w lv l) (n1 : l.length ≤ 1048576) (n2 : ∀ x ∈ l, DoSmall x) :
    Calls Tryz.prog 8 #[lv] w (PlayPost (playP sp l) w) := by
  obtain ⟨la, lc, rfl, -, -, -⟩ := id h.form
  have HL := Lib.hid (h.old RDo.steady (Below.refl _ _))
  have HN2 := Lib.hid n2
  clear h n2
  have hq0 : ∀ q, w.heap.size ≤ q → True := fun _ _ => trivial
  by_cases h60 : 60 < l.length
  · have HE := Lib.hid (show playP sp l = (zeroDesk, [], 5) by unfold playP; rw [if_pos h60])
    have h1 : (60 : Int) < (l.length : Int) := by omega
    have HB1 := Lib.hid (Blk.new w 31 #[.slice none 0 0, .slice none 0 0, .bool false, .slice none 0 0, .slice none 0 0, .int .i64 0, .int .i64 0, .bool false, .slice none 0 0])
    have c0 := HB1.out.cell 0; have c1 := HB1.out.cell 1; have c2 := HB1.out.cell 2; have c3 := HB1.out.cell 3; have c4 := HB1.out.cell 4; have c5 := HB1.out.cell 5; have c6 := HB1.out.cell 6; have c7 := HB1.out.cell 7; have c8 := HB1.out.cell 8; simp only [List.getElem?_toArray, List.getElem?_cons_zero, List.getElem?_cons_succ] at c0 c1 c2 c3 c4 c5 c6 c7 c8
    clear h60
    go_enter Tryz.func8, Tryz.ntmps8
    go_wp2
    refine bodyPost_ret (v := .tuple #[deskV zeroDesk (.slice none 0 0) (.slice none 0 0) (.slice none 0 0) (.slice none 0 0) (.slice none 0 0), .slice none 0 0, .int .i64 5]) (by simp [results, Tryz.results8, go_sem, zeroDesk, zeroRun, c0, c1, c2, c3, c4, c5, c6, c7, c8]) rfl ?_
    rw [HE.out]
    exact ⟨(Below.refl _ _).alloc (Nat.le_refl _) _, none, 0, none, 0, none, 0, none, 0, none, 0, 0, none, 0, rfl, ⟨RdFacts.nil, ⟨none, 0, rfl, Nat.le_refl _, Nat.zero_le _, fun _ => rfl, fun i x hx => by simp [zeroDesk] at hx⟩, RdFacts.nil, RdFacts.nil, rfl⟩, ⟨none, 0, rfl, Nat.le_refl _, Nat.zero_le _, fun _ => rfl, fun i x hx => by simp at hx⟩⟩
  have HE := Lib.hid (show playP sp l = ((playL sp zeroDesk l).1, (playL sp zeroDesk l).2, 0) by unfold playP; rw [if_neg h60])
  have h1 : ¬ (60 : Int) < (l.length : Int) := by omega
  obtain ⟨W0, hW0⟩ : ∃ W0 : World, (w.alloc (.cells #[.slice none 0 0, .slice none 0 0, .bool false, .slice none 0 0, .slice none 0 0, .int .i64 0, .int .i64 0, .bool false, .slice none 0 0] 31)).alloc (.cells #[.slice none 0 0, .slice none 0 0, .bool false, .slice none 0 0, .slice none 0 0, .int .i64 0, .int .i64 0, .bool false, .slice none 0 0] 80) = W0 := ⟨_, rfl⟩
  have HB0 := Lib.hid (show Below w.heap.size w W0 by subst hW0; exact ((Below.refl _ _).alloc (Nat.le_refl _) _).alloc (by simp) _)
  have HQ0 := Lib.hid (show Blk W0 w.heap.size 31 #[.slice none 0 0, .slice none 0 0, .bool false, .slice none 0 0, .slice none 0 0, .int .i64 0, .int .i64 0, .bool false, .slice none 0 0] by subst hW0; exact (Blk.new w _ _).alloc _)
  have HD0 := Lib.hid (show Dk (fun q => (q ≠ w.heap.size + 1 ∧ q ≠ w.heap.size) ∧ some q ≠ (Value.slice none 0 0).ownBlock) (w.heap.size + 1) (playL sp zeroDesk (l.take 0)).1 W0 from ⟨_, _, _, _, _, by subst hW0; exact heap_new_at (by simp), RdFacts.nil, ⟨none, 0, rfl, Nat.le_refl _, Nat.zero_le _, fun _ => rfl, fun i x hx => by simp [playL, zeroDesk] at hx⟩, RdFacts.nil, RdFacts.nil, rfl⟩)
  have HO0 := Lib.hid (show Owned 8 RAns (w.heap.size + 2) 46 (fun q => w.heap.size + 2 ≤ q) W0 (.slice none 0 0) (playL sp zeroDesk (l.take 0)).2 from Owned.nil)
  go_enter Tryz.func8, Tryz.ntmps8
  go_wp2
  clear hW0
  go_loopw [16, 6] (fun i o wr => ∃ k : Nat, k ≤ l.length ∧ i = .int .i64 k ∧ Hid (Dk (fun q => (q ≠ w.heap.size + 1 ∧ q ≠ w.heap.size) ∧ some q ≠ o.ownBlock) (w.heap.size + 1) (playL sp zeroDesk (l.take k)).1 wr) ∧ Hid (Owned 8 RAns (w.heap.size + 2) 46 (fun q => w.heap.size + 2 ≤ q) wr o (playL sp zeroDesk (l.take k)).2) ∧ Hid (Below w.heap.size w wr) ∧ Hid (Blk wr w.heap.size 31 #[.slice none 0 0, .slice none 0 0, .bool false, .slice none 0 0, .slice none 0 0, .int .i64 0, .int .i64 0, .bool false, .slice none 0 0])) (fun i _ _ => l.length - (intOf i).toNat)
  case atStart => exact ⟨0, Nat.zero_le _, rfl, HD0, HO0, HB0, HQ0⟩
  case round =>
    clear HD0 HO0 HB0 HQ0
    obtain ⟨k, hk, rfl, HD, HO, HB, HQ⟩ := hrel
    obtain ⟨oa, oc, rfl, -, -, -⟩ := id (HO.out.read RAns.steady).form
    by_cases hlt : k < l.length
    · obtain ⟨x, hx⟩ : ∃ x, l[k]? = some x := ⟨_, List.getElem?_eq_getElem hlt⟩
      have hsm := HN2.out x (List.mem_of_getElem? hx)
      obtain ⟨b, off, aa, ac, rfl, hda⟩ := RdDos.at (HL.out.agree RDo.steady (Below.agree' HB.out)) hx
      have HS1 := Lib.hid (playL_take (sp := sp) l zeroDesk hx)
      have HS2 := Lib.hid (playL_snoc (sp := sp) l zeroDesk hx)
      have HOK := Lib.hid (play_ok hsp (l.take k) (zero_ok hsp))
      have HRO := Lib.hid (play_rules (sp := sp) (l.take k) zero_rules)
      have HZ := Lib.hid (fun q (hq : (Value.slice oa (playL sp zeroDesk (l.take k)).2.length oc).ownBlock = some q) => HO.out.row_lt hq)
      have hal : (playL sp zeroDesk (l.take k)).2.length < 1099511627776 := by rw [playL_len, List.length_take]; omega
      generalize playL sp zeroDesk (l.take k) = pk at *
      obtain ⟨dk, ak⟩ := pk
      dsimp only at *
      generalize hdx : doP sp dk x = dx at *
      have hws := HB.out.size
      have hlt2 := HD.out.lt
      have KD := Lib.hid (deskDo hsp (w.heap.size + 1) dk x b (off + k * 5) aa ac wr (T := fun q => (q ≠ w.heap.size + 1 ∧ q ≠ w.heap.size) ∧ some q ≠ (Value.slice oa ak.length oc).ownBlock) (fun h => h.1.1 rfl) (fun q hq => ⟨⟨by omega, by omega⟩, fun e => by have := (HZ.out q e.symm).2; omega⟩) HD.out hda HOK.out HRO.out hsm.1 hsm.2)
      rw [hdx] at KD
      clear hdx hda hx hsm
      have hoD : (Value.slice oa ak.length oc).ownBlock ≠ some (w.heap.size + 1) := fun e => by have := (HZ.out _ e).1; omega
      have hoQ : some w.heap.size ≠ (Value.slice oa ak.length oc).ownBlock := fun e => by have := (HZ.out _ e.symm).1; omega
      go_wp2_with (first
        | (at_builtin; have hh := HO9.out; clear hh; refine wpList_append_one (B := w.heap.size + 2) (e := 46) (S := fun q => w.heap.size + 2 ≤ q) (by rfl) _ _ 32 (by rfl) RAns.steady rowAns _ ak (by rfl) (HO9.out.alloc RAns.steady _) _ 1 #[.int .i64 dx.2.err, .int .i64 dx.2.at', .int .i64 dx.2.n, .slice ba dx.2.binds.length bc, .string s0, .slice a9 n9 c9, .int .i64 r9, .slice ka9 kn9 kc9] 46 (0, 0) dx.2 (by rfl) (heap_alloc_new w9 _) rfl (by simp [Value.oneCell']) ⟨ba, bc, s0, a9, n9, c9, r9, ka9, kn9, kc9, rfl, HRB.out⟩ hal hs9 ?_; intro v6 w6 hown6 hg6 hat6; have HO6 := Lib.hid hown6; have HD6 := Lib.hid ((HD9.out.alloc (.cells #[.int .i64 dx.2.err, .int .i64 dx.2.at', .int .i64 dx.2.n, .slice ba dx.2.binds.length bc, .string s0, .slice a9 n9 c9, .int .i64 r9, .slice ka9 kn9 kc9] 46)).grown hg6 hoD hat6); have HB6 := Lib.hid ((HB9.out.alloc HB9.out.size (.cells #[.int .i64 dx.2.err, .int .i64 dx.2.at', .int .i64 dx.2.n, .slice ba dx.2.binds.length bc, .string s0, .slice a9 n9 c9, .int .i64 r9, .slice ka9 kn9 kc9] 46)).grown hg6 (by have := HB9.out.size; simp; omega) (fun q hq => by have := (HZ.out q hq).1; omega)); have HQ6 := Lib.hid ((HQ9.out.alloc (.cells #[.int .i64 dx.2.err, .int .i64 dx.2.at', .int .i64 dx.2.n, .slice ba dx.2.binds.length bc, .string s0, .slice a9 n9 c9, .int .i64 r9, .slice ka9 kn9 kc9] 46)).grown hg6 hoQ); clear hown6 hg6 hat6)
        | (go_at_call 21; refine (KD.out).mono ?_; rintro e w9 ⟨hd9, hb9, ba, bc, s0, a9, n9, c9, r9, ka9, kn9, kc9, rfl, hr9⟩; have HD9 := Lib.hid hd9; have HB9 := Lib.hid (low_but HB.out hb9 (by omega) (Nat.le_refl _)); have HO9 := Lib.hid (HO.out.butS RAns.steady hb9 (by omega) (by show ¬ w.heap.size + 2 ≤ w.heap.size + 1; omega)); have HQ9 := Lib.hid (HQ.out.but hb9 (by omega)); have HRB := Lib.hid (RdSlice.more RBinds.steady (S' := fun q => w.heap.size + 2 ≤ q ∧ some q ≠ (Value.slice oa ak.length oc).ownBlock) (fun q hq _ => ⟨by have h : wr.heap.size ≤ q := hq; omega, fun e => by have h : wr.heap.size ≤ q := hq; have := (HZ.out q e.symm).2; omega⟩) (RdSlice.agree RBinds.steady ((Agree.refl _ _).alloc (.cells #[.int .i64 dx.2.err, .int .i64 dx.2.at', .int .i64 dx.2.n, .slice ba dx.2.binds.length bc, .string s0, .slice a9 n9 c9, .int .i64 r9, .slice ka9 kn9 kc9] 46)) hr9)); have hs9 : w.heap.size + 2 ≤ (w9.alloc (.cells #[.int .i64 dx.2.err, .int .i64 dx.2.at', .int .i64 dx.2.n, .slice ba dx.2.binds.length bc, .string s0, .slice a9 n9 c9, .int .i64 r9, .slice ka9 kn9 kc9] 46)).heap.size := (by have := hb9.size; simp; omega); clear hd9 hb9 hr9))
      rw [← HS1.out] at HD6
      rw [← HS2.out] at HO6
      go_roundw
      case rel => exact ⟨k + 1, by omega, by go_num, HD6, HO6, HB6, HQ6⟩
      case measure => simp [intOf]; omega
    · have hkn : k = l.length := by omega
      rw [hkn, List.take_length] at HD HO
      subst hkn
      obtain ⟨tv, rv, kv, nv, sv, hd⟩ := HD.out
      obtain ⟨ta, tc, rfl, -, -, -⟩ := id hd.told.form
      obtain ⟨ra, rc, rfl, -, -, -⟩ := id hd.rules.form
      obtain ⟨ka, kc, rfl, -, -, -⟩ := id hd.known.form
      obtain ⟨na, nc, rfl, -, -, -⟩ := id hd.new.form
      obtain ⟨sa, sn, sc, rfl⟩ := hd.saved.form
      have HDD := Lib.hid hd
      have t0 := hd.blk.cell 0; have t1 := hd.blk.cell 1; have t2 := hd.blk.cell 2; have t3 := hd.blk.cell 3; have t4 := hd.blk.cell 4; have t5 := hd.blk.cell 5; have t6 := hd.blk.cell 6; have t7 := hd.blk.cell 7; have t8 := hd.blk.cell 8; simp only [List.getElem?_toArray, List.getElem?_cons_zero, List.getElem?_cons_succ] at t0 t1 t2 t3 t4 t5 t6 t7 t8
      have c0 := HQ.out.cell 0; have c1 := HQ.out.cell 1; have c2 := HQ.out.cell 2; have c3 := HQ.out.cell 3; have c4 := HQ.out.cell 4; have c5 := HQ.out.cell 5; have c6 := HQ.out.cell 6; have c7 := HQ.out.cell 7; have c8 := HQ.out.cell 8; have f0 := HQ.out.frozen 0; have f1 := HQ.out.frozen 1; have f2 := HQ.out.frozen 2; have f3 := HQ.out.frozen 3; have f4 := HQ.out.frozen 4; have f5 := HQ.out.frozen 5; have f6 := HQ.out.frozen 6; have f7 := HQ.out.frozen 7; have f8 := HQ.out.frozen 8; simp only [List.getElem?_toArray, List.getElem?_cons_zero, List.getElem?_cons_succ] at c0 c1 c2 c3 c4 c5 c6 c7 c8
      clear hd HD
      go_wp2
      refine bodyPost_ret (v := .tuple #[deskV (playL sp zeroDesk l).1 (.slice ta (playL sp zeroDesk l).1.told.length tc) (.slice ra (playL sp zeroDesk l).1.rules.length rc) (.slice ka (playL sp zeroDesk l).1.run.known.length kc) (.slice na (playL sp zeroDesk l).1.run.new.length nc) (.slice sa sn sc), .slice oa (playL sp zeroDesk l).2.length oc, .int .i64 0]) (by simp [results, Tryz.results8, go_sem, c0, c1, c2, c3, c4, c5, c6, c7, c8]) rfl ?_
      rw [HE.out]
      refine ⟨below_set9 HB.out (Nat.le_refl _) _ _ _ _ _ _ _ _ _, ta, tc, ra, rc, ka, kc, na, nc, sa, sn, sc, oa, oc, rfl, ?_, ?_⟩
      · exact (HDD.out.to (w' := set9 wr w.heap.size _ _ _ _ _ _ _ _ _) ((((((((((HDD.out.blk.far (p := ⟨w.heap.size, 0, none⟩) (by simp) _).far (p := ⟨w.heap.size, 1, none⟩) (by simp) _).far (p := ⟨w.heap.size, 2, none⟩) (by simp) _).far (p := ⟨w.heap.size, 3, none⟩) (by simp) _).far (p := ⟨w.heap.size, 4, none⟩) (by simp) _).far (p := ⟨w.heap.size, 5, none⟩) (by simp) _).far (p := ⟨w.heap.size, 6, none⟩) (by simp) _).far (p := ⟨w.heap.size, 7, none⟩) (by simp) _).far (p := ⟨w.heap.size, 8, none⟩) (by simp) _)) (agree_set9 (fun h => h.1.2 rfl) _ _ _ _ _ _ _ _ _)).rd
      · exact (RdSlice.agree RAns.steady (agree_set9 (S := fun q => w.heap.size + 2 ≤ q) (by omega) _ _ _ _ _ _ _ _ _) ((HO.out.read RAns.steady).more RAns.steady (fun q hq _ => hq.elim id id))).more RAns.steady (fun _ _ _ => trivial)
end Go.Proofs.YtiiicochdidolaaGreat
namespace Go.Proofs.YtiiicochdidolaaGreat
open Go.RowKit
def doCells (x : PDo) (av : Value) : List Value := [.int .i64 x.kind, .int .i64 x.n, .string x.fact.name, av, .string x.text]
theorem RdDos.lit {S : Nat → Prop} {w : World} {b : Nat} {t : TypeId} {l : List PDo} (avs : List Value) {n : Nat} (hn : l.length = n) (hm : n ≤ maxLen) (hl : avs.length = n) (h : Blk w b t (List.zipWith doCells l avs).flatten.toArray) (hS : S b)
    (ha : ∀ (i : Nat) (f : PDo) (v : Value), l[i]? = some f → avs[i]? = some v → RdStrs S w v f.fact.args) : RdDos S w (.slice (some ⟨b, 0, none⟩) n n) l := by
  subst hn
  refine ⟨_, _, rfl, Nat.le_refl _, hm, (fun h => by cases h), fun i x hx => ?_⟩
  have hi := (List.getElem?_eq_some_iff.1 hx).1
  obtain ⟨v, hv⟩ : ∃ v, avs[i]? = some v := ⟨_, List.getElem?_eq_getElem (by omega)⟩
  refine ⟨b, 0, doCells x v, rfl, hS, h.lt, rfl, fun j u hu => ?_, v, rfl, ha i x v hx hv⟩
  have hz : (List.zipWith doCells l avs)[i]? = some (doCells x v) := by
    rw [List.getElem?_zipWith, hx, hv]
  have hg := flatten_get (k := 5) _ (fun cs hcs => by
    obtain ⟨i, hi⟩ := List.mem_iff_getElem?.1 hcs
    rw [List.getElem?_zipWith] at hi
    split at hi
    · obtain rfl := Option.some.inj hi; rfl
    · cases hi) i _ j u hz hu
  rw [h.cell, List.getElem?_toArray, Nat.zero_add]
  exact hg
set_option maxRecDepth 100000 in
set_option maxHeartbeats 4000000 in
theorem tell8 (s : Str) (a : Option Addr) (n c : Nat) (w : World) : Calls Tryz.prog 19 #[.string s, .slice a n c] w fun e w' => e = .returned (.agg #[.int .i64 1, .int .i64 0, .string s, .slice a n c, .string ⟨#[]⟩]) ∧ Below w.heap.size w w' := by
  have HF := Lib.hid (Blk.new w 40 #[.int .i64 1, .int .i64 0, .string s, .slice a n c, .string ⟨#[]⟩])
  have c0 := HF.out.cell 0; have c1 := HF.out.cell 1; have c2 := HF.out.cell 2; have c3 := HF.out.cell 3; have c4 := HF.out.cell 4
  simp only [List.getElem?_toArray, List.getElem?_cons_zero, List.getElem?_cons_succ] at c0 c1 c2 c3 c4
  go_enter Tryz.func19, Tryz.ntmps19
  go_wp2
  exact bodyPost_ret (v := .agg #[.int .i64 1, .int .i64 0, .string s, .slice a n c, .string ⟨#[]⟩]) (by simp [results, Tryz.results19, go_sem, c0, c1, c2, c3, c4]) rfl ⟨rfl, (Below.refl _ _).alloc (Nat.le_refl _) _⟩
theorem play8 {sp : StrataFn} (hsp : ∀ p, StrataIs p (sp p).1 (sp p).2) (lv : Value) (W : World) (h : RdDos (fun _ => True) W lv a8L) :
    Calls Tryz.prog 8 #[lv] W fun e w' => Below W.heap.size W w' ∧ ∃ ta tn tc ra rc b1 ka kn kc na nn nc i1 i2 b2 sa sc ob oo oc, e = .returned (.tuple #[.agg #[.slice ta tn tc, .slice ra 1 rc, .bool b1, .slice ka kn kc, .slice na nn nc, .int .i64 i1, .int .i64 i2, .bool b2, .slice (some sa) 17 sc], .slice (some ⟨ob, oo, none⟩) 6 oc, .int .i64 0]) ∧
      RdRules (fun _ => True) w' (.slice ra 1 rc) a8Prog ∧ RdBytes (fun _ => True) w' (.slice (some sa) 17 sc) a8B ∧ ob < w'.heap.size ∧ w'.cell? ⟨ob, oo + 5 * 8 + 2, none⟩ = some (.int .i64 1) := by
  have K := playCalls hsp a8L lv W h (by decide) (fun x hx => by
    have h1 := List.all_eq_true.1 (show a8L.all (fun x => decide (x.fact.args.length ≤ 1048576) && decide (x.text.size ≤ 1048576)) = true by decide +kernel) x hx
    simpa [DoSmall] using h1)
  rw [play_a8 hsp] at K
  refine K.mono fun e w' hp => ?_
  have e1 := a8_err
  have e2 := a8_len
  have e3 := a8_rules
  have e4 := a8_saved
  obtain ⟨a, ea, en⟩ := a8_ans
  generalize playP spC a8L = P at *
  obtain ⟨hb, ta, tc, ra, rc, ka, kc, na, nc, sa, sn, sc, oa, oc, he, hrd, hans⟩ := hp
  have hsv := hrd.saved
  rw [e4] at hsv
  obtain ⟨sa', sc', hse, hsr⟩ := hsv
  injection hse with q1 q2 q3
  subst q1 q2 q3
  have hru := hrd.rules
  rw [e1] at he
  rw [e2] at he hans
  rw [e3] at he hru
  obtain ⟨a', c', hv, -, -, -, h3⟩ := hans
  obtain ⟨ob, oo, cs, ha, -, hob, hk, hc, ba, bc, s0, aa, an, ac, rl, kz, kn, kc2, rfl, -⟩ := h3 5 a ea
  injection hv with q1 q2 q3
  subst q1
  subst ha
  have hcell := hc 2 (.int .i64 a.n) rfl
  rw [en] at hcell
  exact ⟨hb, ta, _, tc, ra, rc, _, ka, _, kc, na, _, nc, _, _, _, _, sc, ob, oo, oc, he, hru, hsr, hob, hcell⟩
theorem load8 (v bv : Value) (W : World) (h : RdRules (fun _ => True) W v a8Prog) (hb : RdBytes (fun _ => True) W bv a8B) : Calls Tryz.prog 20 #[v, bv] W fun e w' => Below W.heap.size W w' ∧ ∃ ka kn kc na nn nc i1 i2, e = .returned (.tuple #[.agg #[.slice ka kn kc, .slice na nn nc, .int .i64 i1, .int .i64 i2, .bool true], .int .i64 0]) := by
  refine (loadCalls a8Prog v bv [0] (0, 0) a8B W strata_a8 h hb (by decide) (fun r hr => ruleOk_small (a8_ok r hr)) (fun r hr => ruleOk_names (a8_ok r hr))).mono fun e w' hp => ?_
  have e1 := a8_load
  have e2 := a8_done
  generalize loadP [0] (0, 0).1 a8Prog a8B = P at *
  obtain ⟨h1, a, c, b, d, he, -, -⟩ := hp
  have e1' : P.2 = 0 := e1
  have e2' : P.1.done = true := e2
  rw [e1', e2'] at he
  exact ⟨h1, a, _, c, b, _, d, _, _, he⟩
set_option maxRecDepth 100000 in
set_option maxHeartbeats 4000000 in
theorem alive8Calls {sp : StrataFn} (hsp : ∀ p, StrataIs p (sp p).1 (sp p).2) (w : World) : Calls Tryz.prog 7 #[] w fun e w' => e = .returned (.bool true) ∧ Below w.heap.size w w' := by
  have T1 := Lib.hid True.intro
  have HW0 := Lib.hid (Blk.new w 9 #[.string xQ8])
  have KP := Lib.hid (fun (lv : Value) (W : World) (h : RdDos (fun _ => True) W lv a8L) => play8 hsp lv W h)
  have KL := Lib.hid (fun (W : World) (hW : Blk W w.heap.size 9 #[.string xQ8]) (g : Nat) (h : Blk W g 40 (List.zipWith doCells a8L [.slice (some ⟨w.heap.size, 0, none⟩) 1 1, .slice none 0 0, .slice none 0 0, .slice none 0 0, .slice none 0 0, .slice none 0 0]).flatten.toArray) => show RdDos (fun _ => True) W (.slice (some ⟨g, 0, none⟩) 6 6) a8L from
    RdDos.lit [.slice (some ⟨w.heap.size, 0, none⟩) 1 1, .slice none 0 0, .slice none 0 0, .slice none 0 0, .slice none 0 0, .slice none 0 0] rfl (by simp [maxLen]) rfl h trivial (fun i f v hf hv => by
      rcases i with _ | _ | _ | _ | _ | _ | i
      · obtain rfl := Option.some.inj hf; obtain rfl := Option.some.inj hv; exact RdStrs.lit rfl (by simp [maxLen]) hW
      · obtain rfl := Option.some.inj hf; obtain rfl := Option.some.inj hv; exact RdStrs.nil
      · obtain rfl := Option.some.inj hf; obtain rfl := Option.some.inj hv; exact RdStrs.nil
      · obtain rfl := Option.some.inj hf; obtain rfl := Option.some.inj hv; exact RdStrs.nil
      · obtain rfl := Option.some.inj hf; obtain rfl := Option.some.inj hv; exact RdStrs.nil
      · obtain rfl := Option.some.inj hf; obtain rfl := Option.some.inj hv; exact RdStrs.nil
      · simp [a8L] at hf))
  go_enter Tryz.func7, Tryz.ntmps7
  go_wp2_with (first
    | (go_at_call 20; have hh := HB3.out; clear hh; refine (load8 _ _ _ HR3.out HS3.out).mono ?_; rintro e w4 ⟨hb4, ka4, kn4, kc4, na4, nn4, nc4, j1, j2, rfl⟩; have HB5 := Lib.hid ((HB3.out.trans (hb4.mono HB3.out.size)).alloc (HB3.out.trans (hb4.mono HB3.out.size)).size (.cells #[.slice ka4 kn4 kc4, .slice na4 nn4 nc4, .int .i64 j1, .int .i64 j2, .bool true] 28)); have HD5 := Lib.hid ((HD3.out.below hb4 HD3.out.lt).alloc (.cells #[.slice ka4 kn4 kc4, .slice na4 nn4 nc4, .int .i64 j1, .int .i64 j2, .bool true] 28)); have HE5 := Lib.hid (Blk.new w4 28 #[.slice ka4 kn4 kc4, .slice na4 nn4 nc4, .int .i64 j1, .int .i64 j2, .bool true]); have y8 := HD5.out.cell 8; have z4 := HE5.out.cell 4; simp only [List.getElem?_toArray, List.getElem?_cons_zero, List.getElem?_cons_succ] at y8 z4; have n5 := (cell_below (hb4.alloc (by have := hb4.size; omega) (.cells #[.slice ka4 kn4 kc4, .slice na4 nn4 nc4, .int .i64 j1, .int .i64 j2, .bool true] 28)) ho3 _).trans n3; clear hb4)
    | (go_at_call 8; have hh := HB1.out; clear hh; refine (KP.out _ _ (KL.out _ (HW1.out.alloc _) _ (Blk.at_ rfl))).mono ?_; rintro e w2 ⟨hb2, ta, tn, tc, ra, rc, b1, ka, kn, kc, na, nn, nc, i1, i2, b2, sa, sc, ob, oo, oc, rfl, hr2, hs2, ho2, hc2⟩; have HB3 := Lib.hid (((HB1.out.alloc HB1.out.size _).trans (hb2.mono (HB1.out.alloc HB1.out.size _).size)).alloc ((HB1.out.alloc HB1.out.size _).trans (hb2.mono (HB1.out.alloc HB1.out.size _).size)).size (.cells #[.slice ta tn tc, .slice ra 1 rc, .bool b1, .slice ka kn kc, .slice na nn nc, .int .i64 i1, .int .i64 i2, .bool b2, .slice (some sa) 17 sc] 31)); have HD3 := Lib.hid (Blk.new w2 31 #[.slice ta tn tc, .slice ra 1 rc, .bool b1, .slice ka kn kc, .slice na nn nc, .int .i64 i1, .int .i64 i2, .bool b2, .slice (some sa) 17 sc]); have HR3 := Lib.hid (RdRules.agree hr2 ((Agree.refl _ _).alloc (.cells #[.slice ta tn tc, .slice ra 1 rc, .bool b1, .slice ka kn kc, .slice na nn nc, .int .i64 i1, .int .i64 i2, .bool b2, .slice (some sa) 17 sc] 31))); have HS3 := Lib.hid (hs2.agree RU8.steady ((Agree.refl _ _).alloc (.cells #[.slice ta tn tc, .slice ra 1 rc, .bool b1, .slice ka kn kc, .slice na nn nc, .int .i64 i1, .int .i64 i2, .bool b2, .slice (some sa) 17 sc] 31))); have n3 := (cell_below ((Below.refl w2.heap.size w2).alloc (Nat.le_refl _) (.cells #[.slice ta tn tc, .slice ra 1 rc, .bool b1, .slice ka kn kc, .slice na nn nc, .int .i64 i1, .int .i64 i2, .bool b2, .slice (some sa) 17 sc] 31)) ho2 _).trans hc2; have ho3 : ob < (w2.alloc (.cells #[.slice ta tn tc, .slice ra 1 rc, .bool b1, .slice ka kn kc, .slice na nn nc, .int .i64 i1, .int .i64 i2, .bool b2, .slice (some sa) 17 sc] 31)).heap.size := (by simp; omega); have x1 := HD3.out.cell 1; have x8 := HD3.out.cell 8; simp only [List.getElem?_toArray, List.getElem?_cons_zero, List.getElem?_cons_succ] at x1 x8; clear hb2 hr2 hs2 hc2)
    | (go_at_call 19; clear T1; refine (tell8 ⟨#[97]⟩ _ 1 1 _).mono ?_; rintro e w1 ⟨rfl, hb1⟩; have HB1 := Lib.hid (((Below.refl w.heap.size w).alloc (Nat.le_refl _) (.cells #[.string xQ8] 9)).trans (hb1.mono (by simp))); have HW1 := Lib.hid (HW0.out.below hb1 HW0.out.lt); clear hb1))
  go_ret
  exact ⟨ret_bool (by simp), HB5.out⟩
end Go.Proofs.YtiiicochdidolaaGreat
namespace Go.Proofs.YtiiicochdidolaaGreat
open Go.RowKit Go.ChangeShapes Go.WideShapes Go.Deep
theorem trod_struct4 {H : Type} {enc : TypeId × Value → H} {P : Program} {w : World} {base : Nat} {spare : Nat → Bool} {held : Bool} {t : TypeId} {f0 f1 f2 f3 : Field} {fuel : Nat} {cs : List Value} {x : DataW H × List MemPlace} (ht : P.underlying t = some (.struct #[f0, f1, f2, f3])) (h : DataW.trod enc P w base spare held fuel t cs = some x) :
    ∃ y0 y1 y2 y3 n, x = (.agg [y0.1, y1.1, y2.1, y3.1], y0.2 ++ (y1.2 ++ (y2.2 ++ y3.2))) ∧ cs.length = P.cellsOf t ∧ DataW.trod enc P w base spare held n f0.type ((cs.drop f0.offset).take (P.cellsOf f0.type)) = some y0 ∧
      DataW.trod enc P w base spare held n f1.type ((cs.drop f1.offset).take (P.cellsOf f1.type)) = some y1 ∧ DataW.trod enc P w base spare held n f2.type ((cs.drop f2.offset).take (P.cellsOf f2.type)) = some y2 ∧
      DataW.trod enc P w base spare held n f3.type ((cs.drop f3.offset).take (P.cellsOf f3.type)) = some y3 := by
  obtain ⟨xs, n, _, rfl, hl, hlen, hf⟩ := DataW.trod_struct ht h
  match xs, hlen with
  | [y0, y1, y2, y3], _ => exact ⟨y0, y1, y2, y3, n, by simp, hl, by simpa using hf 0 f0 rfl, by simpa using hf 1 f1 rfl, by simpa using hf 2 f2 rfl, by simpa using hf 3 f3 rfl⟩
theorem list5d {l : List Value} (h : l.length = 5) : ∃ a b c d e, l = [a, b, c, d, e] := match l, h with | [a, b, c, d, e], _ => ⟨a, b, c, d, e, rfl⟩
def sizeDo (x : PDo) : Nat := 2 + sizeFact x.fact + sizeStr x.text
theorem openDo : Opens Tryz.prog 40 5 RDo sizeDo where
  cells := by kernel_rfl
  pos := by omega
  one _ := by simp only [sizeDo]; omega
  opn {H enc w n cs x} h := by
    obtain ⟨y0, y1, y2, y3, n, rfl, hl, h0, h1, h2, h3⟩ := trod_struct4 Tryz.underlying40 h
    rw [show Tryz.prog.cellsOf 40 = 5 by kernel_rfl] at hl
    obtain ⟨c0, c1, c2, c3, c4, rfl⟩ := list5d hl
    rw [show Tryz.prog.cellsOf 3 = 1 by kernel_rfl] at h0 h1
    rw [show Tryz.prog.cellsOf 38 = 2 by kernel_rfl] at h2
    rw [show Tryz.prog.cellsOf 9 = 1 by kernel_rfl] at h3
    obtain ⟨k, e0, b0⟩ := openInt.opn h0
    obtain ⟨m, e1, b1⟩ := openInt.opn h1
    obtain ⟨f, ⟨av, e2, hr⟩, b2⟩ := openFact.opn h2
    obtain ⟨s, e3, b3⟩ := openStr.opn h3
    obtain rfl : c0 = .int .i64 k := by simpa [RInt] using e0
    obtain rfl : c1 = .int .i64 m := by simpa [RInt] using e1
    obtain ⟨rfl, rfl⟩ : c2 = .string f.name ∧ c3 = av := by simpa using e2
    obtain rfl : c4 = .string s := by simpa [RStr] using e3
    exact ⟨⟨k, m, f, s⟩, ⟨_, rfl, hr⟩, by simp only [sizeDo, sizeInt, Rows.uptoBulk, Rows.uptoBulkAll] at b0 b1 ⊢; omega⟩
theorem dos_small {l : List PDo} (h : sizeL sizeDo l ≤ 1048576) : l.length ≤ 1048576 ∧ ∀ x ∈ l, DoSmall x := by
  have h1 := sizeL_le openDo.one l
  refine ⟨by omega, fun x hx => ?_⟩
  have h2 := sizeL_mem (size := sizeDo) hx
  have h3 := sizeL_le openStr.one x.fact.args
  simp only [sizeDo, sizeFact, sizeStr] at h2
  unfold DoSmall
  constructor <;> omega
end Go.Proofs.YtiiicochdidolaaGreat
