/-
  THE TEXTS StepW, DelW, CompactG, DelX, SortLay, SortG, one behind the other.
-/
import Derived.Test.YthieomebngiabaaPk2
import Derived.Test.YthieomebngiabaaPk3
import Derived.Test.YthieomebngiabaaPk5
import Derived.Test.YthieomebngiabaaProg
import Derived.Shelf.SlSortCmp.WholeK
import Derived.Shelf.SlSortCmp.Whole1
import Derived.Shelf.SlSortCmp.NoneTotal
namespace Go.Proofs.Ythieomebngiabaa
open Go.RowKit
theorem RdBindss.at {S : Nat → Prop} {w : World} {a : Option Addr} {n cap : Nat} {l : List Binds} (h : RdBindss S w (.slice a n cap) l) {i : Nat} {x : Binds} (hx : l[i]? = some x) :
    ∃ b off v, a = some ⟨b, off, none⟩ ∧ S b ∧ b < w.heap.size ∧ w.cell? ⟨b, off + i, none⟩ = some v ∧ RdBinds S w v x := by
  obtain ⟨a', cap', hv, _, _, _, h3⟩ := h
  obtain ⟨b, off, cs, ha, hS, hb, hk, hc, v, hr, hq⟩ := h3 i x hx
  injection hv with e1 e2 e3
  subst e1
  subst hr
  exact ⟨b, off, v, ha, hS, hb, by simpa using hc 0 _ rfl, hq⟩
theorem RdBindss.up {S : Nat → Prop} {w w' : World} {v : Value} {l : List Binds} (h : RdBindss S w v l) (hb : Below w.heap.size w w') : RdBindss (fun _ => True) w' v l := (h.more RBinds.steady (fun _ _ _ => trivial)).agree RBinds.steady (Below.agree hb)
theorem RdFacts.up {S : Nat → Prop} {w w' : World} {v : Value} {l : List PFact} (h : RdFacts S w v l) (hb : Below w.heap.size w w') : RdFacts (fun _ => True) w' v l := (h.more RFact.steady (fun _ _ _ => trivial)).agree RFact.steady (Below.agree hb)
def meets (a : PAtom) (l : Binds) (fs : List PFact) : List Binds := fs.filterMap fun f => meetP a f l
theorem stepP_eq (ls : List Binds) (a : PAtom) (fs : List PFact) : stepP ls a fs = ls.flatMap fun l => meets a l fs := rfl
theorem meets_snoc {a : PAtom} {l : Binds} {fs : List PFact} {j : Nat} {f : PFact} (hf : fs[j]? = some f) : meets a l (fs.take (j + 1)) = meets a l (fs.take j) ++ (meetP a f l).toList := by
  unfold meets
  rw [List.take_add_one, hf, List.filterMap_append]
  cases h : meetP a f l <;> simp [h]
theorem stepP_snoc {ls : List Binds} {a : PAtom} {fs : List PFact} {i : Nat} {l : Binds} (hl : ls[i]? = some l) : stepP (ls.take (i + 1)) a fs = stepP (ls.take i) a fs ++ meets a l fs := by
  rw [stepP_eq, stepP_eq, List.take_add_one, hl, List.flatMap_append]
  simp
theorem stepP_length (ls : List Binds) (a : PAtom) (fs : List PFact) : (stepP ls a fs).length ≤ ls.length * fs.length := by
  induction ls with
  | nil => simp [stepP]
  | cons l ls ih =>
    have h1 : stepP (l :: ls) a fs = meets a l fs ++ stepP ls a fs := by simp [stepP_eq]
    have h2 : (meets a l fs).length ≤ fs.length := List.length_filterMap_le _ _
    rw [h1, List.length_append, List.length_cons, Nat.add_mul]
    omega
theorem meets_length (a : PAtom) (l : Binds) (fs : List PFact) : (meets a l fs).length ≤ fs.length := List.length_filterMap_le _ _
def StepPost (ls : List Binds) (a : PAtom) (fs : List PFact) (w : World) (e : Ending) (w' : World) : Prop :=
  Below w.heap.size w w' ∧ ∃ v zs, e = .returned v ∧ Nest w.heap.size w' v zs ∧ zs.map (·.2) = stepP ls a fs
theorem Nest.lower {B B' : Nat} {w : World} {v : Value} {zs : List VB} (h : Nest B w v zs) (hB : B' ≤ B) : Nest B' w v zs :=
  ⟨h.outer.lower hB, fun z hz => (h.inner z hz).lower hB, h.apart, h.off⟩
set_option maxRecDepth 100000 in
set_option maxHeartbeats 8000000 in
theorem stepCalls {S S2 S3 : Nat → Prop} (lv : Value) (ls : List Binds) (a : PAtom) (tv : Value) (fv : Value) (fs : List PFact) (w : World) (hl : RdBindss S w lv ls) (ht : RdTerms S2 w tv a.terms) (hf : RdFacts S3 w fv fs)
    (n1 : ls.length ≤ 20000) (n2 : ∀ l ∈ ls, l.length ≤ 1048576) (n3 : a.terms.length ≤ 1048576) (n4 : fs.length ≤ 200) (n5 : ∀ f ∈ fs, f.args.length ≤ 1048576) :
    Calls Try.prog 16 #[lv, .agg #[.bool a.neg, .string a.name, tv], fv] w (StepPost ls a fs w) := by
  obtain ⟨la, lc, rfl, -, -, -⟩ := id hl.form
  obtain ⟨ta, tc, rfl, -, -, -⟩ := id ht.form
  obtain ⟨fa, fc, rfl, -, -, -⟩ := id hf.form
  have HT := Lib.hid ht
  have HF := Lib.hid hf
  have HL := Lib.hid hl
  have N2 := Lib.hid n2
  have N5 := Lib.hid n5
  have HLS := Lib.hid (show ∀ i, i ≤ ls.length → (stepP (ls.take i) a fs).length ≤ 4000000 from fun i hi => by
    have h1 := stepP_length (ls.take i) a fs
    have h2 : (ls.take i).length * fs.length ≤ 20000 * 200 := Nat.mul_le_mul (by rw [List.length_take]; omega) n4
    omega)
  clear ht hf hl n2 n5
  go_enter Try.func16, Try.ntmps16
  go_wp2
  have HB0 := Lib.hid ((Below.refl w.heap.size w).alloc (Nat.le_refl _) (.cells #[.bool a.neg, .string a.name, .slice ta a.terms.length tc] 38))
  have HK0 := Lib.hid (Blk.new w 38 #[.bool a.neg, .string a.name, .slice ta a.terms.length tc])
  have HN0 : Hid (Nest (w.heap.size + 1) (w.alloc (.cells #[.bool a.neg, .string a.name, .slice ta a.terms.length tc] 38)) (.slice none 0 0) []) := Nest.nil
  go_loopw [16, 7] (fun i v wr => ∃ (k : Nat) (zs : List VB), k ≤ ls.length ∧ i = .int .i64 k ∧ Hid (Below w.heap.size w wr) ∧ Hid (Blk wr w.heap.size 38 #[.bool a.neg, .string a.name, .slice ta a.terms.length tc]) ∧ Hid (Nest (w.heap.size + 1) wr v zs) ∧ Hid (zs.map (·.2) = stepP (ls.take k) a fs)) (fun i _ _ => ls.length - (intOf i).toNat)
  case atStart => exact ⟨0, [], Nat.zero_le _, rfl, HB0, HK0, HN0, Lib.hid (by rw [List.take_zero]; rfl)⟩
  case round =>
    clear HB0 HK0 HN0
    obtain ⟨k, zs, hk, rfl, HB, HK, HN, HZ⟩ := hrel
    obtain ⟨va, vc, efm, -, -, -⟩ := (HN.out.outer.read RPair.steady).form
    subst efm
    by_cases hlt : k < ls.length
    · obtain ⟨l, hx⟩ : ∃ l, ls[k]? = some l := ⟨_, List.getElem?_eq_getElem hlt⟩
      obtain ⟨b1, o1, lv, rfl, -, hb1, d00, hlv⟩ := RdBindss.at HL.out hx
      have d0 := (cell_below HB.out hb1 (o1 + k)).trans d00
      clear d00
      obtain ⟨xa, xc, rfl, -, -, -⟩ := id hlv.form
      have HLV := Lib.hid hlv
      have HX := Lib.hid hx
      have nl := N2.out l (List.mem_of_getElem? hx)
      clear hlv hx
      go_wp2
      obtain ⟨wo, hwo⟩ : ∃ wo : World, wo = wr := ⟨_, rfl⟩
      subst hwo
      have HN0 : Hid (Nest (w.heap.size + 1) wo (.slice va zs.length vc) zs) := HN
      go_loopw [22, 7] (fun i v wr => ∃ (j : Nat) (ys : List VB), j ≤ fs.length ∧ i = .int .i64 j ∧ Hid (Below w.heap.size w wr) ∧ Hid (Blk wr w.heap.size 38 #[.bool a.neg, .string a.name, .slice ta a.terms.length tc]) ∧ Hid (Nest (w.heap.size + 1) wr v ys) ∧ Hid (ys.map (·.2) = stepP (ls.take k) a fs ++ meets a l (fs.take j))) (fun i _ _ => fs.length - (intOf i).toNat)
      case atStart => exact ⟨0, zs, Nat.zero_le _, rfl, HB, HK, HN0, Lib.hid (by rw [HZ.out, List.take_zero]; simp [meets])⟩
      case round =>
        clear HB HK HN HN0 HZ
        obtain ⟨j, ys, hj, rfl, HB, HK, HN, HZ⟩ := hrel
        obtain ⟨ya, yc, efm, -, -, -⟩ := (HN.out.outer.read RPair.steady).form
        subst efm
        by_cases hlt2 : j < fs.length
        · obtain ⟨f, hy⟩ : ∃ f, fs[j]? = some f := ⟨_, List.getElem?_eq_getElem hlt2⟩
          obtain ⟨b2, o2, fav, rfl, -, -, e0, e1, hfav⟩ := RdFacts.at (HF.out.up HB.out) hy
          obtain ⟨ua, uc, rfl, -, -, -⟩ := id hfav.form
          have nf := N5.out f (List.mem_of_getElem? hy)
          have HS := Lib.hid (meets_snoc (a := a) (l := l) hy)
          obtain ⟨W2, hW2⟩ : ∃ W2 : World, wr.alloc (.cells #[.string f.name, .slice ua f.args.length uc] 41) = W2 := ⟨_, rfl⟩
          have hs2 : W2.heap.size = wr.heap.size + 1 := by subst hW2; simp
          have hbx : Below wr.heap.size wr W2 := by subst hW2; exact (Below.refl _ _).alloc (Nat.le_refl _) _
          have HB2 := Lib.hid (HB.out.trans (hbx.mono HB.out.size))
          have HN2 := Lib.hid (HN.out.below hbx)
          have HK2 := Lib.hid (HK.out.below hbx HK.out.lt)
          have KM := Lib.hid (meetCalls a (.slice ta a.terms.length tc) f (.slice ua f.args.length uc) (.slice xa l.length xc) l W2 (HT.out.up HB2.out) (hfav.up hbx) (HLV.out.up HB2.out) (by omega) (by omega) (by omega))
          have k0 : W2.cell? ⟨w.heap.size, 0, none⟩ = some (.bool a.neg) := HK2.out.cell 0
          have k1 : W2.cell? ⟨w.heap.size, 1, none⟩ = some (.string a.name) := HK2.out.cell 1
          have k2 : W2.cell? ⟨w.heap.size, 2, none⟩ = some (.slice ta a.terms.length tc) := HK2.out.cell 2
          have f0 : W2.cell? ⟨wr.heap.size, 0, none⟩ = some (.string f.name) := by subst hW2; simp
          have f1 : W2.cell? ⟨wr.heap.size, 1, none⟩ = some (.slice ua f.args.length uc) := by subst hW2; simp
          have HYL := Lib.hid (show ys.length < 1099511627776 by
            have h1 : (ys.map (·.2)).length = (stepP (ls.take k) a fs).length + (meets a l (fs.take j)).length := by rw [HZ.out, List.length_append]
            have h2 := HLS.out k (by omega)
            have h3 := meets_length a l (fs.take j)
            rw [List.length_take] at h3
            rw [List.length_map] at h1
            omega)
          have hlw : w.heap.size < W2.heap.size := HK2.out.lt
          clear hy hbx hfav HN HK
          cases hm : meetP a f l with
          | none =>
            rw [hm] at HS
            have KN := Lib.hid ((KM.out).mono (R' := fun e w' => e = .returned (.tuple #[.slice none 0 0, .bool false]) ∧ Below W2.heap.size W2 w') fun e w' ⟨h1, h2⟩ => by rw [hm] at h2; exact ⟨h2, h1⟩)
            clear hm KM
            have HZ1 := Lib.hid (show ys.map (·.2) = stepP (ls.take k) a fs ++ meets a l (fs.take (j + 1)) by rw [HS.out, HZ.out]; simp)
            go_wp2_with (go_at_call 11; refine (KN.out).mono ?_; rintro e w3 ⟨rfl, hb3⟩; have HB3 := Lib.hid (HB2.out.trans (hb3.mono HB2.out.size)); have HN3 := Lib.hid (HN2.out.below hb3); have HK3 := Lib.hid (HK2.out.below hb3 hlw); clear hb3)
            go_roundw
            case rel => exact ⟨j + 1, ys, by omega, by go_num, HB3, HK3, HN3, HZ1⟩
            case measure => simp [intOf]; omega
          | some m =>
            rw [hm] at HS
            have KN := Lib.hid ((KM.out).mono (R' := fun e w' => (∃ v, e = .returned (.tuple #[v, .bool true]) ∧ OB W2.heap.size w' v m) ∧ Below W2.heap.size W2 w') fun e w' ⟨h1, h2⟩ => by rw [hm] at h2; exact ⟨h2, h1⟩)
            clear hm KM
            go_wp2_with (first
              | (go_at_call 11; refine (KN.out).mono ?_; rintro e w3 ⟨⟨v3, rfl, ho3⟩, hb3⟩; have HB3 := Lib.hid (HB2.out.trans (hb3.mono HB2.out.size)); have HN3 := Lib.hid (HN2.out.below hb3); have HK3 := Lib.hid (HK2.out.below hb3 hlw); obtain ⟨ma, mc, rfl, -, -, -⟩ := id (OB.read ho3).form; have HO3 := Lib.hid ho3; have hs3 := hb3.size; clear hb3 ho3)
              | (at_builtin; refine wpList_append_one (B := w.heap.size + 1) (e := 24) (S := fun _ => False) (by rfl) _ _ 25 (by rfl) RPair.steady rowBindss _ ys (by rfl) ((HN3.out.alloc (.cells #[.slice ma m.length mc] 24)).outer) w3.heap.size 1 #[.slice ma m.length mc] 24 (0, 0) (.slice ma m.length mc, m) (by rfl) (heap_new_at rfl) rfl (by simp [Value.oneCell']) ⟨rfl, rfl⟩ HYL.out (by simp; omega) ?_; intro v4 w4 hown4 hg4 hat4; have HN4 := Lib.hid ((HN3.out.alloc (.cells #[.slice ma m.length mc] 24)).snoc (z := (.slice ma m.length mc, m)) ((HO3.out.alloc RBind.steady _).lower (by omega)) (fun y hy b hb e => by have h1 := (HN2.out.inner_lt hy hb).2; have h2 := (HO3.out.row_lt e).1; omega) (fun b hb e => by have h1 := (HN2.out.row_lt e).2; have h2 := (HO3.out.row_lt hb).1; omega) hown4 hg4 hat4); have HB4 := Lib.hid ((HB3.out.alloc (Below.size HB3.out) _).grown hg4 (by have := Below.size HB3.out; simp; omega) (fun q hq => by have := (HN3.out.row_lt hq).1; omega)); have HK4 := Lib.hid ((HK3.out.alloc _).grown hg4 (fun e => by have := (HN3.out.row_lt e.symm).1; omega)); clear hown4 hg4 hat4))
            have HZ1 := Lib.hid (show (ys ++ [((.slice ma m.length mc, m) : VB)]).map (·.2) = stepP (ls.take k) a fs ++ meets a l (fs.take (j + 1)) by rw [HS.out, List.map_append, HZ.out]; simp)
            go_roundw
            case rel => exact ⟨j + 1, _, by omega, by go_num, HB4, HK4, HN4, HZ1⟩
            case measure => simp [intOf]; omega
        · have HZ1 := Lib.hid (show ys.map (·.2) = stepP (ls.take (k + 1)) a fs by
            have := HZ.out
            rw [List.take_of_length_le (l := fs) (by omega)] at this
            rw [this, stepP_snoc HX.out])
          go_wp2
          go_roundw
          case rel => exact ⟨k + 1, ys, by omega, by go_num, HB, HK, HN, HZ1⟩
          case measure => simp [intOf]; omega
    · have HE := Lib.hid (show zs.map (·.2) = stepP ls a fs by have := HZ.out; rwa [List.take_of_length_le (by omega)] at this)
      go_wp2
      go_ret
      exact ⟨HB.out, _, zs, rfl, HN.out.lower (by omega), HE.out⟩
end Go.Proofs.Ythieomebngiabaa
namespace Go.Proofs.Ythieomebngiabaa
open Go.RowKit
set_option maxRecDepth 100000 in
set_option maxHeartbeats 4000000 in
theorem with1Calls {S S2 S3 : Nat → Prop} (a : PAtom) (tv : Value) (fs : List PFact) (fv : Value) (A L : Nat) (lv : Value) (l : Binds) (w : World)
    (a0 : Blk w A 38 #[.bool a.neg, .string a.name, tv]) (l0 : Blk w L 23 #[fv]) (ht : RdTerms S w tv a.terms) (hf : RdFacts S2 w fv fs) (hl : RdBinds S3 w lv l) (hr : Rising fs)
    (n1 : a.terms.length ≤ 1048576) (n2 : l.length ≤ 1073741824) (n3 : fs.length ≤ 1048576) (n4 : ∀ f ∈ fs, f.args.length ≤ 1048576) :
    Calls Try.prog 18 #[lv, .pointer (some ⟨A, 0, none⟩), .pointer (some ⟨L, 0, none⟩)] w fun e w' => e = .returned (.bool (hitP a fs l)) ∧ Below w.heap.size w w' := by
  obtain ⟨ta, tc, rfl, -, -, -⟩ := id ht.form
  obtain ⟨fa, fc, rfl, -, -, -⟩ := id hf.form
  obtain ⟨xa, xc, rfl, -, -, -⟩ := id hl.form
  have K := Lib.hid (fillCalls a (.slice ta a.terms.length tc) (.slice xa l.length xc) l w ht hl n1 n2)
  have c0 : w.cell? ⟨A, 0, none⟩ = some (.bool a.neg) := a0.cell 0
  have c1 : w.cell? ⟨A, 1, none⟩ = some (.string a.name) := a0.cell 1
  have c2 : w.cell? ⟨A, 2, none⟩ = some (.slice ta a.terms.length tc) := a0.cell 2
  have HL0 := Lib.hid l0
  have HF := Lib.hid hf
  have HR := Lib.hid hr
  have N4 := Lib.hid n4
  have HH := Lib.hid (show hitP a fs l = match fillP a l with | none => false | some f => memF f fs from rfl)
  clear ht hf hl a0 l0 hr n4
  cases hm : fillP a l with
  | none =>
    rw [hm] at HH
    have KN := Lib.hid ((K.out).mono (R' := fun e w' => e = .returned (.tuple #[.agg #[.string ⟨#[]⟩, .slice none 0 0], .bool false]) ∧ Below w.heap.size w w') fun e w' ⟨h1, h2⟩ => by rw [hm] at h2; exact ⟨h2, h1⟩)
    clear hm K
    go_enter Try.func18, Try.ntmps18
    go_wp2_with (go_at_call 8; refine (KN.out).mono ?_; rintro e w1 ⟨rfl, hb1⟩; have HB1 := Lib.hid hb1; clear hb1)
    go_ret
    exact ⟨ret_bool HH.out.symm, HB1.out.alloc (Below.size HB1.out) _⟩
  | some f =>
    rw [hm] at HH
    have HAL := Lib.hid (show f.args.length ≤ 1048576 by have := fillArgs_len (fillP_name hm).2; omega)
    have KN := Lib.hid ((K.out).mono (R' := fun e w' => (∃ v, e = .returned (.tuple #[.agg #[.string f.name, v], .bool true]) ∧ RdStrs (New w) w' v f.args) ∧ Below w.heap.size w w') fun e w' ⟨h1, h2⟩ => by rw [hm] at h2; exact ⟨h2, h1⟩)
    clear hm K
    go_enter Try.func18, Try.ntmps18
    go_wp2_with (first
      | (go_at_call 8; refine (KN.out).mono ?_; rintro e w1 ⟨⟨v1, rfl, hr1⟩, hb1⟩; obtain ⟨ga, gc, rfl, -, -, -⟩ := id hr1.form; have HB1 := Lib.hid hb1; have HR1 := Lib.hid hr1; have l1 : w1.cell? ⟨L, 0, none⟩ = some (.slice fa fs.length fc) := (HL0.out.below hb1 HL0.out.lt).cell 0; have hlt1 : L < w1.heap.size := Nat.lt_of_lt_of_le HL0.out.lt hb1.size; clear hb1 hr1)
      | (go_at_call 19; refine (inFact (.slice fa fs.length fc) fs f (.slice ga f.args.length gc) _ (HF.out.up (HB1.out.alloc (Below.size HB1.out) _)) (HR1.out.agree RStr.steady ((Agree.refl _ _).alloc _)) HR.out (by omega) (fun x hx => by have := N4.out x hx; omega)).mono ?_; rintro e w2 ⟨rfl, hf2⟩; have HB2 := Lib.hid ((HB1.out.alloc (Below.size HB1.out) (.cells #[.string f.name, .slice ga f.args.length gc] 41)).trans (hf2.below.mono (by have := Below.size HB1.out; simp; omega))); clear hf2))
    go_ret
    exact ⟨ret_bool HH.out.symm, HB2.out⟩
end Go.Proofs.Ythieomebngiabaa
namespace Go.Proofs.Ythieomebngiabaa
open Go.RowKit
section
variable {α : Type} [DecidableEq α]
def snocC (acc : List α) (x : α) : List α := if acc.getLast? = some x then acc else acc ++ [x]
def compactL (l : List α) : List α := l.foldl snocC []
theorem compactL_snoc (l : List α) (x : α) : compactL (l ++ [x]) = snocC (compactL l) x := by simp [compactL, List.foldl_append]
theorem compactL_take_succ {l : List α} {n : Nat} {x : α} (h : l[n]? = some x) : compactL (l.take (n + 1)) = snocC (compactL (l.take n)) x := by
  rw [List.take_add_one, h]; exact compactL_snoc _ _
theorem snocC_last (acc : List α) (x : α) : (snocC acc x).getLast? = some x := by
  unfold snocC
  split
  · assumption
  · simp
theorem compactL_last {l : List α} {n : Nat} {x : α} (h : l[n]? = some x) : (compactL (l.take (n + 1))).getLast? = some x := by
  rw [compactL_take_succ h]; exact snocC_last _ _
theorem mem_compactL (l : List α) (x : α) : ∀ n, x ∈ compactL (l.take n) ↔ x ∈ l.take n
  | 0 => by simp [compactL]
  | n + 1 => by
    cases h : l[n]? with
    | none => rw [List.take_add_one, h]; simpa using mem_compactL l x n
    | some y =>
      rw [compactL_take_succ h, List.take_add_one, h, snocC]
      have ih := mem_compactL l x n
      split
      · rename_i hl
        rw [ih]
        have : y ∈ l.take n := (mem_compactL l y n).1 (List.mem_of_getLast? hl)
        simp only [Option.toList_some, List.mem_append, List.mem_singleton]
        constructor
        · exact .inl
        · rintro (h | rfl)
          · exact h
          · exact this
      · simp [ih]
end
theorem run_clear_own {P : Program} {t ty e : TypeId} {k : Nat} {z : Value} (hk : 0 < k) (ht : P.underlying t = some (.slice e)) (hz : ∀ w, (zeroValue e).run P w = .ok z w) (hzs : z.cells.size = k) (hz1 : ∀ u ∈ z.cells, u.oneCell' = true)
    {w : World} {B g n cap : Nat} {xs : List Value} (hown : w.ownsRow B e k (.slice (some ⟨g, 0, none⟩) n cap) n xs) (i c : Nat) (hi : i ≤ n) :
    ∃ w', (Builtin.clear_ #[t] ty #[.slice (some ⟨g, i * k, none⟩) (n - i) c]).run P w = .ok (.tuple #[]) w' ∧ w'.ownsRow B e k (.slice (some ⟨g, 0, none⟩) i cap) i (xs.take (i * k)) ∧ w.grownBy w' (some g) := by
  obtain ⟨hlen, hrow⟩ := hown
  rcases hrow with ⟨hv, _⟩ | ⟨g', cap', cur, hv, hb, hg, hn, hcm, hcs, htake⟩
  · cases hv
  · injection hv with h1 h2 h3
    injection h1 with h1
    injection h1 with h1 _ _
    subst h1; subst h3
    have hik : i * k ≤ n * k := Nat.mul_le_mul_right _ hi
    have hnk : n * k ≤ cap * k := Nat.mul_le_mul_right _ hn
    by_cases h0 : n - i = 0
    · obtain rfl : i = n := by omega
      refine ⟨w, ?_, ?_, ⟨rfl, rfl, rfl, Nat.le_refl _, fun _ _ _ => rfl⟩⟩
      · rw [h0]
        simp [Builtin.clear_, run_underlying ht]
      · exact ⟨by rw [List.length_take, hlen]; omega, .inr ⟨g, cap, cur, rfl, hb, hg, hn, hcm, hcs, by rw [htake, List.take_of_length_le (by omega)]⟩⟩
    · have hzl : (Builtin.zeroCells z.cells (n - i)).toList.length = (n - i) * k := by rw [Array.length_toList, size_zeroCells, hzs]
      have hsub : (n - i) * k = n * k - i * k := Nat.sub_mul _ _ _
      have hst := run_storeCells_at P g (i * k) e (Builtin.zeroCells z.cells (n - i)).toList 0 cur w hg (by rw [hzl, hsub, hcs]; omega)
        (by
          intro u hu
          simp only [Builtin.zeroCells, Array.toList_map, List.mem_map] at hu
          obtain ⟨q, _, rfl⟩ := hu
          have hq : q % z.cells.size < z.cells.size := Nat.mod_lt _ (by omega)
          rw [getElem!_pos z.cells _ hq]
          exact hz1 _ (Array.getElem_mem _))
      simp only [Nat.add_zero] at hst
      obtain ⟨nw, hnw⟩ : ∃ nw, (cur.toList.take (i * k) ++ (Builtin.zeroCells z.cells (n - i)).toList ++ cur.toList.drop (i * k + (Builtin.zeroCells z.cells (n - i)).toList.length)).toArray = nw := ⟨_, rfl⟩
      rw [hnw] at hst
      refine ⟨w.setRow g nw, ?_, ⟨by rw [List.length_take, hlen]; omega, .inr ⟨g, cap, nw, rfl, hb, setRow_heap w g cur nw e _ hg, by omega, hcm, ?_, ?_⟩⟩, ⟨rfl, rfl, rfl, by simp, fun q _ hq => setRow_other w g q _ (fun e => hq (by rw [e]))⟩⟩
      · obtain ⟨m, hm⟩ : ∃ m, n - i = m + 1 := ⟨n - i - 1, by omega⟩
        rw [hm] at hst ⊢
        simp [Builtin.clear_, run_underlying ht, hz, hst]
      · rw [← hnw]
        simp only [List.size_toArray, List.length_append, List.length_take, List.length_drop, Array.length_toList, hzl, hsub, hcs]
        omega
      · rw [← htake, ← hnw]
        simp only [List.append_assoc, List.take_append, List.length_take, Array.length_toList, List.take_take]
        rw [hcs, Nat.min_eq_left (by omega : i * k ≤ cap * k), Nat.sub_self, List.take_zero, Nat.zero_sub, List.take_zero, List.append_nil, List.append_nil, Nat.min_self, Nat.min_eq_left hik]
end Go.Proofs.Ythieomebngiabaa
namespace Go.Proofs.Ythieomebngiabaa
open Go.RowKit
theorem singles (zs : List VB) : (zs.map fun z => [z.1]).flatten = zs.map (·.1) := by
  induction zs with
  | nil => rfl
  | cons z zs ih => simp only [List.map_cons, List.flatten_cons, ih]; rfl
theorem OV.row {B : Nat} {w : World} {v : Value} {zs : List VB} (h : OV B w v zs) : w.ownsRow B 24 1 v zs.length (zs.map (·.1)) ∧ ∀ z ∈ zs, z.1.oneCell' = true := by
  obtain ⟨css, h1, h2, h3, h4⟩ := h
  have hcss : css = zs.map fun z => [z.1] := by
    refine List.ext_getElem? fun i => ?_
    rw [List.getElem?_map]
    cases hz : zs[i]? with
    | none => exact List.getElem?_eq_none (by rw [h1]; exact List.getElem?_eq_none_iff.1 hz)
    | some z =>
      have hi := (List.getElem?_eq_some_iff.1 hz).1
      have hc : css[i]? = some css[i] := List.getElem?_eq_getElem (by omega)
      obtain ⟨he, -⟩ := h4 i _ z hc hz
      rw [hc, he]; rfl
  refine ⟨by rw [hcss, singles] at h3; exact h3, fun z hz => ?_⟩
  obtain ⟨i, hi⟩ := List.mem_iff_getElem?.1 hz
  have hlt := (List.getElem?_eq_some_iff.1 hi).1
  exact (h4 i _ z (List.getElem?_eq_getElem (by omega)) hi).2
theorem OV.of_row {B : Nat} {w : World} {v : Value} {zs : List VB} (h : w.ownsRow B 24 1 v zs.length (zs.map (·.1))) (h1 : ∀ z ∈ zs, z.1.oneCell' = true) : OV B w v zs := by
  refine ⟨zs.map fun z => [z.1], by simp, ?_, by rw [singles]; exact h, ?_⟩
  · intro cs hcs
    obtain ⟨z, -, rfl⟩ := List.mem_map.1 hcs
    rfl
  · intro i cs x hc hx
    rw [List.getElem?_map, hx] at hc
    obtain rfl := Option.some.inj hc
    exact ⟨rfl, h1 x (List.mem_of_getElem? hx)⟩
def hitFrom {α : Type} (q : α → Bool) : Nat → List α → Int
  | _, [] => -1
  | k, y :: l => if q y then k else hitFrom q (k + 1) l
theorem hitFrom_cases {α : Type} (q : α → Bool) : ∀ (l : List α) (k : Nat), (hitFrom q k l = -1 ∧ ∀ z ∈ l, q z = false) ∨ ∃ (i : Nat) (x : α), l[i]? = some x ∧ hitFrom q k l = (k : Int) + i ∧ q x = true ∧ ∀ z ∈ l.take i, q z = false
  | [], k => .inl ⟨rfl, by simp⟩
  | y :: l, k => by
    unfold hitFrom
    by_cases h : q y = true
    · rw [if_pos h]; exact .inr ⟨0, y, rfl, by simp, h, by simp⟩
    · rw [if_neg h]
      rcases hitFrom_cases q l (k + 1) with ⟨h1, h2⟩ | ⟨i, x, h1, h2, h3, h4⟩
      · refine .inl ⟨h1, fun z hz => ?_⟩
        rcases List.mem_cons.1 hz with rfl | hz
        · simpa using h
        · exact h2 z hz
      · refine .inr ⟨i + 1, x, by simpa using h1, by rw [h2]; omega, h3, fun z hz => ?_⟩
        rw [List.take_succ_cons] at hz
        rcases List.mem_cons.1 hz with rfl | hz
        · simpa using h
        · exact h4 z hz
def Asks (G : World → Prop) (A L : Nat) (q : VB → Bool) (zs : List VB) : Prop :=
  ∀ W, G W → ∀ z ∈ zs, Calls Try.prog 18 #[z.1, .pointer (some ⟨A, 0, none⟩), .pointer (some ⟨L, 0, none⟩)] W fun e w' => e = .returned (.bool (q z)) ∧ Below W.heap.size W w'
theorem OV.cellAt {B : Nat} {w : World} {a : Option Addr} {n c : Nat} {zs : List VB} (h : OV B w (.slice a n c) zs) {i : Nat} {z : VB} (hz : zs[i]? = some z) : ∃ g, a = some ⟨g, 0, none⟩ ∧ g < w.heap.size ∧ w.cell? ⟨g, i, none⟩ = some z.1 := by
  have hi := (List.getElem?_eq_some_iff.1 hz).1
  obtain ⟨h1, -⟩ := h.row
  have h2 := h1
  rcases h2.2 with ⟨-, h0⟩ | ⟨g, cap, cur, hv, -, hg, -⟩
  · omega
  · injection hv with e1 e2 e3
    subst e1
    refine ⟨g, rfl, (Array.getElem?_eq_some_iff.1 hg).1, ?_⟩
    rw [e2] at h1
    rw [h1.cellAt i (by omega), List.getElem?_map, hz]
    rfl
theorem OV.len {B : Nat} {w : World} {a : Option Addr} {n c : Nat} {zs : List VB} (h : OV B w (.slice a n c) zs) : n = zs.length := by
  obtain ⟨a', c', hv, -⟩ := (h.read RPair.steady).form
  injection hv
set_option maxRecDepth 100000 in
set_option maxHeartbeats 4000000 in
theorem indexFuncBinds {G : World → Prop} {B A L : Nat} {q : VB → Bool} (v : Value) (zs : List VB) (w : World) (h : OV B w v zs) (hG : G w) (hB : ∀ W W', G W → Below W.heap.size W W' → G W') (K : Asks G A L q zs) (n1 : zs.length ≤ 1099511627776) :
    Calls Try.prog 34 #[v, .func (.func 18) #[] #[.pointer (some ⟨A, 0, none⟩), .pointer (some ⟨L, 0, none⟩)]] w fun e w' => e = .returned (.int .i64 (hitFrom q 0 zs)) ∧ Below w.heap.size w w' := by
  obtain ⟨a, c, rfl, -, -, -⟩ := id (h.read RPair.steady).form
  have H := Lib.hid h
  have HK := Lib.hid K
  have HGB := Lib.hid hB
  have HG := Lib.hid hG
  clear h K hB hG
  go_enter Try.func34, Try.ntmps34
  go_wp2
  go_loopw [8, 5] (fun i _ wr => ∃ k : Nat, k ≤ zs.length ∧ i = .int .i64 k ∧ Hid (hitFrom q 0 zs = hitFrom q k (zs.drop k)) ∧ Hid (Below w.heap.size w wr) ∧ Hid (G wr)) (fun i _ _ => zs.length - (intOf i).toNat)
  case atStart => exact ⟨0, Nat.zero_le _, rfl, Lib.hid rfl, Lib.hid (Below.refl _ _), HG⟩
  case round =>
    obtain ⟨k, hk, rfl, HR, HB, HGW⟩ := hrel
    by_cases hlt : k < zs.length
    · obtain ⟨z, hx⟩ : ∃ z, zs[k]? = some z := ⟨_, List.getElem?_eq_getElem hlt⟩
      obtain ⟨g, rfl, hgl, hc⟩ := OV.cellAt (H.out.below RPair.steady HB.out) hx
      have HD := Lib.hid (show hitFrom q 0 zs = if q z then (k : Int) else hitFrom q (k + 1) (zs.drop (k + 1)) by rw [HR.out, drop_cons hx]; rfl)
      have KZ := Lib.hid (HK.out wr HGW.out z (List.mem_of_getElem? hx))
      clear hx HR
      cases hq : q z
      · rw [hq, if_neg (by simp)] at HD
        rw [hq] at KZ
        clear hq
        go_wp2_with (go_at_call 18; refine (KZ.out).mono ?_; rintro e w1 ⟨rfl, hb1⟩; have HB1 := Lib.hid (HB.out.trans (hb1.mono (Below.size HB.out))); have HG1 := Lib.hid (HGB.out _ _ HGW.out hb1); clear hb1)
        go_roundw
        case rel => exact ⟨k + 1, by omega, by go_num, HD, HB1, HG1⟩
        case measure => simp [intOf]; omega
      · rw [hq, if_pos rfl] at HD
        rw [hq] at KZ
        clear hq
        go_wp2_with (go_at_call 18; refine (KZ.out).mono ?_; rintro e w1 ⟨rfl, hb1⟩; have HB1 := Lib.hid (HB.out.trans (hb1.mono (Below.size HB.out))); clear hb1)
        go_ret
        exact ⟨ret_int HD.out.symm, HB1.out⟩
    · have HE := Lib.hid (show hitFrom q 0 zs = -1 by rw [HR.out, drop_end (by omega)]; rfl)
      go_wp2
      go_ret
      exact ⟨ret_int HE.out.symm, HB.out⟩
structure Half (w : World) (B g n cap : Nat) (q : VB → Bool) (zs : List VB) (i j : Nat) (xs : List Value) : Prop where
  own : w.ownsRow B 24 1 (.slice (some ⟨g, 0, none⟩) n cap) n xs
  hd : xs.take i = ((zs.take j).filter fun z => !q z).map (·.1)
  tl : xs.drop j = (zs.drop j).map (·.1)
  lt : i < j
  le : j ≤ n
section
variable {w w' : World} {B g n cap : Nat} {q : VB → Bool} {zs : List VB} {i j : Nat} {xs : List Value}
theorem Half.glt (h : Half w B g n cap q zs i j xs) : B ≤ g ∧ g < w.heap.size := h.own.lt g rfl
theorem Half.len (h : Half w B g n cap q zs i j xs) : xs.length = n := by have := h.own.1; omega
theorem Half.kept (h : Half w B g n cap q zs i j xs) (hb : Below w.heap.size w w') : Half w' B g n cap q zs i j xs :=
  ⟨h.own.kept (row := none) ⟨hb.os, hb.tape, hb.output, hb.size, fun k hk _ => hb.block k hk⟩ (.inr (by simp [Value.ownBlock])), h.hd, h.tl, h.lt, h.le⟩
theorem Half.cell (h : Half w B g n cap q zs i j xs) {z : VB} (hz : zs[j]? = some z) (hj : j < n) : w.cell? ⟨g, j, none⟩ = some z.1 := by
  rw [h.own.cellAt j (by omega)]
  have h1 : (xs.drop j)[0]? = ((zs.drop j).map (·.1))[0]? := by rw [h.tl]
  rw [List.getElem?_drop, List.getElem?_map, List.getElem?_drop, Nat.add_zero, hz] at h1
  exact h1
theorem Half.skip (h : Half w B g n cap q zs i j xs) {z : VB} (hz : zs[j]? = some z) (hj : j < n) (hq : q z = true) : Half w B g n cap q zs i (j + 1) xs :=
  ⟨h.own, by rw [h.hd, List.take_add_one, hz]; simp [hq], by have := congrArg (List.drop 1) h.tl; rwa [List.drop_drop, ← List.map_drop, List.drop_drop] at this, by have := h.lt; omega, hj⟩
theorem Half.put (h : Half w B g n cap q zs i j xs) {z : VB} (hz : zs[j]? = some z) (hj : j < n) (hq : q z = false) : Half (w.setCell ⟨g, i, none⟩ z.1) B g n cap q zs (i + 1) (j + 1) (xs.set i z.1) :=
  ⟨(h.own.stored i z.1).1, by
    have hi : i < xs.length := by have := h.lt; have := h.len; omega
    rw [List.take_add_one, List.take_set_of_le (Nat.le_refl _), h.hd, List.getElem?_set_self hi, List.take_add_one, hz]
    simp [hq], by
    have h1 := congrArg (List.drop 1) h.tl
    rw [List.drop_drop, ← List.map_drop, List.drop_drop] at h1
    rw [List.drop_set_of_lt (by have := h.lt; omega)]
    exact h1, by have := h.lt; omega, hj⟩
theorem Half.spot (h : Half w B g n cap q zs i j xs) : ∃ d, w.cell? ⟨g, i, none⟩ = some d ∧ w.frozen? ⟨g, i, none⟩ = false := by
  have hi : i < xs.length := by have := h.lt; have := h.len; have := h.le; omega
  refine ⟨_, by rw [h.own.cellAt i (by have := h.len; omega)]; exact List.getElem?_eq_getElem hi, h.own.frozenAt _⟩
end
theorem filter_none {α : Type} {q : α → Bool} {zs : List α} (h : ∀ z ∈ zs, q z = false) : zs.filter (fun z => !q z) = zs := List.filter_eq_self.2 fun z hz => by rw [h z hz]; rfl
set_option maxRecDepth 100000 in
set_option maxHeartbeats 8000000 in
theorem deleteBinds {B A L : Nat} {q : VB → Bool} (v : Value) (zs : List VB) (w : World) (h : OV B w v zs) (K : Asks (fun W => w.grownBy W v.ownBlock) A L q zs) (hs : ∀ z ∈ zs, ∃ a n c, z.1 = .slice a n c) (n1 : zs.length ≤ 1073741824) :
    Calls Try.prog 17 #[v, .func (.func 18) #[] #[.pointer (some ⟨A, 0, none⟩), .pointer (some ⟨L, 0, none⟩)]] w fun e w' =>
      (∃ v', e = .returned v' ∧ OV B w' v' (zs.filter fun z => !q z) ∧ v'.ownBlock = v.ownBlock) ∧ w.grownBy w' v.ownBlock := by
  have KI := Lib.hid (indexFuncBinds v zs w h (World.grownBy.refl w _) (fun W W' hW hb => hW.trans ⟨hb.os, hb.tape, hb.output, hb.size, fun k hk _ => hb.block k hk⟩) K (by omega))
  rcases hitFrom_cases q zs 0 with ⟨e1, e2⟩ | ⟨i0, x, hx, e1, e2, e3⟩
  · rw [e1] at KI
    obtain ⟨a, c, rfl, -, -, -⟩ := id (h.read RPair.steady).form
    have H := Lib.hid h
    have HFE := Lib.hid (filter_none e2)
    clear h K e1 e2 hs
    go_enter Try.func17, Try.ntmps17
    go_wp2_with (go_at_call 34; refine (KI.out).mono ?_; rintro e w1 ⟨rfl, hb1⟩; have HB1 := Lib.hid hb1; clear hb1)
    go_ret
    exact ⟨⟨_, rfl, by rw [HFE.out]; exact H.out.below RPair.steady HB1.out, rfl⟩, HB1.out.os, HB1.out.tape, HB1.out.output, HB1.out.size, fun k hk _ => HB1.out.block k hk⟩
  · rw [e1, Int.natCast_zero, Int.zero_add] at KI
    have hin := (List.getElem?_eq_some_iff.1 hx).1
    obtain ⟨ho, h1⟩ := h.row
    rcases id ho.2 with ⟨-, h0⟩ | ⟨g, cap, cur, rfl, hBg, hg, hnc, hcm, -⟩
    · omega
    obtain ⟨n, hn⟩ : ∃ n, zs.length = n := ⟨_, rfl⟩
    rw [hn] at ho hin n1 hnc KI K ⊢
    have HH := Lib.hid (show Half w B g n cap q zs i0 (i0 + 1) (zs.map (·.1)) from ⟨ho, by
      rw [List.take_add_one, hx, ← List.map_take, List.filter_append, filter_none e3]; simp [e2], by rw [← List.map_drop], by omega, by omega⟩)
    have HK := Lib.hid K
    have HS := Lib.hid hs
    have H1 := Lib.hid h1
    have HN := Lib.hid hn
    clear ho h1 K e1 e2 e3 hs h hn hx hg
    have g12 : ((i0 : Int) == -1) = false := beq_eq_false_iff_ne.2 (by omega)
    go_enter Try.func17, Try.ntmps17
    go_wp2_with (go_at_call 34; refine (KI.out).mono ?_; rintro e w1 ⟨rfl, hb1⟩; have HB1 := Lib.hid hb1; have HH1 := Lib.hid (HH.out.kept hb1); clear hb1)
    clear HH KI
    have HG1 := Lib.hid (show w.grownBy w1 (some g) from ⟨HB1.out.os, HB1.out.tape, HB1.out.output, HB1.out.size, fun k hk _ => HB1.out.block k hk⟩)
    clear HB1
    go_loopw [6, 5, 7] (fun jv iv _ wr => ∃ (i j : Nat) (xs : List Value), jv = .int .i64 j ∧ iv = .int .i64 i ∧ j ≤ n ∧ i < j ∧ Hid (Half wr B g n cap q zs i j xs) ∧ Hid (w.grownBy wr (some g))) (fun jv _ _ _ => n - (intOf jv).toNat)
    case atStart => exact ⟨i0, i0 + 1, _, by simp, rfl, by omega, by omega, HH1, HG1⟩
    case round =>
      clear HH1 HG1
      obtain ⟨i, j, xs, rfl, rfl, hjn, hij, HH, HG⟩ := hrel
      by_cases hlt : j < n
      · obtain ⟨z, hx⟩ : ∃ z, zs[j]? = some z := ⟨_, List.getElem?_eq_getElem (by rw [HN.out]; exact hlt)⟩
        have hm := List.mem_of_getElem? hx
        have hc := HH.out.cell hx hlt
        obtain ⟨za, zn, zc, hz1⟩ := HS.out z hm
        have KZ := Lib.hid (HK.out wr HG.out z hm)
        have hgl := HH.out.glt.2
        have i1 : (0 : Int) ≤ (j : Int) := by omega
        have i2 : (j : Int) < (n : Int) := by omega
        have i3 : (0 : Int) ≤ (i : Int) := by omega
        have i4 : (i : Int) < (n : Int) := by omega
        have i5 : IntKind.i64.wrap (j : Int) = j := by rw [IntKind.wrap_i64]; omega
        rw [hz1] at hc KZ
        cases hq : q z
        · rw [hq] at KZ
          have HP := Lib.hid (fun W (hb : Below wr.heap.size wr W) => (show (∃ d, W.cell? ⟨g, i, none⟩ = some d ∧ W.frozen? ⟨g, i, none⟩ = false) ∧ W.grownBy (W.setCell ⟨g, i, none⟩ (.slice za zn zc)) (some g) ∧ Half (W.setCell ⟨g, i, none⟩ (.slice za zn zc)) B g n cap q zs (i + 1) (j + 1) (xs.set i (.slice za zn zc)) from
            ⟨(HH.out.kept hb).spot, ((HH.out.kept hb).own.stored i _).2, by rw [← hz1]; exact (HH.out.kept hb).put hx hlt hq⟩))
          clear hq hz1 hx hm
          go_wp2_with (go_at_call 18; refine (KZ.out).mono ?_; rintro e w2 ⟨rfl, hb2⟩; obtain ⟨⟨d, hd1, hd2⟩, hg2, hh2⟩ := HP.out _ hb2; have HH2 := Lib.hid hh2; have HG2 := Lib.hid (show w.grownBy _ (some g) from (HG.out.trans ⟨hb2.os, hb2.tape, hb2.output, hb2.size, fun k hk _ => hb2.block k hk⟩).trans hg2); clear hb2 hg2 hh2)
          go_roundw
          case rel => exact ⟨i + 1, j + 1, _, by go_num, by go_num, by omega, by omega, HH2, HG2⟩
          case measure => simp [intOf]; omega
        · rw [hq] at KZ
          have HP := Lib.hid (fun W (hb : Below wr.heap.size wr W) => (HH.out.kept hb).skip hx hlt hq)
          clear hq hz1 hx hm
          go_wp2_with (go_at_call 18; refine (KZ.out).mono ?_; rintro e w2 ⟨rfl, hb2⟩; have HH2 := Lib.hid (HP.out _ hb2); have HG2 := Lib.hid (show w.grownBy w2 (some g) from HG.out.trans ⟨hb2.os, hb2.tape, hb2.output, hb2.size, fun k hk _ => hb2.block k hk⟩); clear hb2)
          go_roundw
          case rel => exact ⟨i, j + 1, xs, by go_num, rfl, by omega, by omega, HH2, HG2⟩
          case measure => simp [intOf]; omega
      · have hjn' : j = n := by omega
        have hncap : n ≤ cap := hnc
        have hin : i ≤ n := by omega
        have hin' : (i : Int) ≤ n := by omega
        have hic : i ≠ cap := by omega
        have hic' : cap ≠ i := fun e => hic e.symm
        have hic2 : i < cap := by omega
        have hic3 : (i : Int) < cap := by omega
        have i6 : (0 : Int) ≤ (i : Int) := by omega
        have hcm' : cap ≤ 9223372036854775807 := by unfold maxLen at hcm; omega
        have HE := Lib.hid (show xs.take i = (zs.filter fun z => !q z).map (·.1) by rw [HH.out.hd, List.take_of_length_le (by rw [HN.out]; omega)])
        go_wp2
        obtain ⟨w5, hrun5, hown5, hg5⟩ := run_clear_own (P := Try.prog) (t := 25) (ty := 0) (k := 1) (by omega) Try.underlying25 Try.zeroValue24 rfl (by simp [Value.cells, Value.oneCell']) HH.out.own i (cap - i) hin
        rw [Nat.mul_one] at hrun5 hown5
        have HO5 := Lib.hid hown5
        have HG5 := Lib.hid (HG.out.trans hg5)
        clear hown5 hg5
        rw [hrun5]
        go_wp2
        go_ret
        have hlen : i = (zs.filter fun z => !q z).length := by
          have h2 := congrArg List.length HE.out
          rw [List.length_take, List.length_map, HH.out.len] at h2
          omega
        refine ⟨⟨_, rfl, OV.of_row ?_ (fun z hz => H1.out z (List.mem_filter.1 hz).1), rfl⟩, HG5.out⟩
        rw [← HE.out, ← hlen]
        exact HO5.out
end Go.Proofs.Ythieomebngiabaa
namespace Go.Proofs.Ythieomebngiabaa
open Go.Shelf Go.Proofs
def Try.sortBind_ren : Go.Shelf.Ren := ⟨fun | 6 => 39 | 15 => 60 | 14 => 59 | 28 => 75 | 29 => 76 | 20 => 67 | 21 => 68 | 22 => 69 | 23 => 70 | 24 => 71 | 25 => 72 | 26 => 73 | 27 => 74 | 46 => 87 | 47 => 88 | 48 => 89 | 49 => 90 | 50 => 91 | 57 => 96 | n => n, fun | 22 => 24 | 24 => 34 | 25 => 80 | 3 => 3 | 39 => 94 | 0 => 0 | 53 => 109 | 55 => 111 | 4 => 4 | 46 => 103 | 45 => 102 | 50 => 76 | 5 => 5 | 9 => 9 | 66 => 119 | 70 => 123 | 76 => 128 | 77 => 129 | n => n, fun | n => n⟩
theorem Try.sortBind : Go.Proofs.SlLaysF0.n6 Try.prog Try.sortBind_ren := {
  mixed := by kernel_rfl
  f6 := ⟨Try.f39.name, by decide, Try.func39.trans (congrArg some (by kernel_rfl))⟩
  f14 := ⟨Try.f59.name, by decide, Try.func59.trans (congrArg some (by kernel_rfl))⟩
  f15 := Try.func60.trans (congrArg some (by kernel_rfl))
  f20 := ⟨Try.f67.name, by decide, Try.func67.trans (congrArg some (by kernel_rfl))⟩
  f21 := ⟨Try.f68.name, by decide, Try.func68.trans (congrArg some (by kernel_rfl))⟩
  f22 := ⟨Try.f69.name, by decide, Try.func69.trans (congrArg some (by kernel_rfl))⟩
  f23 := ⟨Try.f70.name, by decide, Try.func70.trans (congrArg some (by kernel_rfl))⟩
  f24 := ⟨Try.f71.name, by decide, Try.func71.trans (congrArg some (by kernel_rfl))⟩
  f25 := ⟨Try.f72.name, by decide, Try.func72.trans (congrArg some (by kernel_rfl))⟩
  f26 := ⟨Try.f73.name, by decide, Try.func73.trans (congrArg some (by kernel_rfl))⟩
  f27 := ⟨Try.f74.name, by decide, Try.func74.trans (congrArg some (by kernel_rfl))⟩
  f28 := Try.func75.trans (congrArg some (by kernel_rfl))
  f29 := Try.func76.trans (congrArg some (by kernel_rfl))
  f46 := ⟨Try.f87.name, by decide, Try.func87.trans (congrArg some (by kernel_rfl))⟩
  f47 := Try.func88.trans (congrArg some (by kernel_rfl))
  f48 := Try.func89.trans (congrArg some (by kernel_rfl))
  f49 := ⟨Try.f90.name, by decide, Try.func90.trans (congrArg some (by kernel_rfl))⟩
  f50 := ⟨Try.f91.name, by decide, Try.func91.trans (congrArg some (by kernel_rfl))⟩
  f57 := ⟨Try.f96.name, by decide, Try.func96.trans (congrArg some (by kernel_rfl))⟩
  t0 := Try.underlying0
  a0 := Try.isAgg0
  z0 := Try.sizeOf0
  v0 := Try.zeroValue0
  t3 := Try.underlying3
  a3 := Try.isAgg3
  z3 := Try.sizeOf3
  v3 := Try.zeroValue3
  t4 := Try.underlying4
  a4 := Try.isAgg4
  z4 := Try.sizeOf4
  v4 := Try.zeroValue4
  t5 := Try.underlying5
  a5 := Try.isAgg5
  z5 := Try.sizeOf5
  v5 := Try.zeroValue5
  t9 := Try.underlying9
  a9 := Try.isAgg9
  z9 := Try.sizeOf9
  v9 := Try.zeroValue9
  t22 := Try.underlying24
  a22 := Try.isAgg24
  z22 := Try.sizeOf24
  v22 := Try.zeroValue24
  t25 := Try.underlying80
  a25 := Try.isAgg80
  z25 := Try.sizeOf80
  v25 := Try.zeroValue80
  t39 := Try.underlying94
  a39 := Try.isAgg94
  z39 := Try.sizeOf94
  v39 := Try.zeroValue94
  t45 := Try.underlying102
  a45 := Try.isAgg102
  z45 := Try.sizeOf102
  v45 := Try.zeroValue102
  t46 := Try.underlying103
  a46 := Try.isAgg103
  z46 := Try.sizeOf103
  v46 := Try.zeroValue103
  t50 := Try.underlying76
  a50 := Try.isAgg76
  z50 := Try.sizeOf76
  v50 := Try.zeroValue76
  t53 := Try.underlying109
  a53 := Try.isAgg109
  z53 := Try.sizeOf109
  v53 := Try.zeroValue109
  t55 := Try.underlying111
  a55 := Try.isAgg111
  z55 := Try.sizeOf111
  v55 := Try.zeroValue111
  t66 := Try.underlying119
  a66 := Try.isAgg119
  z66 := Try.sizeOf119
  v66 := Try.zeroValue119
  t70 := Try.underlying123
  a70 := Try.isAgg123
  z70 := Try.sizeOf123
  v70 := Try.zeroValue123
  t76 := Try.underlying128
  a76 := Try.isAgg128
  z76 := Try.sizeOf128
  v76 := Try.zeroValue128
  t77 := Try.underlying129
  a77 := Try.isAgg129
  z77 := Try.sizeOf129
  v77 := Try.zeroValue129 }
def Try.sortBinds_ren : Go.Shelf.Ren := ⟨fun | 6 => 40 | 15 => 60 | 14 => 61 | 28 => 75 | 29 => 76 | 20 => 77 | 21 => 78 | 22 => 79 | 23 => 80 | 24 => 81 | 25 => 82 | 26 => 83 | 27 => 84 | 46 => 92 | 47 => 88 | 48 => 89 | 49 => 93 | 50 => 94 | 57 => 97 | n => n, fun | 22 => 25 | 24 => 24 | 25 => 84 | 3 => 3 | 39 => 94 | 0 => 0 | 53 => 109 | 55 => 111 | 4 => 4 | 46 => 103 | 45 => 102 | 50 => 76 | 5 => 5 | 9 => 9 | 66 => 119 | 70 => 123 | 76 => 128 | 77 => 129 | n => n, fun | n => n⟩
theorem Try.sortBinds : Go.Proofs.SlLaysF.n6 Try.prog Try.sortBinds_ren := {
  mixed := by kernel_rfl
  f6 := ⟨Try.f40.name, by decide, Try.func40.trans (congrArg some (by kernel_rfl))⟩
  f14 := ⟨Try.f61.name, by decide, Try.func61.trans (congrArg some (by kernel_rfl))⟩
  f15 := Try.func60.trans (congrArg some (by kernel_rfl))
  f20 := ⟨Try.f77.name, by decide, Try.func77.trans (congrArg some (by kernel_rfl))⟩
  f21 := ⟨Try.f78.name, by decide, Try.func78.trans (congrArg some (by kernel_rfl))⟩
  f22 := ⟨Try.f79.name, by decide, Try.func79.trans (congrArg some (by kernel_rfl))⟩
  f23 := ⟨Try.f80.name, by decide, Try.func80.trans (congrArg some (by kernel_rfl))⟩
  f24 := ⟨Try.f81.name, by decide, Try.func81.trans (congrArg some (by kernel_rfl))⟩
  f25 := ⟨Try.f82.name, by decide, Try.func82.trans (congrArg some (by kernel_rfl))⟩
  f26 := ⟨Try.f83.name, by decide, Try.func83.trans (congrArg some (by kernel_rfl))⟩
  f27 := ⟨Try.f84.name, by decide, Try.func84.trans (congrArg some (by kernel_rfl))⟩
  f28 := Try.func75.trans (congrArg some (by kernel_rfl))
  f29 := Try.func76.trans (congrArg some (by kernel_rfl))
  f46 := ⟨Try.f92.name, by decide, Try.func92.trans (congrArg some (by kernel_rfl))⟩
  f47 := Try.func88.trans (congrArg some (by kernel_rfl))
  f48 := Try.func89.trans (congrArg some (by kernel_rfl))
  f49 := ⟨Try.f93.name, by decide, Try.func93.trans (congrArg some (by kernel_rfl))⟩
  f50 := ⟨Try.f94.name, by decide, Try.func94.trans (congrArg some (by kernel_rfl))⟩
  f57 := ⟨Try.f97.name, by decide, Try.func97.trans (congrArg some (by kernel_rfl))⟩
  t0 := Try.underlying0
  a0 := Try.isAgg0
  z0 := Try.sizeOf0
  v0 := Try.zeroValue0
  t3 := Try.underlying3
  a3 := Try.isAgg3
  z3 := Try.sizeOf3
  v3 := Try.zeroValue3
  t4 := Try.underlying4
  a4 := Try.isAgg4
  z4 := Try.sizeOf4
  v4 := Try.zeroValue4
  t5 := Try.underlying5
  a5 := Try.isAgg5
  z5 := Try.sizeOf5
  v5 := Try.zeroValue5
  t9 := Try.underlying9
  a9 := Try.isAgg9
  z9 := Try.sizeOf9
  v9 := Try.zeroValue9
  t22 := Try.underlying25
  a22 := Try.isAgg25
  z22 := Try.sizeOf25
  v22 := Try.zeroValue25
  a24 := Try.isAgg24
  z24 := Try.sizeOf24
  t25 := Try.underlying84
  a25 := Try.isAgg84
  z25 := Try.sizeOf84
  v25 := Try.zeroValue84
  t39 := Try.underlying94
  a39 := Try.isAgg94
  z39 := Try.sizeOf94
  v39 := Try.zeroValue94
  t45 := Try.underlying102
  a45 := Try.isAgg102
  z45 := Try.sizeOf102
  v45 := Try.zeroValue102
  t46 := Try.underlying103
  a46 := Try.isAgg103
  z46 := Try.sizeOf103
  v46 := Try.zeroValue103
  t50 := Try.underlying76
  a50 := Try.isAgg76
  z50 := Try.sizeOf76
  v50 := Try.zeroValue76
  t53 := Try.underlying109
  a53 := Try.isAgg109
  z53 := Try.sizeOf109
  v53 := Try.zeroValue109
  t55 := Try.underlying111
  a55 := Try.isAgg111
  z55 := Try.sizeOf111
  v55 := Try.zeroValue111
  t66 := Try.underlying119
  a66 := Try.isAgg119
  z66 := Try.sizeOf119
  v66 := Try.zeroValue119
  t70 := Try.underlying123
  a70 := Try.isAgg123
  z70 := Try.sizeOf123
  v70 := Try.zeroValue123
  t76 := Try.underlying128
  a76 := Try.isAgg128
  z76 := Try.sizeOf128
  v76 := Try.zeroValue128
  t77 := Try.underlying129
  a77 := Try.isAgg129
  z77 := Try.sizeOf129
  v77 := Try.zeroValue129 }
end Go.Proofs.Ythieomebngiabaa
namespace Go.Proofs.Ythieomebngiabaa
open Go.RowKit Go.Sort Go.Shelf
theorem flatK_toList {α : Type} [Inhabited α] (enc : α → List Value) (k : Nat) (hk : ∀ x, (enc x).length = k) (d : Array α) : (flatK enc k d).toList = (d.toList.map enc).flatten := by
  have hlen : ((d.toList.map enc).flatten).length = d.size * k := by
    have : ∀ l : List α, ((l.map enc).flatten).length = l.length * k := by
      intro l
      induction l with
      | nil => simp
      | cons x l ih => rw [List.map_cons, List.flatten_cons, List.length_append, ih, hk, List.length_cons, Nat.add_mul]; omega
    simpa using this d.toList
  apply List.ext_getElem?
  intro t
  by_cases ht : t < d.size * k
  · have k0 : 0 < k := by
      rcases Nat.eq_zero_or_pos k with h | h
      · subst h; omega
      · exact h
    have hi : t / k < d.size := Nat.div_lt_of_lt_mul (by rw [Nat.mul_comm]; exact ht)
    have hj : t % k < k := Nat.mod_lt _ k0
    have h1 : (flatK enc k d).toList[t]? = some (enc d[t / k]!)[t % k]! := by
      have := get_flatK enc k d t ht
      rw [Array.getElem?_toList]
      rw [Array.getElem!_eq_getD, Array.getD] at this
      simp only [size_flatK, ht, dite_true] at this
      rw [Array.getElem?_eq_getElem (by simpa using ht)]
      exact congrArg some this
    rw [h1]
    have hx : (d.toList.map enc)[t / k]? = some (enc d[t / k]!) := by
      rw [List.getElem?_map, Array.getElem?_toList, Array.getElem?_eq_getElem hi, getElem!_pos d _ hi]; rfl
    have hu : (enc d[t / k]!)[t % k]? = some (enc d[t / k]!)[t % k]! := by
      rw [List.getElem?_eq_getElem (by rw [hk]; exact hj), List.getElem!_eq_getElem?_getD, List.getElem?_eq_getElem (by rw [hk]; exact hj)]; rfl
    have := flatten_get (k := k) (d.toList.map enc) (by intro cs hcs; obtain ⟨x, _, rfl⟩ := List.mem_map.1 hcs; exact hk x) (t / k) _ (t % k) _ hx hu
    rw [Nat.mul_comm, Nat.div_add_mod] at this
    exact this.symm
  · rw [List.getElem?_eq_none (by simp; omega), List.getElem?_eq_none (by omega)]
theorem heap_sortedK {α : Type} [Inhabited α] {enc : α → List Value} {k : Nat} {w : World} {g n : Nat} {os : Array Obj} {cur : Array Value} {e : TypeId} {fr : Nat × Nat} (d : Array α) (hb : w.heap[g]? = some (.cells cur e fr)) :
    (sortWorldK enc k w g 0 n d os).heap[g]? = some (.cells (putCells id 0 (flatK enc k d) cur) e fr) := by
  have hg : g < w.heap.size := (Array.getElem?_eq_some_iff.1 hb).1
  unfold sortWorldK
  rw [heap_grow_old _ _ (by simpa [putRowK] using hg)]
  simp [putRowK, putRow, mapBlock, Sort.ahead, Array.getElem?_modify, hb, onCells]
theorem grownBy_sortedK {α : Type} [Inhabited α] {enc : α → List Value} {k : Nat} {w : World} {g off n : Nat} {os : Array Obj} (d : Array α) : w.grownBy (sortWorldK enc k w g off n d os) (some g) := by
  refine ⟨rfl, rfl, rfl, by simp [sortWorldK, putRowK], fun q hq hne => ?_⟩
  unfold sortWorldK
  rw [heap_grow_old _ _ (by simpa [putRowK] using hq)]
  have : g ≠ q := fun e => hne (by rw [e])
  simp [putRowK, putRow, mapBlock, Sort.ahead, Array.getElem?_modify, this]
theorem take_putK (F cur : Array Value) (h : F.size ≤ cur.size) : (putCells id 0 F cur).toList.take F.size = F.toList := by
  apply List.ext_getElem?
  intro j
  by_cases hj : j < F.size
  · rw [List.getElem?_take_of_lt hj, Array.getElem?_toList, Array.getElem?_toList]
    simp [putCells, hj, show j < cur.size by omega]
  · rw [List.getElem?_take_eq_none (by omega), List.getElem?_eq_none (by simp; omega)]
structure VElem (α : Type) (k : Nat) (R : Reader α) (Q : α → Prop) (S : Nat → Prop) (w : World) where
  cells : List Value
  val : α
  len : cells.length = k
  rd : R S w cells val
  q : Q val
set_option maxHeartbeats 1000000 in
theorem sort_owned {P : Program} {ρ : Ren} (L : SlLaysF0.n6 P ρ) {α : Type} {k : Nat} {R : Reader α} (hR : Steady R) (hcell : ∀ {S w cs x}, R S w cs x → ∀ u ∈ cs, u.oneCell' = true) (Q : α → Prop)
    (aE : ∀ w, (isAgg (ρ.t 24)).run P w = .ok true w) (zE : ∀ w, (Go.sizeOf (ρ.t 24)).run P w = .ok k w) {cf : α → α → Int} (c3 : Cmp3 cf) (g : Nat) (eg : ∀ args w, (callFunc g args).run P w = .ok (.enter g args) w)
    (hC : ∀ {S : Nat → Prop} (W : World) (x y : α) (cx cy : List Value), R S W cx x → R S W cy y → Q x → Q y → Calls P g #[.agg cx.toArray, .agg cy.toArray] W fun e w' => e = .returned (.int .i64 (cf x y)) ∧ Fresh W w')
    {B : Nat} {e : TypeId} {S : Nat → Prop} {w : World} {v : Value} {l : List α} (hown : Owned k R B e S w v l) (hQ : ∀ x ∈ l, Q x) (hsz : l.length < 4611686018427387904) :
    Calls P (ρ.f 6) #[v, .func (.func g) #[] #[]] w fun en w' => en = .returned (.tuple #[]) ∧ ∃ l', l'.Perm l ∧ l'.Pairwise (fun a b => ¬ cf b a < 0) ∧ Owned k R B e S w' v l' ∧ w.grownBy w' v.ownBlock := by
  have hO := hown
  obtain ⟨css, hl, hk, ho, hr⟩ := hown
  rcases hempty : l with _ | ⟨x0, l0⟩
  · subst hempty
    obtain ⟨p, cap, hv⟩ : ∃ p cap, v = .slice p 0 cap := by
      rcases ho.2 with ⟨hv, _⟩ | ⟨g, cap, cur, hv, _⟩
      · exact ⟨none, 0, hv⟩
      · exact ⟨_, cap, hv⟩
    subst hv
    refine (AnyF.slices_SortFunc_none { L with } p cap _ w).mono fun en w' ⟨he, hw⟩ => ?_
    subst hw
    exact ⟨he, [], List.Perm.refl _, List.Pairwise.nil, hO, ⟨rfl, rfl, rfl, Nat.le_refl _, fun _ _ _ => rfl⟩⟩
  · rw [← hempty]
    have hpos : 0 < l.length := by rw [hempty]; simp
    rcases ho.2 with ⟨_, h0⟩ | ⟨b, cap, cur, rfl, hbB, hb, hnc, hcm, hcs, htake⟩
    · omega
    · let E := VElem α k R Q (fun q => S q ∧ some q ≠ (Value.slice (some ⟨b, 0, none⟩) l.length cap).ownBlock) w
      have mk : ∀ i, i < l.length → ∃ E0 : E, css[i]? = some E0.cells ∧ l[i]? = some E0.val := fun i hi => by
        have h1 : css[i]? = some css[i] := List.getElem?_eq_getElem (by omega)
        have h2 : l[i]? = some l[i] := List.getElem?_eq_getElem hi
        exact ⟨⟨css[i], l[i], hk _ (List.getElem_mem _), hr i _ _ h1 h2, hQ _ (List.getElem_mem _)⟩, h1, h2⟩
      letI : Inhabited E := ⟨(mk 0 hpos).choose⟩
      obtain ⟨dl, hd1, hd2⟩ : ∃ dl : List E, dl.map (·.cells) = css ∧ dl.map (·.val) = l := by
        have main : ∀ n, n ≤ l.length → ∃ dl : List E, dl.map (·.cells) = css.take n ∧ dl.map (·.val) = l.take n := by
          intro n
          induction n with
          | zero => exact fun _ => ⟨[], by simp, by simp⟩
          | succ n ih =>
            intro hn
            obtain ⟨dl, g1, g2⟩ := ih (by omega)
            obtain ⟨E0, e1, e2⟩ := mk n (by omega)
            exact ⟨dl ++ [E0], by rw [List.map_append, g1, List.take_add_one, e1]; rfl, by rw [List.map_append, g2, List.take_add_one, e2]; rfl⟩
        obtain ⟨dl, g1, g2⟩ := main l.length (Nat.le_refl _)
        exact ⟨dl, by rw [g1, ← hl, List.take_length], by rw [g2, List.take_length]⟩
      have hdl : dl.length = l.length := by rw [← hd2]; simp
      have hkE : ∀ x : E, x.cells.length = k := fun x => x.len
      have hfl : (flatK (fun x : E => x.cells) k dl.toArray).toList = css.flatten := by rw [flatK_toList _ k hkE, ← hd1]
      have hfs : (flatK (fun x : E => x.cells) k dl.toArray).size = l.length * k := by simp [hdl]
      have hH : HoldsK (fun x : E => x.cells) k w b 0 dl.toArray := by
        intro j hj
        rw [hfs] at hj
        have h1 : (flatK (fun x : E => x.cells) k dl.toArray)[j]? = cur[j]? := by
          rw [← Array.getElem?_toList, hfl, ← htake, List.getElem?_take_of_lt hj, Array.getElem?_toList]
        refine ⟨?_, by simp [World.frozen?, hb]⟩
        simp only [World.cell?, hb, Nat.zero_add, Option.isSome_none, Bool.false_eq_true, if_false]
        rw [← h1, Array.getElem?_eq_getElem (by rw [hfs]; exact hj), getElem!_pos _ _ (by rw [hfs]; exact hj)]
        rfl
      have hcmp : CmpLays P g #[] (fun x : E => x.cells) k (fun x y => cf x.val y.val) b 0 dl.toArray.size w := by
        intro m os dk hdk x y
        have hag : Agree (fun q => S q ∧ some q ≠ (Value.slice (some ⟨b, 0, none⟩) l.length cap).ownBlock) w (sortWorldK (fun x : E => x.cells) k w b 0 m dk os) := by
          have := grownBy_sortedK (enc := fun x : E => x.cells) (k := k) (w := w) (g := b) (off := 0) (n := m) (os := os) dk
          exact ⟨this.size, fun q hq hlt => this.block q hlt hq.2⟩
        have := hC (sortWorldK (fun x : E => x.cells) k w b 0 m dk os) x.val y.val x.cells y.cells (hR.agree hag x.rd) (hR.agree hag y.rd) x.q y.q
        rw [Array.append_empty]
        exact this.mono fun en w' ⟨he, q, os', hw⟩ => ⟨he, q, os', hw⟩
      have hSWO : SWO (ltOf fun x y : E => cf x.val y.val) :=
        ⟨fun x => by simp [ltOf, c3.self], fun x y z h1 h2 => by simp only [ltOf, decide_eq_true_eq] at *; exact c3.trans _ _ _ h1 h2, fun x y z h1 h2 => by
          simp only [ltOf, decide_eq_false_iff_not] at *
          intro h3
          by_cases e1 : x.val = y.val
          · rw [e1] at h3; exact h2 h3
          · have h4 : cf y.val x.val < 0 := by have := c3.ne_zero e1; have := c3.anti y.val x.val; omega
            exact h2 (c3.trans _ _ _ h4 h3)⟩
      have hlt : b < w.heap.size := (Array.getElem?_eq_some_iff.1 hb).1
      have hsort := AnyQ.slices_SortFunc L k aE zE (fun x : E => x.cells) hkE (fun x => hcell x.rd) (fun x y => cf x.val y.val) hSWO g #[] b 0 cap dl.toArray w eg hcmp hH hlt (by simpa [hdl] using hsz)
      have hsize : dl.toArray.size = l.length := by simp [hdl]
      rw [hsize] at hsort
      refine hsort.mono fun en w' ⟨he, d', n, os, hperm, hsorted, hw⟩ => ⟨he, d'.toList.map (·.val), ?_, ?_, ?_, ?_⟩
      · have h1 := hperm.2.2
        have e1 : d'.extract 0 l.length = d' := by rw [← hsize, ← hperm.1]; simp
        have e2 : dl.toArray.extract 0 l.length = dl.toArray := by rw [← hsize]; simp
        rw [e1, e2] at h1
        have := h1.map (fun x : E => x.val)
        rw [show dl.toArray.toList = dl by simp, hd2] at this
        exact this
      · rw [List.pairwise_map]
        refine List.pairwise_iff_getElem.2 fun i j hi hj hij => ?_
        have hs := hsorted i j (Nat.zero_le _) hij (by rw [← hsize, ← hperm.1]; simpa using hj)
        simp only [ltOf, decide_eq_false_iff_not] at hs
        rw [getElem!_pos d' j (by simpa using hj), getElem!_pos d' i (by simpa using hi)] at hs
        exact hs
      · subst hw
        have hd' : d'.size = l.length := by rw [hperm.1, hsize]
        have hg := grownBy_sortedK (enc := fun x : E => x.cells) (k := k) (w := w) (g := b) (off := 0) (n := n) (os := os) d'
        refine ⟨d'.toList.map (·.cells), by simp, ?_, ⟨?_, .inr ⟨b, cap, _, by simp [hd'], hbB, heap_sortedK d' hb, by simpa [hd'] using hnc, hcm, by simp [putCells, hcs], ?_⟩⟩, ?_⟩
        · intro cs hcs'
          obtain ⟨x, _, rfl⟩ := List.mem_map.1 hcs'
          exact x.len
        · rw [← flatK_toList _ k hkE]; simp
        · have hf : (flatK (fun x : E => x.cells) k d').size = d'.size * k := by simp
          have := take_putK (flatK (fun x : E => x.cells) k d') cur (by rw [hf, hcs, hd']; exact Nat.mul_le_mul_right _ hnc)
          rw [hf] at this
          rw [List.length_map, Array.length_toList, this, flatK_toList _ k hkE]
        · intro i cs x hcs' hx'
          rw [List.getElem?_map] at hcs' hx'
          cases hi : d'.toList[i]? with
          | none => rw [hi] at hcs'; cases hcs'
          | some E0 =>
            rw [hi] at hcs' hx'
            obtain rfl : E0.cells = cs := by simpa using hcs'
            obtain rfl : E0.val = x := by simpa using hx'
            exact hR.agree ⟨hg.size, fun q hq hlt => hg.block q hlt hq.2⟩ E0.rd
      · subst hw
        exact grownBy_sortedK d'
end Go.Proofs.Ythieomebngiabaa
