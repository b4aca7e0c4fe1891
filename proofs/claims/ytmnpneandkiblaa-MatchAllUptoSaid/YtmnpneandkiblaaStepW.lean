/-
  THE WALK OF match.step.
-/
import Derived.Test.YtmnpneandkiblaaFillW
namespace Go.Proofs.Ytmnpneandkiblaa
open Go.RowKit

theorem RdBindss.at {S : Nat → Prop} {w : World} {a : Option Addr} {n cap : Nat} {l : List Binds} (h : RdBindss S w (.slice a n cap) l) {i : Nat} {x : Binds} (hx : l[i]? = some x) :
    ∃ b off v, a = some ⟨b, off, none⟩ ∧ S b ∧ b < w.heap.size ∧ w.cell? ⟨b, off + i, none⟩ = some v ∧ RdBinds S w v x := by
  obtain ⟨a', cap', hv, _, _, _, h3⟩ := h
  obtain ⟨b, off, cs, ha, hS, hb, hk, hc, v, hr, hq⟩ := h3 i x hx
  injection hv with e1 e2 e3
  subst e1
  subst hr
  exact ⟨b, off, v, ha, hS, hb, by simpa using hc 0 _ rfl, hq⟩
theorem RdBindss.up {S : Nat → Prop} {w w' : World} {v : Value} {l : List Binds} (h : RdBindss S w v l) (hb : Below w.heap.size w w') : RdBindss (fun _ => True) w' v l := (h.more RBinds.steady (fun _ _ _ => trivial)).agree RBinds.steady (Below.agree hb)
theorem RdFacts.up {S : Nat → Prop} {w w' : World} {v : Value} {l : List PFact} (h : RdFacts S w v l) (hb : Below w.heap.size w w') : RdFacts (fun _ => True) w' v l := (h.more RFact.steady (fun _ _ _ => trivial)).agree RFact.steady (Below.agree hb)

/-- What facts make of one list. -/
def meets (a : PAtom) (l : Binds) (fs : List PFact) : List Binds := fs.filterMap fun f => meetP a f l
theorem stepP_eq (ls : List Binds) (a : PAtom) (fs : List PFact) : stepP ls a fs = ls.flatMap fun l => meets a l fs := rfl
theorem meets_snoc {a : PAtom} {l : Binds} {fs : List PFact} {j : Nat} {f : PFact} (hf : fs[j]? = some f) : meets a l (fs.take (j + 1)) = meets a l (fs.take j) ++ (meetP a f l).toList := by
  unfold meets
  rw [List.take_add_one, hf, List.filterMap_append]
  cases h : meetP a f l <;> simp [h]
theorem stepP_snoc {ls : List Binds} {a : PAtom} {fs : List PFact} {i : Nat} {l : Binds} (hl : ls[i]? = some l) : stepP (ls.take (i + 1)) a fs = stepP (ls.take i) a fs ++ meets a l fs := by
  rw [stepP_eq, stepP_eq, List.take_add_one, hl, List.flatMap_append]
  simp
theorem stepP_length (ls : List Binds) (a : PAtom) (fs : List PFact) : (stepP ls a fs).length ≤ ls.length * fs.length := by
  induction ls with
  | nil => simp [stepP]
  | cons l ls ih =>
    have h1 : stepP (l :: ls) a fs = meets a l fs ++ stepP ls a fs := by simp [stepP_eq]
    have h2 : (meets a l fs).length ≤ fs.length := List.length_filterMap_le _ _
    rw [h1, List.length_append, List.length_cons, Nat.add_mul]
    omega
theorem meets_length (a : PAtom) (l : Binds) (fs : List PFact) : (meets a l fs).length ≤ fs.length := List.length_filterMap_le _ _

def StepPost (ls : List Binds) (a : PAtom) (fs : List PFact) (w : World) (e : Ending) (w' : World) : Prop :=
  Below w.heap.size w w' ∧ ∃ v zs, e = .returned v ∧ Nest w.heap.size w' v zs ∧ zs.map (·.2) = stepP ls a fs
theorem Nest.lower {B B' : Nat} {w : World} {v : Value} {zs : List VB} (h : Nest B w v zs) (hB : B' ≤ B) : Nest B' w v zs :=
  ⟨h.outer.lower hB, fun z hz => (h.inner z hz).lower hB, h.apart, h.off⟩

set_option maxRecDepth 100000 in
set_option maxHeartbeats 8000000 in
theorem stepCalls {S S2 S3 : Nat → Prop} (lv : Value) (ls : List Binds) (a : PAtom) (tv : Value) (fv : Value) (fs : List PFact) (w : World) (hl : RdBindss S w lv ls) (ht : RdTerms S2 w tv a.terms) (hf : RdFacts S3 w fv fs)
    (n1 : ls.length ≤ 20000) (n2 : ∀ l ∈ ls, l.length ≤ 1048576) (n3 : a.terms.length ≤ 1048576) (n4 : fs.length ≤ 200) (n5 : ∀ f ∈ fs, f.args.length ≤ 1048576) :
    Calls Try.prog 23 #[lv, .agg #[.bool a.neg, .string a.name, tv], fv] w (StepPost ls a fs w) := by
  obtain ⟨la, lc, rfl, -, -, -⟩ := id hl.form
  obtain ⟨ta, tc, rfl, -, -, -⟩ := id ht.form
  obtain ⟨fa, fc, rfl, -, -, -⟩ := id hf.form
  have HT := Lib.hid ht
  have HF := Lib.hid hf
  have HL := Lib.hid hl
  have N2 := Lib.hid n2
  have N5 := Lib.hid n5
  have HLS := Lib.hid (show ∀ i, i ≤ ls.length → (stepP (ls.take i) a fs).length ≤ 4000000 from fun i hi => by
    have h1 := stepP_length (ls.take i) a fs
    have h2 : (ls.take i).length * fs.length ≤ 20000 * 200 := Nat.mul_le_mul (by rw [List.length_take]; omega) n4
    omega)
  clear ht hf hl n2 n5
  go_enter Try.func23, Try.ntmps23
  go_wp2
  have HB0 := Lib.hid ((Below.refl w.heap.size w).alloc (Nat.le_refl _) (.cells #[.bool a.neg, .string a.name, .slice ta a.terms.length tc] 38))
  have HK0 := Lib.hid (Blk.new w 38 #[.bool a.neg, .string a.name, .slice ta a.terms.length tc])
  have HN0 : Hid (Nest (w.heap.size + 1) (w.alloc (.cells #[.bool a.neg, .string a.name, .slice ta a.terms.length tc] 38)) (.slice none 0 0) []) := Nest.nil
  go_loopw [16, 7] (fun i v wr => ∃ (k : Nat) (zs : List VB), k ≤ ls.length ∧ i = .int .i64 k ∧ Hid (Below w.heap.size w wr) ∧ Hid (Blk wr w.heap.size 38 #[.bool a.neg, .string a.name, .slice ta a.terms.length tc]) ∧ Hid (Nest (w.heap.size + 1) wr v zs) ∧ Hid (zs.map (·.2) = stepP (ls.take k) a fs)) (fun i _ _ => ls.length - (intOf i).toNat)
  case atStart => exact ⟨0, [], Nat.zero_le _, rfl, HB0, HK0, HN0, Lib.hid (by rw [List.take_zero]; rfl)⟩
  case round =>
    clear HB0 HK0 HN0
    obtain ⟨k, zs, hk, rfl, HB, HK, HN, HZ⟩ := hrel
    obtain ⟨va, vc, efm, -, -, -⟩ := (HN.out.outer.read RPair.steady).form
    subst efm
    by_cases hlt : k < ls.length
    · obtain ⟨l, hx⟩ : ∃ l, ls[k]? = some l := ⟨_, List.getElem?_eq_getElem hlt⟩
      obtain ⟨b1, o1, lv, rfl, -, hb1, d00, hlv⟩ := RdBindss.at HL.out hx
      have d0 := (cell_below HB.out hb1 (o1 + k)).trans d00
      clear d00
      obtain ⟨xa, xc, rfl, -, -, -⟩ := id hlv.form
      have HLV := Lib.hid hlv
      have HX := Lib.hid hx
      have nl := N2.out l (List.mem_of_getElem? hx)
      clear hlv hx
      go_wp2
      obtain ⟨wo, hwo⟩ : ∃ wo : World, wo = wr := ⟨_, rfl⟩
      subst hwo
      have HN0 : Hid (Nest (w.heap.size + 1) wo (.slice va zs.length vc) zs) := HN
      go_loopw [22, 7] (fun i v wr => ∃ (j : Nat) (ys : List VB), j ≤ fs.length ∧ i = .int .i64 j ∧ Hid (Below w.heap.size w wr) ∧ Hid (Blk wr w.heap.size 38 #[.bool a.neg, .string a.name, .slice ta a.terms.length tc]) ∧ Hid (Nest (w.heap.size + 1) wr v ys) ∧ Hid (ys.map (·.2) = stepP (ls.take k) a fs ++ meets a l (fs.take j))) (fun i _ _ => fs.length - (intOf i).toNat)
      case atStart => exact ⟨0, zs, Nat.zero_le _, rfl, HB, HK, HN0, Lib.hid (by rw [HZ.out, List.take_zero]; simp [meets])⟩
      case round =>
        clear HB HK HN HN0 HZ
        obtain ⟨j, ys, hj, rfl, HB, HK, HN, HZ⟩ := hrel
        obtain ⟨ya, yc, efm, -, -, -⟩ := (HN.out.outer.read RPair.steady).form
        subst efm
        by_cases hlt2 : j < fs.length
        · obtain ⟨f, hy⟩ : ∃ f, fs[j]? = some f := ⟨_, List.getElem?_eq_getElem hlt2⟩
          obtain ⟨b2, o2, fav, rfl, -, -, e0, e1, hfav⟩ := RdFacts.at (HF.out.up HB.out) hy
          obtain ⟨ua, uc, rfl, -, -, -⟩ := id hfav.form
          have nf := N5.out f (List.mem_of_getElem? hy)
          have HS := Lib.hid (meets_snoc (a := a) (l := l) hy)
          obtain ⟨W2, hW2⟩ : ∃ W2 : World, wr.alloc (.cells #[.string f.name, .slice ua f.args.length uc] 41) = W2 := ⟨_, rfl⟩
          have hs2 : W2.heap.size = wr.heap.size + 1 := by subst hW2; simp
          have hbx : Below wr.heap.size wr W2 := by subst hW2; exact (Below.refl _ _).alloc (Nat.le_refl _) _
          have HB2 := Lib.hid (HB.out.trans (hbx.mono HB.out.size))
          have HN2 := Lib.hid (HN.out.below hbx)
          have HK2 := Lib.hid (HK.out.below hbx HK.out.lt)
          have KM := Lib.hid (meetCalls a (.slice ta a.terms.length tc) f (.slice ua f.args.length uc) (.slice xa l.length xc) l W2 (HT.out.up HB2.out) (hfav.up hbx) (HLV.out.up HB2.out) (by omega) (by omega) (by omega))
          have k0 : W2.cell? ⟨w.heap.size, 0, none⟩ = some (.bool a.neg) := HK2.out.cell 0
          have k1 : W2.cell? ⟨w.heap.size, 1, none⟩ = some (.string a.name) := HK2.out.cell 1
          have k2 : W2.cell? ⟨w.heap.size, 2, none⟩ = some (.slice ta a.terms.length tc) := HK2.out.cell 2
          have f0 : W2.cell? ⟨wr.heap.size, 0, none⟩ = some (.string f.name) := by subst hW2; simp
          have f1 : W2.cell? ⟨wr.heap.size, 1, none⟩ = some (.slice ua f.args.length uc) := by subst hW2; simp
          have HYL := Lib.hid (show ys.length < 1099511627776 by
            have h1 : (ys.map (·.2)).length = (stepP (ls.take k) a fs).length + (meets a l (fs.take j)).length := by rw [HZ.out, List.length_append]
            have h2 := HLS.out k (by omega)
            have h3 := meets_length a l (fs.take j)
            rw [List.length_take] at h3
            rw [List.length_map] at h1
            omega)
          have hlw : w.heap.size < W2.heap.size := HK2.out.lt
          clear hy hbx hfav HN HK
          cases hm : meetP a f l with
          | none =>
            rw [hm] at HS
            have KN := Lib.hid ((KM.out).mono (R' := fun e w' => e = .returned (.tuple #[.slice none 0 0, .bool false]) ∧ Below W2.heap.size W2 w') fun e w' ⟨h1, h2⟩ => by rw [hm] at h2; exact ⟨h2, h1⟩)
            clear hm KM
            have HZ1 := Lib.hid (show ys.map (·.2) = stepP (ls.take k) a fs ++ meets a l (fs.take (j + 1)) by rw [HS.out, HZ.out]; simp)
            go_wp2_with (go_at_call 14; refine (KN.out).mono ?_; rintro e w3 ⟨rfl, hb3⟩; have HB3 := Lib.hid (HB2.out.trans (hb3.mono HB2.out.size)); have HN3 := Lib.hid (HN2.out.below hb3); have HK3 := Lib.hid (HK2.out.below hb3 hlw); clear hb3)
            go_roundw
            case rel => exact ⟨j + 1, ys, by omega, by go_num, HB3, HK3, HN3, HZ1⟩
            case measure => simp [intOf]; omega
          | some m =>
            rw [hm] at HS
            have KN := Lib.hid ((KM.out).mono (R' := fun e w' => (∃ v, e = .returned (.tuple #[v, .bool true]) ∧ OB W2.heap.size w' v m) ∧ Below W2.heap.size W2 w') fun e w' ⟨h1, h2⟩ => by rw [hm] at h2; exact ⟨h2, h1⟩)
            clear hm KM
            go_wp2_with (first
              | (go_at_call 14; refine (KN.out).mono ?_; rintro e w3 ⟨⟨v3, rfl, ho3⟩, hb3⟩; have HB3 := Lib.hid (HB2.out.trans (hb3.mono HB2.out.size)); have HN3 := Lib.hid (HN2.out.below hb3); have HK3 := Lib.hid (HK2.out.below hb3 hlw); obtain ⟨ma, mc, rfl, -, -, -⟩ := id (OB.read ho3).form; have HO3 := Lib.hid ho3; have hs3 := hb3.size; clear hb3 ho3)
              | (at_builtin; refine wpList_append_one (B := w.heap.size + 1) (e := 24) (S := fun _ => False) (by rfl) _ _ 25 (by rfl) RPair.steady rowBindss _ ys (by rfl) ((HN3.out.alloc (.cells #[.slice ma m.length mc] 24)).outer) w3.heap.size 1 #[.slice ma m.length mc] 24 (0, 0) (.slice ma m.length mc, m) (by rfl) (heap_new_at rfl) rfl (by simp [Value.oneCell']) ⟨rfl, rfl⟩ HYL.out (by simp; omega) ?_; intro v4 w4 hown4 hg4 hat4; have HN4 := Lib.hid ((HN3.out.alloc (.cells #[.slice ma m.length mc] 24)).snoc (z := (.slice ma m.length mc, m)) ((HO3.out.alloc RBind.steady _).lower (by omega)) (fun y hy b hb e => by have h1 := (HN2.out.inner_lt hy hb).2; have h2 := (HO3.out.row_lt e).1; omega) (fun b hb e => by have h1 := (HN2.out.row_lt e).2; have h2 := (HO3.out.row_lt hb).1; omega) hown4 hg4 hat4); have HB4 := Lib.hid ((HB3.out.alloc (Below.size HB3.out) _).grown hg4 (by have := Below.size HB3.out; simp; omega) (fun q hq => by have := (HN3.out.row_lt hq).1; omega)); have HK4 := Lib.hid ((HK3.out.alloc _).grown hg4 (fun e => by have := (HN3.out.row_lt e.symm).1; omega)); clear hown4 hg4 hat4))
            have HZ1 := Lib.hid (show (ys ++ [((.slice ma m.length mc, m) : VB)]).map (·.2) = stepP (ls.take k) a fs ++ meets a l (fs.take (j + 1)) by rw [HS.out, List.map_append, HZ.out]; simp)
            go_roundw
            case rel => exact ⟨j + 1, _, by omega, by go_num, HB4, HK4, HN4, HZ1⟩
            case measure => simp [intOf]; omega
        · have HZ1 := Lib.hid (show ys.map (·.2) = stepP (ls.take (k + 1)) a fs by
            have := HZ.out
            rw [List.take_of_length_le (l := fs) (by omega)] at this
            rw [this, stepP_snoc HX.out])
          go_wp2
          go_roundw
          case rel => exact ⟨k + 1, ys, by omega, by go_num, HB, HK, HN, HZ1⟩
          case measure => simp [intOf]; omega
    · have HE := Lib.hid (show zs.map (·.2) = stepP ls a fs by have := HZ.out; rwa [List.take_of_length_le (by omega)] at this)
      go_wp2
      go_ret
      exact ⟨HB.out, _, zs, rfl, HN.out.lower (by omega), HE.out⟩
end Go.Proofs.Ytmnpneandkiblaa
