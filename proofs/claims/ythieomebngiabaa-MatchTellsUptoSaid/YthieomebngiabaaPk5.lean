/-
  THE TEXTS EnvT, RowCut, SynW3, FillW, EnvF, EnvP, one behind the other.
-/
import Derived.Test.YthieomebngiabaaPk1
import Derived.Test.YthieomebngiabaaPk2
import Derived.Test.YthieomebngiabaaPk4
import Derived.Deep.DeepCutAuto
import Derived.Deep.RegionLaw
namespace Go.Proofs.Ythieomebngiabaa
open Go.RowKit Go.Maps
def TryPost (a : PAtom) (f : PFact) (l : Binds) (n : Nat) (w : World) (e : Ending) (w' : World) : Prop :=
  Below w.heap.size w w' ∧ match meetP a f l with
    | none => e = .returned (.map none)
    | some m => ∃ b, e = .returned (.map (some b)) ∧ w.heap.size ≤ b ∧ MapE w' b (n + a.terms.length) (fun v => getB v m)
theorem try_none {a : PAtom} {f : PFact} {l : Binds} {n : Nat} {w w' : World} (h : meetP a f l = none) (hb : Below w.heap.size w w') : TryPost a f l n w (.returned (.map none)) w' := ⟨hb, by rw [h]⟩
theorem try_some {a : PAtom} {f : PFact} {l m : Binds} {n b : Nat} {w w' : World} (h : meetP a f l = some m) (hb : Below w.heap.size w w') (h1 : w.heap.size ≤ b) (h2 : MapE w' b (n + a.terms.length) (fun v => getB v m)) : TryPost a f l n w (.returned (.map (some b))) w' := ⟨hb, by rw [h]; exact ⟨b, rfl, h1, h2⟩⟩
theorem getB_snoc {v x : Str} {m : Binds} (h : getB v m = none) : (fun t => if t = v then some x else getB t m) = fun t => getB t (m ++ [⟨v, x⟩]) := funext fun t => by
  rw [getB_append]
  by_cases e : t = v
  · subst e
    rw [if_pos rfl, h]
    simp [getB]
  · rw [if_neg e]
    have : getB t [⟨v, x⟩] = none := getB_none.2 (by simp [Vs]; exact e)
    rw [this]
    cases getB t m <;> rfl
def taken (f : Str → Option Str) (left : Lit → Bool) : Str → Option Str := fun t => if left (keyL t) then none else f t
theorem taken_step {f : Str → Option Str} {left : Lit → Bool} {s c : Str} (h : f s = some c) : (fun t => if t = s then some c else taken f left t) = taken f (fun z => left z && !z.sameKey (keyL s)) := funext fun t => by
  unfold taken
  have hk : (left (keyL t) && !(keyL t).sameKey (keyL s)) = (left (keyL t) && decide (t ≠ s)) := struck_key left s t
  show (if t = s then some c else if left (keyL t) = true then none else f t) = if (left (keyL t) && !(keyL t).sameKey (keyL s)) = true then none else f t
  rw [hk]
  by_cases e : t = s
  · subst e; simp [h]
  · simp [e]
theorem taken_all {f : Str → Option Str} {left : Lit → Bool} (h : ∀ kl, left kl = false) : taken f left = f := funext fun t => by unfold taken; rw [h]; rfl
theorem taken_none {f : Str → Option Str} {left : Lit → Bool} (h : ∀ s : Str, s.size ≤ maxLen → left (keyL s) = (f s).isSome) (s : Str) (hs : s.size ≤ maxLen) : none = taken f left s := by
  unfold taken
  rw [h s hs]
  cases f s <;> rfl
set_option maxRecDepth 100000 in
set_option maxHeartbeats 8000000 in
theorem tryRef {S S2 : Nat → Prop} (a : PAtom) (tv : Value) (f : PFact) (fv : Value) (l : Binds) (b n : Nat) (w : World) (ht : RdTerms S w tv a.terms) (hf : RdStrs S2 w fv f.args) (he : MapE w b n (fun v => getB v l))
    (n1 : a.terms.length ≤ 1048576) (_n2 : f.args.length ≤ 1048576) (n3 : n ≤ 1073741824) (s1 : ∀ t ∈ a.terms, t.name.size ≤ 1048576) (s2 : ∀ x ∈ f.args, x.size ≤ 1048576) :
    Calls Try.prog 12 #[.agg #[.bool a.neg, .string a.name, tv], .agg #[.string f.name, fv], .map (some b)] w (TryPost a f l n w) := by
  have hmm := @run_makeMap Try.prog
  obtain ⟨ta, tc, rfl, -, -, -⟩ := id ht.form
  obtain ⟨fa, fc, rfl, -, -, -⟩ := id hf.form
  have HT := Lib.hid ht
  have HF := Lib.hid hf
  have HM := Lib.hid he
  have S1 := Lib.hid s1
  have S2' := Lib.hid s2
  have hbl := he.lt
  clear ht hf he s1 s2
  obtain ⟨W0, hW0⟩ : ∃ W0 : World, (w.alloc (.cells #[.bool a.neg, .string a.name, .slice ta a.terms.length tc] 38)).alloc (.cells #[.string f.name, .slice fa f.args.length fc] 41) = W0 := ⟨_, rfl⟩
  have hB0 : Below w.heap.size w W0 := by subst hW0; exact ((Below.refl _ _).alloc (Nat.le_refl _) _).alloc (by simp) _
  obtain ⟨bo, hbo⟩ : ∃ bo, W0.heap.size = bo := ⟨_, rfl⟩
  have HS0 := Lib.hid (show bo = w.heap.size + 2 by rw [← hbo, ← hW0]; simp)
  have t0 : W0.cell? ⟨w.heap.size, 2, none⟩ = some (.slice ta a.terms.length tc) := by subst hW0; simp
  have t1 : W0.cell? ⟨w.heap.size + 1, 1, none⟩ = some (.slice fa f.args.length fc) := by subst hW0; simp
  have t2 : W0.cell? ⟨w.heap.size, 1, none⟩ = some (.string a.name) := by subst hW0; simp
  have t3 : W0.cell? ⟨w.heap.size + 1, 0, none⟩ = some (.string f.name) := by subst hW0; simp
  have HB0 := Lib.hid hB0
  clear hB0
  by_cases hn : a.name = f.name
  case neg =>
    have gz : (a.name.toList == f.name.toList) = false := by rw [beq_toList]; exact decide_eq_false hn
    have HE := Lib.hid (meetP_name (l := l) hn)
    clear hn
    go_enter Try.func12, Try.ntmps12
    go_wp2
    go_ret
    exact try_none HE.out HB0.out
  have gz : (a.name.toList == f.name.toList) = true := by rw [hn]; simp
  have HN := Lib.hid hn
  clear hn
  by_cases hq : a.terms.length = f.args.length
  case neg =>
    have i1 : ¬ (a.terms.length : Int) = (f.args.length : Int) := by omega
    have HE := Lib.hid (meetP_len (l := l) hq)
    clear hq
    go_enter Try.func12, Try.ntmps12
    go_wp2
    go_ret
    exact try_none HE.out HB0.out
  have HE := Lib.hid (show meetP a f l = meetL l a.terms f.args from if_pos ⟨HN.out, hq⟩)
  have HQ := Lib.hid hq
  have i1 : (a.terms.length : Int) = (f.args.length : Int) := by omega
  clear hq
  go_enter Try.func12, Try.ntmps12
  go_wp2_with (first
    | (at_range; refine wpList_range_E _ rfl _ rfl b n _ rfl ((HM.out.below HB0.out hbl).alloc _) ?_; intro w0 left cnt hrg0 hl0 hg0 hz0)
    | go_in)
  go_frame
  rw [hW0] at *
  have hs1 : (W0.alloc (.map #[] 0)).heap.size = bo + 1 := by simp [hbo]
  rw [hs1] at hrg0 hz0 ⊢
  have HM0 := Lib.hid (show MapE w0 bo 0 (taken (fun v => getB v l) left) by rw [← hbo]; exact (((MapE.made W0).kept hg0 (by simp)).like (taken_none hl0)))
  have HG0 := Lib.hid (((Below.refl bo W0).alloc (by omega) (.map #[] 0)).grown hg0 (by simp [hbo]) (fun j hj => by cases hj))
  have HR0 := Lib.hid hrg0
  have T0 := Lib.hid t0
  have T1 := Lib.hid t1
  clear hrg0 hg0 hl0 hs1 hz0 t0 t1 t2 t3 hmm
  go_loopw [8] (fun _ wr => ∃ left cnt m, m + cnt ≤ n ∧ Hid (RangeE wr b (bo + 1) n (fun v => getB v l) left cnt) ∧ Hid (MapE wr bo m (taken (fun v => getB v l) left)) ∧ Hid (Below bo W0 wr)) (fun _ wr => wr.rangeLeft b (bo + 1))
  case atStart => exact ⟨left, cnt, 0, by have := HR0.out.le; omega, HR0, HM0, HG0⟩
  case round =>
    clear HR0 HM0 HG0
    obtain ⟨left, cnt, m, hmc, HR, HO, HB⟩ := hrel
    have hsz : bo ≤ wr.heap.size := by rw [← hbo]; exact HB.out.size
    go_wp2_with (first
      | (at_next; refine wpList_next_E _ rfl _ rfl b (bo + 1) n _ left cnt rfl HR.out ?_ ?_)
      | go_in)
    · intro hd
      have HO1 := Lib.hid (show MapE wr bo n (fun v => getB v l) by have h := HO.out; rw [taken_all hd] at h; exact h.mono (by omega))
      have a2 := (cell_below HB.out (show w.heap.size < bo by have := HS0.out; omega) 2).trans T0.out
      have HBB := Lib.hid HB.out
      clear hd HR HO HB
      go_wp2
      clear a2
      go_loopw [43] (fun i wx => ∃ (k : Nat) (m : Binds), k ≤ a.terms.length ∧ i = .int .i64 k ∧ Hid (MapE wx bo (n + k) (fun v => getB v m)) ∧ Hid (Below bo W0 wx) ∧ Hid (meetP a f l = meetL m (a.terms.drop k) (f.args.drop k))) (fun i _ => a.terms.length - (intOf i).toNat)
      case atStart => exact ⟨0, l, Nat.zero_le _, rfl, HO1, HBB, Lib.hid (by rw [HE.out]; rfl)⟩
      case round =>
        clear HO1 HBB
        obtain ⟨k, m, hk, rfl, HO, HB, HMM⟩ := hrel
        have hsz : bo ≤ wr.heap.size := by rw [← hbo]; exact HB.out.size
        have HBw := Lib.hid (HB0.out.trans (HB.out.mono (by have := HS0.out; omega)))
        by_cases hlt : k < a.terms.length
        · obtain ⟨t, hx⟩ : ∃ t, a.terms[k]? = some t := ⟨_, List.getElem?_eq_getElem hlt⟩
          obtain ⟨z, hy⟩ : ∃ z, f.args[k]? = some z := ⟨_, List.getElem?_eq_getElem (by omega)⟩
          obtain ⟨b1, o1, rfl, -, -, d0, d1⟩ := RdTerms.at (HT.out.up HBw.out) hx
          obtain ⟨b2, o2, rfl, -, hb2, -⟩ := RdStrs.at HF.out hy
          have c2 : wr.cell? ⟨b2, o2 + k, none⟩ = some (.string z) := by
            obtain ⟨b3, o3, e3, -, -, h3⟩ := RdStrs.at (HF.out.up HBw.out) hy
            injection e3 with e3
            injection e3 with e3 e4 _
            rw [e3, e4]; exact h3
          have j2 : b2 < wr.heap.size := by have := HS0.out; omega
          have c1 := (cell_below HB.out (show w.heap.size + 1 < bo by have := HS0.out; omega) 1).trans T1.out
          have j1 : w.heap.size + 1 < wr.heap.size := by have := HS0.out; omega
          have i2 : (0 : Int) ≤ (k : Int) := by omega
          have i3 : (k : Int) < (f.args.length : Int) := by omega
          have hts : t.name.size ≤ maxLen := by have := S1.out t (List.mem_of_getElem? hx); unfold maxLen; omega
          have hzs : z.size ≤ maxLen := by have := S2'.out z (List.mem_of_getElem? hy); unfold maxLen; omega
          have HM0 := Lib.hid (show meetP a f l = meetL m (t :: a.terms.drop (k + 1)) (z :: f.args.drop (k + 1)) by rw [HMM.out, drop_cons hx, drop_cons hy])
          have hoa := HO.out.alloc (.cells #[.bool t.var, .string t.name] 67)
          have hba := HB.out.alloc hsz (.cells #[.bool t.var, .string t.name] 67)
          have HOA := Lib.hid hoa
          have HBA := Lib.hid hba
          clear hx hy HMM hoa hba
          cases htv : t.var
          · have hv : valT m t = some t.name := by unfold valT; rw [htv]; rfl
            rw [htv] at d0 HOA HBA
            by_cases hz : t.name = z
            · have gz2 : (t.name.toList == z.toList) = true := by rw [hz]; simp
              have HM1 := Lib.hid (HM0.out.trans (meetL_yes hv hz))
              have HO2 := Lib.hid (HOA.out.mono (show n + k ≤ n + (k + 1) by omega))
              clear hz hv htv HM0 HOA
              go_wp2
              go_roundw
              case rel => exact ⟨k + 1, m, by omega, by go_num, HO2, HBA, HM1⟩
              case measure => simp [intOf]; omega
            · have gz2 : (t.name.toList == z.toList) = false := by rw [beq_toList]; exact decide_eq_false hz
              have HR := Lib.hid (HM0.out.trans (meetL_no hv hz))
              clear hz hv htv HM0 HOA
              go_wp2
              go_ret
              exact try_none HR.out (HB0.out.trans (HBA.out.mono (by have := HS0.out; omega)))
          · have hv : valT m t = getB t.name m := by unfold valT; rw [htv]; rfl
            rw [htv] at d0 HOA HBA
            have hget := HOA.out.getOk hts
            cases hg : getB t.name m with
            | none =>
              rw [hg] at hget hv
              obtain ⟨w5, hput, hm5, hg5⟩ := HOA.out.put (s := t.name) (x := z) (by unfold maxLen; omega) hts hzs
              rw [getB_snoc hg] at hm5
              have HM1 := Lib.hid (HM0.out.trans (meetL_new hv))
              have HO5 := Lib.hid hm5
              have HB5 := Lib.hid (HBA.out.grown hg5 (by simp; omega) (fun j hj => by cases hj; exact Nat.le_refl _))
              have hq5 : ∀ c, c < wr.heap.size + 1 → c ≠ bo → ∀ o, w5.cell? ⟨c, o, none⟩ = (wr.alloc (.cells #[.bool true, .string t.name] 67)).cell? ⟨c, o, none⟩ := fun c hc hne o => by
                have := hg5.block c (by simp; omega) (fun e => hne (Option.some.inj e))
                simp only [World.cell?, this]
              have hbo := HO.out.lt
              have e1 : w5.cell? ⟨wr.heap.size, 1, none⟩ = some (.string t.name) := (hq5 wr.heap.size (by omega) (by omega) 1).trans (by simp)
              have e2 : w5.cell? ⟨w.heap.size + 1, 1, none⟩ = some (.slice (some ⟨b2, o2, none⟩) f.args.length fc) := (hq5 _ (by omega) (by have := HS0.out; omega) 1).trans ((cell_below ((Below.refl wr.heap.size wr).alloc (Nat.le_refl _) _) j1 1).trans c1)
              have e3 : w5.cell? ⟨b2, o2 + k, none⟩ = some (.string z) := (hq5 b2 (by omega) (by have := HS0.out; omega) (o2 + k)).trans ((cell_below ((Below.refl wr.heap.size wr).alloc (Nat.le_refl _) _) j2 (o2 + k)).trans c2)
              clear hq5 hg hv htv HM0 HOA hm5 hg5
              go_wp2
              go_roundw
              case rel => exact ⟨k + 1, _, by omega, by go_num, HO5, HB5, HM1⟩
              case measure => simp [intOf]; omega
            | some x =>
              rw [hg] at hget hv
              by_cases hz : x = z
              · have gz2 : (x.toList == z.toList) = true := by rw [hz]; simp
                have HM1 := Lib.hid (HM0.out.trans (meetL_yes hv hz))
                have HO2 := Lib.hid (HOA.out.mono (show n + k ≤ n + (k + 1) by omega))
                clear hz hv htv HM0 hg HOA
                go_wp2
                go_roundw
                case rel => exact ⟨k + 1, m, by omega, by go_num, HO2, HBA, HM1⟩
                case measure => simp [intOf]; omega
              · have gz2 : (x.toList == z.toList) = false := by rw [beq_toList]; exact decide_eq_false hz
                have HR := Lib.hid (HM0.out.trans (meetL_no hv hz))
                clear hz hv htv HM0 hg HOA
                go_wp2
                go_ret
                exact try_none HR.out (HB0.out.trans (HBA.out.mono (by have := HS0.out; omega)))
        · have HR := Lib.hid (show meetP a f l = some m by rw [HMM.out, List.drop_eq_nil_of_le (by omega)]; rfl)
          have hke : k = a.terms.length := by omega
          subst hke
          clear HMM
          go_wp2
          go_ret
          exact try_some HR.out HBw.out (by have := HS0.out; omega) HO.out
    · intro s x w1 cnt1 hss hxs hls hfs hrg1 hlt hg1 hz1 hen
      have HO1 := Lib.hid (HO.out.kept hg1 (by simp))
      have hB1 := HB.out.grown hg1 hsz (fun j hj => by cases hj; exact Nat.le_succ _)
      obtain ⟨w2, hput, hm2, hg2⟩ := HO1.out.put (s := s) (x := x) (by unfold maxLen; omega) hss hxs
      have hrg2 := hrg1.kept hg2 (fun e => by have := Option.some.inj e; have := HS0.out; omega) (fun e => by have := Option.some.inj e; omega)
      have HR2 := Lib.hid hrg2
      have HO2 := Lib.hid (show MapE w2 bo (m + 1) (taken (fun v => getB v l) (fun z => left z && !z.sameKey (keyL s))) by rw [← taken_step hfs]; exact hm2)
      have HB2 := Lib.hid (hB1.grown hg2 (by have := hB1.size; omega) (fun j hj => by cases hj; exact Nat.le_refl _))
      clear hls hfs hrg1 hg1 hm2 hg2 hB1 HO1 hss hxs hrg2
      go_wp2
      go_roundw
      case rel => exact ⟨_, cnt1, m + 1, by omega, HR2, HO2, HB2⟩
      case measure => rw [HR2.out.left_eq, HR.out.left_eq]; exact hlt
end Go.Proofs.Ythieomebngiabaa
namespace Go.Proofs.Ythieomebngiabaa
open Go.RowKit
theorem RdSlice.take {α : Type} {k : Nat} {R : Reader α} {S : Nat → Prop} {w : World} {a : Option Addr} {n cap : Nat} {l : List α} (h : RdSlice k R S w (.slice a n cap) l) {j : Nat} (hj : j ≤ l.length) : RdSlice k R S w (.slice a j cap) (l.take j) := by
  obtain ⟨a', cap', hv, h1, h2, h0, h3⟩ := h
  injection hv with e1 e2 e3
  subst e1 e3
  have hl : (l.take j).length = j := by rw [List.length_take]; omega
  refine ⟨a, cap, by rw [hl], by omega, h2, h0, fun i x hx => ?_⟩
  have hi : i < j := by have := (List.getElem?_eq_some_iff.1 hx).1; omega
  rw [List.getElem?_take_of_lt hi] at hx
  exact h3 i x hx
theorem RdSlice.drop {α : Type} {k : Nat} {R : Reader α} {S : Nat → Prop} {w : World} {a : Option Addr} {n cap : Nat} {l : List α} (h : RdSlice k R S w (.slice a n cap) l) {j : Nat} (hj : j ≤ l.length) :
    RdSlice k R S w (.slice (if cap = j then a else a.map (·.add (j * k))) (l.length - j) (cap - j)) (l.drop j) := by
  obtain ⟨a', cap', hv, h1, h2, h0, h3⟩ := h
  injection hv with e1 e2 e3
  subst e1 e3
  have hl : (l.drop j).length = l.length - j := List.length_drop
  refine ⟨_, cap - j, by rw [hl], by omega, by omega, fun e => ?_, fun i x hx => ?_⟩
  · split at e
    · omega
    · cases a with
      | none => rw [h0 rfl]; omega
      | some p => simp at e
  · rw [List.getElem?_drop] at hx
    have hi := (List.getElem?_eq_some_iff.1 hx).1
    obtain ⟨b, off, cs, ha, hS, hb, hk, hc, hr⟩ := h3 (j + i) x hx
    subst ha
    refine ⟨b, off + j * k, cs, ?_, hS, hb, hk, fun t u hu => ?_, hr⟩
    · rw [if_neg (by omega)]
      simp only [Option.map_some, Addr.add]
      split
      · rename_i hz; rw [hz]; rfl
      · rfl
    · have := hc t u hu
      rwa [show off + (j + i) * k + t = off + j * k + i * k + t by rw [Nat.add_mul]; omega] at this
theorem RdSlice.drop_some {α : Type} {k : Nat} {R : Reader α} {S : Nat → Prop} {w : World} {b o : Nat} {n cap : Nat} {l : List α} (h : RdSlice k R S w (.slice (some ⟨b, o, none⟩) n cap) l) {j : Nat} (hj : j ≤ l.length) :
    RdSlice k R S w (.slice (if cap = j then some ⟨b, o, none⟩ else some ⟨b, o + j * k, none⟩) (l.length - j) (cap - j)) (l.drop j) := by
  have := h.drop hj
  simp only [Option.map_some, Addr.add] at this
  split at this
  · split
    · assumption
    · rename_i h1 h2; exact absurd h1 h2
  · rename_i hne
    rw [if_neg hne]
    split at this
    · rename_i h0
      rw [h0]
      exact this
    · exact this
theorem RdSlice.nothing {α : Type} {k : Nat} {R : Reader α} {S : Nat → Prop} {w : World} {a : Option Addr} {cap : Nat} (hm : cap ≤ maxLen) (h0 : a = none → cap = 0) : RdSlice k R S w (.slice a 0 cap) ([] : List α) :=
  ⟨a, cap, rfl, Nat.zero_le _, hm, h0, fun i x hx => by simp at hx⟩
end Go.Proofs.Ythieomebngiabaa
namespace Go.Proofs.Ythieomebngiabaa
open Go.RowKit
section
variable {α : Type} {B : Nat} {s : Str} {w w' : World} {V : α → Value → World → Prop} {g : Got α} {e : Ending}
end
def Blk (w : World) (g : Nat) (t : TypeId) (cs : Array Value) : Prop := w.heap[g]? = some (.cells cs t (0, 0))
section
variable {w w' : World} {g : Nat} {t : TypeId} {cs : Array Value}
theorem Blk.lt (h : Blk w g t cs) : g < w.heap.size := (Array.getElem?_eq_some_iff.1 h).1
theorem Blk.cell (h : Blk w g t cs) (i : Nat) : w.cell? ⟨g, i, none⟩ = cs[i]? := cell_of_row w g i cs t (0, 0) h
theorem Blk.frozen (h : Blk w g t cs) (i : Nat) : w.frozen? ⟨g, i, none⟩ = false := by
  unfold Blk at h
  simp [World.frozen?, h]
theorem Blk.new (w : World) (t : TypeId) (cs : Array Value) : Blk (w.alloc (.cells cs t)) w.heap.size t cs := heap_alloc_new w _
theorem Blk.drew (h : Blk w g t cs) : Blk w.drew g t cs := h
theorem Blk.drewN (h : Blk w g t cs) (n : Nat) : Blk (w.drewN n) g t cs := h
theorem Blk.alloc (h : Blk w g t cs) (o : Obj) : Blk (w.alloc o) g t cs := (Below.heap_alloc w o g h.lt).trans h
theorem Blk.set_ (h : Blk w g t cs) (i : Nat) (u : Value) : Blk (w.setCell ⟨g, i, none⟩ u) g t (cs.setIfInBounds i u) := by
  unfold Blk at h ⊢
  simp [World.setCell, Array.getElem?_modify, h]
theorem Blk.far (h : Blk w g t cs) {p : Addr} (hp : g ≠ p.block) (u : Value) : Blk (w.setCell p u) g t cs := (Below.heap_setCell w p u g hp).trans h
theorem Blk.below {B : Nat} (h : Blk w g t cs) (hb : Below B w w') (hg : g < B) : Blk w' g t cs := (hb.block g hg).trans h
theorem Blk.grown {row : Option Nat} (h : Blk w g t cs) (hb : w.grownBy w' row) (hg : some g ≠ row) : Blk w' g t cs := (hb.block g h.lt hg).trans h
end
theorem But.row {B : Nat} {a w w' : World} {row : Option Nat} (h : But B a w) (hg : w.grownBy w' row) (hr : ∀ q, row = some q → a.heap.size ≤ q) : But B a w' :=
  ⟨h.os ▸ hg.os ▸ rfl, h.tape ▸ hg.tape ▸ rfl, h.output ▸ hg.output ▸ rfl, Nat.le_trans h.size hg.size, fun i hi hne => (hg.block i (Nat.lt_of_lt_of_le hi h.size) (fun e => by have := hr i e.symm; omega)).trans (h.block i hi hne)⟩
attribute [local go_sem ↓] Go.wp_at_zero Go.wp_at_succ
end Go.Proofs.Ythieomebngiabaa
namespace Go.Proofs.Ythieomebngiabaa
open Go.RowKit
theorem fillArgs_snoc {l : Binds} {t : PTerm} {n : Str} (hv : valT l t = some n) : ∀ {ts : List PTerm} {ns : List Str}, fillArgs l ts = some ns → fillArgs l (ts ++ [t]) = some (ns ++ [n])
  | [], ns, h => by obtain rfl := Option.some.inj h; simp [fillArgs, hv]
  | u :: ts, ns, h => by
    rw [List.cons_append]
    unfold fillArgs at h ⊢
    cases hu : valT l u with
    | none => rw [hu] at h; cases h
    | some m =>
      rw [hu] at h
      dsimp only at h ⊢
      cases hr : fillArgs l ts with
      | none => rw [hr] at h; cases h
      | some r => rw [hr] at h; obtain rfl := Option.some.inj h; rw [fillArgs_snoc hv hr]; rfl
theorem fillArgs_none {l : Binds} {t : PTerm} (hv : valT l t = none) : ∀ {ts : List PTerm}, t ∈ ts → fillArgs l ts = none
  | u :: ts, h => by
    unfold fillArgs
    rcases List.mem_cons.1 h with rfl | h
    · rw [hv]
    · cases hu : valT l u with
      | none => rfl
      | some m => dsimp only; rw [fillArgs_none hv h]; rfl
def FillPost (a : PAtom) (l : Binds) (w : World) (e : Ending) (w' : World) : Prop :=
  Below w.heap.size w w' ∧ match fillP a l with
    | none => e = .returned (.tuple #[.agg #[.string ⟨#[]⟩, .slice none 0 0], .bool false])
    | some f => ∃ v, e = .returned (.tuple #[.agg #[.string f.name, v], .bool true]) ∧ RdStrs (New w) w' v f.args
theorem fill_no {a : PAtom} {l : Binds} {w w' : World} (h : fillP a l = none) (hb : Below w.heap.size w w') : FillPost a l w (.returned (.tuple #[.agg #[.string ⟨#[]⟩, .slice none 0 0], .bool false])) w' := ⟨hb, by rw [h]⟩
theorem fill_yes {a : PAtom} {l : Binds} {w w' : World} {v : Value} {ns : List Str} (h : fillArgs l a.terms = some ns) (hb : Below w.heap.size w w') (hv : RdStrs (New w) w' v ns) : FillPost a l w (.returned (.tuple #[.agg #[.string a.name, v], .bool true])) w' :=
  ⟨hb, by unfold fillP; rw [h]; exact ⟨v, rfl, hv⟩⟩
attribute [local go_sem ↓] Go.wp_at_zero Go.wp_at_succ
set_option maxRecDepth 100000 in
set_option maxHeartbeats 8000000 in
theorem fillCalls {S S2 : Nat → Prop} (a : PAtom) (tv : Value) (lv : Value) (l : Binds) (w : World) (ht : RdTerms S w tv a.terms) (hl : RdBinds S2 w lv l) (n1 : a.terms.length ≤ 1048576) (n2 : l.length ≤ 1073741824) :
    Calls Try.prog 8 #[.agg #[.bool a.neg, .string a.name, tv], lv] w (FillPost a l w) := by
  obtain ⟨ta, tc, rfl, -, -, -⟩ := id ht.form
  obtain ⟨la, lc, rfl, -, -, -⟩ := id hl.form
  have HT := Lib.hid ht
  have HL := Lib.hid hl
  clear ht hl
  go_enter Try.func8, Try.ntmps8
  go_wp2
  have HB0 := Lib.hid ((((Below.refl w.heap.size w).alloc (Nat.le_refl _) (.cells #[.bool a.neg, .string a.name, .slice ta a.terms.length tc] 38)).alloc (by simp) (.cells #[.string ⟨#[]⟩, .slice none 0 0] 41)).alloc (by simp; omega) (.cells #[.string a.name, .slice none 0 0] 41))
  have HK1 := Lib.hid (((show Blk ((w.alloc (.cells #[.bool a.neg, .string a.name, .slice ta a.terms.length tc] 38)).alloc (.cells #[.string ⟨#[]⟩, .slice none 0 0] 41)) (w.heap.size + 1) 41 #[.string ⟨#[]⟩, .slice none 0 0] from heap_new_at (by simp)).alloc (.cells #[.string a.name, .slice none 0 0] 41)))
  have HK2 := Lib.hid (show Blk (((w.alloc (.cells #[.bool a.neg, .string a.name, .slice ta a.terms.length tc] 38)).alloc (.cells #[.string ⟨#[]⟩, .slice none 0 0] 41)).alloc (.cells #[.string a.name, .slice none 0 0] 41)) (w.heap.size + 1 + 1) 41 #[.string a.name, .slice none 0 0] from heap_new_at (by simp))
  go_loopw [18] (fun i wr => ∃ (k : Nat) (ns : List Str) (av : Value), k ≤ a.terms.length ∧ i = .int .i64 k ∧ Hid (Below w.heap.size w wr) ∧ Hid (fillArgs l (a.terms.take k) = some ns) ∧ Hid (Blk wr (w.heap.size + 1) 41 #[.string ⟨#[]⟩, .slice none 0 0]) ∧ Hid (Blk wr (w.heap.size + 1 + 1) 41 #[.string a.name, av]) ∧ Hid (Owned 1 RStr (w.heap.size + 3) 9 (fun _ => False) wr av ns)) (fun i _ => a.terms.length - (intOf i).toNat)
  case atStart => exact ⟨0, [], _, Nat.zero_le _, rfl, HB0, Lib.hid (by rw [List.take_zero]; rfl), HK1, HK2, Lib.hid Owned.nil⟩
  case round =>
    clear HB0 HK1 HK2
    obtain ⟨k, ns, av, hk, rfl, HB, HF, HK1, HK2, HO⟩ := hrel
    obtain ⟨aa, ac, efm, -, -, -⟩ := (HO.out.read RStr.steady).form
    subst efm
    have HNL := Lib.hid (show ns.length < 1099511627776 by have := fillArgs_len HF.out; rw [List.length_take] at this; omega)
    have hsz : w.heap.size + 3 ≤ wr.heap.size := by have := HK2.out.lt; omega
    by_cases hlt : k < a.terms.length
    · obtain ⟨t, hx⟩ : ∃ t, a.terms[k]? = some t := ⟨_, List.getElem?_eq_getElem hlt⟩
      obtain ⟨b1, o1, rfl, -, -, d0, d1⟩ := RdTerms.at (HT.out.up HB.out) hx
      have HS := Lib.hid (fun n (hv : valT l t = some n) => (show fillArgs l (a.terms.take (k + 1)) = some (ns ++ [n]) by rw [List.take_add_one, hx]; exact fillArgs_snoc hv HF.out))
      have HNO := Lib.hid (fun (hv : valT l t = none) => (show fillP a l = none by unfold fillP; rw [fillArgs_none hv (List.mem_of_getElem? hx)]; rfl))
      obtain ⟨W1, hW1⟩ : ∃ W1 : World, wr.alloc (.cells #[.bool t.var, .string t.name] 67) = W1 := ⟨_, rfl⟩
      have hs1 : W1.heap.size = wr.heap.size + 1 := by subst hW1; simp
      have hbx : Below wr.heap.size wr W1 := by subst hW1; exact (Below.refl _ _).alloc (Nat.le_refl _) _
      have HB1 := Lib.hid (HB.out.trans (hbx.mono HB.out.size))
      have HO1 := Lib.hid (HO.out.below RStr.steady hbx)
      have HK11 := Lib.hid (HK1.out.below hbx (by omega))
      have HK21 := Lib.hid (HK2.out.below hbx (by omega))
      have KG := Lib.hid (getCalls (.slice la l.length lc) l t.name W1 (HL.out.up HB1.out) (by omega))
      have e1 : W1.cell? ⟨wr.heap.size, 1, none⟩ = some (.string t.name) := by subst hW1; simp
      have e0 : W1.cell? ⟨wr.heap.size, 0, none⟩ = some (.bool t.var) := by subst hW1; simp
      have hne : wr.heap.size ≠ w.heap.size + 1 + 1 := by omega
      clear hx hbx HB HO HK1 HK2
      cases htv : t.var
      · have hv : valT l t = some t.name := by unfold valT; rw [htv]; rfl
        have HF1 := Lib.hid (HS.out _ hv)
        rw [htv] at d0 hW1 e0
        clear hv htv HNO KG
        have g1 : W1.cell? ⟨w.heap.size + 1 + 1, 1, none⟩ = some (.slice aa ns.length ac) := HK21.out.cell 1
        go_wp2_with (at_builtin; refine wpList_append_one (B := w.heap.size + 3) (e := 9) (S := fun _ => False) (by rfl) _ _ 39 (by rfl) RStr.steady rowStrs _ ns (by rfl) (HO1.out.alloc RStr.steady _) (wr.heap.size + 1) 1 #[.string t.name] 9 (0, 0) t.name (by rfl) (heap_new_at hs1) rfl (by simp [Value.oneCell']) rfl HNL.out (by simp; omega) ?_; intro v2 w2 hown2 hg2 hat2; obtain ⟨a2, c2, rfl, -, -, -⟩ := id (hown2.read RStr.steady).form; rw [show (ns ++ [t.name]).length = ns.length + 1 by simp] at hown2; have HO2 := Lib.hid hown2; have HB2 := Lib.hid ((HB1.out.alloc (by have := HB1.out.size; omega) _).grown hg2 (by have := HB1.out.size; simp; omega) (fun q hq => by have := (HO1.out.row_lt hq).1; omega)); have HK12 := Lib.hid ((HK11.out.alloc _).grown hg2 (fun e => by have := (HO1.out.row_lt e.symm).1; omega)); have HK22 := Lib.hid ((HK21.out.alloc _).grown hg2 (fun e => by have := (HO1.out.row_lt e.symm).1; omega)); have g2 : w2.cell? ⟨w.heap.size + 1 + 1, 1, none⟩ = some (.slice aa ns.length ac) := HK22.out.cell 1; have x2 := HK22.out.frozen 1; clear hown2 hg2 hat2)
        have hcs : (2 : Nat) ≠ 1 := by omega
        go_roundw
        case rel => exact ⟨k + 1, _, _, by omega, by go_num, Lib.hid (HB2.out.setCell (by show w.heap.size ≤ w.heap.size + 1 + 1; omega) _), HF1, Lib.hid (HK12.out.far (p := ⟨w.heap.size + 1 + 1, 1, none⟩) (by show w.heap.size + 1 ≠ w.heap.size + 1 + 1; omega) _), Lib.hid (HK22.out.set_ 1 _), Lib.hid (HO2.out.setCell RStr.steady (p := ⟨w.heap.size + 1 + 1, 1, none⟩) (fun h => h) (fun e => by have := (HO2.out.row_lt e).1; have h2 : w.heap.size + 3 ≤ w.heap.size + 1 + 1 := this; omega) _)⟩
        case measure => simp [intOf]; omega
      · have hv : valT l t = getB t.name l := by unfold valT; rw [htv]; rfl
        rw [htv] at d0 hW1 e0
        clear htv
        cases hg : getB t.name l with
        | none =>
          rw [hg] at KG hv
          have HE := Lib.hid (HNO.out hv)
          clear hg hv HS HNO
          go_wp2_with (go_at_call 13; refine (KG.out).mono ?_; rintro e w1 ⟨rfl, hb1⟩; dsimp only [getV]; have HB2 := Lib.hid (HB1.out.trans (hb1.mono (Below.size HB1.out))); have HO2 := Lib.hid (HO1.out.below RStr.steady hb1); have HK12 := Lib.hid (HK11.out.below hb1 (by omega)); have HK22 := Lib.hid (HK21.out.below hb1 (by omega)); have hs2 : wr.heap.size + 1 ≤ w1.heap.size := (by have := hb1.size; omega); have z0 : w1.cell? ⟨w.heap.size + 1, 0, none⟩ = some (.string ⟨#[]⟩) := HK12.out.cell 0; have z1 : w1.cell? ⟨w.heap.size + 1, 1, none⟩ = some (.slice none 0 0) := HK12.out.cell 1; have x0 := HK12.out.frozen 0; have x1 := HK12.out.frozen 1; have g1 : w1.cell? ⟨w.heap.size + 1 + 1, 1, none⟩ = some (.slice aa ns.length ac) := HK22.out.cell 1; clear hb1)
          refine bodyPost_ret (v := .tuple #[.agg #[.string ⟨#[]⟩, .slice none 0 0], .bool false]) (by simp [results, Try.results8, go_sem, z0, z1]) rfl ?_
          exact fill_no HE.out ((HB2.out.setCell (by show w.heap.size ≤ w.heap.size + 1; omega) _).setCell (by show w.heap.size ≤ w.heap.size + 1; omega) _)
        | some x =>
          rw [hg] at KG hv
          have HF1 := Lib.hid (HS.out _ hv)
          clear hg hv HS HNO
          go_wp2_with (first
            | (go_at_call 13; refine (KG.out).mono ?_; rintro e w1 ⟨rfl, hb1⟩; dsimp only [getV]; have HB2 := Lib.hid (HB1.out.trans (hb1.mono (Below.size HB1.out))); have HO2 := Lib.hid (HO1.out.below RStr.steady hb1); have HK12 := Lib.hid (HK11.out.below hb1 (by omega)); have HK22 := Lib.hid (HK21.out.below hb1 (by omega)); have hs2 : wr.heap.size + 1 ≤ w1.heap.size := (by have := hb1.size; omega); have z0 : w1.cell? ⟨w.heap.size + 1, 0, none⟩ = some (.string ⟨#[]⟩) := HK12.out.cell 0; have z1 : w1.cell? ⟨w.heap.size + 1, 1, none⟩ = some (.slice none 0 0) := HK12.out.cell 1; have x0 := HK12.out.frozen 0; have x1 := HK12.out.frozen 1; have g1 : w1.cell? ⟨w.heap.size + 1 + 1, 1, none⟩ = some (.slice aa ns.length ac) := HK22.out.cell 1; clear hb1)
            | (at_builtin; refine wpList_append_one (B := w.heap.size + 3) (e := 9) (S := fun _ => False) (by rfl) _ _ 39 (by rfl) RStr.steady rowStrs _ ns (by rfl) (HO2.out.alloc RStr.steady _) w1.heap.size 1 #[.string x] 9 (0, 0) x (by rfl) (heap_new_at rfl) rfl (by simp [Value.oneCell']) rfl HNL.out (by simp; omega) ?_; intro v3 w3 hown2 hg2 hat2; obtain ⟨a2, c2, rfl, -, -, -⟩ := id (hown2.read RStr.steady).form; rw [show (ns ++ [x]).length = ns.length + 1 by simp] at hown2; have HO3 := Lib.hid hown2; have HB3 := Lib.hid ((HB2.out.alloc (by have := HB2.out.size; omega) _).grown hg2 (by have := HB2.out.size; simp; omega) (fun q hq => by have := (HO2.out.row_lt hq).1; omega)); have HK13 := Lib.hid ((HK12.out.alloc _).grown hg2 (fun e => by have := (HO2.out.row_lt e.symm).1; omega)); have HK23 := Lib.hid ((HK22.out.alloc _).grown hg2 (fun e => by have := (HO2.out.row_lt e.symm).1; omega)); have g2 : w3.cell? ⟨w.heap.size + 1 + 1, 1, none⟩ = some (.slice aa ns.length ac) := HK23.out.cell 1; have y2 := HK23.out.frozen 1; clear hown2 hg2 hat2))
          go_roundw
          case rel => exact ⟨k + 1, _, _, by omega, by go_num, Lib.hid (HB3.out.setCell (by show w.heap.size ≤ w.heap.size + 1 + 1; omega) _), HF1, Lib.hid (HK13.out.far (p := ⟨w.heap.size + 1 + 1, 1, none⟩) (by show w.heap.size + 1 ≠ w.heap.size + 1 + 1; omega) _), Lib.hid (HK23.out.set_ 1 _), Lib.hid (HO3.out.setCell RStr.steady (p := ⟨w.heap.size + 1 + 1, 1, none⟩) (fun h => h) (fun e => by have := (HO3.out.row_lt e).1; have h2 : w.heap.size + 3 ≤ w.heap.size + 1 + 1 := this; omega) _)⟩
          case measure => simp [intOf]; omega
    · have HA := Lib.hid (show fillArgs l a.terms = some ns by have := HF.out; rwa [List.take_of_length_le (by omega)] at this)
      have z0 : wr.cell? ⟨w.heap.size + 1, 0, none⟩ = some (.string ⟨#[]⟩) := HK1.out.cell 0
      have z1 : wr.cell? ⟨w.heap.size + 1, 1, none⟩ = some (.slice none 0 0) := HK1.out.cell 1
      have x0 := HK1.out.frozen 0
      have x1 := HK1.out.frozen 1
      have y0 : wr.cell? ⟨w.heap.size + 1 + 1, 0, none⟩ = some (.string a.name) := HK2.out.cell 0
      have y1 : wr.cell? ⟨w.heap.size + 1 + 1, 1, none⟩ = some (.slice aa ns.length ac) := HK2.out.cell 1
      go_wp2
      refine bodyPost_ret (v := .tuple #[.agg #[.string a.name, .slice aa ns.length ac], .bool true]) (by simp [results, Try.results8, go_sem, z0, z1]) rfl ?_
      refine fill_yes HA.out ((HB.out.setCell (by show w.heap.size ≤ w.heap.size + 1; omega) _).setCell (by show w.heap.size ≤ w.heap.size + 1; omega) _) ?_
      have hno : ∀ i : Nat, (Value.slice aa ns.length ac).ownBlock ≠ some (⟨w.heap.size + 1, i, none⟩ : Addr).block := fun i e => by have := (HO.out.row_lt e).1; have h2 : w.heap.size + 3 ≤ w.heap.size + 1 := this; omega
      exact (((HO.out.setCell RStr.steady (fun h => h) (hno 0) _).setCell RStr.steady (fun h => h) (hno 1) _).read RStr.steady).more RStr.steady (fun b hb _ => hb.elim False.elim (fun h => by show w.heap.size ≤ b; omega))
end Go.Proofs.Ythieomebngiabaa
namespace Go.Proofs.Ythieomebngiabaa
open Go.RowKit Go.Maps
attribute [local go_sem ↓] Go.wp_at_zero Go.wp_at_succ
set_option maxRecDepth 100000 in
set_option maxHeartbeats 8000000 in
theorem fillRef {S : Nat → Prop} (a : PAtom) (tv : Value) (l : Binds) (b n : Nat) (w : World) (ht : RdTerms S w tv a.terms) (he : MapE w b n (fun v => getB v l)) (n1 : a.terms.length ≤ 1048576) (s1 : ∀ t ∈ a.terms, t.name.size ≤ 1048576) :
    Calls Try.prog 9 #[.agg #[.bool a.neg, .string a.name, tv], .map (some b)] w (FillPost a l w) := by
  obtain ⟨ta, tc, rfl, -, -, -⟩ := id ht.form
  have HT := Lib.hid ht
  have HM := Lib.hid he
  have S1 := Lib.hid s1
  have hbl := he.lt
  clear ht he s1
  go_enter Try.func9, Try.ntmps9
  go_wp2
  have HB0 := Lib.hid ((((Below.refl w.heap.size w).alloc (Nat.le_refl _) (.cells #[.bool a.neg, .string a.name, .slice ta a.terms.length tc] 38)).alloc (by simp) (.cells #[.string ⟨#[]⟩, .slice none 0 0] 41)).alloc (by simp; omega) (.cells #[.string a.name, .slice none 0 0] 41))
  have HK1 := Lib.hid (((show Blk ((w.alloc (.cells #[.bool a.neg, .string a.name, .slice ta a.terms.length tc] 38)).alloc (.cells #[.string ⟨#[]⟩, .slice none 0 0] 41)) (w.heap.size + 1) 41 #[.string ⟨#[]⟩, .slice none 0 0] from heap_new_at (by simp)).alloc (.cells #[.string a.name, .slice none 0 0] 41)))
  have HK2 := Lib.hid (show Blk (((w.alloc (.cells #[.bool a.neg, .string a.name, .slice ta a.terms.length tc] 38)).alloc (.cells #[.string ⟨#[]⟩, .slice none 0 0] 41)).alloc (.cells #[.string a.name, .slice none 0 0] 41)) (w.heap.size + 1 + 1) 41 #[.string a.name, .slice none 0 0] from heap_new_at (by simp))
  go_loopw [17] (fun i wr => ∃ (k : Nat) (ns : List Str) (av : Value), k ≤ a.terms.length ∧ i = .int .i64 k ∧ Hid (Below w.heap.size w wr) ∧ Hid (fillArgs l (a.terms.take k) = some ns) ∧ Hid (Blk wr (w.heap.size + 1) 41 #[.string ⟨#[]⟩, .slice none 0 0]) ∧ Hid (Blk wr (w.heap.size + 1 + 1) 41 #[.string a.name, av]) ∧ Hid (Owned 1 RStr (w.heap.size + 3) 9 (fun _ => False) wr av ns)) (fun i _ => a.terms.length - (intOf i).toNat)
  case atStart => exact ⟨0, [], _, Nat.zero_le _, rfl, HB0, Lib.hid (by rw [List.take_zero]; rfl), HK1, HK2, Lib.hid Owned.nil⟩
  case round =>
    clear HB0 HK1 HK2
    obtain ⟨k, ns, av, hk, rfl, HB, HF, HK1, HK2, HO⟩ := hrel
    obtain ⟨aa, ac, efm, -, -, -⟩ := (HO.out.read RStr.steady).form
    subst efm
    have HNL := Lib.hid (show ns.length < 1099511627776 by have := fillArgs_len HF.out; rw [List.length_take] at this; omega)
    have hsz : w.heap.size + 3 ≤ wr.heap.size := by have := HK2.out.lt; omega
    by_cases hlt : k < a.terms.length
    · obtain ⟨t, hx⟩ : ∃ t, a.terms[k]? = some t := ⟨_, List.getElem?_eq_getElem hlt⟩
      obtain ⟨b1, o1, rfl, -, -, d0, d1⟩ := RdTerms.at (HT.out.up HB.out) hx
      have HS := Lib.hid (fun n (hv : valT l t = some n) => (show fillArgs l (a.terms.take (k + 1)) = some (ns ++ [n]) by rw [List.take_add_one, hx]; exact fillArgs_snoc hv HF.out))
      have HNO := Lib.hid (fun (hv : valT l t = none) => (show fillP a l = none by unfold fillP; rw [fillArgs_none hv (List.mem_of_getElem? hx)]; rfl))
      obtain ⟨W1, hW1⟩ : ∃ W1 : World, wr.alloc (.cells #[.bool t.var, .string t.name] 67) = W1 := ⟨_, rfl⟩
      have hs1 : W1.heap.size = wr.heap.size + 1 := by subst hW1; simp
      have hbx : Below wr.heap.size wr W1 := by subst hW1; exact (Below.refl _ _).alloc (Nat.le_refl _) _
      have HB1 := Lib.hid (HB.out.trans (hbx.mono HB.out.size))
      have HO1 := Lib.hid (HO.out.below RStr.steady hbx)
      have HK11 := Lib.hid (HK1.out.below hbx (by omega))
      have HK21 := Lib.hid (HK2.out.below hbx (by omega))
      have hts : t.name.size ≤ maxLen := by have := S1.out t (List.mem_of_getElem? hx); unfold maxLen; omega
      have hget := (HM.out.below HB1.out hbl).getOk hts
      have e1 : W1.cell? ⟨wr.heap.size, 1, none⟩ = some (.string t.name) := by subst hW1; simp
      have e0 : W1.cell? ⟨wr.heap.size, 0, none⟩ = some (.bool t.var) := by subst hW1; simp
      have hne : wr.heap.size ≠ w.heap.size + 1 + 1 := by omega
      clear hx hbx HB HO HK1 HK2
      cases htv : t.var
      · have hv : valT l t = some t.name := by unfold valT; rw [htv]; rfl
        have HF1 := Lib.hid (HS.out _ hv)
        rw [htv] at d0 hW1 e0
        clear hv htv HNO hget
        have g1 : W1.cell? ⟨w.heap.size + 1 + 1, 1, none⟩ = some (.slice aa ns.length ac) := HK21.out.cell 1
        go_wp2_with (at_builtin; refine wpList_append_one (B := w.heap.size + 3) (e := 9) (S := fun _ => False) (by rfl) _ _ 39 (by rfl) RStr.steady rowStrs _ ns (by rfl) (HO1.out.alloc RStr.steady _) (wr.heap.size + 1) 1 #[.string t.name] 9 (0, 0) t.name (by rfl) (heap_new_at hs1) rfl (by simp [Value.oneCell']) rfl HNL.out (by simp; omega) ?_; intro v2 w2 hown2 hg2 hat2; obtain ⟨a2, c2, rfl, -, -, -⟩ := id (hown2.read RStr.steady).form; rw [show (ns ++ [t.name]).length = ns.length + 1 by simp] at hown2; have HO2 := Lib.hid hown2; have HB2 := Lib.hid ((HB1.out.alloc (by have := HB1.out.size; omega) _).grown hg2 (by have := HB1.out.size; simp; omega) (fun q hq => by have := (HO1.out.row_lt hq).1; omega)); have HK12 := Lib.hid ((HK11.out.alloc _).grown hg2 (fun e => by have := (HO1.out.row_lt e.symm).1; omega)); have HK22 := Lib.hid ((HK21.out.alloc _).grown hg2 (fun e => by have := (HO1.out.row_lt e.symm).1; omega)); have g2 : w2.cell? ⟨w.heap.size + 1 + 1, 1, none⟩ = some (.slice aa ns.length ac) := HK22.out.cell 1; have x2 := HK22.out.frozen 1; clear hown2 hg2 hat2)
        have hcs : (2 : Nat) ≠ 1 := by omega
        go_roundw
        case rel => exact ⟨k + 1, _, _, by omega, by go_num, Lib.hid (HB2.out.setCell (by show w.heap.size ≤ w.heap.size + 1 + 1; omega) _), HF1, Lib.hid (HK12.out.far (p := ⟨w.heap.size + 1 + 1, 1, none⟩) (by show w.heap.size + 1 ≠ w.heap.size + 1 + 1; omega) _), Lib.hid (HK22.out.set_ 1 _), Lib.hid (HO2.out.setCell RStr.steady (p := ⟨w.heap.size + 1 + 1, 1, none⟩) (fun h => h) (fun e => by have := (HO2.out.row_lt e).1; have h2 : w.heap.size + 3 ≤ w.heap.size + 1 + 1 := this; omega) _)⟩
        case measure => simp [intOf]; omega
      · have hv : valT l t = getB t.name l := by unfold valT; rw [htv]; rfl
        rw [htv] at d0 hW1 e0
        clear htv
        cases hg : getB t.name l with
        | none =>
          rw [hg] at hget hv
          have HE := Lib.hid (HNO.out hv)
          clear hg hv HS HNO
          have z0 : W1.cell? ⟨w.heap.size + 1, 0, none⟩ = some (.string ⟨#[]⟩) := HK11.out.cell 0
          have z1 : W1.cell? ⟨w.heap.size + 1, 1, none⟩ = some (.slice none 0 0) := HK11.out.cell 1
          have x0 := HK11.out.frozen 0; have x1 := HK11.out.frozen 1
          have g1 : W1.cell? ⟨w.heap.size + 1 + 1, 1, none⟩ = some (.slice aa ns.length ac) := HK21.out.cell 1
          go_wp2
          refine bodyPost_ret (v := .tuple #[.agg #[.string ⟨#[]⟩, .slice none 0 0], .bool false]) (by simp [results, Try.results9, go_sem, z0, z1]) rfl ?_
          exact fill_no HE.out ((HB1.out.setCell (by show w.heap.size ≤ w.heap.size + 1; omega) _).setCell (by show w.heap.size ≤ w.heap.size + 1; omega) _)
        | some x =>
          rw [hg] at hget hv
          have HF1 := Lib.hid (HS.out _ hv)
          clear hg hv HS HNO
          have g1 : W1.cell? ⟨w.heap.size + 1 + 1, 1, none⟩ = some (.slice aa ns.length ac) := HK21.out.cell 1
          go_wp2_with (at_builtin; refine wpList_append_one (B := w.heap.size + 3) (e := 9) (S := fun _ => False) (by rfl) _ _ 39 (by rfl) RStr.steady rowStrs _ ns (by rfl) (HO1.out.alloc RStr.steady _) (wr.heap.size + 1) 1 #[.string x] 9 (0, 0) x (by rfl) (heap_new_at hs1) rfl (by simp [Value.oneCell']) rfl HNL.out (by simp; omega) ?_; intro v2 w2 hown2 hg2 hat2; obtain ⟨a2, c2, rfl, -, -, -⟩ := id (hown2.read RStr.steady).form; rw [show (ns ++ [x]).length = ns.length + 1 by simp] at hown2; have HO2 := Lib.hid hown2; have HB2 := Lib.hid ((HB1.out.alloc (by have := HB1.out.size; omega) _).grown hg2 (by have := HB1.out.size; simp; omega) (fun q hq => by have := (HO1.out.row_lt hq).1; omega)); have HK12 := Lib.hid ((HK11.out.alloc _).grown hg2 (fun e => by have := (HO1.out.row_lt e.symm).1; omega)); have HK22 := Lib.hid ((HK21.out.alloc _).grown hg2 (fun e => by have := (HO1.out.row_lt e.symm).1; omega)); have g2 : w2.cell? ⟨w.heap.size + 1 + 1, 1, none⟩ = some (.slice aa ns.length ac) := HK22.out.cell 1; have x2 := HK22.out.frozen 1; clear hown2 hg2 hat2)
          go_roundw
          case rel => exact ⟨k + 1, _, _, by omega, by go_num, Lib.hid (HB2.out.setCell (by show w.heap.size ≤ w.heap.size + 1 + 1; omega) _), HF1, Lib.hid (HK12.out.far (p := ⟨w.heap.size + 1 + 1, 1, none⟩) (by show w.heap.size + 1 ≠ w.heap.size + 1 + 1; omega) _), Lib.hid (HK22.out.set_ 1 _), Lib.hid (HO2.out.setCell RStr.steady (p := ⟨w.heap.size + 1 + 1, 1, none⟩) (fun h => h) (fun e => by have := (HO2.out.row_lt e).1; have h2 : w.heap.size + 3 ≤ w.heap.size + 1 + 1 := this; omega) _)⟩
          case measure => simp [intOf]; omega
    · have HA := Lib.hid (show fillArgs l a.terms = some ns by have := HF.out; rwa [List.take_of_length_le (by omega)] at this)
      have z0 : wr.cell? ⟨w.heap.size + 1, 0, none⟩ = some (.string ⟨#[]⟩) := HK1.out.cell 0
      have z1 : wr.cell? ⟨w.heap.size + 1, 1, none⟩ = some (.slice none 0 0) := HK1.out.cell 1
      have x0 := HK1.out.frozen 0
      have x1 := HK1.out.frozen 1
      have y0 : wr.cell? ⟨w.heap.size + 1 + 1, 0, none⟩ = some (.string a.name) := HK2.out.cell 0
      have y1 : wr.cell? ⟨w.heap.size + 1 + 1, 1, none⟩ = some (.slice aa ns.length ac) := HK2.out.cell 1
      go_wp2
      refine bodyPost_ret (v := .tuple #[.agg #[.string a.name, .slice aa ns.length ac], .bool true]) (by simp [results, Try.results9, go_sem, z0, z1]) rfl ?_
      refine fill_yes HA.out ((HB.out.setCell (by show w.heap.size ≤ w.heap.size + 1; omega) _).setCell (by show w.heap.size ≤ w.heap.size + 1; omega) _) ?_
      have hno : ∀ i : Nat, (Value.slice aa ns.length ac).ownBlock ≠ some (⟨w.heap.size + 1, i, none⟩ : Addr).block := fun i e => by have := (HO.out.row_lt e).1; have h2 : w.heap.size + 3 ≤ w.heap.size + 1 := this; omega
      exact (((HO.out.setCell RStr.steady (fun h => h) (hno 0) _).setCell RStr.steady (fun h => h) (hno 1) _).read RStr.steady).more RStr.steady (fun b hb _ => hb.elim False.elim (fun h => by show w.heap.size ≤ b; omega))
end Go.Proofs.Ythieomebngiabaa
namespace Go.Proofs.Ythieomebngiabaa
open Go.RowKit Go.Maps
def REnv (N : Nat) : Reader Binds := fun S w cs l => ∃ b, cs = [.map (some b)] ∧ S b ∧ MapE w b N fun v => getB v l
theorem REnv.steady (N : Nat) : Steady (REnv N) :=
  ⟨fun h ⟨b, h1, h2, h3⟩ => ⟨b, h1, h2, h3.moved (h.2 b h2 h3.lt)⟩, fun h ⟨b, h1, h2, h3⟩ => ⟨b, h1, h b h2 h3.lt, h3⟩⟩
theorem RdSlice.mapR {α : Type} {k : Nat} {R R' : Reader α} (hR : ∀ {S w cs x}, R S w cs x → R' S w cs x) {S : Nat → Prop} {w : World} {v : Value} {l : List α} (r : RdSlice k R S w v l) : RdSlice k R' S w v l := by
  obtain ⟨a, cap, hv, h1, h2, h0, h3⟩ := r
  refine ⟨a, cap, hv, h1, h2, h0, fun i x hx => ?_⟩
  obtain ⟨b, off, cs, ha, hS, hb, hk, hc, hr⟩ := h3 i x hx
  exact ⟨b, off, cs, ha, hS, hb, hk, hc, hR hr⟩
abbrev RdEnvs (N : Nat) := RdSlice 1 (REnv N)
theorem RdEnvs.mono {N M : Nat} (h : N ≤ M) {S : Nat → Prop} {w : World} {v : Value} {l : List Binds} (r : RdEnvs N S w v l) : RdEnvs M S w v l :=
  RdSlice.mapR (fun ⟨b, h1, h2, h3⟩ => ⟨b, h1, h2, h3.mono h⟩) r
theorem RdEnvs.at {N : Nat} {S : Nat → Prop} {w : World} {a : Option Addr} {n cap : Nat} {l : List Binds} (h : RdEnvs N S w (.slice a n cap) l) {i : Nat} {x : Binds} (hx : l[i]? = some x) :
    ∃ b off m, a = some ⟨b, off, none⟩ ∧ S b ∧ b < w.heap.size ∧ w.cell? ⟨b, off + i, none⟩ = some (.map (some m)) ∧ S m ∧ MapE w m N fun v => getB v x := by
  obtain ⟨a', cap', hv, h1, h2, h0, h3⟩ := h
  obtain ⟨b, off, cs, ha, hS, hb, hk, hc, ⟨m, rfl, hm1, hm2⟩⟩ := h3 i x hx
  injection hv with e1 e2 e3
  subst e1
  refine ⟨b, off, m, ha, hS, hb, ?_, hm1, hm2⟩
  have := hc 0 _ rfl
  simpa using this
theorem rowEnvs : RowT Try.prog 61 32 1 := RowT.mk' (b := 8) (z := .map none) Try.underlying61 (by kernel_rfl) (by omega) rfl (by omega)
def goodP (pick : Nat → List PFact) : Nat → List PAtom → Binds → Bool
  | _, [], _ => true
  | i, a :: b, l => !(a.neg && hitP a (pick i) l) && goodP pick (i + 1) b l
theorem notP_filter (pick : Nat → List PFact) : ∀ (b : List PAtom) (i : Nat) (ls : List Binds), notP pick i ls b = ls.filter (goodP pick i b)
  | [], i, ls => by
    rw [notP]
    exact (List.filter_eq_self.2 fun _ _ => rfl).symm
  | a :: b, i, ls => by
    rw [notP, notP_filter pick b (i + 1)]
    cases hn : a.neg
    · rw [if_neg (by simp)]
      congr 1
      funext l
      rw [goodP, hn]; simp
    · rw [if_pos rfl, List.filter_filter]
      congr 1
      funext l
      rw [goodP, hn, Bool.and_comm]; simp
theorem goodP_snoc (pick : Nat → List PFact) (a : PAtom) (l : Binds) : ∀ (b : List PAtom) (i : Nat), goodP pick i (b ++ [a]) l = (goodP pick i b l && !(a.neg && hitP a (pick (i + b.length)) l))
  | [], i => by simp [goodP]
  | c :: b, i => by
    rw [List.cons_append, goodP, goodP, goodP_snoc pick a l b (i + 1), List.length_cons, show i + 1 + b.length = i + (b.length + 1) by omega, Bool.and_assoc]
theorem go_fill {pick : Nat → List PFact} {body : List PAtom} {ls : List Binds} (hb : bodyBad body = 0) (hg : goP pick 0 [[]] body = some ls) : ∀ l ∈ ls, ∀ a ∈ body, ∃ f, fillP a l = some f := fun l hl a ha => by
  obtain ⟨l0, h0, g1, -, g3, g4⟩ := goP_sound body 0 _ _ hg (fun l hl => by obtain rfl := List.mem_singleton.1 hl; exact List.Pairwise.nil) l hl
  obtain ⟨ns, hns⟩ := fillArgs_some (l := l) (ts := a.terms) fun t ht hv => by
    rw [g3]
    refine .inr ?_
    obtain ⟨c, hc, hcn, hcv⟩ := (mem_heldOf t.name body).1 (body_free hb ha ((mem_varsOf t.name a).2 ⟨t, ht, hv, rfl⟩))
    exact ⟨c, hc, hcn, hcv⟩
  exact ⟨⟨a.name, ns⟩, by unfold fillP; rw [hns]; rfl⟩
theorem pickRef (i at' : Int) (A L F : Nat) (ov fv : Value) (w : World) (h1 : Blk w A 3 #[.int .i64 at']) (h2 : Blk w L 23 #[ov]) (h3 : Blk w F 23 #[fv]) :
    Calls Try.prog 49 #[.int .i64 i, .pointer (some ⟨A, 0, none⟩), .pointer (some ⟨L, 0, none⟩), .pointer (some ⟨F, 0, none⟩)] w fun e w' => e = .returned (if i = at' then ov else fv) ∧ w = w' := by
  have c1 : w.cell? ⟨A, 0, none⟩ = some (.int .i64 at') := h1.cell 0
  have c2 : w.cell? ⟨L, 0, none⟩ = some ov := h2.cell 0
  have c3 : w.cell? ⟨F, 0, none⟩ = some fv := h3.cell 0
  clear h1 h2 h3
  obtain ⟨rv, hrv⟩ : ∃ rv, (if i = at' then ov else fv) = rv := ⟨_, rfl⟩
  rw [hrv]
  by_cases hi : i = at'
  · rw [if_pos hi] at hrv
    subst hrv
    have g : (i == at') = true := beq_iff_eq.2 hi
    clear hi
    go_enter Try.func49, Try.ntmps49
    go_wp2
    go_ret
    exact ⟨rfl, rfl⟩
  · rw [if_neg hi] at hrv
    subst hrv
    have g : (i == at') = false := beq_eq_false_iff_ne.2 hi
    clear hi
    go_enter Try.func49, Try.ntmps49
    go_wp2
    go_ret
    exact ⟨rfl, rfl⟩
end Go.Proofs.Ythieomebngiabaa
