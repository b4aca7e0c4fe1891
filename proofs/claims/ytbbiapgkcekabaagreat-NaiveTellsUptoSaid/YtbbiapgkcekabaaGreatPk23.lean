/-
  THE TEXTS EnvW, EnvH, EnvG, one behind the other.
-/
import Derived.Test.YtbbiapgkcekabaaGreatPk9
import Derived.Test.YtbbiapgkcekabaaGreatPk11
import Derived.Test.YtbbiapgkcekabaaGreatPk12
import Derived.Test.YtbbiapgkcekabaaGreatPk13
import Derived.Test.YtbbiapgkcekabaaGreatPk14
import Derived.Test.YtbbiapgkcekabaaGreatPk15
import Derived.Test.YtbbiapgkcekabaaGreatPk18
import Derived.Test.YtbbiapgkcekabaaGreatPk19
import Derived.Test.YtbbiapgkcekabaaGreatPk22
/-
  THE WALK OF cororef4.Envs.
-/
namespace Go.Proofs.YtbbiapgkcekabaaGreat
open Go.RowKit Go.Maps

/-- What Envs answers. -/
def EnvsPost (r : Option (List Binds)) (w : World) (e : Ending) (w' : World) : Prop :=
  Below w.heap.size w w' ∧ match r with
    | none => e = .returned (.tuple #[.slice none 0 0, .int .i64 4])
    | some ls => ∃ a c, e = .returned (.tuple #[.slice a ls.length c, .int .i64 0]) ∧ RdEnvs 20 (New w) w' (.slice a ls.length c) ls
/-- What the walk is of. -/
def envsP (body : List PAtom) (facts : List PFact) (at' : Int) (other : List PFact) : Option (List Binds) := (goP (pickP facts other at') 0 [[]] body).map fun ls => notP (pickP facts other at') 0 ls body
theorem envs_none {body : List PAtom} {facts : List PFact} {at' : Int} {other : List PFact} {w w' : World} (h : goP (pickP facts other at') 0 [[]] body = none) (hb : Below w.heap.size w w') : EnvsPost (envsP body facts at' other) w (.returned (.tuple #[.slice none 0 0, .int .i64 4])) w' :=
  ⟨hb, by unfold envsP; rw [h]; rfl⟩
theorem envs_some {body : List PAtom} {facts : List PFact} {at' : Int} {other : List PFact} {ls o : List Binds} {w w' : World} {a : Option Addr} {c : Nat} (h : goP (pickP facts other at') 0 [[]] body = some ls) (hb : Below w.heap.size w w') (ho : ls.filter (goodP (pickP facts other at') 0 body) = o) (hr : RdEnvs 20 (New w) w' (.slice a o.length c) o) :
    EnvsPost (envsP body facts at' other) w (.returned (.tuple #[.slice a o.length c, .int .i64 0])) w' := by
  refine ⟨hb, ?_⟩
  have h2 : envsP body facts at' other = some o := by unfold envsP; rw [h, ← ho, ← notP_filter]; rfl
  rw [h2]
  exact ⟨a, c, rfl, hr⟩
theorem RdEnvs.one {N : Nat} {S : Nat → Prop} {w : World} {b m : Nat} {x : Binds} (h : Blk w b 118 #[.map (some m)]) (hS : S b) (hm : S m) (hM : MapE w m N fun v => getB v x) : RdEnvs N S w (.slice (some ⟨b, 0, none⟩) 1 1) [x] := by
  refine ⟨some ⟨b, 0, none⟩, 1, rfl, Nat.le_refl _, by simp [maxLen], (fun h => by cases h), fun i y hy => ?_⟩
  rcases i with _ | i
  · obtain rfl := Option.some.inj hy
    refine ⟨b, 0, [.map (some m)], rfl, hS, h.lt, rfl, fun j u hu => ?_, m, rfl, hm, hM⟩
    rcases j with _ | j
    · obtain rfl := Option.some.inj hu
      exact h.cell 0
    · simp at hu
  · simp at hy

set_option maxRecDepth 100000 in
set_option maxHeartbeats 16000000 in
theorem envsRef {S S2 S3 : Nat → Prop} (body : List PAtom) (bv : Value) (facts : List PFact) (fv : Value) (at' : Int) (other : List PFact) (ov : Value) (w : World) (hb : RdAtoms S w bv body) (hf : RdFacts S2 w fv facts) (ho : RdFacts S3 w ov other)
    (hz : bodyBad body = 0) (b1 : ∀ a ∈ body, ∀ t ∈ a.terms, t.name.size ≤ 1048576)
    (n1 : facts.length ≤ 1048576) (n2 : ∀ x ∈ facts, x.args.length ≤ 1048576 ∧ ∀ a ∈ x.args, a.size ≤ 1048576) (m1 : other.length ≤ 1048576) (m2 : ∀ x ∈ other, x.args.length ≤ 1048576 ∧ ∀ a ∈ x.args, a.size ≤ 1048576) :
    Calls Tryz.prog 60 #[bv, fv, .int .i64 at', ov] w (EnvsPost (envsP body facts at' other) w) := by
  have hmm := @run_makeMap Tryz.prog
  have hnn : ∀ (W : World) (r : Option Nat), (binOp .neq 118 (.map r) (.map none)).run Tryz.prog W = .ok (.bool (!r.isNone)) W := fun W r => Go.run_neq_map_nil W _ _ _ r Tryz.underlying118
  obtain ⟨ba, bc, rfl, -, -, -⟩ := id hb.form
  obtain ⟨fa, fc, rfl, -, -, -⟩ := id hf.form
  obtain ⟨oa, oc, rfl, -, -, -⟩ := id ho.form
  have h5 := body_atoms hz
  have HT4 := Lib.hid (fun a (ha : a ∈ body) => body_terms hz ha)
  have HGF := Lib.hid (fun ls hg => go_fill (pick := pickP facts other at') (ls := ls) hz hg)
  have HB := Lib.hid hb
  have B1 := Lib.hid b1
  have HPK := Lib.hid (show ∀ k : Nat, ∃ pa pc, (if (k : Int) = at' then (Value.slice oa other.length oc) else .slice fa facts.length fc) = .slice pa (pickP facts other at' k).length pc ∧ RdFacts (fun _ => True) w (.slice pa (pickP facts other at' k).length pc) (pickP facts other at' k) ∧
      (pickP facts other at' k).length ≤ 1048576 ∧ ∀ x ∈ pickP facts other at' k, x.args.length ≤ 1048576 ∧ ∀ a ∈ x.args, a.size ≤ 1048576 from fun k => by
    unfold pickP
    by_cases e : (k : Int) = at'
    · rw [if_pos e, if_pos e]; exact ⟨oa, oc, rfl, ho.more RFact.steady (fun _ _ _ => trivial), m1, m2⟩
    · rw [if_neg e, if_neg e]; exact ⟨fa, fc, rfl, hf.more RFact.steady (fun _ _ _ => trivial), n1, n2⟩)
  generalize hpick : pickP facts other at' = pick at *
  obtain ⟨W0, hW0⟩ : ∃ W0 : World, ((((w.alloc (.cells #[.slice fa facts.length fc] 24)).alloc (.cells #[.int .i64 at'] 3)).alloc (.cells #[.slice oa other.length oc] 24)).alloc (.map #[] 0)).alloc (.cells #[.map (some (w.heap.size + 1 + 1 + 1))] 118) = W0 := ⟨_, rfl⟩
  have HB0 : Hid (Below w.heap.size w W0) := Lib.hid (by subst hW0; exact (((((Below.refl _ _).alloc (Nat.le_refl _) _).alloc (by simp) _).alloc (by simp; omega) _).alloc (by simp; omega) _).alloc (by simp; omega) _)
  have HKF : Hid (Blk W0 w.heap.size 24 #[.slice fa facts.length fc]) := Lib.hid (by subst hW0; exact ((((Blk.new w _ _).alloc _).alloc _).alloc _).alloc _)
  have HKA : Hid (Blk W0 (w.heap.size + 1) 3 #[.int .i64 at']) := Lib.hid (by subst hW0; exact (((Blk.at_ (by simp)).alloc _).alloc _).alloc _)
  have HKL : Hid (Blk W0 (w.heap.size + 1 + 1) 24 #[.slice oa other.length oc]) := Lib.hid (by subst hW0; exact ((Blk.at_ (by simp)).alloc _).alloc _)
  have HE0 : Hid (RdEnvs (4 * 0) (New w) W0 (.slice (some ⟨w.heap.size + 1 + 1 + 1 + 1, 0, none⟩) 1 1) [[]]) := Lib.hid (by
    subst hW0
    refine RdEnvs.one (m := w.heap.size + 1 + 1 + 1) (Blk.at_ (by simp)) (by show w.heap.size ≤ _; omega) (by show w.heap.size ≤ _; omega) ?_
    have hm := (MapE.made (((w.alloc (.cells #[.slice fa facts.length fc] 24)).alloc (.cells #[.int .i64 at'] 3)).alloc (.cells #[.slice oa other.length oc] 24))).alloc (.cells #[.map (some (w.heap.size + 1 + 1 + 1))] 118)
    rw [show (((w.alloc (.cells #[.slice fa facts.length fc] 24)).alloc (.cells #[.int .i64 at'] 3)).alloc (.cells #[.slice oa other.length oc] 24)).heap.size = w.heap.size + 1 + 1 + 1 by simp] at hm
    exact hm)
  have HG0 : Hid (goP pick 0 [[]] body = goP pick 0 [[]] (body.drop 0)) := Lib.hid rfl
  have HNone := Lib.hid (fun W (h : goP pick 0 [[]] body = none) (hW : Below w.heap.size w W) => envs_none (body := body) (facts := facts) (at' := at') (other := other) (by rw [hpick]; exact h) hW)
  have HSome := Lib.hid (fun W ls o a c (h : goP pick 0 [[]] body = some ls) (hW : Below w.heap.size w W) h2 h3 => envs_some (body := body) (facts := facts) (at' := at') (other := other) (o := o) (a := a) (c := c) (by rw [hpick]; exact h) hW (by rw [hpick]; exact h2) h3)
  have hw0 : w.heap.size + 1 + 1 < W0.heap.size := HKL.out.lt
  have KP := Lib.hid (fun (k : Nat) pa pc (he : (if (k : Int) = at' then (Value.slice oa other.length oc) else .slice fa facts.length fc) = .slice pa (pick k).length pc) W (hW : Below W0.heap.size W0 W) => (show Calls Tryz.prog 88 #[.int .i64 (k : Int), .pointer (some ⟨w.heap.size + 1, 0, none⟩), .pointer (some ⟨w.heap.size + 1 + 1, 0, none⟩), .pointer (some ⟨w.heap.size, 0, none⟩)] W fun e w' => e = .returned (.slice pa (pick k).length pc) ∧ W = w' by
    rw [← he]
    exact pickRef k at' _ _ _ _ _ W (HKA.out.below hW (by omega)) (HKL.out.below hW (by omega)) (HKF.out.below hW (by omega))))
  clear hb hf ho hz b1 n1 n2 m1 m2 hpick
  go_enter Tryz.func60, Tryz.ntmps60
  go_wp2
  clear hW0 hmm
  go_loopw [33, 10] (fun i v wr => ∃ (k : Nat) (ls : List Binds) (ea : Option Addr) (ec : Nat), k ≤ body.length ∧ i = .int .i64 k ∧ v = .slice ea ls.length ec ∧ ls.length ≤ 20000 ∧ Hid (RdEnvs (4 * k) (New w) wr (.slice ea ls.length ec) ls) ∧ Hid (Below W0.heap.size W0 wr) ∧ Hid (goP pick 0 [[]] body = goP pick k ls (body.drop k))) (fun i _ _ => body.length - (intOf i).toNat)
  case atStart => exact ⟨0, [[]], _, _, Nat.zero_le _, rfl, rfl, by simp, HE0, Lib.hid (Below.refl _ _), HG0⟩
  case round =>
    clear HE0 HG0
    obtain ⟨k, ls, ea, ec, hk, rfl, rfl, hls, HE, HBW, HG⟩ := hrel
    have HBw := Lib.hid (HB0.out.trans (HBW.out.mono (Below.size HB0.out)))
    have hsz := HBW.out.size
    by_cases hlt : k < body.length
    · obtain ⟨a, hx⟩ : ∃ a, body[k]? = some a := ⟨_, List.getElem?_eq_getElem hlt⟩
      obtain ⟨b4, o4, yv, rfl, -, -, e0, e1, e2, hyv⟩ := RdAtoms.at (HB.out.up HBw.out) hx
      obtain ⟨ya, yc, rfl, -, -, -⟩ := id hyv.form
      have hat4 := HT4.out a (List.mem_of_getElem? hx)
      have HA1 := Lib.hid (B1.out a (List.mem_of_getElem? hx))
      have HGN := Lib.hid (show goP pick 0 [[]] body = goP pick k ls (a :: body.drop (k + 1)) by rw [HG.out, drop_cons hx])
      have HY := Lib.hid hyv
      obtain ⟨W1, hW1⟩ : ∃ W1 : World, wr.alloc (.cells #[.bool a.neg, .string a.name, .slice ya a.terms.length yc] 40) = W1 := ⟨_, rfl⟩
      have HB1 : Hid (Below wr.heap.size wr W1) := Lib.hid (by subst hW1; exact (Below.refl _ _).alloc (Nat.le_refl _) _)
      have HK1 : Hid (Blk W1 wr.heap.size 40 #[.bool a.neg, .string a.name, .slice ya a.terms.length yc]) := Lib.hid (by subst hW1; exact Blk.new wr _ _)
      have HBX := Lib.hid (HBW.out.trans (HB1.out.mono hsz))
      have HEX := Lib.hid (RdSlice.agree (REnv.steady (4 * k)) (Below.agree HB1.out) HE.out)
      have HYX := Lib.hid (HY.out.up HB1.out)
      have hs1 : wr.heap.size < W1.heap.size := HK1.out.lt
      have k0 := HK1.out.cell 0; have k1 := HK1.out.cell 1; have k2 := HK1.out.cell 2
      simp only [List.getElem?_toArray, List.getElem?_cons_zero, List.getElem?_cons_succ] at k0 k1 k2
      clear hx hyv HG HY HE
      cases hn : a.neg
      case true =>
        rw [hn] at hW1 HK1 e0 k0
        have HG2 := Lib.hid (HGN.out.trans (goP_neg hn))
        have HE2 := Lib.hid (RdEnvs.mono (show 4 * k ≤ 4 * (k + 1) by omega) HEX.out)
        clear hn HGN HEX
        go_wp2
        go_roundw
        case rel => exact ⟨k + 1, ls, _, _, by omega, by go_num, rfl, hls, HE2, HBX, HG2⟩
        case measure => simp [intOf]; omega
      case false =>
        rw [hn] at hW1 HK1 e0 k0
        obtain ⟨pa, pc, hpe, hpr, hpl, hps⟩ := HPK.out k
        have KP1 := Lib.hid (KP.out k pa pc hpe)
        have HPR := Lib.hid hpr
        have HPS := Lib.hid hps
        have HGM := Lib.hid (fun h => HGN.out.trans (goP_many hn h))
        have HGP := Lib.hid (fun h => HGN.out.trans (goP_pos hn h))
        have HO0 := Lib.hid (show Owned 1 (REnv (4 * (k + 1))) W1.heap.size 118 (New W1) W1 (.slice none 0 0) (stepP (ls.take 0) a (pick k)) from Owned.nil)
        have HR0 := Lib.hid (Below.refl W1.heap.size W1)
        have HWB := Lib.hid (HBw.out.trans (HB1.out.mono (Below.size HBw.out)))
        have HNG := Lib.hid hn
        clear hn HGN hpe hpr hps HBW HBw
        generalize hpk : pick k = fs at *
        clear hpk
        go_wp2
        clear k0 k1 k2 e0 e1 e2
        go_loopw [42, 14] (fun i v wx => ∃ (j : Nat), j ≤ ls.length ∧ i = .int .i64 j ∧ Hid (Owned 1 (REnv (4 * (k + 1))) W1.heap.size 118 (New W1) wx v (stepP (ls.take j) a fs)) ∧ Hid (Below W1.heap.size W1 wx)) (fun i _ _ => ls.length - (intOf i).toNat)
        case atStart => exact ⟨0, Nat.zero_le _, rfl, HO0, HR0⟩
        case round =>
          clear HO0 HR0
          obtain ⟨j, hj, rfl, HO, HR⟩ := hrel
          have HBx := Lib.hid (HBX.out.trans (HR.out.mono (Below.size HBX.out)))
          by_cases hlj : j < ls.length
          · obtain ⟨l, hl⟩ : ∃ l, ls[j]? = some l := ⟨_, List.getElem?_eq_getElem hlj⟩
            obtain ⟨b2, o2, mb, rfl, -, hb2, c2', -, hM2⟩ := RdEnvs.at HEX.out hl
            have c2 := (cell_below HR.out hb2 (o2 + j)).trans c2'
            have HM := Lib.hid hM2
            have HSJ := Lib.hid (stepP_snoc (a := a) (fs := fs) hl)
            obtain ⟨wo, hwo⟩ : ∃ wo : World, wo = wr := ⟨_, rfl⟩
            subst hwo
            have HO1 := Lib.hid (show Owned 1 (REnv (4 * (k + 1))) W1.heap.size 118 (New W1) wo _ (stepP (ls.take j) a fs ++ meets a l (fs.take 0)) by rw [List.take_zero]; show Owned _ _ _ _ _ _ _ (stepP (ls.take j) a fs ++ []); rw [List.append_nil]; exact HO.out)
            have HR1 := Lib.hid HR.out
            clear hl hM2 c2' HO
            go_wp2_with (go_at_call 88; refine (KP1.out _ HBx.out).mono ?_; rintro e w5 ⟨rfl, rfl⟩)
            clear c2 HR HBx
            go_loopw [50, 14] (fun i v wx => ∃ (q : Nat), q ≤ fs.length ∧ i = .int .i64 q ∧ Hid (Owned 1 (REnv (4 * (k + 1))) W1.heap.size 118 (New W1) wx v (stepP (ls.take j) a fs ++ meets a l (fs.take q))) ∧ Hid (Below W1.heap.size W1 wx)) (fun i _ _ => fs.length - (intOf i).toNat)
            case atStart => exact ⟨0, Nat.zero_le _, rfl, HO1, HR1⟩
            case round =>
              clear HO1 HR1
              obtain ⟨q, hq, rfl, HO, HR⟩ := hrel
              by_cases hlq : q < fs.length
              · obtain ⟨f, hf⟩ : ∃ f, fs[q]? = some f := ⟨_, List.getElem?_eq_getElem hlq⟩
                have HWr := Lib.hid (HWB.out.trans (HR.out.mono (Below.size HWB.out)))
                obtain ⟨b6, o6, av, rfl, -, -, f0, f1, hav⟩ := RdFacts.at (HPR.out.up HWr.out) hf
                obtain ⟨xa, xc, rfl, -, -, -⟩ := id hav.form
                obtain ⟨hx1, hx2⟩ := HPS.out f (List.mem_of_getElem? hf)
                have HK3 := Lib.hid (HK1.out.below HR.out hs1)
                have g0 := HK3.out.cell 0; have g1 := HK3.out.cell 1; have g2 := HK3.out.cell 2
                simp only [List.getElem?_toArray, List.getElem?_cons_zero, List.getElem?_cons_succ] at g0 g1 g2
                have hszr := Below.size HR.out
                have hlt3 := HK3.out.lt
                have HR3 := Lib.hid (HR.out.alloc hszr (.cells #[.string f.name, .slice xa f.args.length xc] 61))
                have HO3 := Lib.hid (HO.out.alloc (REnv.steady _) (.cells #[.string f.name, .slice xa f.args.length xc] 61))
                have HRow := Lib.hid (fun g h => (HO.out.row_lt (g := g) h))
                have KT := tryRef a (.slice ya a.terms.length yc) f (.slice xa f.args.length xc) l mb (4 * k) (wr.alloc (.cells #[.string f.name, .slice xa f.args.length xc] 61)) (HYX.out.up HR3.out) (hav.agree RStr.steady ((Agree.refl _ _).alloc _)) (HM.out.below HR3.out HM.out.lt) (by omega) hx1 (by omega) HA1.out hx2
                rw [HNG.out] at KT
                have HMQ := Lib.hid (meets_snoc (a := a) (l := l) hf)
                have HNL := Lib.hid (show (stepP (ls.take j) a fs ++ meets a l (fs.take q)).length < 1099511627776 by
                  have h1 := stepP_length (ls.take j) a fs
                  have h2 : (meets a l (fs.take q)).length ≤ (fs.take q).length := List.length_filterMap_le _ _
                  rw [List.length_take] at h1 h2
                  have h3 : min j ls.length * fs.length ≤ 20000 * 1048576 := Nat.mul_le_mul (by omega) hpl
                  rw [List.length_append]; omega)
                clear hf hav HWr HO
                cases hm : meetP a f l with
                | none =>
                  have KN := Lib.hid (KT.mono (R' := fun e w' => e = .returned (.map none) ∧ Below (wr.alloc (.cells #[.string f.name, .slice xa f.args.length xc] 61)).heap.size (wr.alloc (.cells #[.string f.name, .slice xa f.args.length xc] 61)) w') fun e w' ⟨h1, h2⟩ => by rw [hm] at h2; exact ⟨h2, h1⟩)
                  rw [hm] at HMQ
                  clear hm KT hx1 hx2
                  go_wp2_with (go_at_call 89; refine (KN.out).mono ?_; rintro e w6 ⟨rfl, hb6⟩; have HR6 := Lib.hid (HR3.out.trans (hb6.mono (Below.size HR3.out))); have HO6 := Lib.hid (HO3.out.below (REnv.steady _) hb6); clear hb6)
                  have HO7 := Lib.hid (show Owned 1 (REnv (4 * (k + 1))) W1.heap.size 118 (New W1) w6 _ (stepP (ls.take j) a fs ++ meets a l (fs.take (q + 1))) by rw [HMQ.out]; show Owned _ _ _ _ _ _ _ (stepP (ls.take j) a fs ++ (meets a l (fs.take q) ++ [])); rw [List.append_nil]; exact HO6.out)
                  go_roundw
                  case rel => exact ⟨q + 1, by omega, by go_num, HO7, HR6⟩
                  case measure => simp [intOf]; omega
                | some m =>
                  have KN := Lib.hid (KT.mono (R' := fun e w' => (∃ b', e = .returned (.map (some b')) ∧ wr.heap.size + 1 ≤ b' ∧ MapE w' b' (4 * k + a.terms.length) fun v => getB v m) ∧ Below (wr.alloc (.cells #[.string f.name, .slice xa f.args.length xc] 61)).heap.size (wr.alloc (.cells #[.string f.name, .slice xa f.args.length xc] 61)) w') fun e w' ⟨h1, h2⟩ => by
                    rw [hm] at h2
                    obtain ⟨b', h3, h4, h5⟩ := h2
                    exact ⟨⟨b', h3, by simpa using h4, h5⟩, h1⟩)
                  rw [hm] at HMQ
                  clear hm KT hx1 hx2
                  go_wp2_with (first
                    | (at_builtin; have hh := HO6.out; clear hh; refine wpList_append_one (B := W1.heap.size) (e := 118) (S := New W1) (by rfl) _ _ 87 (by rfl) (REnv.steady (4 * (k + 1))) rowEnvs _ (stepP (ls.take j) a fs ++ meets a l (fs.take q)) (by rfl) (HO6.out.alloc (REnv.steady _) _) w6.heap.size 1 #[.map (some b6)] 118 (0, 0) m (by rfl) (heap_new_at rfl) rfl (by simp [Value.oneCell']) (HRM.out _) HNL.out (by have := Below.size HR6.out; simp; omega) ?_; intro v7 w7 hown7 hg7 hat7; have HO7 := Lib.hid hown7; have HR7 := Lib.hid ((HR6.out.alloc (Below.size HR6.out) _).grown hg7 (by have := Below.size HR6.out; simp; omega) (fun g hg => (HRow.out g hg).1)); clear hown7 hg7 hat7)
                    | (go_at_call 89; refine (KN.out).mono ?_; rintro e w6 ⟨⟨b6, rfl, hb6g, hm6⟩, hb6⟩; have HR6 := Lib.hid (HR3.out.trans (hb6.mono (Below.size HR3.out))); have HO6 := Lib.hid (HO3.out.below (REnv.steady _) hb6); have HRM := Lib.hid (fun o => (show REnv (4 * (k + 1)) (fun b => New W1 b ∧ some b ≠ _) (w6.alloc o) [.map (some b6)] m from ⟨b6, rfl, ⟨by show W1.heap.size ≤ b6; omega, fun e => by have := (HRow.out b6 e.symm).2; omega⟩, (hm6.mono (by omega)).alloc o⟩)); clear hb6 hm6 hb6g))
                  have HO8 := Lib.hid (show Owned 1 (REnv (4 * (k + 1))) W1.heap.size 118 (New W1) w7 _ (stepP (ls.take j) a fs ++ meets a l (fs.take (q + 1))) by
                    have h1 := HO7.out
                    rw [List.append_assoc] at h1
                    rw [HMQ.out]; exact h1)
                  go_roundw
                  case rel => exact ⟨q + 1, by omega, by go_num, HO8, HR7⟩
                  case measure => simp [intOf]; omega
              · have HO7 := Lib.hid (show Owned 1 (REnv (4 * (k + 1))) W1.heap.size 118 (New W1) wr _ (stepP (ls.take (j + 1)) a fs) by
                  have h1 := HO.out
                  rw [List.take_of_length_le (l := fs) (by omega)] at h1
                  rw [HSJ.out]; exact h1)
                clear HO
                go_wp2
                go_roundw
                case rel => exact ⟨j + 1, by omega, by go_num, HO7, HR⟩
                case measure => simp [intOf]; omega
          · have HO7 := Lib.hid (show Owned 1 (REnv (4 * (k + 1))) W1.heap.size 118 (New W1) wr _ (stepP ls a fs) by
              have h1 := HO.out
              rwa [List.take_of_length_le (l := ls) (by omega)] at h1)
            have HBy := Lib.hid (HBX.out.trans (HR.out.mono (Below.size HBX.out)))
            have HWy := Lib.hid (HWB.out.trans (HR.out.mono (Below.size HWB.out)))
            have hw1 := Below.size HWB.out
            clear HO HEX
            generalize stepP ls a fs = zs at *
            have hro := (HO7.out.read (REnv.steady _)).more (REnv.steady _) (S' := New w) (fun b hb _ => hb.elim (fun h => Nat.le_trans hw1 h) (fun h => Nat.le_trans hw1 h))
            obtain ⟨va, vc, efm, -, -, -⟩ := id hro.form
            subst efm
            have HE7 := Lib.hid hro
            clear hro HO7
            by_cases hov : 20000 < zs.length
            · have HX := Lib.hid (HGM.out hov)
              have gl : decide ((20000 : Int) < (zs.length : Int)) = true := decide_eq_true (by omega)
              go_wp2
              refine bodyPost_ret (v := .tuple #[.slice none 0 0, .int .i64 4]) (by simp [results, Tryz.results60, go_sem]) rfl ?_
              exact HNone.out _ HX.out HWy.out
            · have HX := Lib.hid (HGP.out hov)
              have gl : decide ((20000 : Int) < (zs.length : Int)) = false := decide_eq_false (by omega)
              go_wp2
              go_roundw
              case rel => exact ⟨k + 1, zs, _, _, by omega, by go_num, rfl, by omega, HE7, HBy, HX⟩
              case measure => simp [intOf]; omega
    · have HGG := Lib.hid (show goP pick 0 [[]] body = some ls by rw [HG.out, List.drop_eq_nil_of_le (by omega)]; rfl)
      have HFL := Lib.hid (HGF.out ls HGG.out)
      have HE2 := Lib.hid (RdEnvs.mono (show 4 * k ≤ 20 by omega) HE.out)
      obtain ⟨wo, hwo⟩ : ∃ wo : World, wo = wr := ⟨_, rfl⟩
      subst hwo
      have HO0 := Lib.hid (show Owned 1 (REnv 20) wo.heap.size 118 (New w) wo (.slice none 0 0) ((ls.take 0).filter (goodP pick 0 body)) from Owned.nil)
      have HR0 := Lib.hid (Below.refl wo.heap.size wo)
      have hswo := Below.size HBw.out
      clear HG HE HGF HNone
      go_wp2
      go_loopw [73, 20] (fun i v wx => ∃ (j : Nat), j ≤ ls.length ∧ i = .int .i64 j ∧ Hid (Owned 1 (REnv 20) wo.heap.size 118 (New w) wx v ((ls.take j).filter (goodP pick 0 body))) ∧ Hid (Below wo.heap.size wo wx)) (fun i _ _ => ls.length - (intOf i).toNat)
      case atStart => exact ⟨0, Nat.zero_le _, rfl, HO0, HR0⟩
      case round =>
        clear HO0 HR0
        obtain ⟨j, hj, rfl, HO, HR⟩ := hrel
        by_cases hlj : j < ls.length
        · obtain ⟨l, hl⟩ : ∃ l, ls[j]? = some l := ⟨_, List.getElem?_eq_getElem hlj⟩
          obtain ⟨b2, o2, mb, rfl, -, hb2, c2', hSm, hM2⟩ := RdEnvs.at HE2.out hl
          have c2 := (cell_below HR.out hb2 (o2 + j)).trans c2'
          have HM := Lib.hid hM2
          have hlm := List.mem_of_getElem? hl
          have HSJ := Lib.hid (show (ls.take (j + 1)).filter (goodP pick 0 body) = (ls.take j).filter (goodP pick 0 body) ++ if goodP pick 0 body l then [l] else [] by
            rw [List.take_add_one, hl, List.filter_append]; simp [List.filter_cons])
          obtain ⟨wp, hwp⟩ : ∃ wp : World, wp = wr := ⟨_, rfl⟩
          subst hwp
          have HR1 := Lib.hid (Below.refl wp.heap.size wp)
          have HG1 := Lib.hid (show true = goodP pick 0 (body.take 0) l from rfl)
          have HBp := Lib.hid (HBw.out.trans (HR.out.mono hswo))
          have HCp := Lib.hid (HBW.out.trans (HR.out.mono hsz))
          have hsp := Below.size HR.out
          clear hl hM2 c2'
          go_wp2
          clear c2
          go_loopw [79, 23] (fun i g wx => ∃ (q : Nat) (gb : Bool), q ≤ body.length ∧ i = .int .i64 q ∧ g = .bool gb ∧ Hid (gb = goodP pick 0 (body.take q) l) ∧ Hid (Below wp.heap.size wp wx)) (fun i _ _ => body.length - (intOf i).toNat)
          case atStart => exact ⟨0, true, Nat.zero_le _, rfl, rfl, HG1, HR1⟩
          case round =>
            clear HR1 HG1
            obtain ⟨q, gb, hq, rfl, rfl, HG, HRQ⟩ := hrel
            have hsq := Below.size HRQ.out
            by_cases hlq : q < body.length
            · obtain ⟨a, hx⟩ : ∃ a, body[q]? = some a := ⟨_, List.getElem?_eq_getElem hlq⟩
              have HWq := Lib.hid (HBp.out.trans (HRQ.out.mono (Below.size HBp.out)))
              have HCq := Lib.hid (HCp.out.trans (HRQ.out.mono (Nat.le_trans hsz hsp)))
              obtain ⟨b4, o4, yv, rfl, -, -, e0, e1, e2, hyv⟩ := RdAtoms.at (HB.out.up HWq.out) hx
              obtain ⟨ya, yc, rfl, -, -, -⟩ := id hyv.form
              have ham := List.mem_of_getElem? hx
              have hat4 := HT4.out a ham
              have HA1 := Lib.hid (B1.out a ham)
              have HSN := Lib.hid (show goodP pick 0 (body.take (q + 1)) l = (gb && !(a.neg && hitP a (pick q) l)) by
                rw [HG.out, List.take_add_one, hx]
                have h1 := goodP_snoc pick a l (body.take q) 0
                rw [show 0 + (body.take q).length = q by rw [List.length_take]; omega] at h1
                exact h1)
              have HR3 := Lib.hid (HRQ.out.alloc hsq (.cells #[.bool a.neg, .string a.name, .slice ya a.terms.length yc] 40))
              have HFA := Lib.hid (HFL.out l hlm a ham)
              have HYV := Lib.hid hyv
              clear hx hyv HG ham
              cases hn : a.neg
              case false =>
                rw [hn] at e0 HR3 HSN
                have HG2 := Lib.hid (show gb = goodP pick 0 (body.take (q + 1)) l by rw [HSN.out]; simp)
                clear hn
                go_wp2
                go_roundw
                case rel => exact ⟨q + 1, gb, by omega, by go_num, rfl, HG2, HR3⟩
                case measure => simp [intOf]; omega
              case true =>
                cases gb
                case false =>
                  rw [hn] at e0 HR3 HSN
                  have HG2 := Lib.hid (show false = goodP pick 0 (body.take (q + 1)) l by rw [HSN.out]; rfl)
                  clear hn
                  go_wp2
                  go_roundw
                  case rel => exact ⟨q + 1, false, by omega, by go_num, rfl, HG2, HR3⟩
                  case measure => simp [intOf]; omega
                case true =>
                  obtain ⟨f, hff⟩ := HFA.out
                  obtain ⟨pa, pc, hpe, hpr, hpl, hps⟩ := HPK.out q
                  have KP1 := Lib.hid (KP.out q pa pc hpe)
                  have HPR := Lib.hid hpr
                  have HPS := Lib.hid hps
                  have hfal : f.args.length ≤ 4 := by have := fillArgs_len (fillP_name hff).2; omega
                  have HG2 := Lib.hid (show (!memF f (pick q)) = goodP pick 0 (body.take (q + 1)) l by
                    rw [HSN.out, hn]
                    have : hitP a (pick q) l = memF f (pick q) := by unfold hitP; rw [hff]
                    rw [this]; rfl)
                  have KF := fillRef a (.slice ya a.terms.length yc) l mb 20 (wr.alloc (.cells #[.bool a.neg, .string a.name, .slice ya a.terms.length yc] 40)) (HYV.out.up ((Below.refl _ _).alloc (Nat.le_refl _) _)) (((HM.out.below HR.out HM.out.lt).below HRQ.out (Nat.lt_of_lt_of_le HM.out.lt hsp)).alloc _) (by omega) HA1.out
                  have KN := Lib.hid (KF.mono (R' := fun e w' => (∃ v, e = .returned (.tuple #[.agg #[.string f.name, v], .bool true]) ∧ RdStrs (fun _ => True) w' v f.args) ∧ Below (wr.alloc (.cells #[.bool a.neg, .string a.name, .slice ya a.terms.length yc] 40)).heap.size (wr.alloc (.cells #[.bool a.neg, .string a.name, .slice ya a.terms.length yc] 40)) w') fun e w' ⟨h1, h2⟩ => by
                    rw [hff] at h2
                    obtain ⟨v, h3, h4⟩ := h2
                    exact ⟨⟨v, h3, h4.more RStr.steady (fun _ _ _ => trivial)⟩, h1⟩)
                  rw [hn] at e0 HR3 HSN KN
                  clear hn KF hff hpe hpr hps HFA HSN
                  generalize hpk : pick q = fs at *
                  clear hpk
                  go_wp2_with (go_at_call 90; refine (KN.out).mono ?_; rintro e w6 ⟨⟨v6, rfl, hr6⟩, hb6⟩; obtain ⟨ga, gc, rfl, -, -, -⟩ := id hr6.form; have HR6 := Lib.hid (HR3.out.trans (hb6.mono (Below.size HR3.out))); have HV6 := Lib.hid hr6; clear hb6 hr6)
                  obtain ⟨W7, hW7⟩ : ∃ W7 : World, w6.alloc (.cells #[.string f.name, .slice ga f.args.length gc] 61) = W7 := ⟨_, rfl⟩
                  have HK7 : Hid (Blk W7.drew w6.heap.size 61 #[.string f.name, .slice ga f.args.length gc]) := Lib.hid (by subst hW7; exact (Blk.new w6 _ _).drew)
                  have HR7 : Hid (Below wp.heap.size wp W7.drew) := Lib.hid (by subst hW7; exact (HR6.out.alloc (Below.size HR6.out) _).drew)
                  have HV7 : Hid (RdStrs (fun _ => True) W7.drew (.slice ga f.args.length gc) f.args) := Lib.hid (by subst hW7; exact HV6.out.agree RStr.steady (((Agree.refl _ _).alloc _).drew))
                  have HC7 := Lib.hid (HCp.out.trans (HR7.out.mono (Nat.le_trans hsz hsp)))
                  have HW7 := Lib.hid (HBp.out.trans (HR7.out.mono (Below.size HBp.out)))
                  have a0 := HK7.out.cell 0; have a1 := HK7.out.cell 1
                  simp only [List.getElem?_toArray, List.getElem?_cons_zero, List.getElem?_cons_succ] at a0 a1
                  clear HR3 HR6 HV6
                  rw [hW7]
                  clear hW7
                  go_region_held3 (fun w' => w'.cell? ⟨w6.heap.size, 0, none⟩ = some (.string f.name) ∧ w'.cell? ⟨w6.heap.size, 1, none⟩ = some (.slice ga f.args.length gc))
                    (first | (with_reducible exact ⟨a0, a1⟩) | (with_reducible exact ⟨x0, x1⟩) | go_keep)
                    (first
                      | (go_at_call 62; have hh := HP7.out; clear hh; refine (inRef (.slice pa fs.length pc) fs f (.slice ga f.args.length gc) _ (HPR.out.up HW7.out) HV7.out (by omega) (fun x hx => by have := (HPS.out x hx).1; omega) (by omega)).mono ?_; rintro e w8 ⟨rfl, hf8⟩; have HR8 := Lib.hid (HR7.out.trans (hf8.below.mono (Below.size HR7.out))); have hk8 := HK7.out.below hf8.below HK7.out.lt; have x0 := hk8.cell 0; have x1 := hk8.cell 1; simp only [List.getElem?_toArray, List.getElem?_cons_zero, List.getElem?_cons_succ] at x0 x1; clear hf8 hk8)
                      | (go_at_call 88; refine (KP1.out _ HC7.out).mono ?_; rintro e w7 ⟨rfl, rfl⟩; have HP7 := Lib.hid True.intro))
                  all_goals
                    go_wp2
                    go_roundw
                    case rel => exact ⟨q + 1, !memF f fs, by omega, by go_num, rfl, HG2, HR8⟩
                    case measure => simp [intOf]; omega
            · have HGE := Lib.hid (show gb = goodP pick 0 body l by have := HG.out; rwa [List.take_of_length_le (by omega)] at this)
              have HOq := Lib.hid (HO.out.below (REnv.steady _) HRQ.out)
              have HRq := Lib.hid (HR.out.trans (HRQ.out.mono hsp))
              have hsoq := Below.size HRq.out
              have HMq := Lib.hid ((HM.out.below HR.out HM.out.lt).below HRQ.out (Nat.lt_of_lt_of_le HM.out.lt hsp))
              rw [← HGE.out] at HSJ
              clear HG HGE HO
              cases gb
              · have HO2 := Lib.hid (show Owned 1 (REnv 20) wo.heap.size 118 (New w) wr _ ((ls.take (j + 1)).filter (goodP pick 0 body)) by
                  rw [HSJ.out, if_neg (by simp), List.append_nil]; exact HOq.out)
                clear HOq HSJ
                go_wp2
                go_roundw
                case rel => exact ⟨j + 1, by omega, by go_num, HO2, HRq⟩
                case measure => simp [intOf]; omega
              · have HNL := Lib.hid (show ((ls.take j).filter (goodP pick 0 body)).length < 1099511627776 by
                  have h1 := List.length_filter_le (goodP pick 0 body) (ls.take j)
                  rw [List.length_take] at h1; omega)
                have HRow := Lib.hid (fun g h => (HOq.out.row_lt (g := g) h))
                have hml := HM.out.lt
                have HRM := Lib.hid (fun o => (show REnv 20 (fun b => New w b ∧ some b ≠ _) (wr.alloc o) [.map (some mb)] l from ⟨mb, rfl, ⟨hSm, fun e => by have := (HRow.out mb e.symm).1; omega⟩, HMq.out.alloc o⟩))
                go_wp2_with (at_builtin; refine wpList_append_one (B := wo.heap.size) (e := 118) (S := New w) (by rfl) _ _ 87 (by rfl) (REnv.steady 20) rowEnvs _ ((ls.take j).filter (goodP pick 0 body)) (by rfl) (HOq.out.alloc (REnv.steady _) _) wr.heap.size 1 #[.map (some mb)] 118 (0, 0) l (by rfl) (heap_new_at rfl) rfl (by simp [Value.oneCell']) (HRM.out _) HNL.out (by simp; omega) ?_; intro v7 w7 hown7 hg7 hat7; have HO7 := Lib.hid hown7; have HR7 := Lib.hid ((HRq.out.alloc hsoq _).grown hg7 (by simp; omega) (fun g hg => (HRow.out g hg).1)); clear hown7 hg7 hat7)
                have HO8 := Lib.hid (show Owned 1 (REnv 20) wo.heap.size 118 (New w) w7 _ ((ls.take (j + 1)).filter (goodP pick 0 body)) by
                  rw [HSJ.out, if_pos rfl]; exact HO7.out)
                go_roundw
                case rel => exact ⟨j + 1, by omega, by go_num, HO8, HR7⟩
                case measure => simp [intOf]; omega
        · have HO7 := Lib.hid (show Owned 1 (REnv 20) wo.heap.size 118 (New w) wr _ (ls.filter (goodP pick 0 body)) by
            have h1 := HO.out
            rwa [List.take_of_length_le (l := ls) (by omega)] at h1)
          have HWy := Lib.hid (HBw.out.trans (HR.out.mono hswo))
          obtain ⟨o, ho⟩ : ∃ o, ls.filter (goodP pick 0 body) = o := ⟨_, rfl⟩
          rw [ho] at HO7
          have hro := (HO7.out.read (REnv.steady _)).more (REnv.steady _) (S' := New w) (fun b hb _ => hb.elim id (fun h => Nat.le_trans hswo h))
          obtain ⟨va, vc, efm, -, -, -⟩ := id hro.form
          subst efm
          have HX := Lib.hid (HSome.out wr ls o va vc HGG.out HWy.out ho hro)
          clear hro HO7 HO ho
          go_wp2
          refine bodyPost_ret (v := .tuple #[.slice va o.length vc, .int .i64 0]) (by simp [results, Tryz.results60, go_sem]) rfl ?_
          exact HX.out
end Go.Proofs.YtbbiapgkcekabaaGreat

/-
  THE WALKS OF cororef4.Made, Heads, Count; PLAIN: what they make is what naive.Heads makes.
-/
namespace Go.Proofs.YtbbiapgkcekabaaGreat
open Go.RowKit Go.Maps

/-- What a rule's head is with each list, as a set. -/
def madeE (h : PAtom) (ls : List Binds) : List PFact := ofF (ls.filterMap fun b => fillP h b)
/-- What Envs and Made answer together. -/
def headsE (x : PRule) (facts : List PFact) (at' : Int) (other : List PFact) : List PFact × Int := match envsP x.body facts at' other with
  | none => ([], 4)
  | some ls => (madeE x.head ls, 0)
theorem made_ext {h : PAtom} {ls ms : List Binds} (hm : ∀ f, (∃ b ∈ ls, fillP h b = some f) ↔ ∃ b ∈ ms, fillP h b = some f) : madeE h ls = madeE h ms :=
  rising_ext (ofF_rising _) (ofF_rising _) fun x => by unfold madeE; rw [mem_ofF, mem_ofF, List.mem_filterMap, List.mem_filterMap]; exact hm x
/-- Envs tells as many as With, told otherwise. -/
theorem envs_with {body : List PAtom} {facts other : List PFact} {at' : Int} (hb : bodyBad body = 0) (h1 : (setF facts).1 = 0) (h2 : (setF other).1 = 0) :
    (envsP body facts at' other = none ∧ withP body facts at' other = ([], 4)) ∨
    ∃ ls, envsP body facts at' other = some ls ∧ (withP body facts at' other).2 = 0 ∧ ∀ h, madeE h ls = madeE h (withP body facts at' other).1 := by
  unfold envsP withP
  rw [if_neg (by simpa using hb), if_neg (by simpa using h1), if_neg (by simpa using h2)]
  cases hg : goP (pickP facts other at') 0 [[]] body with
  | none => exact .inl ⟨rfl, rfl⟩
  | some ls =>
    refine .inr ⟨_, rfl, rfl, fun h => made_ext fun f => ?_⟩
    have hnd : ∀ l ∈ notP (pickP facts other at') 0 ls body, Nd l := fun l hl => by
      have hl2 := ((mem_notP body 0 ls l).1 hl).1
      obtain ⟨l0, h0, g1, -⟩ := goP_sound body 0 _ _ hg (fun l hl => by obtain rfl := List.mem_singleton.1 hl; exact List.Pairwise.nil) l hl2
      exact g1
    constructor
    · rintro ⟨b, hb, hf⟩
      refine ⟨ofC cmpBind b, mem_tidyP.2 ⟨b, hb, rfl⟩, ?_⟩
      rw [fillP_same (fun v => getB_ofC (hnd b hb) v)]
      exact hf
    · rintro ⟨b, hb, hf⟩
      obtain ⟨l, hl, rfl⟩ := mem_tidyP.1 hb
      refine ⟨l, hl, ?_⟩
      rw [← fillP_same (fun v => getB_ofC (hnd l hl) v)]
      exact hf
theorem headsE_eq {x : PRule} {l : List PFact} (hb : bodyBad x.body = 0) (h1 : (setF l).1 = 0) : headsE x l (-1) [] = headsP x l := by
  unfold headsE headsP allP
  rcases envs_with (at' := -1) hb h1 (by rw [setF_nil]) with ⟨e1, e2⟩ | ⟨ls, e1, e2, e3⟩
  · rw [e1, e2, if_pos (by decide)]
  · rw [e1, if_neg (by simpa using e2)]
    show (madeE x.head ls, (0 : Int)) = _
    rw [e3]; rfl

/-- As many as are not too many. -/
theorem envs_short {body : List PAtom} {facts other : List PFact} {at' : Int} {ls : List Binds} (hz : bodyBad body = 0) (h : envsP body facts at' other = some ls) : ls.length ≤ 1048576 := by
  unfold envsP at h
  cases hg : goP (pickP facts other at') 0 [[]] body with
  | none => rw [hg] at h; cases h
  | some zs =>
    rw [hg] at h
    obtain rfl := Option.some.inj h
    have h1 := goP_count body 0 _ _ hg (by simp)
    have h2 : (notP (pickP facts other at') 0 zs body).length ≤ zs.length := by rw [notP_filter]; exact List.length_filter_le _ _
    show (notP (pickP facts other at') 0 zs body).length ≤ _
    omega

/-! ### Made -/
theorem RdFacts.hold {S : Nat → Prop} {w w' : World} {v : Value} {l : List PFact} (h : RdFacts S w v l) (hb : Below w.heap.size w w') : RdFacts S w' v l := RdSlice.agree RFact.steady (Below.agree hb) h
attribute [local go_sem ↓] Go.wp_at_zero Go.wp_at_succ
set_option maxRecDepth 100000 in
set_option maxHeartbeats 8000000 in
theorem madeRef {S S3 : Nat → Prop} (x : PRule) (tv bv ev : Value) (ls : List Binds) (N : Nat) (w : World) (ht : RdTerms S w tv x.head.terms) (he : RdEnvs N S3 w ev ls)
    (n1 : x.head.terms.length ≤ 1048576) (s1 : ∀ t ∈ x.head.terms, t.name.size ≤ 1048576) (n2 : ls.length ≤ 1048576) :
    Calls Tryz.prog 61 #[.agg #[.bool x.head.neg, .string x.head.name, tv, bv], ev] w fun e w' => (∃ a c, e = .returned (.slice a (madeE x.head ls).length c) ∧ RdFacts (New w) w' (.slice a (madeE x.head ls).length c) (madeE x.head ls)) ∧ Below w.heap.size w w' := by
  obtain ⟨ta, tc, rfl, -, -, -⟩ := id ht.form
  obtain ⟨ea, ec, rfl, -, -, -⟩ := id he.form
  have HT := Lib.hid ht
  have HE := Lib.hid he
  have S1 := Lib.hid s1
  obtain ⟨W0, hW0⟩ : ∃ W0 : World, w.alloc (.cells #[.bool x.head.neg, .string x.head.name, .slice ta x.head.terms.length tc, bv] 43) = W0 := ⟨_, rfl⟩
  have HB0 : Hid (Below w.heap.size w W0) := Lib.hid (by subst hW0; exact (Below.refl _ _).alloc (Nat.le_refl _) _)
  have HK0 := Lib.hid (show Blk W0 w.heap.size 43 #[.bool x.head.neg, .string x.head.name, .slice ta x.head.terms.length tc, bv] by subst hW0; exact Blk.new w _ _)
  have hw0 := HK0.out.lt
  have HD0 := Lib.hid (show RdFacts (New w) W0 (.slice none 0 0) (madeE x.head (ls.take 0)) from RdFacts.nil)
  have HR0 := Lib.hid (Below.refl W0.heap.size W0)
  clear ht he s1
  go_enter Tryz.func61, Tryz.ntmps61
  go_wp2
  go_loopw [12, 5] (fun i v wx => ∃ (k : Nat), k ≤ ls.length ∧ i = .int .i64 k ∧ Hid (RdFacts (New w) wx v (madeE x.head (ls.take k))) ∧ Hid (Below W0.heap.size W0 wx)) (fun i _ _ => ls.length - (intOf i).toNat)
  case atStart => exact ⟨0, Nat.zero_le _, rfl, HD0, HR0⟩
  case round =>
    clear HD0 HR0 hW0
    obtain ⟨k, hk, rfl, HD, HR⟩ := hrel
    have HW := Lib.hid (HB0.out.trans (HR.out.mono (Below.size HB0.out)))
    by_cases hlt : k < ls.length
    · obtain ⟨l, hl⟩ : ∃ l, ls[k]? = some l := ⟨_, List.getElem?_eq_getElem hlt⟩
      obtain ⟨b2, o2, mb, rfl, -, hb2, c2', -, hM2⟩ := RdEnvs.at HE.out hl
      have c2 := (cell_below HW.out hb2 (o2 + k)).trans c2'
      have hk0 := HK0.out.below HR.out hw0
      have g0 := hk0.cell 0; have g1 := hk0.cell 1; have g2 := hk0.cell 2
      simp only [List.getElem?_toArray, List.getElem?_cons_zero, List.getElem?_cons_succ] at g0 g1 g2
      have KF := fillRef x.head (.slice ta x.head.terms.length tc) l mb N wr (HT.out.up HW.out) (hM2.below HW.out hM2.lt) n1 S1.out
      have HFM : Hid ((ls.take (k + 1)).filterMap (fun b => fillP x.head b) = (ls.take k).filterMap (fun b => fillP x.head b) ++ (fillP x.head l).toList) := Lib.hid (by
        rw [List.take_add_one, hl, List.filterMap_append]
        cases hg : fillP x.head l <;> simp [hg])
      have hlen : (madeE x.head (ls.take k)).length ≤ k := by
        have h1 := ofF_length ((ls.take k).filterMap fun b => fillP x.head b)
        have h2 := List.length_filterMap_le (fun b => fillP x.head b) (ls.take k)
        rw [List.length_take] at h2
        unfold madeE; omega
      have HAR := Lib.hid (show ∀ y ∈ madeE x.head (ls.take k), y.args.length ≤ 1048576 from fun y hy => by
        unfold madeE at hy
        obtain ⟨b, -, hf⟩ := List.mem_filterMap.1 ((mem_ofF y _).1 hy)
        rw [fillP_len hf]; exact n1)
      have hsz := Below.size HR.out
      have hwr := Below.size HW.out
      have HDV := Lib.hid HD.out
      clear hl hM2 c2' hk0 HD
      cases hm : fillP x.head l with
      | none =>
        have KN := Lib.hid (KF.mono (R' := fun e w' => e = .returned (.tuple #[.agg #[.string ⟨#[]⟩, .slice none 0 0], .bool false]) ∧ Below wr.heap.size wr w') fun e w' ⟨h1, h2⟩ => by rw [hm] at h2; exact ⟨h2, h1⟩)
        have HD2 := Lib.hid (show madeE x.head (ls.take (k + 1)) = madeE x.head (ls.take k) by unfold madeE; rw [HFM.out, hm]; simp)
        clear hm KF HFM
        go_wp2_with (go_at_call 90; refine (KN.out).mono ?_; rintro e w6 ⟨rfl, hb6⟩; have HR6 := Lib.hid ((HR.out.trans (hb6.mono hsz)).alloc (Nat.le_trans hsz (Below.size hb6)) (.cells #[.string ⟨#[]⟩, .slice none 0 0] 61)); have HD6 := Lib.hid (RdFacts.hold HDV.out (hb6.alloc (Below.size hb6) (.cells #[.string ⟨#[]⟩, .slice none 0 0] 61))); clear hb6)
        rw [← HD2.out] at HD6
        go_roundw
        case rel => exact ⟨k + 1, by omega, by go_num, HD6, HR6⟩
        case measure => simp [intOf]; omega
      | some f =>
        have KN := Lib.hid (KF.mono (R' := fun e w' => (∃ v, e = .returned (.tuple #[.agg #[.string f.name, v], .bool true]) ∧ RdStrs (New w) w' v f.args) ∧ Below wr.heap.size wr w') fun e w' ⟨h1, h2⟩ => by
          rw [hm] at h2
          obtain ⟨v, h3, h4⟩ := h2
          exact ⟨⟨v, h3, h4.more RStr.steady (fun q hq _ => Nat.le_trans hwr hq)⟩, h1⟩)
        have hfl : f.args.length ≤ 1048576 := by rw [fillP_len hm]; exact n1
        have HD2 := Lib.hid (show addF f (madeE x.head (ls.take k)) = madeE x.head (ls.take (k + 1)) by
          refine rising_ext (addF_rising _ _ (ofF_rising _)) (ofF_rising _) fun y => ?_
          rw [mem_addF]
          unfold madeE
          rw [mem_ofF, mem_ofF, HFM.out, hm]
          simp [or_comm])
        clear hm KF HFM
        go_wp2_with (first
          | (go_at_call 87; have hh := HD6.out; clear hh; refine (addRefU (U := New w) _ _ _ f _ HD6.out (HV6.out.agree RStr.steady ((Agree.refl _ _).alloc _)) (by omega) (fun y hy => by have := HAR.out y hy; omega) (by omega)).mono ?_; rintro e w7 ⟨⟨v7, rfl, hr7⟩, hb7⟩; have HR7 := Lib.hid (HR6.out.trans (hb7.mono (Below.size HR6.out))); have HD7 := Lib.hid (show RdFacts (New w) w7 v7 _ from hr7.more RFact.steady (fun q hq _ => hq.elim id (fun h => Nat.le_trans (Nat.le_trans hwr (Nat.le_trans hsz6.out (by simp))) h))); clear hr7 hb7)
          | (go_at_call 90; refine (KN.out).mono ?_; rintro e w6 ⟨⟨v6, rfl, hr6⟩, hb6⟩; obtain ⟨ga, gc, rfl, -, -, -⟩ := id hr6.form; have HR6 := Lib.hid ((HR.out.trans (hb6.mono hsz)).alloc (Nat.le_trans hsz (Below.size hb6)) (.cells #[.string f.name, .slice ga f.args.length gc] 61)); have HD6 := Lib.hid (RdFacts.hold HDV.out (hb6.alloc (Below.size hb6) (.cells #[.string f.name, .slice ga f.args.length gc] 61))); have HV6 := Lib.hid hr6; have hsz6 := Lib.hid hb6.size; clear hr6 hb6))
        rw [HD2.out] at HD7
        go_roundw
        case rel => exact ⟨k + 1, by omega, by go_num, HD7, HR7⟩
        case measure => simp [intOf]; omega
    · have HD2 := Lib.hid (show RdFacts (New w) wr _ (madeE x.head ls) by have := HD.out; rwa [List.take_of_length_le (by omega)] at this)
      clear HD
      obtain ⟨o, ho⟩ : ∃ o, madeE x.head ls = o := ⟨_, rfl⟩
      rw [ho] at HD2
      obtain ⟨va, vc, efm, -, -, -⟩ := id HD2.out.form
      subst efm
      go_wp2
      go_ret
      subst ho
      exact ⟨⟨va, vc, rfl, HD2.out⟩, HW.out⟩

/-! ### Heads -/
set_option maxRecDepth 100000 in
set_option maxHeartbeats 8000000 in
theorem headsRef {S S2 S3 : Nat → Prop} (x : PRule) (tv bv fv : Value) (facts : List PFact) (w : World) (ht : RdTerms S w tv x.head.terms) (hb : RdAtoms S2 w bv x.body) (hf : RdFacts S3 w fv facts)
    (hs : RuleSmall x) (hz : bodyBad x.body = 0) (n4 : facts.length ≤ 1048576) (n5 : ∀ x ∈ facts, x.args.length ≤ 1048576 ∧ ∀ a ∈ x.args, a.size ≤ 1048576) :
    Calls Tryz.prog 26 #[.agg #[.bool x.head.neg, .string x.head.name, tv, bv], fv] w fun e w' => (∃ a c, e = .returned (.tuple #[.slice a (headsE x facts (-1) []).1.length c, .int .i64 (headsE x facts (-1) []).2]) ∧ RdFacts (New w) w' (.slice a (headsE x facts (-1) []).1.length c) (headsE x facts (-1) []).1) ∧ Below w.heap.size w w' := by
  obtain ⟨ta, tc, rfl, -, -, -⟩ := id ht.form
  obtain ⟨ba, bc, rfl, -, -, -⟩ := id hb.form
  obtain ⟨fa, fc, rfl, -, -, -⟩ := id hf.form
  obtain ⟨W0, hW0⟩ : ∃ W0 : World, w.alloc (.cells #[.bool x.head.neg, .string x.head.name, .slice ta x.head.terms.length tc, .slice ba x.body.length bc] 43) = W0 := ⟨_, rfl⟩
  have hb0 : Below w.heap.size w W0 := by subst hW0; exact (Below.refl _ _).alloc (Nat.le_refl _) _
  have HB0 := Lib.hid hb0
  have HK0 := Lib.hid (show Blk W0 w.heap.size 43 #[.bool x.head.neg, .string x.head.name, .slice ta x.head.terms.length tc, .slice ba x.body.length bc] by subst hW0; exact Blk.new w _ _)
  have q3 : W0.cell? ⟨w.heap.size, 3, none⟩ = some (.slice ba x.body.length bc) := HK0.out.cell 3
  have HT := Lib.hid ht
  have hn1 := hs.h1
  have hn2 := hs.h2
  have N2 := Lib.hid hn2
  have K := Lib.hid (envsRef x.body (.slice ba x.body.length bc) facts (.slice fa facts.length fc) (-1) [] (.slice none 0 0) W0 (hb.up hb0) (hf.up hb0) (RdFacts.nil (S := fun _ => True)) hz hs.b2 n4 n5 (by simp) (by simp))
  have HL := Lib.hid (show ∀ ls, envsP x.body facts (-1) [] = some ls → ls.length ≤ 1048576 from fun ls he => envs_short hz he)
  clear ht hb hf hs hz n4 n5 hb0 hn2
  cases hm : envsP x.body facts (-1) [] with
  | none =>
    have HE := Lib.hid (show headsE x facts (-1) [] = ([], 4) by unfold headsE; rw [hm])
    rw [hm] at K
    have KN := Lib.hid (K.out.mono (R' := fun e w' => e = .returned (.tuple #[.slice none 0 0, .int .i64 4]) ∧ Below W0.heap.size W0 w') fun e w' ⟨h1, h2⟩ => ⟨h2, h1⟩)
    clear hm K
    go_enter Tryz.func26, Tryz.ntmps26
    go_wp2_with (go_at_call 60; refine (KN.out).mono ?_; rintro e w1 ⟨rfl, hb1⟩; have HB1 := Lib.hid (HB0.out.trans (hb1.mono (Below.size HB0.out))); clear hb1)
    refine bodyPost_ret (v := .tuple #[.slice none 0 0, .int .i64 4]) (by simp [results, Tryz.results26, go_sem]) rfl ?_
    rw [HE.out]
    exact ⟨⟨none, 0, rfl, RdFacts.nil⟩, HB1.out⟩
  | some ls =>
    have hll := HL.out ls hm
    have HE := Lib.hid (show headsE x facts (-1) [] = (madeE x.head ls, 0) by unfold headsE; rw [hm])
    rw [hm] at K
    have KN := Lib.hid (K.out.mono (R' := fun e w' => (∃ a c, e = .returned (.tuple #[.slice a ls.length c, .int .i64 0]) ∧ RdEnvs 20 (fun _ => True) w' (.slice a ls.length c) ls) ∧ Below W0.heap.size W0 w') fun e w' ⟨h1, a, c, h2, h3⟩ => ⟨⟨a, c, h2, h3.more (REnv.steady _) (fun _ _ _ => trivial)⟩, h1⟩)
    clear hm K HL
    obtain ⟨r, hr⟩ : ∃ r, headsE x facts (-1) [] = r := ⟨_, rfl⟩
    rw [hr] at HE ⊢
    clear hr
    go_enter Tryz.func26, Tryz.ntmps26
    go_wp2_with (first
      | (go_at_call 61; have hh := HX1.out; clear hh; refine (madeRef x (.slice ta x.head.terms.length tc) (.slice ba x.body.length bc) _ ls 20 _ (HT.out.up HB1.out) HX1.out hn1 N2.out hll).mono ?_; rintro e w2 ⟨⟨a2, c2, rfl, hr2⟩, hb2⟩; have HB2 := Lib.hid (HB1.out.trans (hb2.mono (Below.size HB1.out))); have HR2 := Lib.hid (hr2.more RFact.steady (S' := New w) (fun q hq _ => Nat.le_trans (Below.size HB1.out) hq)); clear hb2 hr2)
      | (go_at_call 60; refine (KN.out).mono ?_; rintro e w1 ⟨⟨a1, c1, rfl, hx1⟩, hb1⟩; have HB1 := Lib.hid (HB0.out.trans (hb1.mono (Below.size HB0.out))); have HX1 := Lib.hid hx1; have hk1 := HK0.out.below hb1 HK0.out.lt; have g0 := hk1.cell 0; have g1 := hk1.cell 1; have g2 := hk1.cell 2; have g3 := hk1.cell 3; simp only [List.getElem?_toArray, List.getElem?_cons_zero, List.getElem?_cons_succ] at g0 g1 g2 g3; clear hb1 hx1 hk1))
    refine bodyPost_ret (v := .tuple #[.slice a2 (madeE x.head ls).length c2, .int .i64 0]) (by simp [results, Tryz.results26, go_sem]) rfl ?_
    rw [HE.out]
    exact ⟨⟨a2, c2, rfl, HR2.out⟩, HB2.out⟩
/-! ### Count -/
theorem foldl_maxx : ∀ (r : List Int) (a b : Int), r.foldl max (max a b) = max a (r.foldl max b)
  | [], a, b => rfl
  | x :: r, a, b => by
    rw [List.foldl_cons, List.foldl_cons, show max (max a b) x = max a (max b x) by omega, foldl_maxx r]
theorem count_cons {x : Int} (hx : 0 ≤ x) (l : List Int) : countP (x :: l) = max (x + 1) (countP l) := by
  cases l with
  | nil => show x + 1 = max (x + 1) 0; omega
  | cons y r =>
    show (y :: r).foldl max x + 1 = max (x + 1) (r.foldl max y + 1)
    rw [List.foldl_cons, foldl_maxx]; omega
theorem count_fold : ∀ (l : List Int) (m : Int), 0 ≤ m → (∀ x ∈ l, 0 ≤ x) → l.foldl (fun n k => max n (k + 1)) m = max m (countP l)
  | [], m, h, _ => by show m = max m 0; omega
  | x :: l, m, h, hx => by
    have h0 := hx x (by simp)
    rw [List.foldl_cons, count_fold l _ (by omega) (fun y hy => hx y (by simp [hy])), count_cons h0]; omega
theorem count_snoc {l : List Int} {k : Nat} {x : Int} (hx : l[k]? = some x) : (l.take (k + 1)).foldl (fun n k => max n (k + 1)) 0 = max ((l.take k).foldl (fun n k => max n (k + 1)) 0) (x + 1) := by
  rw [List.take_add_one, hx, List.foldl_append]; rfl
theorem count_bd (l : List Int) (hb : ∀ z ∈ l, 0 ≤ z ∧ z ≤ 1048576) : ∀ k, 0 ≤ (l.take k).foldl (fun n k => max n (k + 1)) 0 ∧ (l.take k).foldl (fun n k => max n (k + 1)) 0 ≤ 1048577
  | 0 => by simp
  | k + 1 => by
    have ih := count_bd l hb k
    by_cases hk : k < l.length
    · obtain ⟨x, hx⟩ : ∃ x, l[k]? = some x := ⟨_, List.getElem?_eq_getElem hk⟩
      have := hb x (List.mem_of_getElem? hx)
      rw [count_snoc hx]; omega
    · rw [List.take_of_length_le (by omega)] at ih ⊢; exact ih
set_option maxRecDepth 100000 in
set_option maxHeartbeats 4000000 in
theorem countRef {S : Nat → Prop} (v : Value) (l : List Int) (w : World) (h : RdInts S w v l) (n1 : l.length ≤ 1048576) (n2 : ∀ z ∈ l, 0 ≤ z ∧ z ≤ 1048576) :
    Calls Tryz.prog 22 #[v] w fun e w' => e = .returned (.int .i64 (countP l)) ∧ w' = w := by
  obtain ⟨a, c, rfl, -, -, -⟩ := id h.form
  have H := Lib.hid h
  have HBD := Lib.hid (count_bd l n2)
  have N2 := Lib.hid n2
  have HC := Lib.hid (show l.foldl (fun n k => max n (k + 1)) 0 = countP l by
    rw [count_fold l 0 (by omega) (fun x hx => (n2 x hx).1)]
    have : 0 ≤ countP l := by
      cases l with
      | nil => show (0 : Int) ≤ 0; omega
      | cons x r => rw [count_cons (n2 x (by simp)).1]; have := (n2 x (by simp)).1; omega
    omega)
  clear h n2
  go_enter Tryz.func22, Tryz.ntmps22
  go_wp2
  go_loopw [8, 3] (fun i m wx => ∃ (k : Nat) (z : Int), k ≤ l.length ∧ i = .int .i64 k ∧ m = .int .i64 z ∧ Hid ((l.take k).foldl (fun n k => max n (k + 1)) 0 = z) ∧ Hid (w = wx)) (fun i _ _ => l.length - (intOf i).toNat)
  case atStart => exact ⟨0, 0, Nat.zero_le _, rfl, rfl, Lib.hid rfl, Lib.hid rfl⟩
  case round =>
    obtain ⟨k, z, hk, rfl, rfl, HZ, HW⟩ := hrel
    have hw := HW.out
    subst hw
    have hbd := HBD.out k
    rw [HZ.out] at hbd
    by_cases hlt : k < l.length
    · obtain ⟨x, hx⟩ : ∃ x, l[k]? = some x := ⟨_, List.getElem?_eq_getElem hlt⟩
      obtain ⟨b1, o1, rfl, -, -, d0⟩ := RdInts.at H.out hx
      have hxb := N2.out x (List.mem_of_getElem? hx)
      have hwr : IntKind.i64.wrap (x + 1) = x + 1 := by rw [IntKind.wrap_i64]; omega
      have HZ2 := Lib.hid (show (l.take (k + 1)).foldl (fun n k => max n (k + 1)) 0 = max z (x + 1) by rw [count_snoc hx, HZ.out])
      have HWW := Lib.hid (Eq.refl w)
      clear hx
      go_wp2
      go_roundw
      case rel => exact ⟨k + 1, max z (x + 1), by omega, by go_num, by first | rfl | go_num | (simp; done) | trace_state, HZ2, Lib.hid True.intro⟩
      case measure => simp [intOf]; omega
    · have HE := Lib.hid (show z = countP l by rw [← HZ.out, List.take_of_length_le (by omega), HC.out])
      go_wp2
      go_ret
      exact ⟨by rw [HE.out]; rfl, rfl⟩
end Go.Proofs.YtbbiapgkcekabaaGreat

/-
  THE WALK OF cororef4.Facts, where names are said of as many everywhere.
-/
namespace Go.Proofs.YtbbiapgkcekabaaGreat
open Go.RowKit Go.Maps

/-- Facts of ordinary size. -/
def FactsSmall (l : List PFact) : Prop := ∀ x ∈ l, x.args.length ≤ 1048576 ∧ x.name.size ≤ 1048576 ∧ ∀ a ∈ x.args, a.size ≤ 1048576
/-- An atom that fits a fact. -/
def fitsF (f : PFact) (a : PAtom) : Prop := a.name = f.name → a.terms.length = f.args.length
theorem misfit_no {p : List PRule} (h : Arity p) {f : PFact} (hf : ∀ a ∈ atomsOf p, fitsF f a) : misfit p f = false := by
  rw [Bool.eq_false_iff]
  intro hm
  obtain ⟨a, ha, e, hne⟩ := (misfit_iff h f).1 hm
  exact hne (hf a ha e)
theorem misfit_yes {p : List PRule} (h : Arity p) {f : PFact} {a : PAtom} (ha : a ∈ atomsOf p) (e : a.name = f.name) (hne : a.terms.length ≠ f.args.length) : misfit p f = true := (misfit_iff h f).2 ⟨a, ha, e, hne⟩

attribute [local go_sem ↓] Go.wp_at_zero Go.wp_at_succ
set_option maxRecDepth 100000 in
set_option maxHeartbeats 8000000 in
theorem factsRef {S S2 : Nat → Prop} (p : List PRule) (v : Value) (fv : Value) (l : List PFact) (w : World) (h : RdRules S w v p) (hf : RdFacts S2 w fv l) (hA : Arity p) (n1 : p.length ≤ 1048576) (n2 : ∀ r ∈ p, RuleSmall r)
    (n4 : l.length ≤ 1048576) (n5 : FactsSmall l) :
    Calls Tryz.prog 16 #[v, fv] w fun e w' => e = .returned (.agg #[.int .i64 (factsBad p l).1, .int .i64 (factsBad p l).2]) ∧ Below w.heap.size w w' := by
  obtain ⟨a, c, rfl, -, -, -⟩ := id h.form
  obtain ⟨fa, fc, rfl, -, -, -⟩ := id hf.form
  have H := Lib.hid h
  have HFA := Lib.hid hf
  have N2 := Lib.hid n2
  have KS := Lib.hid (fun W (hW : Below w.heap.size w W) => setRef (.slice fa l.length fc) l W (hf.up hW) (by omega) (fun x hx => by have := (n5 x hx).1; omega) (fun x hx => ⟨by have := (n5 x hx).2.1; omega, fun a ha => by have := (n5 x hx).2.2 a ha; omega⟩))
  have HAR := Lib.hid hA
  clear h hf n2 n5 hA
  have HB0 := Lib.hid ((Below.refl w.heap.size w).alloc (Nat.le_refl _) (.cells #[.int .i64 0, .int .i64 0] 27))
  have HK0 := Lib.hid (Blk.new w 27 #[.int .i64 0, .int .i64 0])
  by_cases hz : (setF l).1 = 0
  case neg =>
    have g1 : ((setF l).1 != 0) = true := by simpa using hz
    have HE := Lib.hid (factsBad_set' (p := p) hz)
    clear hz
    generalize setF l = q at *
    obtain ⟨q1, q2⟩ := q
    dsimp only at *
    go_enter Tryz.func16, Tryz.ntmps16
    go_wp2_with (go_at_call 52; refine (KS.out _ HB0.out).mono ?_; rintro e w1 ⟨rfl, hb1⟩; have HB1 := Lib.hid ((HB0.out.trans (hb1.mono (Below.size HB0.out))).alloc (Nat.le_trans (Below.size HB0.out) hb1.size) (.cells #[.int .i64 q1, .int .i64 q2] 27)); have HK1 := Lib.hid ((HK0.out.below hb1 HK0.out.lt).alloc (.cells #[.int .i64 q1, .int .i64 q2] 27)); have c0 := HK1.out.cell 0; have c1 := HK1.out.cell 1; have f0 := HK1.out.frozen 0; have f1 := HK1.out.frozen 1; simp at c0 c1; clear hb1)
    refine bodyPost_ret (v := .agg #[.int .i64 q1, .int .i64 q2]) (by simp [results, Tryz.results16, go_sem, c0, c1]) rfl ⟨by rw [HE.out], ?_⟩
    exact (HB1.out.setCell (Nat.le_refl _) _).setCell (Nat.le_refl _) _
  have hsf : setF l = (0, 0) := setF_of (setF_set hz).1 (setF_set hz).2.1 (setF_set hz).2.2
  have HZ := Lib.hid hz
  rw [hsf] at KS
  clear hz hsf
  go_enter Tryz.func16, Tryz.ntmps16
  go_wp2_with (go_at_call 52; refine (KS.out _ HB0.out).mono ?_; rintro e w1 ⟨rfl, hb1⟩; have HB1 := Lib.hid ((HB0.out.trans (hb1.mono (Below.size HB0.out))).alloc (Nat.le_trans (Below.size HB0.out) hb1.size) (.cells #[.int .i64 0, .int .i64 0] 27)); have HK1 := Lib.hid ((HK0.out.below hb1 HK0.out.lt).alloc (.cells #[.int .i64 0, .int .i64 0] 27)); clear hb1)
  generalize w1.alloc (.cells #[.int .i64 0, .int .i64 0] 27) = W1 at *
  have hk1 := HK1.out.lt
  have HR1 := Lib.hid (Below.refl W1.heap.size W1)
  clear HB0 HK0 KS
  go_loopw [20] (fun i wx => ∃ (j : Nat), j ≤ l.length ∧ i = .int .i64 j ∧ Hid (Below W1.heap.size W1 wx) ∧ Hid (∀ g ∈ l.take j, misfit p g = false)) (fun i _ => l.length - (intOf i).toNat)
  case atStart => exact ⟨0, Nat.zero_le _, rfl, HR1, Lib.hid (by simp)⟩
  case round =>
    clear HR1
    obtain ⟨j, hj, rfl, HR, HG⟩ := hrel
    have HW := Lib.hid (HB1.out.trans (HR.out.mono (Below.size HB1.out)))
    have hs1 := Below.size HR.out
    by_cases hlj : j < l.length
    · obtain ⟨f, hy⟩ : ∃ y, l[j]? = some y := ⟨_, List.getElem?_eq_getElem hlj⟩
      obtain ⟨b4, o4, av, rfl, -, hb4, e0, e1, hav⟩ := RdFacts.at (HFA.out.up HW.out) hy
      obtain ⟨xa, xc, rfl, -, -, -⟩ := id hav.form
      have HA1 := Lib.hid (show misfit p f = false → ∀ g ∈ l.take (j + 1), misfit p g = false from fun h g hg => by
        rw [List.take_add_one, hy] at hg
        rcases List.mem_append.1 hg with hg | hg
        · exact HG.out g hg
        · obtain rfl : g = f := by simpa using hg
          exact h)
      have HH := Lib.hid (fun h => factsBad_hit (p := p) HZ.out hy h HG.out)
      obtain ⟨W2, hW2⟩ : ∃ W2 : World, wr.alloc (.cells #[.string f.name, .slice xa f.args.length xc] 61) = W2 := ⟨_, rfl⟩
      have HK2 : Hid (Blk W2 wr.heap.size 61 #[.string f.name, .slice xa f.args.length xc]) := Lib.hid (by subst hW2; exact Blk.new wr _ _)
      have HR2 : Hid (Below W1.heap.size W1 W2) := Lib.hid (by subst hW2; exact HR.out.alloc hs1 _)
      have hk2 := HK2.out.lt
      have HS2 := Lib.hid (Below.refl W2.heap.size W2)
      have HF0 : Hid (∀ a ∈ atomsOf (p.take 0), fitsF f a) := Lib.hid (by simp [atomsOf])
      have hs2 := Below.size HR2.out
      clear hy hav HG HR HW
      go_wp2
      clear e0 e1 hW2
      go_loopw [27] (fun i wx => ∃ (k : Nat), k ≤ p.length ∧ i = .int .i64 k ∧ Hid (Below W2.heap.size W2 wx) ∧ Hid (∀ a ∈ atomsOf (p.take k), fitsF f a)) (fun i _ => p.length - (intOf i).toNat)
      case atStart => exact ⟨0, Nat.zero_le _, rfl, HS2, HF0⟩
      case round =>
        clear HS2 HF0
        obtain ⟨k, hk, rfl, HS, HF⟩ := hrel
        have HR3 := Lib.hid (HR2.out.trans (HS.out.mono hs2))
        have HW3 := Lib.hid (HB1.out.trans (HR3.out.mono (Below.size HB1.out)))
        by_cases hlt : k < p.length
        · obtain ⟨x, hx⟩ : ∃ x, p[k]? = some x := ⟨_, List.getElem?_eq_getElem hlt⟩
          have hmem := List.mem_of_getElem? hx
          obtain ⟨b1, o1, tv, bv, rfl, -, hb1, d0, d1, d2, d3, htv, hbv⟩ := RdRules.at H.out hx
          obtain ⟨ta, tc, rfl, -, -, -⟩ := id htv.form
          obtain ⟨ba, bc, rfl, -, -, -⟩ := id hbv.form
          have HRA := Lib.hid (show RuleAt S w b1 (o1 + k * 4) x (.slice ta x.head.terms.length tc) (.slice ba x.body.length bc) from ⟨hb1, d0, d1, d2, d3, htv, hbv⟩)
          have HSR := Lib.hid (N2.out x hmem)
          have hbl := HSR.out.b0
          have HSN := Lib.hid (atomsOf_snoc hx)
          have HXM := Lib.hid (fun a (ha : a ∈ x.head :: x.body) => (show a ∈ atomsOf p from List.mem_flatMap.2 ⟨x, hmem, ha⟩))
          clear d0 d1 d2 d3
          obtain ⟨-, d0, d1, d2, d3, -, -⟩ := HRA.out.up HW3.out
          have HQ1 := Lib.hid (HW3.out.alloc (Below.size HW3.out) (.cells #[.bool x.head.neg, .string x.head.name, .slice ta x.head.terms.length tc, .slice ba x.body.length bc] 43))
          have hwb := Below.size HW3.out
          have hs3 := Below.size HS.out
          clear hx hmem htv hbv
          go_wp2_with (at_builtin; have HO6 := Lib.hid (Owned.lit (k := 3) (R := RAtom) (B := wr.heap.size + 1) (e := 40) (S := fun q => q < w.heap.size) (w := wr.alloc (.cells #[.bool x.head.neg, .string x.head.name, .slice ta x.head.terms.length tc, .slice ba x.body.length bc] 43)) (l := [x.head]) [[.bool x.head.neg, .string x.head.name, .slice ta x.head.terms.length tc]] #[.bool x.head.neg, .string x.head.name, .slice ta x.head.terms.length tc] rfl (by simp) (by simp) rfl (by simp) (by simp [maxLen]) (fun i c z hc hz => by
              rcases i with _ | i
              · simp at hc hz
                subst hc hz
                exact ⟨_, rfl, ((HRA.out.t.more (S' := fun q => q < w.heap.size ∧ some q ≠ some (wr.heap.size + 1)) RTerm.steady (fun q _ hq => ⟨hq, fun e => by injection e with e; omega⟩)).agree RTerm.steady ⟨Below.size (HQ1.out.alloc (Below.size HQ1.out) _), fun q hq _ => (HQ1.out.alloc (Below.size HQ1.out) _).block q hq.1⟩) |> fun hh => by simpa using hh⟩
              · simp at hc)); have hq9 : (wr.alloc (.cells #[.bool x.head.neg, .string x.head.name, .slice ta x.head.terms.length tc, .slice ba x.body.length bc] 43)).heap.size = wr.heap.size + 1 := (by simp); rw [hq9] at HO6; clear hq9; refine wpList_append_many (B := wr.heap.size + 1) (e := 40) (S := fun q => q < w.heap.size) (by rfl) _ _ 41 (by rfl) RAtom.steady RAtom.one rowAtoms _ [x.head] (by rfl) HO6.out (.slice ba x.body.length bc) x.body (by rfl) ((HRA.out.b.more (S' := fun q => q < w.heap.size) RAtom.steady (fun q _ hq => hq)).agree RAtom.steady ⟨Below.size (HQ1.out.alloc (Below.size HQ1.out) _), fun q hq _ => (HQ1.out.alloc (Below.size HQ1.out) _).block q hq⟩) (fun cs x' hr => RAtom.steady.more (fun q hq _ => ⟨hq, fun e => by have := (HO6.out.row_lt e.symm).1; omega⟩) hr) (by simp; omega) (by simp) ?_; intro v7 w7 hown7 hg7 hat7; have HO7 := Lib.hid (show Owned 3 RAtom (wr.heap.size + 1) 40 (fun q => q < w.heap.size) w7 v7 (x.head :: x.body) from hown7); have HS7 := Lib.hid (((HS.out.alloc hs3 (.cells #[.bool x.head.neg, .string x.head.name, .slice ta x.head.terms.length tc, .slice ba x.body.length bc] 43)).alloc (by simp; omega) _).grown hg7 (by simp; omega) (fun q hq => by have := (HO6.out.row_lt hq).1; omega)); obtain ⟨a7, c7, rfl, -, -, -⟩ := id (HO7.out.read RAtom.steady).form; clear hown7 hg7 hat7)
          have HRL := Lib.hid (HO7.out.read RAtom.steady)
          have HSM := Lib.hid (show ∀ y ∈ x.head :: x.body, y.terms.length ≤ 1048576 from fun y hy => by
            rcases List.mem_cons.1 hy with rfl | hy
            · exact HSR.out.h1
            · exact HSR.out.b1 y hy)
          obtain ⟨l2, hl2⟩ : ∃ l2, x.head :: x.body = l2 := ⟨_, rfl⟩
          have hl6 : l2.length ≤ 1048577 := by rw [← hl2]; simp only [List.length_cons]; omega
          have hlc : x.body.length + 1 = l2.length := by rw [← hl2]; rfl
          have hlen2 : (x.head :: x.body).length = l2.length := by rw [hl2]
          rw [hl2] at HRL HSM HXM HSN
          clear HO7 d0 d1 d2 d3 hl2
          have HT7 := Lib.hid (Below.refl w7.heap.size w7)
          have HFF : Hid (∀ a ∈ l2.take 0, fitsF f a) := Lib.hid (by simp)
          try simp only [List.length_cons] at *
          have hlcI : (x.body.length : Int) + 1 = (l2.length : Int) := by omega
          try rw [hlcI]
          try rw [hlc] at *
          have hs7 := Below.size HS7.out
          clear hlcI
          go_loopw [38] (fun i wx => ∃ (q : Nat), q ≤ l2.length ∧ i = .int .i64 q ∧ Hid (Below w7.heap.size w7 wx) ∧ Hid (∀ a ∈ l2.take q, fitsF f a)) (fun i _ => l2.length - (intOf i).toNat)
          case atStart => exact ⟨0, Nat.zero_le _, rfl, HT7, HFF⟩
          case round =>
            clear HT7 HFF hlc hlen2
            obtain ⟨q, hq, rfl, HT, HFQ⟩ := hrel
            have HS8 := Lib.hid (HS7.out.trans (HT.out.mono hs7))
            have hst := Below.size HT.out
            by_cases hlq : q < l2.length
            · obtain ⟨y, hy⟩ : ∃ y, l2[q]? = some y := ⟨_, List.getElem?_eq_getElem hlq⟩
              have hym := List.mem_of_getElem? hy
              obtain ⟨b5, o5, yv, rfl, -, hb5, e0, e1, e2, hyv⟩ := RdAtoms.at (RdAtoms.up HRL.out HT.out) hy
              obtain ⟨ya, yc, rfl, -, -, -⟩ := id hyv.form
              have hyl := HSM.out y hym
              have hk8 := HK2.out.below HS8.out hk2
              have k0 := hk8.cell 0; have k1 := hk8.cell 1
              simp only [List.getElem?_toArray, List.getElem?_cons_zero, List.getElem?_cons_succ] at k0 k1
              have hlt8 := hk8.lt
              have HT8 := Lib.hid (HT.out.alloc hst (.cells #[.bool y.neg, .string y.name, .slice ya y.terms.length yc] 40))
              have HF8 := Lib.hid (show fitsF f y → ∀ a ∈ l2.take (q + 1), fitsF f a from fun h a ha => by
                rw [List.take_add_one, hy] at ha
                rcases List.mem_append.1 ha with ha | ha
                · exact HFQ.out a ha
                · obtain rfl : a = y := by simpa using ha
                  exact h)
              have HMY := Lib.hid (fun e hne => HH.out (misfit_yes HAR.out (HXM.out y hym) e hne))
              clear hy hyv hym hk8 HFQ
              by_cases hn : y.name = f.name
              case neg =>
                have gz : (y.name.toList == f.name.toList) = false := by rw [beq_toList]; exact decide_eq_false hn
                have HF9 := Lib.hid (HF8.out fun e => absurd e hn)
                clear hn HF8 HMY
                go_wp2
                go_roundw
                case rel => exact ⟨q + 1, by omega, by go_num, HT8, HF9⟩
                case measure => simp [intOf]; omega
              have gz : (y.name.toList == f.name.toList) = true := by rw [hn]; simp
              have HN := Lib.hid hn
              clear hn
              by_cases hq2 : y.terms.length = f.args.length
              · have i1 : (y.terms.length : Int) = (f.args.length : Int) := by omega
                have HF9 := Lib.hid (HF8.out fun _ => hq2)
                clear hq2 HF8 HMY
                go_wp2
                go_roundw
                case rel => exact ⟨q + 1, by omega, by go_num, HT8, HF9⟩
                case measure => simp [intOf]; omega
              · have i1 : ¬ (y.terms.length : Int) = (f.args.length : Int) := by omega
                have HE := Lib.hid (HMY.out HN.out hq2)
                have HZ8 := Lib.hid (HR2.out.trans ((HS7.out.trans (HT8.out.mono hs7)).mono hs2))
                have hkz := HK1.out.below HZ8.out hk1
                have HZW := Lib.hid (HB1.out.trans (HZ8.out.mono (Below.size HB1.out)))
                have c0 := hkz.cell 0; have c1 := hkz.cell 1; have f0 := hkz.frozen 0; have f1 := hkz.frozen 1
                simp at c0 c1
                clear hq2 HF8 HMY hkz
                go_wp2
                refine bodyPost_ret (v := .agg #[.int .i64 8, .int .i64 j]) (by simp [results, Tryz.results16, go_sem, c0, c1]) rfl ⟨by rw [HE.out], ?_⟩
                exact (HZW.out.setCell (Nat.le_refl _) _).setCell (Nat.le_refl _) _
            · have HF9 := Lib.hid (show ∀ a ∈ atomsOf (p.take (k + 1)), fitsF f a by
                rw [HSN.out]
                intro a ha
                rcases List.mem_append.1 ha with ha | ha
                · exact HF.out a ha
                · exact HFQ.out a (by rw [List.take_of_length_le (by omega)]; exact ha))
              clear HFQ HF HRL
              go_wp2
              go_roundw
              case rel => exact ⟨k + 1, by omega, by go_num, HS8, HF9⟩
              case measure => simp [intOf]; omega
        · have HG2 := Lib.hid (HA1.out (misfit_no HAR.out (by have := HF.out; rwa [List.take_of_length_le (by omega)] at this)))
          clear HF HA1 HH
          go_wp2
          go_roundw
          case rel => exact ⟨j + 1, by omega, by go_num, HR3, HG2⟩
          case measure => simp [intOf]; omega
    · have HE := Lib.hid (factsBad_none (p := p) HZ.out (by have := HG.out; rwa [List.take_of_length_le (by omega)] at this))
      have hkz := HK1.out.below HR.out hk1
      have c0 := hkz.cell 0; have c1 := hkz.cell 1; have f0 := hkz.frozen 0; have f1 := hkz.frozen 1
      simp at c0 c1
      clear hkz HG
      go_wp2
      refine bodyPost_ret (v := .agg #[.int .i64 0, .int .i64 0]) (by simp [results, Tryz.results16, go_sem, c0, c1]) rfl ⟨by rw [HE.out], ?_⟩
      exact (HW.out.setCell (Nat.le_refl _) _).setCell (Nat.le_refl _) _
end Go.Proofs.YtbbiapgkcekabaaGreat
