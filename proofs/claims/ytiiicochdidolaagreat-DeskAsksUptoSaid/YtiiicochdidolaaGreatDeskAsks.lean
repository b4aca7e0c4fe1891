/-
  DeskAsks holds: what is asked of a run that is done is what it knows. No conditions besides those of the row.
-/
import Derived.Test.YtiiicochdidolaaGreatPk13
import Derived.Test.YtiiicochdidolaaGreatPk33
import Derived.Test.YtiiicochdidolaaGreatPk34
namespace Go.Proofs.YtiiicochdidolaaGreat
open Go.RowKit Go.ChangeShapes Go.WideShapes Go.ChangeAt

theorem exists_sp : ∃ sp : StrataFn, ∀ p, StrataIs p (sp p).1 (sp p).2 := ⟨fun p => ((exists_strata p).choose, (exists_strata p).choose_spec.choose), fun p => (exists_strata p).choose_spec.choose_spec⟩
theorem alive8True (w : World) : Calls Tryz.prog 7 #[] w fun e w' => e = .returned (.bool true) ∧ Below w.heap.size w w' := by
  obtain ⟨sp, hsp⟩ := exists_sp
  exact alive8Calls hsp w
theorem allP_err {b : List PAtom} {k : List PFact} (h : (allP b k).2 ≠ 0) : allP b k = ([], (allP b k).2) := by
  unfold allP withP at h ⊢
  split
  · rfl
  rename_i h1
  rw [if_neg h1] at h
  split
  · rfl
  rename_i h2
  rw [if_neg h2] at h
  split
  · rfl
  rename_i h3
  rw [if_neg h3] at h
  split
  · rfl
  · rename_i hg
    rw [hg] at h
    exact absurd rfl h
theorem RDo.one {S : Nat → Prop} {w : World} {cs : List Value} {x : PDo} (h : RDo S w cs x) : ∀ u ∈ cs, u.oneCell' = true := by
  obtain ⟨av, rfl, hr⟩ := h
  obtain ⟨a, c, rfl, -⟩ := hr.form
  simp [Value.oneCell']
theorem rowDos : RowT Tryz.prog 22 40 5 := RowT.mk' (b := 72) (z := .agg #[.int .i64 0, .int .i64 0, .string ⟨#[]⟩, .slice none 0 0, .string ⟨#[]⟩]) Tryz.underlying22 (by kernel_rfl) (by omega) rfl (by omega)
/-- The last thing that is asked. -/
theorem play_ask {sp : StrataFn} {l : List PDo} (s : Str) (h : l.length < 60) : ∃ d a, playP sp l = (d, a, 0) ∧ playP sp (l ++ [⟨5, 0, noF, s⟩]) = (d, a ++ [askP d s], 0) ∧ a.length = l.length ∧ d = (playL sp zeroDesk l).1 := by
  refine ⟨(playL sp zeroDesk l).1, (playL sp zeroDesk l).2, by unfold playP; rw [if_neg (by omega)], ?_, playL_len _ _, rfl⟩
  unfold playP
  rw [if_neg (by rw [List.length_append, List.length_singleton]; omega), playL_append]
  rfl
set_option maxRecDepth 100000 in
set_option maxHeartbeats 8000000 in
theorem deskAsksCalls {S : Nat → Prop} (l : List PDo) (lv : Value) (s : Str) (w : World) (h : RdDos S w lv l) (n1 : l.length ≤ 1048576) (n2 : ∀ x ∈ l, DoSmall x) (n3 : s.size ≤ 1048576) :
    Calls Tryz.prog 3 #[lv, .string s] w fun e w' => e = .returned (.bool true) ∧ Below w.heap.size w w' := by
  obtain ⟨la, lc, rfl, -, -, -⟩ := id h.form
  obtain ⟨sp, hsp⟩ := exists_sp
  have HL := Lib.hid (h.old RDo.steady (Below.refl _ _))
  have KA := Lib.hid (alive8True w)
  have HN2 := Lib.hid n2
  have KP := Lib.hid (fun (m : List PDo) (mv : Value) (W : World) (hm : RdDos (fun _ => True) W mv m) (g1 : m.length ≤ 1048576) (g2 : ∀ x ∈ m, DoSmall x) => playCalls hsp m mv W hm g1 g2)
  clear h n2
  by_cases h60 : 60 ≤ l.length
  · have h1 : (60 : Int) ≤ (l.length : Int) := by omega
    clear h60
    go_enter Tryz.func3, Tryz.ntmps3
    go_wp2_with (go_at_call 7; refine (KA.out).mono ?_; rintro e w1 ⟨rfl, hb1⟩; have HB1 := Lib.hid hb1; clear hb1)
    go_ret
    exact ⟨rfl, HB1.out⟩
  have h1 : ¬ (60 : Int) ≤ (l.length : Int) := by omega
  obtain ⟨d, aa, hp1, hp2, hal, hd⟩ := play_ask (sp := sp) s (show l.length < 60 by omega)
  have hok := play_ok hsp l (zero_ok hsp)
  rw [← hd] at hok
  have HOK := Lib.hid (run_small hok)
  have K1 := Lib.hid (fun W (hm : RdDos (fun _ => True) W (.slice la l.length lc) l) => KP.out l _ W hm n1 HN2.out)
  have K2 := Lib.hid (fun mv W (hm : RdDos (fun _ => True) W mv (l ++ [⟨5, 0, noF, s⟩])) => KP.out _ mv W hm (by simp; omega) (fun x hx => by
    rcases List.mem_append.1 hx with hx | hx
    · exact HN2.out x hx
    · obtain rfl := List.mem_singleton.1 hx; exact ⟨Nat.zero_le _, n3⟩))
  rw [hp1] at K1
  rw [hp2] at K2
  have KB := Lib.hid (fun W => bodyTextCalls s W n3)
  obtain ⟨rn_, rf_⟩ := body_ok s
  have hak : askP d s = if (parseBodyF s).2.1 ≠ 0 then ansE (parseBodyF s).2.1 (parseBodyF s).2.2 else if (d.running && d.run.done) = false then ansE 11 0
    else if (allP (parseBodyF s).1 d.run.known).2 ≠ 0 then ansE (allP (parseBodyF s).1 d.run.known).2 0 else ⟨0, 0, (allP (parseBodyF s).1 d.run.known).1.length, (allP (parseBodyF s).1 d.run.known).1, zeroPf⟩ := rfl
  have KM := Lib.hid (fun W (v kv : Value) (hv : RdAtoms (fun _ => True) W v (parseBodyF s).1) (hk : RdFacts (fun _ => True) W kv d.run.known) => allReads v (parseBodyF s).1 kv d.run.known W hv hk (by omega) (fun a ha => by have := (rf_ a ha).many; omega) (fun a ha t ht => by have := name12 ((rf_ a ha).terms t ht).1; omega) HOK.out.k1 HOK.out.k2)
  have hme := fun h => allP_err (b := (parseBodyF s).1) (k := d.run.known) h
  have HSH := Lib.hid (all_short (parseBodyF s).1 d.run.known)
  unfold BodyPost at KB
  clear hp1 hp2 hd hok KP rf_ rn_ HN2
  generalize askP d s = ak at *
  generalize allP (parseBodyF s).1 d.run.known = ax at *
  generalize parseBodyF s = ps at *
  obtain ⟨pb, e1, a1⟩ := ps
  obtain ⟨ls, e2⟩ := ax
  dsimp only at *
  obtain ⟨kerr, kat, kn, kb, kp⟩ := ak
  have HCS := Lib.hid (show (e1 ≠ 0 ∧ kerr = e1 ∧ kat = a1) ∨ (e1 = 0 ∧ d.running = false ∧ kerr = 11 ∧ kb = []) ∨ (e1 = 0 ∧ d.running = true ∧ d.run.done = false ∧ kerr = 11 ∧ kb = []) ∨ (e1 = 0 ∧ d.running = true ∧ d.run.done = true ∧ kerr = e2 ∧ kn = (ls.length : Int) ∧ ls = kb) by
    by_cases h1 : e1 = 0
    · rw [if_neg (by simpa using h1)] at hak
      cases h2 : d.running
      · rw [if_pos (by rw [h2]; rfl)] at hak
        injection hak with u1 u2 u3 u4 u5
        exact .inr (.inl ⟨h1, rfl, u1, u4⟩)
      · cases h3 : d.run.done
        · rw [if_pos (by rw [h2, h3]; rfl)] at hak
          injection hak with u1 u2 u3 u4 u5
          exact .inr (.inr (.inl ⟨h1, rfl, rfl, u1, u4⟩))
        · rw [if_neg (by rw [h2, h3]; decide)] at hak
          refine .inr (.inr (.inr ⟨h1, rfl, rfl, ?_⟩))
          by_cases h4 : e2 = 0
          · rw [if_neg (by simpa using h4)] at hak
            injection hak with u1 u2 u3 u4 u5
            exact ⟨u1.trans h4.symm, u3, u4.symm⟩
          · rw [if_pos h4] at hak
            have h5 := congrArg Prod.fst (hme h4)
            dsimp only at h5
            subst h5
            injection hak with u1 u2 u3 u4 u5
            exact ⟨u1, u3, u4.symm⟩
    · rw [if_pos h1] at hak
      injection hak with u1 u2 u3 u4 u5
      exact .inl ⟨h1, u1, u2⟩)
  clear hak hme
  go_enter Tryz.func3, Tryz.ntmps3
  go_wp2_with (first
    | (go_at_call 11; have hh := HM11.out; clear hh; refine (sameBindsRef _ _ ls _ HR10.out HM11.out (by have := HSH.out.1; omega) (fun x hx => by have := HSH.out.2 x hx; omega)).mono ?_; rintro e w12 ⟨rfl, hf12⟩; have HBZ := Lib.hid (HB11.out.trans (hf12.below.mono HB11.out.size)); have HA12 := Lib.hid (HA11.out.below hf12.below HA11.out.lt); have c2 := HA12.out.cell 2; simp only [List.getElem?_toArray, List.getElem?_cons_zero, List.getElem?_cons_succ] at c2; rw [Z5.out] at c2; clear hf12)
    | (go_at_call 10; have hh := HB9.out; clear hh; refine (KM.out _ _ _ HV9.out (HK9.out.more RFact.steady (fun _ _ _ => trivial))).mono ?_; rintro e w11 ⟨⟨xa1, xa2, rfl, hr11⟩, hb11⟩; have HB11 := Lib.hid (HB9.out.trans (hb11.mono HB9.out.size)); have HM11 := Lib.hid (RdSlice.more RBinds.steady (S' := fun _ => True) (fun _ _ _ => trivial) hr11); have HR10 := Lib.hid (show RdBindss (fun _ => True) w11 (.slice xb ls.length xc) ls from RdSlice.more RBinds.steady (fun _ _ _ => trivial) (RdSlice.agree RBinds.steady (Below.agree hb11) HR9.out)); have HA11 := Lib.hid (HA9.out.below hb11 HA9.out.lt); have c0 := HA11.out.cell 0; have c1 := HA11.out.cell 1; have c2 := HA11.out.cell 2; have c3 := HA11.out.cell 3; have c4 := HA11.out.cell 4; have c5 := HA11.out.cell 5; have c6 := HA11.out.cell 6; have c7 := HA11.out.cell 7; simp only [List.getElem?_toArray, List.getElem?_cons_zero, List.getElem?_cons_succ] at c0 c1 c2 c3 c4 c5 c6 c7; rw [Z4.out] at c0; rw [Z5.out] at c2; clear hb11 hr11)
    | (go_at_call 9; have hh := HA8.out; clear hh; refine (KB.out _).mono ?_; rintro e w9 ⟨⟨bv, rfl, hr9⟩, hb9⟩; obtain ⟨va, vc, rfl, -, -, -⟩ := id hr9.form
       obtain ⟨X9, hX9⟩ : ∃ X : World, w9.alloc (.cells #[.int .i64 e1, .int .i64 a1] 49) = X := ⟨_, rfl⟩
       have hg9 : Below w9.heap.size w9 X9 := by subst hX9; exact (Below.refl _ _).alloc (Nat.le_refl _) _
       have hbt := hb9.trans (hg9.mono hb9.size)
       have HB9 := Lib.hid (HB8.out.trans (hbt.mono HB8.out.size))
       have HF9 := Lib.hid (show Blk X9 w9.heap.size 49 #[.int .i64 e1, .int .i64 a1] by subst hX9; exact Blk.new w9 _ _)
       have HA9 := Lib.hid (HA8.out.below hbt HA8.out.lt)
       have HD9 := Lib.hid (HD8.out.below hbt HD8.out.lt)
       have HV9 := Lib.hid (RdSlice.agree RAtom.steady (Below.agree hg9) (RdSlice.more RAtom.steady (S' := fun _ => True) (fun _ _ _ => trivial) hr9))
       have HK9 := Lib.hid (HK8.out.agree (Below.agree hbt))
       have HR9 := Lib.hid (RdSlice.agree RBinds.steady (Below.agree hbt) HR8.out)
       have f0 := HF9.out.cell 0; have f1 := HF9.out.cell 1; simp only [List.getElem?_toArray, List.getElem?_cons_zero, List.getElem?_cons_succ] at f0 f1
       clear hb9 hr9 hg9 hbt HB8 HA8 HD8 HK8 HR8 c0 c1 c2 c3 c4 c5 c6 c7
       have c0 := HA9.out.cell 0; have c1 := HA9.out.cell 1; have c2 := HA9.out.cell 2; have c3 := HA9.out.cell 3; have c4 := HA9.out.cell 4; have c5 := HA9.out.cell 5; have c6 := HA9.out.cell 6; have c7 := HA9.out.cell 7; simp only [List.getElem?_toArray, List.getElem?_cons_zero, List.getElem?_cons_succ] at c0 c1 c2 c3 c4 c5 c6 c7
       have t0 := HD9.out.cell 0; have t1 := HD9.out.cell 1; have t2 := HD9.out.cell 2; have t3 := HD9.out.cell 3; have t4 := HD9.out.cell 4; have t5 := HD9.out.cell 5; have t6 := HD9.out.cell 6; have t7 := HD9.out.cell 7; have t8 := HD9.out.cell 8; simp only [List.getElem?_toArray, List.getElem?_cons_zero, List.getElem?_cons_succ] at t0 t1 t2 t3 t4 t5 t6 t7 t8
       rcases HCS.out with ⟨y1, y2, y3⟩ | ⟨x1, x2, x3, x4⟩ | ⟨v1, v2, v3, v4, v5⟩ | ⟨z1, z2, z3, z4, z5, z6⟩
       all_goals first
         | (have g1 : (e1 != 0) = true := by simpa using y1
            rw [y2] at c0; rw [y3] at c1; clear y1 y2 y3 HCS)
         | (rw [x1] at f0; rw [x2] at t2; rw [x3] at c0; rw [x4] at c3; clear x1 x2 x3 x4 HCS)
         | (rw [v1] at f0; rw [v2] at t2; rw [v3] at t7; rw [v4] at c0; rw [v5] at c3; clear v1 v2 v3 v4 v5 HCS)
         | (subst z6; have Z4 := Lib.hid z4; have Z5 := Lib.hid z5; rw [z1] at f0; rw [z2] at t2; rw [z3] at t7; rw [z4] at c0; rw [z5] at c2; clear z1 z2 z3 z4 z5 HCS))
    | (go_at_call 8; have hh := HO5.out; clear hh; refine (K2.out _ _ HO5.out).mono ?_; rintro e w6 ⟨hb6, pta, ptc, pra, prc, pka, pkc, pna, pnc, psa, psn, psc, qa, qc, rfl, -, han6⟩
       obtain ⟨a', c', hv, -, -, -, h3⟩ := han6
       obtain ⟨g, o, cs, ha, -, hg, hk8, hc8, xb, xc, s0, y1, y2, y3, y4, y5, y6, y7, rfl, hbd⟩ := h3 l.length ⟨kerr, kat, kn, kb, kp⟩ (by rw [← hal]; simp)
       injection hv with q1 q2 q3
       subst q1
       subst ha
       obtain ⟨X7, hX7⟩ : ∃ X : World, w6.alloc (.cells #[.slice pta d.told.length ptc, .slice pra d.rules.length prc, .bool d.running, .slice pka d.run.known.length pkc, .slice pna d.run.new.length pnc, .int .i64 d.run.stratum, .int .i64 d.run.rounds, .bool d.run.done, .slice psa psn psc] 31) = X := ⟨_, rfl⟩
       have hg7 : Below w6.heap.size w6 X7 := by subst hX7; exact (Below.refl _ _).alloc (Nat.le_refl _) _
       have hs7 : X7.heap.size = w6.heap.size + 1 := by subst hX7; simp
       obtain ⟨X8, hX8⟩ : ∃ X : World, X7.alloc (.cells #[.int .i64 kerr, .int .i64 kat, .int .i64 kn, .slice xb kb.length xc, .string s0, .slice y1 y2 y3, .int .i64 y4, .slice y5 y6 y7] 46) = X := ⟨_, rfl⟩
       have hg8 : Below X7.heap.size X7 X8 := by subst hX8; exact (Below.refl _ _).alloc (Nat.le_refl _) _
       have hbt := (hb6.trans (hg7.mono hb6.size)).trans (hg8.mono (hb6.trans (hg7.mono hb6.size)).size)
       have c0 := (cell_below hg7 hg _).trans (hc8 0 _ rfl); have c1 := (cell_below hg7 hg _).trans (hc8 1 _ rfl); have c2 := (cell_below hg7 hg _).trans (hc8 2 _ rfl); have c3 := (cell_below hg7 hg _).trans (hc8 3 _ rfl); have c4 := (cell_below hg7 hg _).trans (hc8 4 _ rfl); have c5 := (cell_below hg7 hg _).trans (hc8 5 _ rfl); have c6 := (cell_below hg7 hg _).trans (hc8 6 _ rfl); have c7 := (cell_below hg7 hg _).trans (hc8 7 _ rfl); rw [Nat.add_zero] at c0
       have hql : (aa ++ [(⟨kerr, kat, kn, kb, kp⟩ : PAns)]).length = l.length + 1 := by rw [List.length_append, hal]; rfl
       have HA8 := Lib.hid (show Blk X8 (w6.heap.size + 1) 46 #[.int .i64 kerr, .int .i64 kat, .int .i64 kn, .slice xb kb.length xc, .string s0, .slice y1 y2 y3, .int .i64 y4, .slice y5 y6 y7] by rw [← hs7]; subst hX8; exact Blk.new X7 _ _)
       have HB8 := Lib.hid (HB5.out.trans (hbt.mono HB5.out.size))
       have HD8 := Lib.hid (HD5.out.below hbt HD5.out.lt)
       have HK8 := Lib.hid (HK5.out.agree (Below.agree hbt))
       have HR8 := Lib.hid (RdSlice.agree RBinds.steady (Below.agree hg8) (RdSlice.agree RBinds.steady (Below.agree hg7) hbd))
       clear hb6 h3 hc8 hg7 hg8 hbt hbd HB5 HD5 HK5)
    | (at_builtin; have hh := HO4.out; clear hh
       refine wpList_append_one (B := w.heap.size) (e := 40) (S := fun b => b < w.heap.size) (by rfl) _ _ 22 (by rfl) RDo.steady rowDos _ l (by rfl) (HO4.out.alloc RDo.steady _) _ 1 #[.int .i64 5, .int .i64 0, .string ⟨#[]⟩, .slice none 0 0, .string s] 40 (0, 0) ⟨5, 0, noF, s⟩ (by rfl) (heap_alloc_new w4 _) rfl (by simp [Value.oneCell']) ⟨_, rfl, RdStrs.nil⟩ (by omega) (by have := HB4.out.size; simp; omega) ?_
       intro v5 w5 ho5 hg5 hat5
       have HO5 := Lib.hid ((ho5.read RDo.steady).more RDo.steady (S' := fun _ => True) (fun _ _ _ => trivial))
       have HB5 := Lib.hid ((HB4.out.alloc HB4.out.size (.cells #[.int .i64 5, .int .i64 0, .string ⟨#[]⟩, .slice none 0 0, .string s] 40)).grown hg5 (by have := HB4.out.size; simp; omega) (fun q hq => (HO4.out.row_lt hq).1))
       have HD5 := Lib.hid ((HD4.out.alloc (.cells #[.int .i64 5, .int .i64 0, .string ⟨#[]⟩, .slice none 0 0, .string s] 40)).grown hg5 (fun e => Nat.lt_irrefl _ (HN4.out _ e.symm)))
       have HK5 := Lib.hid (rdFacts_grown (HK4.out.agree ((Agree.refl _ _).alloc (.cells #[.int .i64 5, .int .i64 0, .string ⟨#[]⟩, .slice none 0 0, .string s] 40))) hg5 (fun q hq h => Nat.lt_irrefl _ (Nat.lt_trans (HN4.out q hq) h)))
       obtain ⟨a5, c5', rfl, -, -, -⟩ := id (ho5.read RDo.steady).form
       rw [show (l ++ [(⟨5, 0, noF, s⟩ : PDo)]).length = l.length + 1 by simp] at HO5
       clear ho5 hg5 hat5 HB4 HD4 HK4)
    | (at_builtin; have hh := HB2.out; clear hh
       refine wpList_append_many (B := w.heap.size) (e := 40) (S := fun b => b < w.heap.size) (by rfl) _ _ 22 (by rfl) RDo.steady RDo.one rowDos _ [] (by rfl) HOW.out _ l (by rfl) HLW.out HMM.out (by simp; omega) HSW.out ?_
       intro v4 w4 ho4 hg4 hat4; rw [List.nil_append] at ho4
       have HO4 := Lib.hid ho4
       have HB4 := Lib.hid (HBX.out.grown hg4 HSW.out (fun q hq => by have e1 : X2.heap.size = q := Option.some.inj hq; omega))
       have HN4 := Lib.hid (show ∀ q, v4.ownBlock = some q → w2.heap.size < q from fun q hq => by rcases hat4 with e | e <;> rw [e] at hq <;> first | (have e1 : X2.heap.size = q := Option.some.inj hq; omega) | (have e1 : X3.heap.size = q := Option.some.inj hq; omega))
       have HD4 := Lib.hid (HDX.out.grown hg4 (fun e => by have e1 : w2.heap.size = X2.heap.size := Option.some.inj e; omega))
       have HK4 := Lib.hid (rdFacts_grown HKX.out hg4 (fun q hq h => by have e1 : X2.heap.size = q := Option.some.inj hq; omega))
       obtain ⟨a4, c4', rfl, -, -, -⟩ := id (ho4.read RDo.steady).form
       clear ho4 hg4 hat4 HBX HDX HKX HOW HLW HMM)
    | (go_at_call 8; have hh := HB1.out; clear hh; refine (K1.out _ ((HL.out.agree RDo.steady (Below.agree' HB1.out)).more RDo.steady (fun _ _ _ => trivial))).mono ?_; rintro e w2 ⟨hb2, ta, tc, ra, rc, ka, kc, na, nc, sa, sn, sc, oa, oc, rfl, hrd2, -⟩
       obtain ⟨X2, hX2⟩ : ∃ X : World, w2.alloc (.cells #[.slice ta d.told.length tc, .slice ra d.rules.length rc, .bool d.running, .slice ka d.run.known.length kc, .slice na d.run.new.length nc, .int .i64 d.run.stratum, .int .i64 d.run.rounds, .bool d.run.done, .slice sa sn sc] 31) = X := ⟨_, rfl⟩
       have hg2 : Below w2.heap.size w2 X2 := by subst hX2; exact (Below.refl _ _).alloc (Nat.le_refl _) _
       obtain ⟨X3, hX3⟩ : ∃ X : World, X2.alloc (.cells #[] 40) = X := ⟨_, rfl⟩
       have hg3 : Below X2.heap.size X2 X3 := by subst hX3; exact (Below.refl _ _).alloc (Nat.le_refl _) _
       have hx2 : w.heap.size < X2.heap.size ∧ w2.heap.size < X2.heap.size ∧ X2.heap.size < X3.heap.size := by
         have h1 := HB1.out.size; have h2 := hb2.size
         subst hX3 hX2
         simp
         omega
       have HB2 := Lib.hid ((HB1.out.trans (hb2.mono HB1.out.size)).trans (hg2.mono (HB1.out.trans (hb2.mono HB1.out.size)).size))
       have HBX := Lib.hid (HB2.out.trans (hg3.mono HB2.out.size))
       have HSW := Lib.hid HBX.out.size
       have HOW := Lib.hid (show Owned 5 RDo w.heap.size 40 (fun b => b < w.heap.size) X3 (.slice (some ⟨X2.heap.size, 0, none⟩) 0 0) [] by subst hX3; exact Owned.made (R := RDo) (k := 5) (e := 40) (B := w.heap.size) (S := fun b => b < w.heap.size) (w := X2) (cur := #[]) (cap := 0) HB2.out.size (Nat.zero_le _) rfl)
       have HLW := Lib.hid (HL.out.agree RDo.steady (Below.agree' HBX.out))
       have HMM := Lib.hid (fun (cs : List Value) (x : PDo) (h : RDo (fun b => b < w.heap.size) X3 cs x) => show RDo (fun b => b < w.heap.size ∧ some b ≠ (Value.slice (some ⟨X2.heap.size, 0, none⟩) 0 0).ownBlock) X3 cs x from RDo.steady.more (fun q hq _ => ⟨hq, fun e => by have h1 := Option.some.inj e; have h3 : q < w.heap.size := hq; simp at h1; omega⟩) h)
       have HDX := Lib.hid (show Blk X3 w2.heap.size 31 #[.slice ta d.told.length tc, .slice ra d.rules.length rc, .bool d.running, .slice ka d.run.known.length kc, .slice na d.run.new.length nc, .int .i64 d.run.stratum, .int .i64 d.run.rounds, .bool d.run.done, .slice sa sn sc] by subst hX3 hX2; exact (Blk.new w2 _ _).alloc _)
       have HKX := Lib.hid (((hrd2.known.old RFact.steady (Below.refl _ _)).agree RFact.steady (Below.agree' hg2)).agree RFact.steady (Below.agree (S := fun q => q < w2.heap.size) hg3))
       clear hb2 hrd2 hg2 hg3 HB1)
    | (go_at_call 7; refine (KA.out).mono ?_; rintro e w1 ⟨rfl, hb1⟩; have HB1 := Lib.hid hb1; clear hb1))
  all_goals
    go_ret
    first
      | exact ⟨rfl, HB9.out⟩
      | exact ⟨ret_bool (by simp), HBZ.out⟩
      | exact ⟨ret_bool (by simp), HB9.out⟩
namespace deskAsks
theorem own : ownKnob Tryz.prog.godebug = none := by kernel_rfl

set_option maxRecDepth 100000 in
theorem contract (H : Type) (enc : TypeId × Value → H) (W : World) (base : Nat) (args : Array Value) (ds gs : List (DataW H)) (before : List MemPlace)
    (hval : ∀ (j : Nat) t v, Tryz.f3.params[j]? = some t → args[j]? = some v → Value.okWide Tryz.prog W .any base t v)
    (hW : DataW.Whole enc Tryz.prog Tryz.f3.params.toList Rows.deskAsksSpec.vars false W args.toList ds gs before) (hk : Rows.uptoSmall H (ds ++ gs) = true) :
    Calls Tryz.prog 3 args W fun e W' => ∃ v, e = .returned v ∧ Rows.deskAsksSpec.post enc Tryz.prog Tryz.f3 false true false false W args v W' := by
  have hW' := hW
  obtain ⟨p, q, hA0, hV, rfl, hfz, hnd⟩ := hW
  have hA : DataW.TrodAll enc Tryz.prog W 0 (fun _ => true) true Tryz.f3.params.toList args.toList ds p := hA0
  rw [Tryz.params3] at hA hval
  obtain ⟨v0, v1, d0, d1, p0, p1, rfl, rfl, rfl, h0, h1⟩ := trodAll_two hA
  obtain ⟨rfl, rfl⟩ := trodVars_none hV
  obtain ⟨x0, r0, s0⟩ := openDo.sliceArg Tryz.underlying22 (hval 0 22 v0 rfl rfl) h0
  obtain ⟨x1, rfl, s1⟩ := openStr.strArg Tryz.underlying9 (hval 1 9 v1 rfl rfl) h1
  rw [List.append_nil] at hk
  have hb : Rows.uptoBulkAll [d0, d1] ≤ 1048576 := of_decide_eq_true hk
  simp only [Rows.uptoBulkAll] at hb
  have l0 := dos_small (l := x0) (by omega)
  refine (deskAsksCalls x0 v0 x1 W r0 l0.1 l0.2 (by omega)).mono fun e W' ⟨he, hb'⟩ => ?_
  subst he
  exact ⟨_, rfl, law_post (tb := 4) hW' rfl rfl (by kernel_rfl) Tryz.underlying4 (by kernel_rfl) (by kernel_rfl) hb'⟩

set_option maxRecDepth 100000 in
theorem lifted (os : Os) (started : os.Started) (H : Type) (enc : TypeId × Value → H) (F : Stop.Interp) :
    ReturnsInHanded {} Tryz.checked os 3 .any ((Rows.OpenSpec.upto Rows.deskAsksSpec).pre6 enc Tryz.prog Tryz.f3 Rows.deskAsksUptoRow.domain false) (((Rows.OpenSpec.upto Rows.deskAsksSpec).at F).post enc Tryz.prog Tryz.f3 false true false false) := by
  refine returnsInHanded_of_cond (C := Tryz.checked) (s := Rows.OpenSpec.upto Rows.deskAsksSpec) (k := Rows.uptoSmall) rfl own started (by kernel_rfl) Tryz.func3
    (OpenSpec.witness (enc := enc) (C := Tryz.checked) (s := Rows.OpenSpec.upto Rows.deskAsksSpec) (k := Rows.uptoSmall) rfl false ⟨#[], #[.slice none 0 0, .string .empty], []⟩ 8 (by kernel_rfl) (by kernel_rfl) (by kernel_rfl)
      (x := ([.nil, .lit (.string [])], [], [])) (by kernel_rfl) rfl (by kernel_rfl)) ?_
  intro W base args ds gs before hval hW _ hk _
  exact contract H enc W base args ds gs before hval hW hk

theorem proved : Rows.DeskAsksUptoSaid :=
  OpenClaim.holds_of_cond 3 Tryz.f3 rfl rfl rfl rfl rfl rfl rfl ⟨rfl, rfl, rfl, rfl, rfl⟩ rfl rfl rfl rfl rfl (by kernel_rfl) Tryz.func3 (by kernel_rfl)
    (of_decide_eq_true (by kernel_rfl)) (by unfold Func.isWrapper; first | (rw [if_pos (by decide +kernel)]; kernel_rfl) | (rw [if_neg (by decide +kernel)]; exact ⟨rfl, rfl⟩))
    (fun os started H enc _ F => lifted os started H enc F)
end deskAsks

end Go.Proofs.YtiiicochdidolaaGreat
