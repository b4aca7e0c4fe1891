/-
  DeskTurns holds: a run comes back from its bytes, and bytes that are read are those of their run. No conditions besides those of the row.
-/
import Derived.Test.YtiaehkpimepbgaaGreatPk17
import Derived.Test.YtiaehkpimepbgaaGreatPk31
import Derived.Test.YtiaehkpimepbgaaGreatPk32
import Derived.Test.YtiaehkpimepbgaaGreatPk33
namespace Go.Proofs.YtiaehkpimepbgaaGreat
open Go.RowKit Go.ChangeShapes Go.WideShapes Go.ChangeAt

theorem exists_sp : ∃ sp : StrataFn, ∀ p, StrataIs p (sp p).1 (sp p).2 := ⟨fun p => ((exists_strata p).choose, (exists_strata p).choose_spec.choose), fun p => (exists_strata p).choose_spec.choose_spec⟩
theorem alive8True (w : World) : Calls Tryz.prog 9 #[] w fun e w' => e = .returned (.bool true) ∧ Below w.heap.size w w' := by
  obtain ⟨sp, hsp⟩ := exists_sp
  exact alive8Calls hsp w
theorem openU8 : Opens Tryz.prog 5 1 RU8 (fun _ => 1) where
  cells := by kernel_rfl
  pos := by omega
  one _ := by simp
  opn h := by
    obtain ⟨s, rfl, rfl, hw⟩ := DataW.trod_int Tryz.underlying5 h
    have hb : IntKind.u8.min ≤ s ∧ s ≤ IntKind.u8.max := by simpa [Lit.wf] using hw
    have e1 : IntKind.u8.min = 0 := by decide
    have e2 : IntKind.u8.max = 255 := by decide
    rw [e1, e2] at hb
    refine ⟨UInt8.ofNat s.toNat, ?_, by simp [Rows.uptoBulk]⟩
    show [_] = [u8v _]
    unfold u8v
    rw [UInt8.toNat_ofNat']
    congr 2
    omega
theorem run_small8 {r : PRun} (h : sizeRun r ≤ 1048576) : RunSmall r := by
  have hf : ∀ {l : List PFact}, sizeL sizeFact l ≤ 1048576 → l.length ≤ 1048576 ∧ ∀ x ∈ l, x.args.length ≤ 1048576 := fun {l} hl => ⟨by have := sizeL_le openFact.one l; omega, fun x hx => by have h1 := sizeL_mem (size := sizeFact) hx; have h2 := sizeL_le openStr.one x.args; simp only [sizeFact] at h1; omega⟩
  unfold sizeRun at h
  obtain ⟨h1, h2⟩ := hf (l := r.known) (by omega)
  obtain ⟨h3, h4⟩ := hf (l := r.new) (by omega)
  exact ⟨h1, h2, h3, h4⟩
theorem load_err {st : List Int} {q : Int} {p : List PRule} {b : Bytes} (h : (loadP st q p b).2 ≠ 0) : loadP st q p b = (zeroRun, (loadP st q p b).2) := by
  unfold loadP at h ⊢
  split
  · rfl
  · split
    · rfl
    · rename_i h1 h2; rw [if_neg h1, if_neg h2] at h; exact absurd rfl h
set_option maxRecDepth 100000 in
theorem conv8 {w : World} {S : Nat → Prop} {a : Option Addr} {n c : Nat} {bs : Bytes} (h : RdBytes S w (.slice a n c) bs) (hn : bs.length = n) : (convert 27 9 (.slice a n c)).run Tryz.prog w = .ok (.string (strOf bs)) w :=
  rd_conv (B := w.heap.size) (h.more RU8.steady (fun _ _ hl => hl)) hn
theorem zeroRd {w : World} : RunRd w zeroRun (.slice none 0 0) (.slice none 0 0) := ⟨RdFacts.nil, RdFacts.nil⟩
theorem zeroSm : RunSmall zeroRun := ⟨by decide, (fun x hx => by cases hx), by decide, (fun x hx => by cases hx)⟩
set_option maxRecDepth 100000 in
set_option maxHeartbeats 8000000 in
theorem deskTurnsCalls {S S2 : Nat → Prop} (p : List PRule) (v : Value) (r : PRun) (kv nv : Value) (b : Bytes) (bv : Value) (w : World) (h : RdRules S w v p) (hr : RunRd w r kv nv) (hb : RdBytes S2 w bv b)
    (n1 : p.length ≤ 1048576) (n2 : ∀ r ∈ p, RuleSmall r) (n3 : ∀ r ∈ p, NameSmall r) (ns : RunSmall r) :
    Calls Tryz.prog 3 #[v, .agg #[kv, nv, .int .i64 r.stratum, .int .i64 r.rounds, .bool r.done], bv] w fun e w' => e = .returned (.bool true) ∧ Below w.heap.size w w' := by
  obtain ⟨a, c, rfl, -, -, -⟩ := id h.form
  obtain ⟨ka, kc, rfl, -, -, -⟩ := id hr.known.form
  obtain ⟨na, nc, rfl, -, -, -⟩ := id hr.new.form
  obtain ⟨ba, bc, rfl, -, -, -⟩ := id hb.form
  obtain ⟨st, q, hS⟩ := exists_strata p
  have KV := Lib.hid (fun W kv nv (r : PRun) (hW : Below w.heap.size w W) (hr : RunRd W r kv nv) hs => saveCalls p (.slice a p.length c) st q r kv nv W hS (h.up hW) hr n1 n2 n3 hs)
  have KL := Lib.hid (fun W bv (b : Bytes) (hW : Below w.heap.size w W) (hb : RdBytes (fun _ => True) W bv b) => loadCalls p (.slice a p.length c) bv st q b W hS (h.up hW) hb n1 n2 n3)
  have HBV := Lib.hid (fun W (hW : Below w.heap.size w W) => show RdBytes (fun _ => True) W (.slice ba b.length bc) b from ((hb.old RU8.steady (Below.refl _ _)).agree RU8.steady (Below.agree' hW)).more RU8.steady (fun _ _ _ => trivial))
  have HTO := Lib.hid (fun (h : runBad st q.1 p r = 0) => show saveP st q.1 p r = (runB8 r, 0) ∧ loadP st q.1 p (runB8 r) = (r, 0) from by
    have hs := save_good h
    have ht := turns_to (st := st) (q := q.1) (p := p) (r := r) (strata_count hS (runBad_zero.1 h).1).2.2.1 (by rw [hs])
    rw [hs] at ht
    exact ⟨hs, ht⟩)
  have HBK := Lib.hid (fun (h : (loadP st q.1 p b).2 = 0) => show loadP st q.1 p b = (readR b, 0) ∧ saveP st q.1 p (readR b) = (b, 0) from by
    have h1 := load_zero h
    have h2 := turns_back h
    rw [h1.2.2] at h2
    exact ⟨Prod.ext h1.2.2 h, h2⟩)
  have HER := Lib.hid (fun (h : (loadP st q.1 p b).2 ≠ 0) => load_err h)
  have HSM := Lib.hid ns
  have HRS := Lib.hid (readR_small b)
  have HI0 := Lib.hid (show RunIn w (w.alloc (.cells #[.slice ka r.known.length kc, .slice na r.new.length nc, .int .i64 r.stratum, .int .i64 r.rounds, .bool r.done] 26)) w.heap.size (.slice ka r.known.length kc) (.slice na r.new.length nc) r from ⟨(Below.refl _ _).alloc (Nat.le_refl _) _, Nat.le_refl _, Blk.new w _ _, hr.up ((Below.refl _ _).alloc (Nat.le_refl _) _)⟩)
  obtain ⟨rk, rn, rs, rr, rd⟩ := r
  have KA := Lib.hid (alive8True (w.alloc (.cells #[.slice ka rk.length kc, .slice na rn.length nc, .int .i64 rs, .int .i64 rr, .bool rd] 26)))
  clear h hr hb n2 n3 ns hS
  go_enter Tryz.func3, Tryz.ntmps3
  go_wp2_with (go_at_call 9; refine (KA.out).mono ?_; rintro e w1 ⟨rfl, hb1⟩; have HI1 := Lib.hid (HI0.out.next hb1); have c0 := HI1.out.blk.cell 0; have c1 := HI1.out.blk.cell 1; have c2 := HI1.out.blk.cell 2; have c3 := HI1.out.blk.cell 3; have c4 := HI1.out.blk.cell 4; simp only [List.getElem?_toArray, List.getElem?_cons_zero, List.getElem?_cons_succ] at c0 c1 c2 c3 c4; clear hb1)
  clear KA
  by_cases hrb : runBad st q.1 p ⟨rk, rn, rs, rr, rd⟩ = 0
  · obtain ⟨hs1, hl1⟩ := HTO.out hrb
    have KV1 := Lib.hid (fun W kv nv hW hr => KV.out W kv nv _ hW hr HSM.out)
    have KL1 := Lib.hid (fun W bv hW hb => KL.out W bv (runB8 ⟨rk, rn, rs, rr, rd⟩) hW hb)
    rw [hs1] at KV1
    rw [hl1] at KL1
    clear hs1 hl1 HTO hrb
    generalize runB8 ⟨rk, rn, rs, rr, rd⟩ = xb at *
    by_cases hlb : (loadP st q.1 p b).2 = 0
    · obtain ⟨hl2, hs2⟩ := HBK.out hlb
      have KV2 := Lib.hid (fun W kv nv hW hr => KV.out W kv nv _ hW hr HRS.out)
      have KL2 := Lib.hid (fun W bv hW hb => KL.out W bv b hW hb)
      rw [hs2] at KV2
      rw [hl2] at KL2
      clear hl2 hs2 hlb HBK HER KV KL
      generalize readR b = x at *
      obtain ⟨xk, xn, xs, xr, xd⟩ := x
      dsimp only at *
      go_wp2_with (first
        | (go_at_call 10; have hh := HZ6.out; clear hh; refine (KV2.out _ _ _ HZ6.out.below HZ6.out.rd).mono ?_; rintro e w7 ⟨hb7, a7, c7', rfl, ho7⟩; have HZ7 := Lib.hid (HZ6.out.next hb7); have hcv := conv8 (ho7.read RU8.steady) rfl; have hcw := conv8 (HBV.out _ HZ7.out.below) rfl; clear hb7 ho7)
        | (go_at_call 11; have hh := HI4.out; clear hh; refine (KL2.out _ _ HI4.out.below (HBV.out _ HI4.out.below)).mono ?_; rintro e w6 ⟨hb6, a6, c6', b6, d6', rfl, hk6, hn6⟩; have HZ6 := Lib.hid (RunIn.mk_ (r := ⟨xk, xn, xs, xr, xd⟩) HI4.out.below hb6 hk6 hn6); have m0 := HZ6.out.blk.cell 0; have m1 := HZ6.out.blk.cell 1; have m2 := HZ6.out.blk.cell 2; have m3 := HZ6.out.blk.cell 3; have m4 := HZ6.out.blk.cell 4; simp only [List.getElem?_toArray, List.getElem?_cons_zero, List.getElem?_cons_succ] at m0 m1 m2 m3 m4; clear hb6 hk6 hn6)
        | (go_at_call 12; have hh := HY3.out; clear hh; refine (sameRunRefl ⟨rk, rn, rs, rr, rd⟩ _ _ _ _ _ HY3.out.rd HI3.out.rd HSM.out).mono ?_; rintro e w4 ⟨rfl, hb4⟩; have HI4 := Lib.hid (HI3.out.next hb4); clear hb4)
        | (go_at_call 11; have hh := HX2.out; clear hh; refine (KL1.out _ _ HI2.out.below HX2.out).mono ?_; rintro e w3 ⟨hb3, a3, c3', b3, d3', rfl, hk3, hn3⟩; have HY3 := Lib.hid (RunIn.mk_ (r := ⟨rk, rn, rs, rr, rd⟩) HI2.out.below hb3 hk3 hn3); have HI3 := Lib.hid ((HI2.out.next hb3).alloc (.cells #[.slice a3 rk.length c3', .slice b3 rn.length d3', .int .i64 rs, .int .i64 rr, .bool rd] 26)); have k0 := HY3.out.blk.cell 0; have k1 := HY3.out.blk.cell 1; have k2 := HY3.out.blk.cell 2; have k3 := HY3.out.blk.cell 3; have k4 := HY3.out.blk.cell 4; simp only [List.getElem?_toArray, List.getElem?_cons_zero, List.getElem?_cons_succ] at k0 k1 k2 k3 k4; have j0 := HI3.out.blk.cell 0; have j1 := HI3.out.blk.cell 1; have j2 := HI3.out.blk.cell 2; have j3 := HI3.out.blk.cell 3; have j4 := HI3.out.blk.cell 4; simp only [List.getElem?_toArray, List.getElem?_cons_zero, List.getElem?_cons_succ] at j0 j1 j2 j3 j4; clear hb3 hk3 hn3 HX2)
        | (go_at_call 10; have hh := HI1.out; clear hh; refine (KV1.out _ _ _ HI1.out.below HI1.out.rd).mono ?_; rintro e w2 ⟨hb2, a2, c2', rfl, ho2⟩; have HI2 := Lib.hid (HI1.out.next hb2); have HX2 := Lib.hid ((ho2.read RU8.steady).more RU8.steady (S' := fun _ => True) (fun _ _ _ => trivial)); clear hb2 ho2))
      go_ret
      exact ⟨ret_bool (by simp), HZ7.out.below⟩
    · have hl2 := HER.out hlb
      have KL2 := Lib.hid (fun W bv hW hb => KL.out W bv b hW hb)
      rw [hl2] at KL2
      generalize (loadP st q.1 p b).2 = er at *
      have g2 : (er != 0) = true := by simpa using hlb
      clear hl2 hlb HBK HER KV KL
      go_wp2_with (first
        | (go_at_call 12; have hh := HZ6.out; clear hh; refine (sameRunRefl zeroRun _ _ (.slice none 0 0) (.slice none 0 0) _ HZ6.out.rd zeroRd zeroSm).mono ?_; rintro e w7 ⟨rfl, hb7⟩; have HZ7 := Lib.hid (HZ6.out.next hb7); clear hb7)
        | (go_at_call 11; have hh := HI4.out; clear hh; refine (KL2.out _ _ HI4.out.below (HBV.out _ HI4.out.below)).mono ?_; rintro e w6 ⟨hb6, a6, c6', b6, d6', rfl, hk6, hn6⟩; have HZ6 := Lib.hid (RunIn.mk_ (r := zeroRun) HI4.out.below hb6 hk6 hn6); have m0 := HZ6.out.blk.cell 0; have m1 := HZ6.out.blk.cell 1; have m2 := HZ6.out.blk.cell 2; have m3 := HZ6.out.blk.cell 3; have m4 := HZ6.out.blk.cell 4; simp only [List.getElem?_toArray, List.getElem?_cons_zero, List.getElem?_cons_succ] at m0 m1 m2 m3 m4; clear hb6 hk6 hn6)
        | (go_at_call 12; have hh := HY3.out; clear hh; refine (sameRunRefl ⟨rk, rn, rs, rr, rd⟩ _ _ _ _ _ HY3.out.rd HI3.out.rd HSM.out).mono ?_; rintro e w4 ⟨rfl, hb4⟩; have HI4 := Lib.hid (HI3.out.next hb4); clear hb4)
        | (go_at_call 11; have hh := HX2.out; clear hh; refine (KL1.out _ _ HI2.out.below HX2.out).mono ?_; rintro e w3 ⟨hb3, a3, c3', b3, d3', rfl, hk3, hn3⟩; have HY3 := Lib.hid (RunIn.mk_ (r := ⟨rk, rn, rs, rr, rd⟩) HI2.out.below hb3 hk3 hn3); have HI3 := Lib.hid ((HI2.out.next hb3).alloc (.cells #[.slice a3 rk.length c3', .slice b3 rn.length d3', .int .i64 rs, .int .i64 rr, .bool rd] 26)); have k0 := HY3.out.blk.cell 0; have k1 := HY3.out.blk.cell 1; have k2 := HY3.out.blk.cell 2; have k3 := HY3.out.blk.cell 3; have k4 := HY3.out.blk.cell 4; simp only [List.getElem?_toArray, List.getElem?_cons_zero, List.getElem?_cons_succ] at k0 k1 k2 k3 k4; have j0 := HI3.out.blk.cell 0; have j1 := HI3.out.blk.cell 1; have j2 := HI3.out.blk.cell 2; have j3 := HI3.out.blk.cell 3; have j4 := HI3.out.blk.cell 4; simp only [List.getElem?_toArray, List.getElem?_cons_zero, List.getElem?_cons_succ] at j0 j1 j2 j3 j4; clear hb3 hk3 hn3 HX2)
        | (go_at_call 10; have hh := HI1.out; clear hh; refine (KV1.out _ _ _ HI1.out.below HI1.out.rd).mono ?_; rintro e w2 ⟨hb2, a2, c2', rfl, ho2⟩; have HI2 := Lib.hid (HI1.out.next hb2); have HX2 := Lib.hid ((ho2.read RU8.steady).more RU8.steady (S' := fun _ => True) (fun _ _ _ => trivial)); clear hb2 ho2))
      go_ret
      exact ⟨rfl, HZ7.out.below⟩
  · have KV1 := Lib.hid (fun W kv nv hW hr => KV.out W kv nv _ hW hr HSM.out)
    rw [save_bad hrb] at KV1
    generalize runBad st q.1 p ⟨rk, rn, rs, rr, rd⟩ = rb at *
    have g1 : (rb == 0) = false := beq_eq_false_iff_ne.2 hrb
    clear HTO hrb
    by_cases hlb : (loadP st q.1 p b).2 = 0
    · obtain ⟨hl2, hs2⟩ := HBK.out hlb
      have KV2 := Lib.hid (fun W kv nv hW hr => KV.out W kv nv _ hW hr HRS.out)
      have KL2 := Lib.hid (fun W bv hW hb => KL.out W bv b hW hb)
      rw [hs2] at KV2
      rw [hl2] at KL2
      clear hl2 hs2 hlb HBK HER KV KL
      generalize readR b = x at *
      obtain ⟨xk, xn, xs, xr, xd⟩ := x
      dsimp only at *
      go_wp2_with (first
        | (go_at_call 10; have hh := HZ6.out; clear hh; refine (KV2.out _ _ _ HZ6.out.below HZ6.out.rd).mono ?_; rintro e w7 ⟨hb7, a7, c7', rfl, ho7⟩; have HZ7 := Lib.hid (HZ6.out.next hb7); have hcv := conv8 (ho7.read RU8.steady) rfl; have hcw := conv8 (HBV.out _ HZ7.out.below) rfl; clear hb7 ho7)
        | (go_at_call 11; have hh := HI4.out; clear hh; refine (KL2.out _ _ HI4.out.below (HBV.out _ HI4.out.below)).mono ?_; rintro e w6 ⟨hb6, a6, c6', b6, d6', rfl, hk6, hn6⟩; have HZ6 := Lib.hid (RunIn.mk_ (r := ⟨xk, xn, xs, xr, xd⟩) HI4.out.below hb6 hk6 hn6); have m0 := HZ6.out.blk.cell 0; have m1 := HZ6.out.blk.cell 1; have m2 := HZ6.out.blk.cell 2; have m3 := HZ6.out.blk.cell 3; have m4 := HZ6.out.blk.cell 4; simp only [List.getElem?_toArray, List.getElem?_cons_zero, List.getElem?_cons_succ] at m0 m1 m2 m3 m4; clear hb6 hk6 hn6)
        | (go_at_call 10; refine (KV1.out _ _ _ HI1.out.below HI1.out.rd).mono ?_; rintro e w2 ⟨hb2, a2, c2', rfl, ho2⟩; have HI4 := Lib.hid (HI1.out.next hb2); clear hb2 ho2))
      go_ret
      exact ⟨ret_bool (by simp), HZ7.out.below⟩
    · have hl2 := HER.out hlb
      have KL2 := Lib.hid (fun W bv hW hb => KL.out W bv b hW hb)
      rw [hl2] at KL2
      generalize (loadP st q.1 p b).2 = er at *
      have g2 : (er != 0) = true := by simpa using hlb
      clear hl2 hlb HBK HER KV KL
      go_wp2_with (first
        | (go_at_call 12; have hh := HZ6.out; clear hh; refine (sameRunRefl zeroRun _ _ (.slice none 0 0) (.slice none 0 0) _ HZ6.out.rd zeroRd zeroSm).mono ?_; rintro e w7 ⟨rfl, hb7⟩; have HZ7 := Lib.hid (HZ6.out.next hb7); clear hb7)
        | (go_at_call 11; have hh := HI4.out; clear hh; refine (KL2.out _ _ HI4.out.below (HBV.out _ HI4.out.below)).mono ?_; rintro e w6 ⟨hb6, a6, c6', b6, d6', rfl, hk6, hn6⟩; have HZ6 := Lib.hid (RunIn.mk_ (r := zeroRun) HI4.out.below hb6 hk6 hn6); have m0 := HZ6.out.blk.cell 0; have m1 := HZ6.out.blk.cell 1; have m2 := HZ6.out.blk.cell 2; have m3 := HZ6.out.blk.cell 3; have m4 := HZ6.out.blk.cell 4; simp only [List.getElem?_toArray, List.getElem?_cons_zero, List.getElem?_cons_succ] at m0 m1 m2 m3 m4; clear hb6 hk6 hn6)
        | (go_at_call 10; refine (KV1.out _ _ _ HI1.out.below HI1.out.rd).mono ?_; rintro e w2 ⟨hb2, a2, c2', rfl, ho2⟩; have HI4 := Lib.hid (HI1.out.next hb2); clear hb2 ho2))
      go_ret
      exact ⟨rfl, HZ7.out.below⟩
namespace deskTurns
theorem own : ownKnob Tryz.prog.godebug = none := by kernel_rfl

set_option maxRecDepth 100000 in
theorem contract (H : Type) (enc : TypeId × Value → H) (W : World) (base : Nat) (args : Array Value) (ds gs : List (DataW H)) (before : List MemPlace)
    (hval : ∀ (j : Nat) t v, Tryz.f3.params[j]? = some t → args[j]? = some v → Value.okWide Tryz.prog W .any base t v)
    (hW : DataW.Whole enc Tryz.prog Tryz.f3.params.toList Rows.deskTurnsSpec.vars false W args.toList ds gs before) (hk : Rows.uptoSmall H (ds ++ gs) = true) :
    Calls Tryz.prog 3 args W fun e W' => ∃ v, e = .returned v ∧ Rows.deskTurnsSpec.post enc Tryz.prog Tryz.f3 false true false false W args v W' := by
  have hW' := hW
  obtain ⟨p, q, hA0, hV, rfl, hfz, hnd⟩ := hW
  have hA : DataW.TrodAll enc Tryz.prog W 0 (fun _ => true) true Tryz.f3.params.toList args.toList ds p := hA0
  rw [Tryz.params3] at hA hval
  obtain ⟨v0, v1, v2, d0, d1, d2, p0, p1, p2, rfl, rfl, rfl, h0, h1, h2⟩ := trodAll_three hA
  obtain ⟨rfl, rfl⟩ := trodVars_none hV
  obtain ⟨x0, r0, s0⟩ := openRule.sliceArg Tryz.underlying23 (hval 0 23 v0 rfl rfl) h0
  obtain ⟨x1, kv1, nv1, rfl, r1, s1⟩ := openRun.runArg Tryz.underlying26 (hval 1 26 v1 rfl rfl) h1
  obtain ⟨x2, r2, s2⟩ := openU8.sliceArg Tryz.underlying27 (hval 2 27 v2 rfl rfl) h2
  rw [List.append_nil] at hk
  have hb : Rows.uptoBulkAll [d0, d1, d2] ≤ 1048576 := of_decide_eq_true hk
  simp only [Rows.uptoBulkAll] at hb
  obtain ⟨l0, m0, k0⟩ := rules_small (p := x0) (by omega)
  have l1 := run_small8 (r := x1) (by omega)
  refine (deskTurnsCalls x0 v0 x1 kv1 nv1 x2 v2 W r0 r1 r2 l0 m0 k0 l1).mono fun e W' ⟨he, hb'⟩ => ?_
  subst he
  exact ⟨_, rfl, law_post (tb := 4) hW' rfl rfl (by kernel_rfl) Tryz.underlying4 (by kernel_rfl) (by kernel_rfl) hb'⟩

set_option maxRecDepth 100000 in
theorem lifted (os : Os) (started : os.Started) (H : Type) (enc : TypeId × Value → H) (F : Stop.Interp) :
    ReturnsInHanded {} Tryz.checked os 3 .any ((Rows.OpenSpec.upto Rows.deskTurnsSpec).pre6 enc Tryz.prog Tryz.f3 Rows.deskTurnsUptoRow.domain false) (((Rows.OpenSpec.upto Rows.deskTurnsSpec).at F).post enc Tryz.prog Tryz.f3 false true false false) := by
  refine returnsInHanded_of_cond (C := Tryz.checked) (s := Rows.OpenSpec.upto Rows.deskTurnsSpec) (k := Rows.uptoSmall) rfl own started (by kernel_rfl) Tryz.func3
    (OpenSpec.witness (enc := enc) (C := Tryz.checked) (s := Rows.OpenSpec.upto Rows.deskTurnsSpec) (k := Rows.uptoSmall) rfl false ⟨#[], #[.slice none 0 0, .agg #[.slice none 0 0, .slice none 0 0, .int .i64 0, .int .i64 0, .bool false], .slice none 0 0], []⟩ 8 (by kernel_rfl) (by kernel_rfl) (by kernel_rfl)
      (x := ([.nil, .agg [.nil, .nil, .lit (.int .i64 0), .lit (.int .i64 0), .lit (.bool false)], .nil], [], [])) (by kernel_rfl) rfl (by kernel_rfl)) ?_
  intro W base args ds gs before hval hW _ hk _
  exact contract H enc W base args ds gs before hval hW hk

theorem proved : Rows.DeskTurnsUptoSaid :=
  OpenClaim.holds_of_cond 3 Tryz.f3 rfl rfl rfl rfl rfl rfl rfl ⟨rfl, rfl, rfl, rfl, rfl⟩ rfl rfl rfl rfl rfl (by kernel_rfl) Tryz.func3 (by kernel_rfl)
    (of_decide_eq_true (by kernel_rfl)) (by unfold Func.isWrapper; first | (rw [if_pos (by decide +kernel)]; kernel_rfl) | (rw [if_neg (by decide +kernel)]; exact ⟨rfl, rfl⟩))
    (fun os started H enc _ F => lifted os started H enc F)
end deskTurns

end Go.Proofs.YtiaehkpimepbgaaGreat
