/-
  corolaw6.RoundRight ALWAYS ANSWERS TRUE: each round is right: what is known only grows; a run that is done stays as it is; each one ends, if there are not too many facts, or ways. For any arguments of ordinary size; without conditions.
-/
import Derived.Test.YtbbiapgkcekabaaGreatPk15
import Derived.Test.YtbbiapgkcekabaaGreatPk17
namespace Go.Proofs.YtbbiapgkcekabaaGreat
open Go.RowKit Go.ChangeShapes Go.WideShapes Go.Deep

/-- A run that a loop works on. -/
def RunOn (st : List Int) (p : List PRule) (w W : World) (b : Nat) : Prop := ∃ a c a' c' r, RunIn w W b (.slice a r.known.length c) (.slice a' r.new.length c') r ∧ RunOk st p r ∧ RunSmall r
theorem run_small {st : List Int} {p : List PRule} {r : PRun} (h : RunOk st p r) : RunSmall r :=
  ⟨by have := h.known.len; omega, fun x hx => by have := (wrongF_zero.1 (h.known.fine x hx)).2.1; omega, by have := h.new.len; omega, fun x hx => by have := (wrongF_zero.1 (h.new.fine x hx)).2.1; omega⟩
theorem RdFacts.laid {S : Nat → Prop} {w : World} {v : Value} {l : List PFact} (h : RdFacts S w v l) (o : Obj) : RdFacts S (w.alloc o) v l := RdSlice.agree RFact.steady ((Agree.refl _ _).alloc _) h
theorem RdFacts.kept_ {S : Nat → Prop} {w w' : World} {v : Value} {l : List PFact} (h : RdFacts S w v l) (hb : Below w.heap.size w w') : RdFacts S w' v l := RdSlice.agree RFact.steady (Below.agree hb) h
attribute [local go_sem ↓] Go.wp_at_zero Go.wp_at_succ
set_option maxRecDepth 100000 in
set_option maxHeartbeats 16000000 in
theorem roundRightCalls {S S2 : Nat → Prop} (p : List PRule) (v : Value) (l : List PFact) (fv : Value) (n : Int) (w : World) (h : RdRules S w v p) (hf : RdFacts S2 w fv l)
    (n1 : p.length ≤ 1048576) (n2 : ∀ r ∈ p, RuleSmall r) (n3 : ∀ r ∈ p, NameSmall r) (n4 : l.length ≤ 1048576) (n5 : ∀ x ∈ l, x.args.length ≤ 1048576) :
    Calls Tryz.prog 11 #[v, fv, .int .i64 n] w fun e w' => e = .returned (.bool true) ∧ Below w.heap.size w w' := by
  obtain ⟨a, c, rfl, -, -, -⟩ := id h.form
  obtain ⟨fa, fc, rfl, -, -, -⟩ := id hf.form
  obtain ⟨st, q, hS⟩ := exists_strata p
  have KA := Lib.hid (alive6Calls w)
  have KB := Lib.hid (fun W (hW : Below w.heap.size w W) => beginCalls p _ _ st q l W hS (h.up hW) (hf.up hW) n1 n2 n3 n4 n5)
  have KS := Lib.hid (fun W kv nv (r : PRun) (k : Int) (hW : Below w.heap.size w W) (hr : RunRd W r kv nv) hs => stepsRunCalls p (.slice a p.length c) st q r kv nv k W hS (h.up hW) hr n1 n2 n3 hs)
  have KP := Lib.hid (fun W kv nv (r : PRun) (hW : Below w.heap.size w W) (hr : RunRd W r kv nv) hs => stepRunCalls p (.slice a p.length c) st q r kv nv W hS (h.up hW) hr n1 n2 n3 hs)
  have KW := Lib.hid (fun W kv nv (r : PRun) (hW : Below w.heap.size w W) (hr : RunRd W r kv nv) hs => runWrongCalls p (.slice a p.length c) st q r kv nv W hS (h.up hW) hr n1 n2 n3 hs)
  have HOK := Lib.hid (fun h => begin_ok hS (l := l) h)
  have HRU := Lib.hid (fun h => strata_count hS h)
  clear h hf n2 n3 n5 hS
  go_enter Tryz.func11, Tryz.ntmps11
  go_wp2_with (go_at_call 46; refine (KA.out).mono ?_; rintro e w1 ⟨rfl, hb1⟩; have HB1 := Lib.hid hb1; clear hb1)
  clear KA
  by_cases he : (beginP st q.1 p l).2 = 0
  case neg =>
    clear HOK HRU KS KP KW
    generalize beginP st q.1 p l = x at *
    obtain ⟨⟨dk, dn, ds, dr, dd⟩, er⟩ := x
    dsimp only at *
    have g1 : (er != 0) = true := by simpa using he
    clear he
    go_wp2_with (go_at_call 27; refine (KB.out _ HB1.out).mono ?_; rintro e w2 ⟨hb2, a2, c2, b2, d2, rfl, hk2, hn2⟩; have HI2 := Lib.hid (RunIn.mk_ (r := ⟨dk, dn, ds, dr, dd⟩) HB1.out hb2 hk2 hn2); clear hb2 hk2 hn2)
    go_ret
    exact ⟨rfl, HI2.out.below⟩
  obtain ⟨hq, -, -, hok⟩ := HOK.out he
  have HR := Lib.hid hok
  obtain ⟨hru, -, hcn, -⟩ := HRU.out hq
  have HRL := Lib.hid hru
  clear hok HOK HRU hru
  obtain ⟨q1, q2⟩ := q
  dsimp only at hq
  subst hq
  dsimp only at *
  generalize beginP st 0 p l = x at *
  obtain ⟨⟨dk, dn, ds, dr, dd⟩, er⟩ := x
  dsimp only at *
  subst he
  by_cases hrg : n < 0 ∨ 30 < n
  · have hcs : n < 0 ∨ ¬ n < 0 ∧ 30 < n := by omega
    clear hrg KS KP KW HR HRL
    rcases hcs with h1 | ⟨h1, h2⟩
    all_goals
      go_wp2_with (go_at_call 27; refine (KB.out _ HB1.out).mono ?_; rintro e w2 ⟨hb2, a2, c2, b2, d2, rfl, hk2, hn2⟩; have HI2 := Lib.hid (RunIn.mk_ (r := ⟨dk, dn, ds, dr, dd⟩) HB1.out hb2 hk2 hn2); clear hb2 hk2 hn2)
      go_ret
      exact ⟨rfl, HI2.out.below⟩
  have h1 : ¬ n < 0 := fun h => hrg (.inl h)
  have h2 : ¬ 30 < n := fun h => hrg (.inr h)
  clear hrg
  obtain ⟨m, rfl⟩ : ∃ m : Nat, n = m := ⟨n.toNat, by omega⟩
  go_wp2_with (go_at_call 27; refine (KB.out _ HB1.out).mono ?_; rintro e w2 ⟨hb2, a2, c2, b2, d2, rfl, hk2, hn2⟩; have HON := Lib.hid (show RunOn st p w (w2.alloc (.cells #[.slice a2 dk.length c2, .slice b2 dn.length d2, .int .i64 ds, .int .i64 dr, .bool dd] 47)) w2.heap.size from ⟨a2, c2, b2, d2, _, RunIn.mk_ (r := ⟨dk, dn, ds, dr, dd⟩) HB1.out hb2 hk2 hn2, HR.out, run_small HR.out⟩); clear hb2 hk2 hn2)
  clear KB HR HB1
  generalize hgb : w2.heap.size = g at *
  clear hgb
  go_loopw [31] (fun i wr => ∃ (j : Nat), j ≤ m ∧ i = .int .i64 j ∧ Hid (RunOn st p w wr g)) (fun i _ => m - (intOf i).toNat)
  case atStart => exact ⟨0, Nat.zero_le _, rfl, HON⟩
  case round =>
    clear HON
    obtain ⟨j, hj, rfl, HO⟩ := hrel
    obtain ⟨a5, c5, b5, d5, ⟨ck, cn, cs, cr, cd⟩, hi5, hok5, hs5⟩ := HO.out
    have HI5 := Lib.hid hi5
    have HK5 := Lib.hid hok5
    have HS5 := Lib.hid hs5
    clear hi5 hok5 hs5 HO
    have u0 := HI5.out.blk.cell 0; have u1 := HI5.out.blk.cell 1; have u2 := HI5.out.blk.cell 2; have u3 := HI5.out.blk.cell 3; have u4 := HI5.out.blk.cell 4; have z0 := HI5.out.blk.frozen 0; have z1 := HI5.out.blk.frozen 1; have z2 := HI5.out.blk.frozen 2; have z3 := HI5.out.blk.frozen 3; have z4 := HI5.out.blk.frozen 4; simp only [List.getElem?_toArray, List.getElem?_cons_zero, List.getElem?_cons_succ] at u0 u1 u2 u3 u4
    by_cases hlt : j < m
    · have hst := step_right HRL.out HK5.out
      have KP1 := Lib.hid (KP.out _ _ _ _ HI5.out.below HI5.out.rd HS5.out)
      have hkl := HK5.out.known.len
      have HKA := Lib.hid (good_args HK5.out.known.fine)
      clear KP KS
      dsimp only at *
      generalize stepRun st 0 p ⟨ck, cn, cs, cr, cd⟩ = y at *
      obtain ⟨⟨ek, en, es, er', ed⟩, e2⟩ := y
      dsimp only at *
      by_cases he : e2 = 0
      case neg =>
        have g1 : (e2 != 0) = true := by simpa using he
        have hcs : e2 = 5 ∨ e2 = 4 := by
          rcases hst with g | g | ⟨g, -⟩
          · exact .inr g
          · exact .inl g
          · exact absurd g he
        clear he hst
        rcases hcs with rfl | rfl
        all_goals
          go_wp2_with (go_at_call 32; refine (KP1.out).mono ?_; rintro e w6 ⟨hb6, a6, c6, b6, d6, rfl, hk6, hn6⟩; have HI6 := Lib.hid (RunIn.mk_ (r := ⟨ek, en, es, er', ed⟩) HI5.out.below hb6 hk6 hn6); clear hb6 hk6 hn6)
          go_ret
          exact ⟨rfl, HI6.out.below⟩
      subst he
      obtain ⟨hok6, hgr, hdn, hrd, hsd⟩ : Rightly st p ⟨ck, cn, cs, cr, cd⟩ ⟨ek, en, es, er', ed⟩ := by
        rcases hst with g | g | ⟨-, g⟩
        · cases g
        · cases g
        · exact g
      have HK6 := Lib.hid hok6
      have HG6 := Lib.hid hgr
      have HS6 := Lib.hid (run_small hok6)
      have HBD := Lib.hid (runBad_zero.2 ⟨rfl, hok6⟩)
      have hel := hok6.known.len
      have HEA := Lib.hid (good_args hok6.known.fine)
      clear hst hok6 hgr
      dsimp only at *
      have g7 : ¬ er' < cr := by omega
      have g8 : ¬ es < cs := by omega
      have KW6 := Lib.hid (fun W kv nv hW hr => KW.out W kv nv ⟨ek, en, es, er', ed⟩ hW hr HS6.out)
      rw [HBD.out] at KW6
      cases cd
      case false =>
        clear hdn
        go_wp2_with (first
          | (go_at_call 44; have hh := HB7.out; clear hh; refine (lessNone HG6.out HI7.out.rd.known HX7.out.rd.known HK6.out.known.rise (by omega) HKA.out (by omega) HEA.out).mono ?_; rintro e w8 ⟨⟨a8, c8, rfl⟩, hb8⟩; have HI8 := Lib.hid (HI7.out.next hb8); have HX8 := Lib.hid (HX7.out.next hb8); have HQ8 := Lib.hid (RdFacts.kept_ HQ7.out hb8); have HN8 := Lib.hid (RdFacts.kept_ HN7.out hb8); have m0 := HI8.out.blk.cell 0; have m1 := HI8.out.blk.cell 1; have m2 := HI8.out.blk.cell 2; have m3 := HI8.out.blk.cell 3; have m4 := HI8.out.blk.cell 4; have i0 := HI8.out.blk.frozen 0; have i1 := HI8.out.blk.frozen 1; have i2 := HI8.out.blk.frozen 2; have i3 := HI8.out.blk.frozen 3; have i4 := HI8.out.blk.frozen 4; simp only [List.getElem?_toArray, List.getElem?_cons_zero, List.getElem?_cons_succ] at m0 m1 m2 m3 m4; have n0 := HX8.out.blk.cell 0; have n1 := HX8.out.blk.cell 1; have n2 := HX8.out.blk.cell 2; have n3 := HX8.out.blk.cell 3; have n4 := HX8.out.blk.cell 4; simp only [List.getElem?_toArray, List.getElem?_cons_zero, List.getElem?_cons_succ] at n0 n1 n2 n3 n4; clear hb8)
          | (go_at_call 30; have hh := HI6.out; clear hh; refine (KW6.out _ _ _ HX6.out.below HX6.out.rd).mono ?_; rintro e w7 ⟨rfl, hb7⟩; have HB7 := Lib.hid (True.intro); have HI7 := Lib.hid (HI6.out.next hb7); have HX7 := Lib.hid (HX6.out.next hb7); have HQ7 := Lib.hid (RdFacts.kept_ HQ6.out hb7); have HN7 := Lib.hid (RdFacts.kept_ HN6.out hb7); have s0 := HI7.out.blk.cell 0; have s1 := HI7.out.blk.cell 1; have s2 := HI7.out.blk.cell 2; have s3 := HI7.out.blk.cell 3; have s4 := HI7.out.blk.cell 4; have f0 := HI7.out.blk.frozen 0; have f1 := HI7.out.blk.frozen 1; have f2 := HI7.out.blk.frozen 2; have f3 := HI7.out.blk.frozen 3; have f4 := HI7.out.blk.frozen 4; simp only [List.getElem?_toArray, List.getElem?_cons_zero, List.getElem?_cons_succ] at s0 s1 s2 s3 s4; have t0 := HX7.out.blk.cell 0; have t1 := HX7.out.blk.cell 1; have t2 := HX7.out.blk.cell 2; have t3 := HX7.out.blk.cell 3; have t4 := HX7.out.blk.cell 4; simp only [List.getElem?_toArray, List.getElem?_cons_zero, List.getElem?_cons_succ] at t0 t1 t2 t3 t4; clear hb7)
          | (go_at_call 32; refine (KP1.out).mono ?_; rintro e w6 ⟨hb6, a6, c6, b6, d6, rfl, hk6, hn6⟩; have HX6 := Lib.hid (RunIn.mk_ (r := ⟨ek, en, es, er', ed⟩) HI5.out.below hb6 hk6 hn6); have HI6 := Lib.hid ((HI5.out.next hb6).alloc (.cells #[.slice a6 ek.length c6, .slice b6 en.length d6, .int .i64 es, .int .i64 er', .bool ed] 47)); have HQ6 := Lib.hid (RdFacts.laid hk6 (.cells #[.slice a6 ek.length c6, .slice b6 en.length d6, .int .i64 es, .int .i64 er', .bool ed] 47)); have HN6 := Lib.hid (RdFacts.laid hn6 (.cells #[.slice a6 ek.length c6, .slice b6 en.length d6, .int .i64 es, .int .i64 er', .bool ed] 47)); have k0 := HX6.out.blk.cell 0; have k1 := HX6.out.blk.cell 1; have k2 := HX6.out.blk.cell 2; have k3 := HX6.out.blk.cell 3; have k4 := HX6.out.blk.cell 4; simp only [List.getElem?_toArray, List.getElem?_cons_zero, List.getElem?_cons_succ] at k0 k1 k2 k3 k4; clear hb6 hk6 hn6))
        have HZ := Lib.hid (show RunOn st p w _ g from ⟨a6, c6, b6, d6, ⟨ek, en, es, er', ed⟩, HI8.out.store (x := ⟨ek, en, es, er', ed⟩) HI5.out.blk.lt HQ8.out HN8.out, HK6.out, HS6.out⟩)
        go_roundw
        case rel => exact ⟨j + 1, by omega, by go_num, HZ⟩
        case measure => simp [intOf]; omega
      case true =>
        have hdn' := hdn rfl
        clear hdn
        injection hdn' with e1 e2 e3 e4 e5
        subst e1 e2 e3 e4 e5
        go_wp2_with (first
          | (go_at_call 29; have hh := HB8.out; clear hh; refine (sameRunRefl ⟨ek, en, es, er', true⟩ _ _ _ _ _ HI8.out.rd HX8.out.rd HS6.out).mono ?_; rintro e w9 ⟨rfl, hb9⟩; have HI9 := Lib.hid (HI8.out.next hb9); have HX9 := Lib.hid (HX8.out.next hb9); have HQ9 := Lib.hid (RdFacts.kept_ HQ8.out hb9); have HN9 := Lib.hid (RdFacts.kept_ HN8.out hb9); have p0 := HI9.out.blk.cell 0; have p1 := HI9.out.blk.cell 1; have p2 := HI9.out.blk.cell 2; have p3 := HI9.out.blk.cell 3; have p4 := HI9.out.blk.cell 4; have q0 := HI9.out.blk.frozen 0; have q1 := HI9.out.blk.frozen 1; have q2 := HI9.out.blk.frozen 2; have q3 := HI9.out.blk.frozen 3; have q4 := HI9.out.blk.frozen 4; simp only [List.getElem?_toArray, List.getElem?_cons_zero, List.getElem?_cons_succ] at p0 p1 p2 p3 p4; have r0 := HX9.out.blk.cell 0; have r1 := HX9.out.blk.cell 1; have r2 := HX9.out.blk.cell 2; have r3 := HX9.out.blk.cell 3; have r4 := HX9.out.blk.cell 4; simp only [List.getElem?_toArray, List.getElem?_cons_zero, List.getElem?_cons_succ] at r0 r1 r2 r3 r4; clear hb9)
          | (go_at_call 44; have hh := HB7.out; clear hh; refine (lessNone HG6.out HI7.out.rd.known HX7.out.rd.known HK6.out.known.rise (by omega) HKA.out (by omega) HEA.out).mono ?_; rintro e w8 ⟨⟨a8, c8, rfl⟩, hb8⟩; have HB8 := Lib.hid (True.intro); have HI8 := Lib.hid (HI7.out.next hb8); have HX8 := Lib.hid (HX7.out.next hb8); have HQ8 := Lib.hid (RdFacts.kept_ HQ7.out hb8); have HN8 := Lib.hid (RdFacts.kept_ HN7.out hb8); have m0 := HI8.out.blk.cell 0; have m1 := HI8.out.blk.cell 1; have m2 := HI8.out.blk.cell 2; have m3 := HI8.out.blk.cell 3; have m4 := HI8.out.blk.cell 4; have i0 := HI8.out.blk.frozen 0; have i1 := HI8.out.blk.frozen 1; have i2 := HI8.out.blk.frozen 2; have i3 := HI8.out.blk.frozen 3; have i4 := HI8.out.blk.frozen 4; simp only [List.getElem?_toArray, List.getElem?_cons_zero, List.getElem?_cons_succ] at m0 m1 m2 m3 m4; have n0 := HX8.out.blk.cell 0; have n1 := HX8.out.blk.cell 1; have n2 := HX8.out.blk.cell 2; have n3 := HX8.out.blk.cell 3; have n4 := HX8.out.blk.cell 4; simp only [List.getElem?_toArray, List.getElem?_cons_zero, List.getElem?_cons_succ] at n0 n1 n2 n3 n4; clear hb8)
          | (go_at_call 30; have hh := HI6.out; clear hh; refine (KW6.out _ _ _ HX6.out.below HX6.out.rd).mono ?_; rintro e w7 ⟨rfl, hb7⟩; have HB7 := Lib.hid (True.intro); have HI7 := Lib.hid (HI6.out.next hb7); have HX7 := Lib.hid (HX6.out.next hb7); have HQ7 := Lib.hid (RdFacts.kept_ HQ6.out hb7); have HN7 := Lib.hid (RdFacts.kept_ HN6.out hb7); have s0 := HI7.out.blk.cell 0; have s1 := HI7.out.blk.cell 1; have s2 := HI7.out.blk.cell 2; have s3 := HI7.out.blk.cell 3; have s4 := HI7.out.blk.cell 4; have f0 := HI7.out.blk.frozen 0; have f1 := HI7.out.blk.frozen 1; have f2 := HI7.out.blk.frozen 2; have f3 := HI7.out.blk.frozen 3; have f4 := HI7.out.blk.frozen 4; simp only [List.getElem?_toArray, List.getElem?_cons_zero, List.getElem?_cons_succ] at s0 s1 s2 s3 s4; have t0 := HX7.out.blk.cell 0; have t1 := HX7.out.blk.cell 1; have t2 := HX7.out.blk.cell 2; have t3 := HX7.out.blk.cell 3; have t4 := HX7.out.blk.cell 4; simp only [List.getElem?_toArray, List.getElem?_cons_zero, List.getElem?_cons_succ] at t0 t1 t2 t3 t4; clear hb7)
          | (go_at_call 32; refine (KP1.out).mono ?_; rintro e w6 ⟨hb6, a6, c6, b6, d6, rfl, hk6, hn6⟩; have HX6 := Lib.hid (RunIn.mk_ (r := ⟨ek, en, es, er', true⟩) HI5.out.below hb6 hk6 hn6); have HI6 := Lib.hid ((HI5.out.next hb6).alloc (.cells #[.slice a6 ek.length c6, .slice b6 en.length d6, .int .i64 es, .int .i64 er', .bool true] 47)); have HQ6 := Lib.hid (RdFacts.laid hk6 (.cells #[.slice a6 ek.length c6, .slice b6 en.length d6, .int .i64 es, .int .i64 er', .bool true] 47)); have HN6 := Lib.hid (RdFacts.laid hn6 (.cells #[.slice a6 ek.length c6, .slice b6 en.length d6, .int .i64 es, .int .i64 er', .bool true] 47)); have k0 := HX6.out.blk.cell 0; have k1 := HX6.out.blk.cell 1; have k2 := HX6.out.blk.cell 2; have k3 := HX6.out.blk.cell 3; have k4 := HX6.out.blk.cell 4; simp only [List.getElem?_toArray, List.getElem?_cons_zero, List.getElem?_cons_succ] at k0 k1 k2 k3 k4; clear hb6 hk6 hn6))
        have HZ := Lib.hid (show RunOn st p w _ g from ⟨a6, c6, b6, d6, ⟨ek, en, es, er', true⟩, HI9.out.store (x := ⟨ek, en, es, er', true⟩) HI5.out.blk.lt HQ9.out HN9.out, HK6.out, HS6.out⟩)
        go_roundw
        case rel => exact ⟨j + 1, by omega, by go_num, HZ⟩
        case measure => simp [intOf]; omega
    · have hend := steps_end HRL.out hcn HK5.out
      have KS1 := Lib.hid (KS.out _ _ _ _ 1000 HI5.out.below HI5.out.rd HS5.out)
      clear KP KS KW
      dsimp only at *
      generalize stepsRun st 0 p ⟨ck, cn, cs, cr, cd⟩ 1000 = y at *
      obtain ⟨⟨ek, en, es, er', ed⟩, e2⟩ := y
      dsimp only at *
      have hcs : e2 = 4 ∨ e2 = 5 ∨ e2 = 0 ∧ ed = true := by
        rcases hend with g | g | ⟨g, -, g2⟩
        · exact .inl g
        · exact .inr (.inl g)
        · exact .inr (.inr ⟨g, g2⟩)
      clear hend
      rcases hcs with rfl | rfl | ⟨rfl, rfl⟩
      all_goals
        go_wp2_with (go_at_call 34; refine (KS1.out).mono ?_; rintro e w6 ⟨hb6, a6, c6, b6, d6, rfl, hk6, hn6⟩; have HX6 := Lib.hid (RunIn.mk_ (r := ⟨ek, en, es, er', _⟩) HI5.out.below hb6 hk6 hn6); have k0 := HX6.out.blk.cell 0; have k1 := HX6.out.blk.cell 1; have k2 := HX6.out.blk.cell 2; have k3 := HX6.out.blk.cell 3; have k4 := HX6.out.blk.cell 4; simp only [List.getElem?_toArray, List.getElem?_cons_zero, List.getElem?_cons_succ] at k0 k1 k2 k3 k4; clear hb6 hk6 hn6)
        go_ret
        exact ⟨rfl, HX6.out.below⟩
namespace roundRight
theorem own : ownKnob Tryz.prog.godebug = none := by kernel_rfl

set_option maxRecDepth 100000 in
theorem contract (H : Type) (enc : TypeId × Value → H) (W : World) (base : Nat) (args : Array Value) (ds gs : List (DataW H)) (before : List MemPlace)
    (hval : ∀ (j : Nat) t v, Tryz.f11.params[j]? = some t → args[j]? = some v → Value.okWide Tryz.prog W .any base t v)
    (hW : DataW.Whole enc Tryz.prog Tryz.f11.params.toList Rows.roundRightSpec.vars false W args.toList ds gs before) (hk : Rows.uptoSmall H (ds ++ gs) = true) :
    Calls Tryz.prog 11 args W fun e W' => ∃ v, e = .returned v ∧ Rows.roundRightSpec.post enc Tryz.prog Tryz.f11 false true false false W args v W' := by
  have hW' := hW
  obtain ⟨p, q, hA0, hV, rfl, hfz, hnd⟩ := hW
  have hA : DataW.TrodAll enc Tryz.prog W 0 (fun _ => true) true Tryz.f11.params.toList args.toList ds p := hA0
  rw [Tryz.params11] at hA hval
  obtain ⟨v0, v1, v2, d0, d1, d2, p0, p1, p2, rfl, rfl, rfl, h0, h1, h2⟩ := trodAll_three hA
  obtain ⟨rfl, rfl⟩ := trodVars_none hV
  obtain ⟨x0, r0, s0⟩ := openRule.sliceArg Tryz.underlying23 (hval 0 23 v0 rfl rfl) h0
  obtain ⟨x1, r1, s1⟩ := openFact.sliceArg Tryz.underlying24 (hval 1 24 v1 rfl rfl) h1
  obtain ⟨x2, rfl, s2⟩ := openInt.intArg Tryz.underlying3 (hval 2 3 v2 rfl rfl) h2
  rw [List.append_nil] at hk
  have hb : Rows.uptoBulkAll [d0, d1, d2] ≤ 1048576 := of_decide_eq_true hk
  simp only [Rows.uptoBulkAll] at hb
  obtain ⟨l0, m0, k0⟩ := rules_small (p := x0) (by omega)
  have l1 := sizeL_le openFact.one x1
  have m1 : ∀ z ∈ x1, z.args.length ≤ 1048576 := fun z hz => by have h1 := sizeL_mem (size := sizeFact) hz; have h2 := sizeL_le openStr.one z.args; simp only [sizeFact] at h1; omega
  refine (roundRightCalls x0 v0 x1 v1 x2 W r0 r1 l0 m0 k0 (by omega) m1).mono fun e W' ⟨he, hb'⟩ => ?_
  subst he
  exact ⟨_, rfl, law_post (tb := 4) hW' rfl rfl (by kernel_rfl) Tryz.underlying4 (by kernel_rfl) (by kernel_rfl) hb'⟩

set_option maxRecDepth 100000 in
theorem lifted (os : Os) (started : os.Started) (H : Type) (enc : TypeId × Value → H) (F : Stop.Interp) :
    ReturnsInHanded {} Tryz.checked os 11 .any ((Rows.OpenSpec.upto Rows.roundRightSpec).pre6 enc Tryz.prog Tryz.f11 Rows.roundRightUptoRow.domain false) (((Rows.OpenSpec.upto Rows.roundRightSpec).at F).post enc Tryz.prog Tryz.f11 false true false false) := by
  refine returnsInHanded_of_cond (C := Tryz.checked) (s := Rows.OpenSpec.upto Rows.roundRightSpec) (k := Rows.uptoSmall) rfl own started (by kernel_rfl) Tryz.func11
    (OpenSpec.witness (enc := enc) (C := Tryz.checked) (s := Rows.OpenSpec.upto Rows.roundRightSpec) (k := Rows.uptoSmall) rfl false ⟨#[], #[.slice none 0 0, .slice none 0 0, .int .i64 0], []⟩ 8 (by kernel_rfl) (by kernel_rfl) (by kernel_rfl)
      (x := ([.nil, .nil, .lit (.int .i64 0)], [], [])) (by kernel_rfl) rfl (by kernel_rfl)) ?_
  intro W base args ds gs before hval hW _ hk _
  exact contract H enc W base args ds gs before hval hW hk

theorem proved : Rows.RoundRightUptoSaid :=
  OpenClaim.holds_of_cond 11 Tryz.f11 rfl rfl rfl rfl rfl rfl rfl ⟨rfl, rfl, rfl, rfl, rfl⟩ rfl rfl rfl rfl rfl (by kernel_rfl) Tryz.func11 (by kernel_rfl)
    (of_decide_eq_true (by kernel_rfl)) (by unfold Func.isWrapper; first | (rw [if_pos (by decide +kernel)]; kernel_rfl) | (rw [if_neg (by decide +kernel)]; exact ⟨rfl, rfl⟩))
    (fun os started H enc _ F => lifted os started H enc F)
end roundRight
end Go.Proofs.YtbbiapgkcekabaaGreat
