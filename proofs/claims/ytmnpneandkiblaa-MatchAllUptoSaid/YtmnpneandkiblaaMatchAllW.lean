/-
  corolaw4.MatchAll ALWAYS ANSWERS TRUE: whatever else variables might stand for, if a body is so of it, match.All tells it. For any arguments of ordinary size; without conditions.
-/
import Derived.Test.YtmnpneandkiblaaMatchSo
namespace Go.Proofs.Ytmnpneandkiblaa
open Go.RowKit Go.ChangeShapes Go.WideShapes Go.Deep

theorem guess_old {names : List Str} {env : Binds} {v n : Str} (h : getB v env = some n) : guessS names env v = env := by unfold guessS; rw [h]; rfl
theorem guess_new {names : List Str} {env : Binds} {v x : Str} (h : getB v env = none) (hx : names[env.length % names.length]? = some x) : guessS names env v = env ++ [⟨v, x⟩] := by
  unfold guessS; rw [h, List.getD_eq_getElem?_getD, hx]; rfl
theorem allVars_snoc' {l : List PAtom} {k : Nat} {a : PAtom} (h : l[k]? = some a) : allVars (l.take (k + 1)) = allVars (l.take k) ++ varsOf a := by
  unfold allVars; rw [List.take_add_one, h, List.flatMap_append]; simp
theorem take_snoc {α : Type} {l : List α} {k : Nat} {x : α} (h : l[k]? = some x) : l.take (k + 1) = l.take k ++ [x] := by rw [List.take_add_one, h]; rfl
theorem varsOf_len (a : PAtom) : (varsOf a).length ≤ a.terms.length := by
  have := varsF_length a.terms []
  simpa [varsOf] using this
def sameB (env l : Binds) (j : Nat) : Bool := decide (l.length = env.length) && (env.take j).all fun b => decide (getB b.var l = some b.name)
theorem sameB_succ {env l : Binds} {j : Nat} {b : PBind} (h : env[j]? = some b) : sameB env l (j + 1) = (sameB env l j && decide (getB b.var l = some b.name)) := by
  unfold sameB
  rw [take_snoc h, List.all_append]
  simp [Bool.and_assoc]

attribute [local go_sem ↓] Go.wp_at_zero Go.wp_at_succ
set_option maxRecDepth 100000 in
set_option maxHeartbeats 16000000 in
theorem matchAllCalls {S S2 S3 : Nat → Prop} (bv : Value) (body : List PAtom) (fv : Value) (facts : List PFact) (nv : Value) (names : List Str) (w : World) (hb : RdAtoms S w bv body) (hf : RdFacts S2 w fv facts) (hn : RdStrs S3 w nv names)
    (hs : BodySmall body) (n4 : facts.length ≤ 1048576) (n5 : ∀ x ∈ facts, x.args.length ≤ 1048576) (n6 : names.length ≤ 1048576) :
    Calls Try.prog 5 #[bv, fv, nv] w fun e w' => e = .returned (.bool true) ∧ Below w.heap.size w w' := by
  obtain ⟨ba, bc, rfl, -, -, -⟩ := id hb.form
  obtain ⟨fa, fc, rfl, -, -, -⟩ := id hf.form
  obtain ⟨na, nc, rfl, -, -, -⟩ := id hn.form
  have HBD := Lib.hid hb
  have HFA := Lib.hid hf
  have HNA := Lib.hid hn
  have N5 := Lib.hid n5
  have HSM := Lib.hid hs
  have n1 := hs.b0
  clear hb hf hn n5 hs
  have KA := Lib.hid (alive4Calls w)
  have K1 := Lib.hid (fun W (hW : Below w.heap.size w W) => allReads (.slice ba body.length bc) body (.slice fa facts.length fc) facts W (HBD.out.up hW) (HFA.out.up hW) n1 HSM.out.b1 HSM.out.b2 n4 N5.out)
  have HSA := Lib.hid (all_short body facts)
  have HCS := Lib.hid (allP_cases body facts)
  have HTD := Lib.hid (fun h env hn hv hf => all_told (body := body) (fs := facts) h (env := env) hn hv hf)
  generalize allP body facts = r at *
  obtain ⟨ls, q⟩ := r
  dsimp only at *
  by_cases hq : q = 0
  case neg =>
    have g1 : (q != 0) = true := by simpa using hq
    clear hq HCS
    go_enter Try.func5, Try.ntmps5
    go_wp2_with (first
      | (go_at_call 17; refine (KA.out).mono ?_; rintro e w1 ⟨rfl, hb1⟩; have HB1 := Lib.hid hb1; clear hb1)
      | (go_at_call 10; refine (K1.out _ HB1.out).mono ?_; rintro e w2 ⟨⟨a2, c2, rfl, hr2⟩, hb2⟩; have HB2 := Lib.hid (HB1.out.trans (hb2.mono (Below.size HB1.out))); clear hr2 hb2))
    go_ret
    exact ⟨rfl, HB2.out⟩
  subst hq
  by_cases hne : names.length = 0
  · have g1 : ((names.length : Int) == 0) = true := beq_iff_eq.2 (by omega)
    clear HCS
    go_enter Try.func5, Try.ntmps5
    go_wp2_with (first
      | (go_at_call 17; refine (KA.out).mono ?_; rintro e w1 ⟨rfl, hb1⟩; have HB1 := Lib.hid hb1; clear hb1)
      | (go_at_call 10; refine (K1.out _ HB1.out).mono ?_; rintro e w2 ⟨⟨a2, c2, rfl, hr2⟩, hb2⟩; have HB2 := Lib.hid (HB1.out.trans (hb2.mono (Below.size HB1.out))); clear hr2 hb2))
    go_ret
    exact ⟨rfl, HB2.out⟩
  have g1 : ((names.length : Int) == 0) = false := beq_eq_false_iff_ne.2 (by omega)
  have hnp : 0 < names.length := by omega
  obtain ⟨hbz, hsf⟩ : bodyBad body = 0 ∧ (setF facts).1 = 0 := by
    rcases HCS.out with ⟨h, -⟩ | ⟨-, h1, h2, -⟩
    · exact absurd rfl h
    · exact ⟨h1, h2⟩
  have HFS := Lib.hid (setF_set hsf).2.1
  have HBT := Lib.hid (fun a (ha : a ∈ body) => body_terms hbz ha)
  have hb5 := body_atoms hbz
  have HTOLD := Lib.hid (HTD.out rfl)
  have HAV := Lib.hid (show ∀ i, (allVars (body.take i)).length ≤ 20 from fun i => by
    have h := allVars_length (N := 4) (body.take i) (fun a ha => HBT.out a (List.mem_of_mem_take ha))
    have h2 : (body.take i).length * 4 ≤ 5 * 4 := Nat.mul_le_mul_right _ (by rw [List.length_take]; omega)
    omega)
  have hll : ls.length ≤ 20000 := HSA.out.1
  clear hbz hsf HCS HTD hne
  go_enter Try.func5, Try.ntmps5
  go_wp2_with (first
    | (go_at_call 17; refine (KA.out).mono ?_; rintro e w1 ⟨rfl, hb1⟩; have HB1 := Lib.hid hb1; clear hb1)
    | (go_at_call 10; refine (K1.out _ HB1.out).mono ?_; rintro e w2 ⟨⟨a2, c2, rfl, hr2⟩, hb2⟩; have HR2 := Lib.hid hr2; have HB2 := Lib.hid (HB1.out.trans (hb2.mono (Below.size HB1.out))); clear hr2 hb2))
  clear KA K1 HB1
  go_loopw [45, 9, 10] (fun i v kk wr => ∃ (k : Nat) (env : Binds), k ≤ body.length ∧ i = .int .i64 k ∧ kk = .int .i64 env.length ∧ env.length ≤ 20 ∧ Hid (env = (allVars (body.take k)).foldl (guessS names) []) ∧ Hid (OB w2.heap.size wr v env) ∧ Hid (Below w2.heap.size w2 wr)) (fun i _ _ _ => body.length - (intOf i).toNat)
  case atStart => exact ⟨0, [], Nat.zero_le _, rfl, rfl, by simp, Lib.hid rfl, Lib.hid Owned.nil, Lib.hid (Below.refl _ _)⟩
  case round =>
    obtain ⟨k, env, hk, rfl, rfl, hel, HE, HO, HB⟩ := hrel
    obtain ⟨ea, ec, efm, -, -, -⟩ := (OB.read HO.out).form
    subst efm
    have HBW := Lib.hid (HB2.out.trans (HB.out.mono (Below.size HB2.out)))
    by_cases hlt : k < body.length
    · obtain ⟨a, ha⟩ : ∃ a, body[k]? = some a := ⟨_, List.getElem?_eq_getElem hlt⟩
      obtain ⟨b2, o2, tv, rfl, -, -, e0, e1, e2, htv⟩ := RdAtoms.at (HBD.out.up HBW.out) ha
      obtain ⟨ta, tc, rfl, -, -, -⟩ := id htv.form
      have na := HBT.out a (List.mem_of_getElem? ha)
      obtain ⟨W1, hW1⟩ : ∃ W1 : World, wr.alloc (.cells #[.bool a.neg, .string a.name, .slice ta a.terms.length tc] 38) = W1 := ⟨_, rfl⟩
      have hbx : Below wr.heap.size wr W1 := by subst hW1; exact (Below.refl _ _).alloc (Nat.le_refl _) _
      have HB1 := Lib.hid (HB.out.trans (hbx.mono (Below.size HB.out)))
      have HO1 := Lib.hid (HO.out.below RBind.steady hbx)
      have q0 : W1.cell? ⟨wr.heap.size, 0, none⟩ = some (.bool a.neg) := by subst hW1; simp
      have q1 : W1.cell? ⟨wr.heap.size, 1, none⟩ = some (.string a.name) := by subst hW1; simp
      have q2 : W1.cell? ⟨wr.heap.size, 2, none⟩ = some (.slice ta a.terms.length tc) := by subst hW1; simp
      have KV := Lib.hid (varsCalls a (.slice ta a.terms.length tc) W1 (htv.up hbx) (by omega))
      have HSN := Lib.hid (allVars_snoc' ha)
      have HVL := Lib.hid (Nat.le_trans (varsOf_len a) na)
      have HGL := Lib.hid (fun j => guess_len names (allVars (body.take k) ++ (varsOf a).take j) [])
      have HALL := Lib.hid (show ∀ j, (allVars (body.take k) ++ (varsOf a).take j).length ≤ 20 from fun j => by
        have h := HAV.out (k + 1)
        rw [HSN.out, List.length_append] at h
        rw [List.length_append, List.length_take]
        omega)
      clear ha htv hbx
      generalize varsOf a = vs at *
      have hvl := HVL.out
      go_wp2_with (go_at_call 20; refine (KV.out).mono ?_; rintro e w3 ⟨⟨v3, rfl, ho3⟩, hb3⟩; obtain ⟨xa, xc, rfl, -, -, -⟩ := id (ho3.read RStr.steady).form; have HV3 := Lib.hid ((ho3.read RStr.steady).more RStr.steady (S' := fun b => W1.heap.size ≤ b ∧ b < w3.heap.size) (fun b hb hl => ⟨hb.elim False.elim id, hl⟩)); have HB3 := Lib.hid (HB1.out.trans (hb3.mono (Below.size HB1.out))); have HO3 := Lib.hid (HO1.out.below RBind.steady hb3); clear ho3 hb3)
      clear e0 e1 e2 q0 q1 q2
      obtain ⟨wo, hwo⟩ : ∃ wo : World, wo = w3 := ⟨_, rfl⟩
      subst hwo
      obtain ⟨env0, hev⟩ : ∃ y, y = env := ⟨_, rfl⟩
      subst hev
      go_loopw [52, 9, 10] (fun i v kk wr => ∃ (j : Nat) (env : Binds), j ≤ vs.length ∧ i = .int .i64 j ∧ kk = .int .i64 env.length ∧ env.length ≤ 20 ∧ Hid (env = (allVars (body.take k) ++ vs.take j).foldl (guessS names) []) ∧ Hid (OB w2.heap.size wr v env) ∧ Hid (Below w2.heap.size w2 wr) ∧ Hid (∀ q, v.ownBlock = some q → q < W1.heap.size ∨ wo.heap.size ≤ q) ∧ Hid (RdStrs (fun b => W1.heap.size ≤ b ∧ b < wo.heap.size) wr (.slice xa vs.length xc) vs) ∧ wo.heap.size ≤ wr.heap.size) (fun i _ _ _ => vs.length - (intOf i).toNat)
      case atStart => exact ⟨0, env0, Nat.zero_le _, rfl, rfl, hel, Lib.hid (by rw [List.take_zero, List.append_nil]; exact HE.out), HO3, HB3, Lib.hid (fun q hq => .inl (HO1.out.row_lt hq).2), HV3, Nat.le_refl _⟩
      case round =>
        clear HO3 HB3 HV3 hel HE
        obtain ⟨j, env, hj, rfl, rfl, hel, HE, HO, HB, HQ, HV, hso⟩ := hrel
        obtain ⟨ea, ec, efm, -, -, -⟩ := (OB.read HO.out).form
        subst efm
        have HBW := Lib.hid (HB2.out.trans (HB.out.mono (Below.size HB2.out)))
        by_cases hlt2 : j < vs.length
        · obtain ⟨x, hx⟩ : ∃ x, vs[j]? = some x := ⟨_, List.getElem?_eq_getElem hlt2⟩
          obtain ⟨b4, o4, rfl, -, -, d4⟩ := RdStrs.at HV.out hx
          have KG := Lib.hid (getCalls (.slice ea env.length ec) env x wr (OB.read HO.out) (by omega))
          have HSG := Lib.hid (show (allVars (body.take k) ++ vs.take (j + 1)).foldl (guessS names) [] = guessS names env x by rw [take_snoc hx, ← List.append_assoc, List.foldl_append, ← HE.out]; rfl)
          have HLE := Lib.hid (show ((allVars (body.take k) ++ vs.take (j + 1)).foldl (guessS names) []).length ≤ 20 from Nat.le_trans (HGL.out (j + 1)) (by have := HALL.out (j + 1); simpa using this))
          clear hx
          cases hg : getB x env with
          | some n =>
            rw [hg] at KG
            rw [HSG.out, guess_old hg] at HLE
            have HE1 := Lib.hid (show env = (allVars (body.take k) ++ vs.take (j + 1)).foldl (guessS names) [] by rw [HSG.out, guess_old hg])
            clear hg
            go_wp2_with (go_at_call 16; refine (KG.out).mono ?_; rintro e w5 ⟨rfl, hb5⟩; dsimp only [getV]; have HB5 := Lib.hid (HB.out.trans (hb5.mono (Below.size HB.out))); have HO5 := Lib.hid (HO.out.below RBind.steady hb5); have HV5 := Lib.hid (RdSlice.agree RStr.steady (Below.agree hb5) HV.out); have hs5 : wo.heap.size ≤ w5.heap.size := Nat.le_trans hso hb5.size; clear hb5)
            go_roundw
            case rel => exact ⟨j + 1, env, by omega, by go_num, rfl, hel, HE1, HO5, HB5, HQ, HV5, hs5⟩
            case measure => simp [intOf]; omega
          | none =>
            rw [hg] at KG
            obtain ⟨m, hm⟩ : ∃ m, env.length % names.length = m := ⟨_, rfl⟩
            have hmn : m < names.length := by rw [← hm]; exact Nat.mod_lt _ hnp
            obtain ⟨y, hy⟩ : ∃ y, names[m]? = some y := ⟨_, List.getElem?_eq_getElem hmn⟩
            have HGN := Lib.hid (guess_new (names := names) hg (by rw [hm]; exact hy))
            rw [HSG.out, HGN.out] at HLE
            have HE1 := Lib.hid (show env ++ [⟨x, y⟩] = (allVars (body.take k) ++ vs.take (j + 1)).foldl (guessS names) [] by rw [HSG.out, HGN.out])
            obtain ⟨b5, o5, rfl, -, hl5, d5⟩ := RdStrs.at HNA.out hy
            have hrm : (env.length : Int).tmod (names.length : Int) = (m : Int) := by rw [← hm]; simp [Int.tmod]
            have i1 : (0 : Int) ≤ (m : Int) := by omega
            have i2 : (m : Int) < (names.length : Int) := by omega
            have i3 : IntKind.i64.wrap (m : Int) = m := by rw [IntKind.wrap_i64]; omega
            have i4 : (names.length : Int) ≠ 0 := by omega
            have HD5 := Lib.hid (fun W (hW : Below w.heap.size w W) => (cell_below hW hl5 (o5 + m)).trans d5)
            clear hg hm hy
            go_wp2_with (first
              | (go_at_call 16; refine (KG.out).mono ?_; rintro e w5 ⟨rfl, hb5⟩; dsimp only [getV]; have HB5 := Lib.hid (HB.out.trans (hb5.mono (Below.size HB.out))); have HO5 := Lib.hid (HO.out.below RBind.steady hb5); have HV5 := Lib.hid (RdSlice.agree RStr.steady (Below.agree hb5) HV.out); have hs5 : wo.heap.size ≤ w5.heap.size := (Nat.le_trans hso hb5.size); have d6 := HD5.out w5 (HB2.out.trans (HB5.out.mono (Below.size HB2.out))); clear hb5)
              | (at_builtin; refine wpList_append_one (B := w2.heap.size) (e := 34) (S := fun _ => False) (by rfl) _ _ 24 (by rfl) RBind.steady rowBinds _ env (by rfl) (HO5.out.alloc RBind.steady _) w5.heap.size 1 #[.string x, .string y] 34 (0, 0) ⟨x, y⟩ (by rfl) (heap_new_at rfl) rfl (by simp [Value.oneCell']) rfl (by omega) (by have := Below.size HB5.out; simp; omega) ?_; intro v6 w6 hown6 hg6 hat6; have HO6 := Lib.hid hown6; have HB6 := Lib.hid ((HB5.out.alloc (Below.size HB5.out) _).grown hg6 (by have := Below.size HB5.out; simp; omega) (fun q hq => (HO5.out.row_lt hq).1)); have HQ6 := Lib.hid (show ∀ q, v6.ownBlock = some q → q < W1.heap.size ∨ wo.heap.size ≤ q from fun q hq => by rcases hat6 with h | h; (· rw [h] at hq; exact HQ.out q hq); (· rw [h] at hq; injection hq with hq; right; rw [← hq]; simp; omega)); have HV6 := Lib.hid (RdSlice.agree RStr.steady (w' := w6) ⟨hg6.size, fun b hb hl => hg6.block b hl (fun e => by rcases HQ.out b e.symm with h | h <;> omega)⟩ (RdSlice.agree RStr.steady ((Agree.refl _ _).alloc (.cells #[.string x, .string y] 34)) HV5.out)); have hs6 : wo.heap.size ≤ w6.heap.size := (by have := hg6.size; simp at this; omega); clear hown6 hg6 hat6))
            have hls : (env ++ [(⟨x, y⟩ : PBind)]).length = env.length + 1 := by simp
            rw [hls] at HLE
            go_roundw
            case rel => exact ⟨j + 1, _, by omega, by go_num, by rw [hls]; simp, by rw [hls]; exact HLE.out, HE1, HO6, HB6, HQ6, HV6, hs6⟩
            case measure => simp [intOf]; omega
        · have HE1 := Lib.hid (show env = (allVars (body.take (k + 1))).foldl (guessS names) [] by rw [HSN.out, HE.out, List.take_of_length_le (l := vs) (by omega)])
          go_wp2
          go_roundw
          case rel => exact ⟨k + 1, env, by omega, by go_num, rfl, hel, HE1, HO, HB⟩
          case measure => simp [intOf]; omega
    · have hev : env = (allVars body).foldl (guessS names) [] := by have := HE.out; rwa [List.take_of_length_le (l := body) (by omega)] at this
      obtain ⟨gn1, gn2⟩ := guess_nd names (allVars body) [] List.Pairwise.nil
      rw [← hev] at gn1 gn2
      have gn3 : ∀ v, v ∈ Vs env ↔ v ∈ allVars body := fun v => by rw [gn2]; simp [Vs]
      have HFX := Lib.hid (show ∀ a ∈ body, ∃ f, fillP a env = some f from fun a ha => by
        obtain ⟨ns, hns⟩ := fillArgs_some (l := env) (ts := a.terms) fun t ht hv => (gn3 _).2 (by
          unfold allVars
          exact List.mem_flatMap.2 ⟨a, ha, (mem_varsOf _ a).2 ⟨t, ht, hv, rfl⟩⟩)
        exact ⟨⟨a.name, ns⟩, by unfold fillP; rw [hns]; rfl⟩)
      have HTL := Lib.hid (HTOLD.out env gn1 gn3)
      clear gn1 gn2 gn3 hev HE HBW HTOLD
      go_wp2
      obtain ⟨wo, hwo⟩ : ∃ wo : World, wo = wr := ⟨_, rfl⟩
      subst hwo
      have HO0 : Hid (OB w2.heap.size wo (.slice ea env.length ec) env) := HO
      have HB0 : Hid (Below w2.heap.size w2 wo) := HB
      go_loopw [82] (fun i wr => ∃ j : Nat, j ≤ body.length ∧ i = .int .i64 j ∧ Hid (OB w2.heap.size wr (.slice ea env.length ec) env) ∧ Hid (Below w2.heap.size w2 wr) ∧ Hid (∀ a ∈ body.take j, ∃ f, fillP a env = some f ∧ memF f facts = !a.neg)) (fun i _ => body.length - (intOf i).toNat)
      case atStart => exact ⟨0, Nat.zero_le _, rfl, HO0, HB0, Lib.hid (by simp)⟩
      case round =>
        clear HO HB HO0 HB0
        obtain ⟨j, hj, rfl, HO, HB, HF⟩ := hrel
        have HBW := Lib.hid (HB2.out.trans (HB.out.mono (Below.size HB2.out)))
        by_cases hlt2 : j < body.length
        · obtain ⟨a, ha⟩ : ∃ a, body[j]? = some a := ⟨_, List.getElem?_eq_getElem hlt2⟩
          obtain ⟨b2, o2, tv, rfl, -, -, e0, e1, e2, htv⟩ := RdAtoms.at (HBD.out.up HBW.out) ha
          obtain ⟨ta, tc, rfl, -, -, -⟩ := id htv.form
          have ham := List.mem_of_getElem? ha
          obtain ⟨f, hfl⟩ := HFX.out a ham
          have na := HSM.out.b1 a ham
          have HFL := Lib.hid (show f.args.length ≤ 1048576 by rw [fill_args hfl]; exact na)
          have HF1 := Lib.hid (show memF f facts = !a.neg → ∀ a ∈ body.take (j + 1), ∃ f, fillP a env = some f ∧ memF f facts = !a.neg from fun h x hx => by
            rw [take_snoc ha] at hx
            rcases List.mem_append.1 hx with hx | hx
            · exact HF.out x hx
            · obtain rfl := List.mem_singleton.1 hx
              exact ⟨f, hfl, h⟩)
          obtain ⟨W1, hW1⟩ : ∃ W1 : World, wr.alloc (.cells #[.bool a.neg, .string a.name, .slice ta a.terms.length tc] 38) = W1 := ⟨_, rfl⟩
          have hs1 : W1.heap.size = wr.heap.size + 1 := by subst hW1; simp
          have hbx : Below wr.heap.size wr W1 := by subst hW1; exact (Below.refl _ _).alloc (Nat.le_refl _) _
          have HB1 := Lib.hid (HB.out.trans (hbx.mono (Below.size HB.out)))
          have HA1 := Lib.hid (show Blk W1 wr.heap.size 38 #[.bool a.neg, .string a.name, .slice ta a.terms.length tc] by subst hW1; exact Blk.new wr _ _)
          have HO1 := Lib.hid (HO.out.below RBind.steady hbx)
          have KF := Lib.hid (fillKnown hfl (htv.up hbx) (OB.read HO1.out) na (by omega))
          have KI := Lib.hid (fun W (hW : Below w2.heap.size w2 W) av (hr : RdStrs (fun _ => True) W av f.args) => inFact (.slice fa facts.length fc) facts f av W (HFA.out.up (HB2.out.trans (hW.mono (Below.size HB2.out)))) hr HFS.out (by omega) (fun x hx => by have := N5.out x hx; omega))
          have q0 : W1.cell? ⟨wr.heap.size, 0, none⟩ = some (.bool a.neg) := HA1.out.cell 0
          have q1 : W1.cell? ⟨wr.heap.size, 1, none⟩ = some (.string a.name) := HA1.out.cell 1
          have q2 : W1.cell? ⟨wr.heap.size, 2, none⟩ = some (.slice ta a.terms.length tc) := HA1.out.cell 2
          clear ha ham hfl hbx htv
          go_wp2_with (go_at_call 11; refine (KF.out).mono ?_; rintro e w3 ⟨⟨av, ac, rfl, hr3⟩, hb3⟩; have HB3 := Lib.hid (HB1.out.trans (hb3.mono (Below.size HB1.out))); have HR3 := Lib.hid hr3; have HA3 := Lib.hid (HA1.out.below hb3 HA1.out.lt); have HO3 := Lib.hid (HO1.out.below RBind.steady hb3); have hs3 : W1.heap.size ≤ w3.heap.size := hb3.size; clear hr3 hb3)
          obtain ⟨W4, hW4⟩ : ∃ W4 : World, w3.alloc (.cells #[.string f.name, .slice av f.args.length ac] 41) = W4 := ⟨_, rfl⟩
          have hs4 : W4.heap.size = w3.heap.size + 1 := by subst hW4; simp
          have hby : Below w3.heap.size w3 W4 := by subst hW4; exact (Below.refl _ _).alloc (Nat.le_refl _) _
          have HB4 := Lib.hid (HB3.out.trans (hby.mono (Below.size HB3.out)))
          have HR4 := Lib.hid (RdStrs.up HR3.out hby)
          have HO4 := Lib.hid (HO3.out.below RBind.steady hby)
          have c0 : W4.cell? ⟨w3.heap.size, 0, none⟩ = some (.string f.name) := by subst hW4; simp
          have c1 : W4.cell? ⟨w3.heap.size, 1, none⟩ = some (.slice av f.args.length ac) := by subst hW4; simp
          have c2 : W4.cell? ⟨wr.heap.size, 0, none⟩ = some (.bool a.neg) := (HA3.out.below hby HA3.out.lt).cell 0
          have hz1 : w3.heap.size < W4.heap.size := by omega
          have hz2 : wr.heap.size < W4.heap.size := by omega
          rw [hW4]
          clear hby hW4 q0 q1 q2 e0 e1 e2 hs4 HR3 HA3 HA1 hW1
          obtain ⟨mb, hmb⟩ : ∃ b, memF f facts = b := ⟨_, rfl⟩
          obtain ⟨ng, hng⟩ : ∃ b, a.neg = b := ⟨_, rfl⟩
          rw [hmb] at KI HF1
          rw [hng] at c2 HF1
          clear hmb hng
          cases mb <;> cases ng
          · go_region_held3 (fun w' => w'.cell? ⟨w3.heap.size, 0, none⟩ = some (.string f.name) ∧ w'.cell? ⟨w3.heap.size, 1, none⟩ = some (.slice av f.args.length ac) ∧ w'.cell? ⟨wr.heap.size, 0, none⟩ = some (.bool false))
              (first | (refine ⟨?_, ?_, ?_⟩ <;> (first | (rw [hk2 _ hz1]; assumption) | (rw [hk2 _ hz2]; assumption))) | go_keep)
              (first
                | (go_at_call 18; refine (KI.out _ HB4.out.drew _ (RdSlice.agree RStr.steady (Agree.refl _ _).drew HR4.out)).mono ?_; rintro e w5 ⟨rfl, hf5⟩; have hk2 : ∀ c, c < W4.heap.size → ∀ off, w5.cell? ⟨c, off, none⟩ = W4.cell? ⟨c, off, none⟩ := fun c hc off => cell_below (w := W4.drew) hf5.below hc off))
            have hsz4 := Below.size HB4.out
            have HB5 := Lib.hid (show Below w2.heap.size w2 w5 from HB4.out.drew.trans (hf5.below.mono hsz4))
            have HO5 := Lib.hid (show OB w2.heap.size w5 (.slice ea env.length ec) env from (HO4.out.drew RBind.steady).below RBind.steady hf5.below)
            clear hf5 hk2 c0 c1 c2
            go_wp2
            go_ret
            exact ⟨rfl, HB2.out.trans (HB5.out.mono (Below.size HB2.out))⟩
          · go_region_held3 (fun w' => w'.cell? ⟨w3.heap.size, 0, none⟩ = some (.string f.name) ∧ w'.cell? ⟨w3.heap.size, 1, none⟩ = some (.slice av f.args.length ac) ∧ w'.cell? ⟨wr.heap.size, 0, none⟩ = some (.bool true))
              (first | (refine ⟨?_, ?_, ?_⟩ <;> (first | (rw [hk2 _ hz1]; assumption) | (rw [hk2 _ hz2]; assumption))) | go_keep)
              (first
                | (go_at_call 18; refine (KI.out _ HB4.out.drew _ (RdSlice.agree RStr.steady (Agree.refl _ _).drew HR4.out)).mono ?_; rintro e w5 ⟨rfl, hf5⟩; have hk2 : ∀ c, c < W4.heap.size → ∀ off, w5.cell? ⟨c, off, none⟩ = W4.cell? ⟨c, off, none⟩ := fun c hc off => cell_below (w := W4.drew) hf5.below hc off))
            have hsz4 := Below.size HB4.out
            have HB5 := Lib.hid (show Below w2.heap.size w2 w5 from HB4.out.drew.trans (hf5.below.mono hsz4))
            have HO5 := Lib.hid (show OB w2.heap.size w5 (.slice ea env.length ec) env from (HO4.out.drew RBind.steady).below RBind.steady hf5.below)
            clear hf5 hk2 c0 c1 c2
            have HF2 := Lib.hid (HF1.out rfl)
            go_wp2
            go_roundw
            case rel => exact ⟨j + 1, by omega, by go_num, HO5, HB5, HF2⟩
            case measure => simp [intOf]; omega
          · go_region_held3 (fun w' => w'.cell? ⟨w3.heap.size, 0, none⟩ = some (.string f.name) ∧ w'.cell? ⟨w3.heap.size, 1, none⟩ = some (.slice av f.args.length ac) ∧ w'.cell? ⟨wr.heap.size, 0, none⟩ = some (.bool false))
              (first | (refine ⟨?_, ?_, ?_⟩ <;> (first | (rw [hk2 _ hz1]; assumption) | (rw [hk2 _ hz2]; assumption))) | go_keep)
              (first
                | (go_at_call 18; refine (KI.out _ HB4.out.drew _ (RdSlice.agree RStr.steady (Agree.refl _ _).drew HR4.out)).mono ?_; rintro e w5 ⟨rfl, hf5⟩; have hk2 : ∀ c, c < W4.heap.size → ∀ off, w5.cell? ⟨c, off, none⟩ = W4.cell? ⟨c, off, none⟩ := fun c hc off => cell_below (w := W4.drew) hf5.below hc off))
            have hsz4 := Below.size HB4.out
            have HB5 := Lib.hid (show Below w2.heap.size w2 w5 from HB4.out.drew.trans (hf5.below.mono hsz4))
            have HO5 := Lib.hid (show OB w2.heap.size w5 (.slice ea env.length ec) env from (HO4.out.drew RBind.steady).below RBind.steady hf5.below)
            clear hf5 hk2 c0 c1 c2
            have HF2 := Lib.hid (HF1.out rfl)
            go_wp2
            go_roundw
            case rel => exact ⟨j + 1, by omega, by go_num, HO5, HB5, HF2⟩
            case measure => simp [intOf]; omega
          · go_region_held3 (fun w' => w'.cell? ⟨w3.heap.size, 0, none⟩ = some (.string f.name) ∧ w'.cell? ⟨w3.heap.size, 1, none⟩ = some (.slice av f.args.length ac) ∧ w'.cell? ⟨wr.heap.size, 0, none⟩ = some (.bool true))
              (first | (refine ⟨?_, ?_, ?_⟩ <;> (first | (rw [hk2 _ hz1]; assumption) | (rw [hk2 _ hz2]; assumption))) | go_keep)
              (first
                | (go_at_call 18; refine (KI.out _ HB4.out.drew _ (RdSlice.agree RStr.steady (Agree.refl _ _).drew HR4.out)).mono ?_; rintro e w5 ⟨rfl, hf5⟩; have hk2 : ∀ c, c < W4.heap.size → ∀ off, w5.cell? ⟨c, off, none⟩ = W4.cell? ⟨c, off, none⟩ := fun c hc off => cell_below (w := W4.drew) hf5.below hc off))
            have hsz4 := Below.size HB4.out
            have HB5 := Lib.hid (show Below w2.heap.size w2 w5 from HB4.out.drew.trans (hf5.below.mono hsz4))
            have HO5 := Lib.hid (show OB w2.heap.size w5 (.slice ea env.length ec) env from (HO4.out.drew RBind.steady).below RBind.steady hf5.below)
            clear hf5 hk2 c0 c1 c2
            go_wp2
            go_ret
            exact ⟨rfl, HB2.out.trans (HB5.out.mono (Below.size HB2.out))⟩
        · have HP0 := Lib.hid (show ∃ p l, 0 ≤ p ∧ ls[p]? = some l ∧ l.length = env.length ∧ ∀ b ∈ env, getB b.var l = some b.name by
            obtain ⟨l, hl, h1, h2⟩ := HTL.out (fun a ha => HF.out a (by rw [List.take_of_length_le (by omega)]; exact ha))
            obtain ⟨p, hp⟩ := List.mem_iff_getElem?.1 hl
            exact ⟨p, l, Nat.zero_le _, hp, h1, h2⟩)
          clear HF HTL HFX
          go_wp2
          obtain ⟨wp, hwp⟩ : ∃ wp : World, wp = wr := ⟨_, rfl⟩
          subst hwp
          have HB0 : Hid (Below w2.heap.size w2 wp) := HB
          have HBP0 := Lib.hid (Below.refl wp.heap.size wp)
          go_loopw [105] (fun i wr => ∃ j : Nat, j ≤ ls.length ∧ i = .int .i64 j ∧ Hid (Below w2.heap.size w2 wr) ∧ Hid (Below wp.heap.size wp wr) ∧ Hid (∃ p l, j ≤ p ∧ ls[p]? = some l ∧ l.length = env.length ∧ ∀ b ∈ env, getB b.var l = some b.name)) (fun i _ => ls.length - (intOf i).toNat)
          case atStart => exact ⟨0, Nat.zero_le _, rfl, HB0, HBP0, HP0⟩
          case round =>
            clear HB HB0 HBP0 HP0 HBW
            obtain ⟨j, hj, rfl, HB, HBP, HP⟩ := hrel
            by_cases hlt3 : j < ls.length
            · obtain ⟨l, hx⟩ : ∃ l, ls[j]? = some l := ⟨_, List.getElem?_eq_getElem hlt3⟩
              obtain ⟨b1, o1, lv, efa, -, hl1, d0, hlv⟩ := RdBindss.at HR2.out hx
              obtain ⟨xa, xc, rfl, -, -, -⟩ := id hlv.form
              have HLV := Lib.hid hlv
              have HX := Lib.hid hx
              have nl : l.length ≤ 20 := HSA.out.2 l (List.mem_of_getElem? hx)
              have d1 := (cell_below HB.out hl1 (o1 + j)).trans d0
              subst efa
              have HNX := Lib.hid (show sameB env l env.length = false → ∃ p l, j + 1 ≤ p ∧ ls[p]? = some l ∧ l.length = env.length ∧ ∀ b ∈ env, getB b.var l = some b.name from fun h => by
                obtain ⟨p, l', h1, h2, h3, h4⟩ := HP.out
                by_cases hpj : p = j
                · subst hpj
                  rw [hx] at h2
                  obtain rfl := Option.some.inj h2
                  have : sameB env l env.length = true := by
                    unfold sameB
                    rw [decide_eq_true h3, List.take_length, Bool.true_and]
                    exact List.all_eq_true.2 fun b hb => decide_eq_true (h4 b hb)
                  rw [this] at h; cases h
                · exact ⟨p, l', by omega, h2, h3, h4⟩)
              have HS0 := Lib.hid (show sameB env l 0 = decide (l.length = env.length) by simp [sameB])
              clear hlv hx d0
              have hst : ((l.length : Int) == (env.length : Int)) = sameB env l 0 := by rw [HS0.out, Bool.eq_iff_iff]; simp only [beq_iff_eq, decide_eq_true_eq]; omega
              obtain ⟨s0, hs0⟩ : ∃ s0, sameB env l 0 = s0 := ⟨_, rfl⟩
              rw [hs0] at hst
              have HS00 := Lib.hid hs0
              clear hs0
              go_wp2
              obtain ⟨wq, hwq⟩ : ∃ wq : World, wq = wr := ⟨_, rfl⟩
              subst hwq
              have HBQ : Hid (Below w2.heap.size w2 wq) := HB
              have HBPQ : Hid (Below wp.heap.size wp wq) := HBP
              go_loopw [116, 23] (fun i sv wr => ∃ m : Nat, m ≤ env.length ∧ i = .int .i64 m ∧ sv = .bool (sameB env l m) ∧ Hid (Below w2.heap.size w2 wr) ∧ Hid (Below wp.heap.size wp wr)) (fun i _ _ => env.length - (intOf i).toNat)
              case atStart => exact ⟨0, Nat.zero_le _, rfl, by rw [HS00.out], HBQ, HBPQ⟩
              case round =>
                clear HB HBQ HBP HBPQ d1
                obtain ⟨m, hm, rfl, rfl, HB, HBP⟩ := hrel
                by_cases hlt4 : m < env.length
                · obtain ⟨b, hb⟩ : ∃ b, env[m]? = some b := ⟨_, List.getElem?_eq_getElem hlt4⟩
                  have HOR := Lib.hid (HO.out.below RBind.steady HBP.out)
                  obtain ⟨b3, o3, efa, -, hl3, f0, f1⟩ := RdBinds.at (OB.read HOR.out) hb
                  subst efa
                  have HSS := Lib.hid (sameB_succ (l := l) hb)
                  obtain ⟨W1, hW1⟩ : ∃ W1 : World, wr.alloc (.cells #[.string b.var, .string b.name] 34) = W1 := ⟨_, rfl⟩
                  have hs1 : W1.heap.size = wr.heap.size + 1 := by subst hW1; simp
                  have hbx : Below wr.heap.size wr W1 := by subst hW1; exact (Below.refl _ _).alloc (Nat.le_refl _) _
                  have HBX := Lib.hid (HB.out.trans (hbx.mono (Below.size HB.out)))
                  have HBPX := Lib.hid (HBP.out.trans (hbx.mono (Below.size HBP.out)))
                  have p0 : W1.cell? ⟨wr.heap.size, 0, none⟩ = some (.string b.var) := by subst hW1; simp
                  have p1 : W1.cell? ⟨wr.heap.size, 1, none⟩ = some (.string b.name) := by subst hW1; simp
                  have KG := Lib.hid (getCalls (.slice xa l.length xc) l b.var W1 (HLV.out.up HBX.out) (by omega))
                  obtain ⟨sm, hsm⟩ : ∃ sm, sameB env l m = sm := ⟨_, rfl⟩
                  rw [hsm] at HSS ⊢
                  clear hb hbx hsm
                  cases hg : getB b.var l with
                  | none =>
                    rw [hg] at KG HSS
                    have HSB := Lib.hid (show sameB env l (m + 1) = false by rw [HSS.out]; simp)
                    clear hg
                    cases sm
                    all_goals
                      go_wp2_with (go_at_call 16; refine (KG.out).mono ?_; rintro e w5 ⟨rfl, hb5⟩; dsimp only [getV]; have HBG := Lib.hid hb5; have HB5 := Lib.hid (HBX.out.trans (hb5.mono (Below.size HBX.out))); have r0 := (cell_below hb5 (show wr.heap.size < W1.heap.size by omega) 0).trans p0; have r1 := (cell_below hb5 (show wr.heap.size < W1.heap.size by omega) 1).trans p1; clear hb5)
                      have HBP5 := Lib.hid (HBPX.out.trans (HBG.out.mono (Below.size HBPX.out)))
                      go_roundw
                      case rel => exact ⟨m + 1, by omega, by go_num, by rw [HSB.out], HB5, HBP5⟩
                      case measure => simp [intOf]; omega
                  | some n =>
                    rw [hg] at KG HSS
                    by_cases hnn : n = b.name
                    · have gn : (n.toList == b.name.toList) = true := by rw [hnn]; simp
                      have HSB := Lib.hid (show sameB env l (m + 1) = sm by rw [HSS.out]; simp [hnn])
                      clear hg hnn
                      cases sm
                      all_goals
                        go_wp2_with (go_at_call 16; refine (KG.out).mono ?_; rintro e w5 ⟨rfl, hb5⟩; dsimp only [getV]; have HBG := Lib.hid hb5; have HB5 := Lib.hid (HBX.out.trans (hb5.mono (Below.size HBX.out))); have r0 := (cell_below hb5 (show wr.heap.size < W1.heap.size by omega) 0).trans p0; have r1 := (cell_below hb5 (show wr.heap.size < W1.heap.size by omega) 1).trans p1; clear hb5)
                        have HBP5 := Lib.hid (HBPX.out.trans (HBG.out.mono (Below.size HBPX.out)))
                        go_roundw
                        case rel => exact ⟨m + 1, by omega, by go_num, by rw [HSB.out], HB5, HBP5⟩
                        case measure => simp [intOf]; omega
                    · have gn : (n.toList == b.name.toList) = false := by rw [beq_toList]; exact decide_eq_false hnn
                      have HSB := Lib.hid (show sameB env l (m + 1) = false by rw [HSS.out]; simp [hnn])
                      clear hg hnn
                      cases sm
                      all_goals
                        go_wp2_with (go_at_call 16; refine (KG.out).mono ?_; rintro e w5 ⟨rfl, hb5⟩; dsimp only [getV]; have HBG := Lib.hid hb5; have HB5 := Lib.hid (HBX.out.trans (hb5.mono (Below.size HBX.out))); have r0 := (cell_below hb5 (show wr.heap.size < W1.heap.size by omega) 0).trans p0; have r1 := (cell_below hb5 (show wr.heap.size < W1.heap.size by omega) 1).trans p1; clear hb5)
                        have HBP5 := Lib.hid (HBPX.out.trans (HBG.out.mono (Below.size HBPX.out)))
                        go_roundw
                        case rel => exact ⟨m + 1, by omega, by go_num, by rw [HSB.out], HB5, HBP5⟩
                        case measure => simp [intOf]; omega
                · obtain rfl : m = env.length := by omega
                  obtain ⟨sm, hsm⟩ : ∃ sm, sameB env l env.length = sm := ⟨_, rfl⟩
                  rw [hsm] at HNX ⊢
                  clear hsm
                  cases sm
                  · have HP1 := Lib.hid (HNX.out rfl)
                    go_wp2
                    go_roundw
                    case rel => exact ⟨j + 1, by omega, by go_num, HB, HBP, HP1⟩
                    case measure => simp [intOf]; omega
                  · go_wp2
                    go_ret
                    exact ⟨rfl, HB2.out.trans (HB.out.mono (Below.size HB2.out))⟩
            · exfalso
              obtain ⟨p, l, h1, h2, -⟩ := HP.out
              have := (List.getElem?_eq_some_iff.1 h2).1
              omega
namespace matchAll
theorem own : ownKnob Try.prog.godebug = none := by kernel_rfl

set_option maxRecDepth 100000 in
theorem contract (H : Type) (enc : TypeId × Value → H) (W : World) (base : Nat) (args : Array Value) (ds gs : List (DataW H)) (before : List MemPlace)
    (hval : ∀ (j : Nat) t v, Try.f5.params[j]? = some t → args[j]? = some v → Value.okWide Try.prog W .any base t v)
    (hW : DataW.Whole enc Try.prog Try.f5.params.toList Rows.matchAllSpec.vars false W args.toList ds gs before) (hk : Rows.uptoSmall H (ds ++ gs) = true) :
    Calls Try.prog 5 args W fun e W' => ∃ v, e = .returned v ∧ Rows.matchAllSpec.post enc Try.prog Try.f5 false true false false W args v W' := by
  have hW' := hW
  obtain ⟨p, q, hA0, hV, rfl, hfz, hnd⟩ := hW
  have hA : DataW.TrodAll enc Try.prog W 0 (fun _ => true) true Try.f5.params.toList args.toList ds p := hA0
  rw [Try.params5] at hA hval
  obtain ⟨v0, v1, v2, d0, d1, d2, p0, p1, p2, rfl, rfl, rfl, h0, h1, h2⟩ := trodAll_three hA
  obtain ⟨rfl, rfl⟩ := trodVars_none hV
  obtain ⟨x0, r0, s0⟩ := openAtom.sliceArg Try.underlying22 (hval 0 22 v0 rfl rfl) h0
  obtain ⟨x1, r1, s1⟩ := openFact.sliceArg Try.underlying23 (hval 1 23 v1 rfl rfl) h1
  obtain ⟨x2, r2, s2⟩ := openStr.sliceArg Try.underlying39 (hval 2 39 v2 rfl rfl) h2
  rw [List.append_nil] at hk
  have hb : Rows.uptoBulkAll [d0, d1, d2] ≤ 1048576 := of_decide_eq_true hk
  simp only [Rows.uptoBulkAll] at hb
  have l0 := body_small (l := x0) (by omega)
  have l1 := sizeL_le openFact.one x1
  have m1 : ∀ z ∈ x1, z.args.length ≤ 1048576 := fun z hz => by have h1 := sizeL_mem (size := sizeFact) hz; have h2 := sizeL_le openStr.one z.args; simp only [sizeFact] at h1; omega
  have l2 := sizeL_le openStr.one x2
  refine (matchAllCalls v0 x0 v1 x1 v2 x2 W r0 r1 r2 l0 (by omega) m1 (by omega)).mono fun e W' ⟨he, hb'⟩ => ?_
  subst he
  exact ⟨_, rfl, law_post (tb := 4) hW' rfl rfl (by kernel_rfl) Try.underlying4 (by kernel_rfl) (by kernel_rfl) hb'⟩

set_option maxRecDepth 100000 in
theorem lifted (os : Os) (started : os.Started) (H : Type) (enc : TypeId × Value → H) (F : Stop.Interp) :
    ReturnsInHanded {} Try.checked os 5 .any ((Rows.OpenSpec.upto Rows.matchAllSpec).pre6 enc Try.prog Try.f5 Rows.matchAllUptoRow.domain false) (((Rows.OpenSpec.upto Rows.matchAllSpec).at F).post enc Try.prog Try.f5 false true false false) := by
  refine returnsInHanded_of_cond (C := Try.checked) (s := Rows.OpenSpec.upto Rows.matchAllSpec) (k := Rows.uptoSmall) rfl own started (by kernel_rfl) Try.func5
    (OpenSpec.witness (enc := enc) (C := Try.checked) (s := Rows.OpenSpec.upto Rows.matchAllSpec) (k := Rows.uptoSmall) rfl false ⟨#[], #[.slice none 0 0, .slice none 0 0, .slice none 0 0], []⟩ 8 (by kernel_rfl) (by kernel_rfl) (by kernel_rfl)
      (x := ([.nil, .nil, .nil], [], [])) (by kernel_rfl) rfl (by kernel_rfl)) ?_
  intro W base args ds gs before hval hW _ hk _
  exact contract H enc W base args ds gs before hval hW hk

theorem proved : Rows.MatchAllUptoSaid :=
  OpenClaim.holds_of_cond 5 Try.f5 rfl rfl rfl rfl rfl rfl rfl ⟨rfl, rfl, rfl, rfl, rfl⟩ rfl rfl rfl rfl rfl (by kernel_rfl) Try.func5 (by kernel_rfl)
    (of_decide_eq_true (by kernel_rfl)) (by unfold Func.isWrapper; first | (rw [if_pos (by decide +kernel)]; kernel_rfl) | (rw [if_neg (by decide +kernel)]; exact ⟨rfl, rfl⟩))
    (fun os started H enc _ F => lifted os started H enc F)
end matchAll


end Go.Proofs.Ytmnpneandkiblaa
