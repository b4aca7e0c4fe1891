/-
  A PROOF BENT IN HIS PLACE: what lies in memory then; and that it is found.
-/
import Derived.Test.YtoffggiaecclmaaGreatPk17
import Derived.Test.YtoffggiaecclmaaGreatPk20
namespace Go.Proofs.YtoffggiaecclmaaGreat
open Go.RowKit

/-- y is x, or stands in it. -/
inductive SubP : PProof → PProof → Prop
  | refl (x : PProof) : SubP x x
  | kid {y k x : PProof} : k ∈ x.kids → SubP y k → SubP y x
theorem SubP.trans {y k x : PProof} (h : SubP y k) (g : SubP k x) : SubP y x := by
  induction g with
  | refl => exact h
  | kid hk _ ih => exact .kid hk ih
theorem one_kids {p : List PRule} {told M : List PFact} {n : Nat} {x k : PProof} (h : oneN p told M (n + 1) x = 0) (hk : k ∈ x.kids) : oneN p told M n k = 0 := by
  rw [oneN] at h
  by_cases hr : x.rule < 0
  · rw [if_pos hr] at h
    unfold leafBad at h
    split at h
    · exact absurd h (by decide)
    · rename_i hc
      have hk0 : x.kids = [] := Classical.byContradiction fun hn => hc (.inr (.inl hn))
      rw [hk0] at hk
      cases hk
  · rw [if_neg hr] at h
    cases hp : p[x.rule.toNat]? with
    | none => rw [hp] at h; exact absurd h (show (1 : Int) ≠ 0 by decide)
    | some r =>
      rw [hp] at h
      dsimp only at h
      by_cases h1 : ruleOf r M x = 0
      · rw [if_neg (by simpa using h1)] at h
        exact firstErr_zero h k hk
      · rw [if_pos h1] at h; exact absurd h h1
theorem one_sub {p : List PRule} {told M : List PFact} (hF : Follows p told M) (hR : ∀ r ∈ p, ruleBad r = 0) {y x : PProof} (hs : SubP y x) : ∀ n, oneN p told M n x = 0 → y.fact ∈ M := by
  induction hs with
  | refl => exact fun n h => one_sound hF hR n _ h
  | kid hk _ ih =>
    intro n h
    cases n with
    | zero => exact absurd h (show (6 : Int) ≠ 0 by decide)
    | succ n => exact ih n (one_kids h hk)
/-- WHAT IS BENT IS FOUND. -/
theorem bent_check {st : List Int} {q : Int × Int} {p : List PRule} {l : List PFact} {n : Nat} {x y : PProof} (hS : StrataIs p st q) (hn : (naiveP st q.1 p l).2 = 0) (hs : SubP y x) (hm : memF y.fact (naiveP st q.1 p l).1 = false) : checkN st q.1 p l n x ≠ 0 := fun h => by
  obtain ⟨hF, -, hR⟩ := naive_follows hS hn
  unfold checkN at h
  rw [if_neg (by simpa using hn)] at h
  split at h
  · exact absurd h (by decide)
  · rw [(memF_iff _ _).2 (one_sub hF hR hs n h)] at hm
    cases hm

theorem cell_heap {w w' : World} {b : Nat} (h : w'.heap[b]? = w.heap[b]?) (o : Nat) : w'.cell? ⟨b, o, none⟩ = w.cell? ⟨b, o, none⟩ := by unfold World.cell?; simp only [h]
/-- The law's proof, in the cells of X: y stands in it. -/
def Root (w : World) (X : Nat) (y : PProof) : Prop := ∃ x a k, w.cell? ⟨X, 0, none⟩ = some (.string x.fact.name) ∧ w.cell? ⟨X, 1, none⟩ = some a ∧ w.cell? ⟨X, 2, none⟩ = some (.int .i64 x.rule) ∧ w.cell? ⟨X, 3, none⟩ = some k ∧
  RdStrs (fun _ => True) w a x.fact.args ∧ RdProofs 61 (fun _ => True) w k x.kids ∧ smallN 62 x ∧ cntN 62 x ≤ 400 ∧ SubP y x
theorem Root.sub {w : World} {X : Nat} {y k : PProof} (h : Root w X y) (hk : SubP k y) : Root w X k := by
  obtain ⟨x, a, kk, h0, h1, h2, h3, h4, h5, h6, h7, h8⟩ := h
  exact ⟨x, a, kk, h0, h1, h2, h3, h4, h5, h6, h7, hk.trans h8⟩
/-- y lies at (B, off); whatever else is laid there, the whole is a proof with that in it. -/
structure Place (w : World) (N X B off lo hi m : Nat) (y : PProof) (av kv : Value) : Prop where
  c0 : w.cell? ⟨B, off, none⟩ = some (.string y.fact.name)
  c1 : w.cell? ⟨B, off + 1, none⟩ = some av
  c2 : w.cell? ⟨B, off + 2, none⟩ = some (.int .i64 y.rule)
  c3 : w.cell? ⟨B, off + 3, none⟩ = some kv
  free : ∀ i, w.frozen? ⟨B, i, none⟩ = false
  own : OwnP (m + 1) lo hi w av kv y
  out : ¬ Span lo hi B
  lt : B < w.heap.size
  new : N ≤ B
  base : N ≤ lo
  small : smallN (m + 1) y
  hole : ∀ (w' : World) (av' kv' : Value) (y' : PProof), w.heap.size ≤ w'.heap.size → (∀ b, b < w.heap.size → b ≠ B → ¬ Span lo hi b → w'.heap[b]? = w.heap[b]?) → (∀ o, o < off ∨ off + 4 ≤ o → w'.cell? ⟨B, o, none⟩ = w.cell? ⟨B, o, none⟩) →
    w'.cell? ⟨B, off, none⟩ = some (.string y'.fact.name) → w'.cell? ⟨B, off + 1, none⟩ = some av' → w'.cell? ⟨B, off + 2, none⟩ = some (.int .i64 y'.rule) → w'.cell? ⟨B, off + 3, none⟩ = some kv' →
    RdStrs (fun _ => True) w' av' y'.fact.args → RdProofs m (fun _ => True) w' kv' y'.kids → smallN (m + 1) y' → cntN (m + 1) y' = cntN (m + 1) y → Root w' X y'
theorem place_root {w : World} {N X lo hi : Nat} {x : PProof} {av kv : Value} (hX : Blk w X 30 #[.string x.fact.name, av, .int .i64 x.rule, kv]) (ho : OwnP 62 lo hi w av kv x) (hout : ¬ Span lo hi X) (hN : N ≤ X) (hlo : N ≤ lo) (hs : smallN 62 x) (hc : cntN 62 x ≤ 400) : Place w N X X 0 lo hi 61 x av kv :=
  ⟨hX.cell 0, hX.cell 1, hX.cell 2, hX.cell 3, hX.frozen, ho, hout, hX.lt, hN, hlo, hs, fun _w' av' kv' y' _ _ _ h0 h1 h2 h3 h4 h5 h6 h7 => ⟨y', av', kv', h0, h1, h2, h3, h4, h5, h6, Nat.le_trans (Nat.le_of_eq h7) hc, .refl y'⟩⟩
theorem map_set_same {α β : Type} {f : α → β} {l : List α} {i : Nat} {x y : α} (h : l[i]? = some x) (hf : f y = f x) : (l.set i y).map f = l.map f := by
  apply List.ext_getElem?
  intro j
  rw [List.getElem?_map, List.getElem?_map, List.getElem?_set]
  by_cases e : i = j
  · subst e
    rw [if_pos rfl, if_pos (List.getElem?_eq_some_iff.1 h).1, h]
    simp [hf]
  · rw [if_neg e]
theorem Place.kid {w : World} {N X B off lo hi m : Nat} {y k : PProof} {av kv : Value} (h : Place w N X B off lo hi m y av kv) {i : Nat} (hk : y.kids[i]? = some k) :
    ∃ n b o c lo' hi' a1 k1, m = n + 1 ∧ kv = .slice (some ⟨b, o, none⟩) y.kids.length c ∧ Place w N X b (o + i * 4) lo' hi' n k a1 k1 := by
  cases m with
  | zero =>
    obtain ⟨mid, h1, h2, h3, zs, h4, h0, h5⟩ := h.own
    have hil : i < zs.length := by rw [h5.len]; exact (List.getElem?_eq_some_iff.1 hk).1
    exact (h5.each i _ k (List.getElem?_eq_getElem hil) hk).2.2.elim
  | succ n =>
    obtain ⟨mid, h1, h2, h3, zs, h4, h0, h5⟩ := h.own
    have hrd := own_slice h4 h0
    have hlen := h5.len
    obtain ⟨z, hz⟩ : ∃ z, zs[i]? = some z := ⟨_, List.getElem?_eq_getElem (by rw [h5.len]; exact (List.getElem?_eq_some_iff.1 hk).1)⟩
    obtain ⟨e1, e2, hzo⟩ := h5.each i z k hz hk
    obtain ⟨i1, i2, i3⟩ := h5.inside z (List.mem_of_getElem? hz)
    obtain ⟨a, c, rfl, j1, j2, j3, j4⟩ := hrd
    obtain ⟨b, o, cs, rfl, hb, hlt, hck, hcell, hr⟩ := j4 i z hz
    have hr' : cs = [.string z.nm, z.av, .int .i64 z.rl, z.kv] := hr
    subst hr'
    have hnz : ¬ Span z.lo z.hi b := h5.row b rfl z (List.mem_of_getElem? hz)
    have hbB : b ≠ B := fun e => h.out (by subst e; exact hb.sub h1 (Nat.le_refl _))
    have hfree : ∀ i, w.frozen? ⟨b, i, none⟩ = false := fun i => by
      obtain ⟨css, -, -, ho, -⟩ := h4
      rcases ho.2 with ⟨hn, -⟩ | ⟨g, cap, cur, hkv, -, hgg, -⟩
      · cases hn
      · injection hkv with q1 q2 q3
        injection q1 with q1
        injection q1 with q1 q4 q5
        subst q1
        simp [World.frozen?, hgg]
    have k0 : w.cell? ⟨b, o + i * 4, none⟩ = some (.string z.nm) := by simpa using hcell 0 _ rfl
    have k1 : w.cell? ⟨b, o + i * 4 + 1, none⟩ = some z.av := by simpa using hcell 1 _ rfl
    have k2 : w.cell? ⟨b, o + i * 4 + 2, none⟩ = some (.int .i64 z.rl) := by simpa using hcell 2 _ rfl
    have k3 : w.cell? ⟨b, o + i * 4 + 3, none⟩ = some z.kv := by simpa using hcell 3 _ rfl
    refine ⟨n, b, o, c, z.lo, z.hi, z.av, z.kv, rfl, by rw [hlen], by rw [← e1]; exact k0, k1, by rw [← e2]; exact k2, k3, hfree, hzo, hnz, hlt, ?_, ?_, h.small.2.2 k (List.mem_of_getElem? hk), ?_⟩
    · exact Nat.le_trans (Nat.le_trans h.base h1) hb.1
    · exact Nat.le_trans (Nat.le_trans h.base h1) i1
    · intro w' av' kv' k' hs hbl hce c0 c1 c2 c3 ha' hk' hsm hcn
      have hBs : w'.heap[B]? = w.heap[B]? := hbl B h.lt (fun e => hbB e.symm) (fun hS => h.out (hS.sub (Nat.le_trans h1 i1) i3))
      have hsub : SubP k' (.mk y.fact y.rule (y.kids.set i k')) := .kid (List.mem_of_getElem? (i := i) (show (y.kids.set i k')[i]? = some k' by rw [List.getElem?_set, if_pos rfl, if_pos (List.getElem?_eq_some_iff.1 hk).1])) (.refl k')
      refine (h.hole w' av (.slice (some ⟨b, o, none⟩) zs.length c) (.mk y.fact y.rule (y.kids.set i k')) hs (fun b' hl hne hS => ?_) (fun o' _ => cell_heap hBs o') ((cell_heap hBs _).trans h.c0) ((cell_heap hBs _).trans h.c1) ((cell_heap hBs _).trans h.c2) ((cell_heap hBs _).trans h.c3) ?_ ?_ ?_ ?_).sub hsub
      · exact hbl b' hl (fun e => hS (by subst e; exact hb.sub h1 (Nat.le_refl _))) (fun h' => hS (h'.sub (Nat.le_trans h1 i1) i3))
      · refine (h3.agree RStr.steady ⟨hs, fun b' hb' hl => hbl b' hl (fun e => ?_) (fun h' => ?_)⟩).more RStr.steady (fun _ _ _ => trivial)
        · subst e; have := hb'.2; have := hb.1; omega
        · have := hb'.2; have := h'.1; omega
      · refine ⟨some ⟨b, o, none⟩, c, by rw [hlen]; show _ = Value.slice _ (y.kids.set i k').length _; rw [List.length_set], by show (y.kids.set i k').length ≤ c; rw [List.length_set, ← hlen]; exact j1, j2, j3, fun j x hx => ?_⟩
        by_cases e : i = j
        · subst e
          have hx' : k' = x := by
            have hx2 : (y.kids.set i k')[i]? = some x := hx
            rw [List.getElem?_set, if_pos rfl, if_pos (List.getElem?_eq_some_iff.1 hk).1] at hx2
            exact Option.some.inj hx2
          subst hx'
          refine ⟨b, o, [.string k'.fact.name, av', .int .i64 k'.rule, kv'], rfl, trivial, Nat.lt_of_lt_of_le hlt hs, rfl, fun t u hu => ?_, av', kv', rfl, ha', hk'⟩
          match t, hu with
          | 0, hu => obtain rfl := Option.some.inj hu; exact c0
          | 1, hu => obtain rfl := Option.some.inj hu; exact c1
          | 2, hu => obtain rfl := Option.some.inj hu; exact c2
          | 3, hu => obtain rfl := Option.some.inj hu; exact c3
          | t + 4, hu => simp at hu
        · have hx' : y.kids[j]? = some x := by
            have hx2 : (y.kids.set i k')[j]? = some x := hx
            rwa [List.getElem?_set, if_neg e] at hx2
          obtain ⟨u, hu⟩ : ∃ u, zs[j]? = some u := ⟨_, List.getElem?_eq_getElem (by rw [hlen]; exact (List.getElem?_eq_some_iff.1 hx').1)⟩
          obtain ⟨f1, f2, huo⟩ := h5.each j u x hu hx'
          obtain ⟨b2, o2, cs2, hb2, -, -, hck2, hcell2, hr2⟩ := j4 j u hu
          injection hb2 with hb2
          injection hb2 with q1 q2 q3
          subst q1 q2
          have hr2' : cs2 = [.string u.nm, u.av, .int .i64 u.rl, u.kv] := hr2
          subst hr2'
          have hap : z.hi ≤ u.lo ∨ u.hi ≤ z.lo := by
            have hp := List.pairwise_iff_getElem.1 h5.apart
            obtain ⟨g1, g2⟩ := List.getElem?_eq_some_iff.1 hz
            obtain ⟨g3, g4⟩ := List.getElem?_eq_some_iff.1 hu
            rcases Nat.lt_or_gt_of_ne e with hij | hij
            · left; have := hp i j g1 g3 hij; rwa [g2, g4] at this
            · right; have := hp j i g3 g1 hij; rwa [g2, g4] at this
          have hag : Agree (Span u.lo u.hi) w w' := ⟨hs, fun b' hb' hl => hbl b' hl (fun e => h5.row b rfl u (List.mem_of_getElem? hu) (by subst e; exact hb')) (fun h' => by have := hb'.1; have := hb'.2; have := h'.1; have := h'.2; omega)⟩
          obtain ⟨g1, g2⟩ := (huo.agree hag).kids
          refine ⟨b, o, [.string u.nm, u.av, .int .i64 u.rl, u.kv], rfl, trivial, Nat.lt_of_lt_of_le hlt hs, rfl, fun t v hv => ?_, u.av, u.kv, by rw [f1, f2], g1.more RStr.steady (fun _ _ _ => trivial), g2.more (RProofN.steady n) (fun _ _ _ => trivial)⟩
          have ht : t < 4 := (List.getElem?_eq_some_iff.1 hv).1
          rw [hce _ (by omega)]
          exact hcell2 t v hv
      · refine ⟨h.small.1, by show (y.kids.set i k').length ≤ _; rw [List.length_set]; exact h.small.2.1, fun x hx => ?_⟩
        rcases List.mem_or_eq_of_mem_set hx with hx | rfl
        · exact h.small.2.2 x hx
        · exact hsm
      · show 1 + ((y.kids.set i k').map (cntN (n + 1))).sum = 1 + (y.kids.map (cntN (n + 1))).sum
        rw [map_set_same hk hcn]
/-- Another fact is laid there. -/
theorem Place.bend {w : World} {N X B off lo hi m : Nat} {y : PProof} {av kv : Value} (h : Place w N X B off lo hi m y av kv) (g : PFact) (gv : Value) {S : Nat → Prop} (hg : RdStrs S w gv g.args) (hS : ∀ b, S b → b < N) (hl : g.args.length ≤ 1048576) :
    Root ((w.setCell ⟨B, off, none⟩ (.string g.name)).setCell ⟨B, off + 1, none⟩ gv) X (.mk g y.rule y.kids) ∧ But B w ((w.setCell ⟨B, off, none⟩ (.string g.name)).setCell ⟨B, off + 1, none⟩ gv) := by
  have hb : But B w ((w.setCell ⟨B, off, none⟩ (.string g.name)).setCell ⟨B, off + 1, none⟩ gv) := ((But.refl B w).setCell (p := ⟨B, off, none⟩) (.inl rfl) _).setCell (p := ⟨B, off + 1, none⟩) (.inl rfl) _
  have hne : ∀ {i j : Nat}, i ≠ j → (⟨B, i, none⟩ : Addr) ≠ ⟨B, j, none⟩ := fun hij e => hij (by injection e)
  have hfar : ∀ o, o ≠ off → o ≠ off + 1 → ((w.setCell ⟨B, off, none⟩ (.string g.name)).setCell ⟨B, off + 1, none⟩ gv).cell? ⟨B, o, none⟩ = w.cell? ⟨B, o, none⟩ := fun o h1 h2 => by
    rw [World.cell?_setCell_other (h := hne (Ne.symm h2)), World.cell?_setCell_other (h := hne (Ne.symm h1))]
  refine ⟨h.hole _ gv kv (.mk g y.rule y.kids) (by simp) (fun b _ hb' _ => ?_) (fun o ho => hfar o (by omega) (by omega)) ?_ ?_ ?_ ?_ ?_ ?_ ?_ rfl, hb⟩
  · exact hb.block b (by assumption) (fun e => hb' (Option.some.inj e))
  · rw [World.cell?_setCell_other (h := hne (show off + 1 ≠ off by omega)), World.cell?_setCell_same (h := h.c0)]; rfl
  · exact World.cell?_setCell_same _ _ gv (u := av) (by rw [World.cell?_setCell_other (h := hne (show off ≠ off + 1 by omega))]; exact h.c1)
  · rw [hfar _ (by omega) (by omega)]; exact h.c2
  · rw [hfar _ (by omega) (by omega)]; exact h.c3
  · exact (hg.agree RStr.steady (hb.agree fun hs => by have := hS B hs; have := h.new; omega)).more RStr.steady (fun _ _ _ => trivial)
  · exact ((h.own.agree (hb.agree h.out)).kids.2).more (RProofN.steady m) (fun _ _ _ => trivial)
  · exact ⟨hl, h.small.2.1, h.small.2.2⟩
theorem prove_bad {st : List Int} {q : Int} {p : List PRule} {l : List PFact} {f : PFact} (h : (naiveP st q p l).2 ≠ 0) : (proveP st q p l f).1 = none := by
  unfold proveP
  split
  · rfl
  · first | rfl | (rw [if_pos h])
theorem prove_code {st : List Int} {q : Int} {p : List PRule} {l : List PFact} {f : PFact} (h : (proveP st q p l f).1 = none) : (proveP st q p l f).2 ≠ 0 := by
  unfold proveP at h ⊢
  split
  · assumption
  · split
    · assumption
    · split
      · assumption
      · split
        · exact (by decide : (6 : Int) ≠ 0)
        · rename_i a b c d
          rw [if_neg a, if_neg b, if_neg c, if_neg d] at h
          generalize (findN p l (naiveP st q p l).1 (agesP st p l) 61 0 f 1).1 = y at *
          cases y with
          | none => exact (by decide : (4 : Int) ≠ 0)
          | some x => cases h
end Go.Proofs.YtoffggiaecclmaaGreat
