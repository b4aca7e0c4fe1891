/-
  THE TEXTS RoundS, RoundT, one behind the other.
-/
import Derived.Test.YtbbiapgkcekabaaGreatPk17
/-
  PLAIN: what is new of what was new, or all over and over: it comes to the same; told what follows, nothing is new (chapter 6).
-/
namespace Go.Proofs.YtbbiapgkcekabaaGreat

/-- What a rule of the stratum makes of all that is known is known, or it is made of what is new. -/
def Sync (ps : List (PRule × Int)) (s : Int) (known new : List PFact) : Prop := ∀ r t, (r, t) ∈ ps → t = s → ∀ x, Derives r known x → x ∈ known ∨ Makes r known new x
theorem sync_all (ps : List (PRule × Int)) (s : Int) (known : List PFact) : Sync ps s known known := fun r t _ _ x hx => by
  by_cases h : ∃ a ∈ r.body, a.neg = false
  · obtain ⟨a, ha, hn⟩ := h
    obtain ⟨i, hi⟩ := List.mem_iff_getElem?.1 ha
    obtain ⟨m, hm, hf⟩ := hx
    refine .inr (.inl ⟨i, a, m, hi, hn, ?_, hf⟩)
    have e : pickP known known (i : Int) = fun _ => known := funext fun j => by unfold pickP; split <;> rfl
    rw [e]; exact hm
  · refine .inr (.inr ⟨fun a ha => ?_, hx⟩)
    cases hn : a.neg
    · exact absurd ⟨a, ha, hn⟩ h
    · rfl
/-- What must not be so does not turn in a step. -/
def Still (ps : List (PRule × Int)) (s : Int) (known known' : List PFact) : Prop := ∀ r t, (r, t) ∈ ps → t = s → ∀ a ∈ r.body, a.neg = true → ∀ f ∈ known', f.name = a.name → f ∈ known
theorem still_of {p : List PRule} {L : Str → Nat} (hS : Sol p L) {n : Int} {r r' : PRun} (hsub : ∀ x ∈ r.new, x ∈ r.known) (h : Stepped (withL L p) n r r') : Still (withL L p) r.stratum r.known r'.known := fun r0 t hm e a ha hn f hf hname => by
  rcases (h.mem f).1 hf with h1 | h1
  · exact h1
  · obtain ⟨r1, t1, hm1, e1, hd⟩ := h1.derives hsub
    obtain ⟨k1, k2⟩ := mem_withL.1 hm1
    obtain ⟨g1, g2⟩ := mem_withL.1 hm
    have hnm := hd.name
    have hhead : a.name ∈ headsOf p := by rw [← hname, hnm]; exact List.mem_map.2 ⟨r1, k1, rfl⟩
    have hdl : dl p a = 1 := by unfold dl; rw [if_pos ⟨hn, hhead⟩]
    have := hS.up r0 g1 a ha
    rw [hdl, ← hname, hnm] at this
    omega
/-- All that rules of the stratum make of what was known is known then. -/
theorem Stepped.all {ps : List (PRule × Int)} {n : Int} {r r' : PRun} (hy : Sync ps r.stratum r.known r.new) (h : Stepped ps n r r') {r0 : PRule} {t : Int} (hm : (r0, t) ∈ ps) (e : t = r.stratum) {x : PFact} (hd : Derives r0 r.known x) : x ∈ r'.known := by
  rcases hy r0 t hm e x hd with h1 | h1
  · exact h.sub x h1
  · exact (h.mem x).2 (.inr ⟨r0, t, hm, e, h1⟩)
theorem Stepped.sync {ps : List (PRule × Int)} {n : Int} {r r' : PRun} (hy : Sync ps r.stratum r.known r.new) (h : Stepped ps n r r') (hst : Still ps r.stratum r.known r'.known) : Sync ps r'.stratum r'.known r'.new := by
  rcases h.how with ⟨e1, e2, -, -⟩ | ⟨e1, -, -, e2⟩
  · rw [e1, e2]; exact sync_all _ _ _
  · intro r0 t hm e x hd
    rw [e1] at e
    obtain ⟨m, ⟨t1, t2, t3, t4⟩, hf⟩ := hd
    by_cases hnew : ∃ (i : Nat) (a : PAtom) (f : PFact), r0.body[i]? = some a ∧ a.neg = false ∧ fillP a m = some f ∧ f ∈ r'.new
    · obtain ⟨i, a, f, hi, hn, hfa, hfn⟩ := hnew
      refine .inr (.inl ⟨i, a, m, hi, hn, ⟨t1, t2, t3, fun j c hc => ?_⟩, hf⟩)
      obtain ⟨g, k1, k2⟩ := t4 j c hc
      refine ⟨g, k1, ?_⟩
      unfold pickP
      by_cases ej : (j : Int) = (i : Int)
      · rw [if_pos ej]
        have ej' : j = i := by omega
        subst ej'
        rw [hi] at hc; injection hc with hc; subst hc
        rw [hfa] at k1; injection k1 with k1; subst k1
        rw [hn]
        exact (memF_iff f r'.new).2 hfn
      · rw [if_neg ej]; exact k2
    · refine .inl (h.all hy hm e ⟨m, ⟨t1, t2, t3, fun j c hc => ?_⟩, hf⟩)
      obtain ⟨g, k1, k2⟩ := t4 j c hc
      refine ⟨g, k1, ?_⟩
      cases hn : c.neg
      · rw [hn] at k2
        have hg : g ∈ r'.known := (memF_iff g r'.known).1 k2
        refine (memF_iff g r.known).2 (Classical.byContradiction fun hno => ?_)
        exact hnew ⟨j, c, g, hc, hn, k1, (e2 g).2 ⟨hg, hno⟩⟩
      · rw [hn] at k2
        show memF g r.known = false
        rw [Bool.eq_false_iff]
        intro hk
        have := (memF_iff g r'.known).2 (h.sub g ((memF_iff g r.known).1 hk))
        rw [this] at k2; cases k2
/-- A stratum: by steps, or over and over. -/
theorem sim_stratum {p : List PRule} {L : Str → Nat} (hS : Sol p L) {st : List Int} (hst : p.zip st = withL L p) (hR : Ruled st p) : ∀ {k N : Nat} {r : PRun}, RunOk st p r → r.done = false → Sync (p.zip st) r.stratum r.known r.new →
    200 < k + r.known.length → r.rounds + N ≤ 1000 → 201 - r.known.length ≤ N →
    (fixP (p.zip st) r.stratum k r.known).2 = 4 ∨ (iterP st 0 p N r).2 = 4 ∨ ((fixP (p.zip st) r.stratum k r.known) = ([], 5) ∧ iterP st 0 p N r = (zeroRun, 5)) ∨
    ((fixP (p.zip st) r.stratum k r.known).2 = 0 ∧ ∃ (j : Nat) (r' : PRun), j + r.known.length ≤ r'.known.length + 1 ∧ j ≤ N ∧ iterP st 0 p N r = iterP st 0 p (N - j) r' ∧ RunOk st p r' ∧ r'.known = (fixP (p.zip st) r.stratum k r.known).1 ∧ r'.new = r'.known ∧ r'.stratum = r.stratum + 1 ∧ r'.rounds = r.rounds + j)
  | 0, N, r, h, _, _, hk, _, _ => by have := h.known.len; omega
  | k + 1, N, r, h, hd, hy, hk, hN, hN2 => by
    have hlen := h.known.len
    obtain ⟨N, rfl⟩ : ∃ M, N = M + 1 := ⟨N - 1, by omega⟩
    have hit : iterP st 0 p (N + 1) r = if (goodStep st p r).2 ≠ 0 then (zeroRun, (goodStep st p r).2) else iterP st 0 p N (goodStep st p r).1 := by
      rw [iterP, if_neg (by rw [hd]; simp), step_good_eq h]
    have hb : ∀ r s, (r, s) ∈ p.zip st → bodyBad r.body = 0 := fun r s hm => hR.body hm
    have hset : (setF r.known).1 = 0 := by rw [h.known.set]
    have hreach : ∀ x, ReachF r.stratum r.known (p.zip st) r.known x → x ∈ r.known ∨ ∃ r0 t, (r0, t) ∈ p.zip st ∧ t = r.stratum ∧ Derives r0 r.known x := fun x hx => by
      rcases hx with hx | ⟨r0, s, hm, e, hx⟩
      · exact .inl hx
      · refine .inr ⟨r0, s, hm, e, ?_⟩
        by_cases he : (headsP r0 r.known).2 = 0
        · exact (mem_heads he x).1 hx
        · rw [(heads_err he).1] at hx; simp at hx
    rw [fixP]
    rcases step_cases hR h hd with h1 | ⟨h1, h2⟩ | ⟨h1, h2, h3⟩
    · exact .inr (.inl (by rw [hit, h1]; rfl))
    · have h5 : iterP st 0 p (N + 1) r = (zeroRun, 5) := by rw [hit, h1]; rfl
      rcases once_cases hset hb (n := r.stratum) (out := r.known) with g | ⟨g, -⟩ | ⟨g, -⟩
      · exfalso
        have hRd := once_round g h.known.rise hlen
        rcases h2 with h2 | ⟨l, l1, l2, l3⟩
        · omega
        · have := rising_sub_le (a := l) (b := (onceP r.stratum r.known (p.zip st) r.known).1) l1 fun x hx => by
            rcases (l3 x).1 hx with hx | hx
            · exact (hRd.mem x).2 (.inl hx)
            · obtain ⟨r0, t, hm, e, hdv⟩ := hx.derives h.sub
              exact (hRd.mem x).2 (.inr ⟨r0, t, hm, e, (mem_heads (hRd.ok r0 t hm e) x).2 hdv⟩)
          have := hRd.len
          omega
      · exact .inl (by rw [if_pos (by rw [g]; decide), g])
      · exact .inr (.inr (.inl ⟨by rw [if_pos (by rw [g]; decide), g], h5⟩))
    · have hiN : iterP st 0 p (N + 1) r = iterP st 0 p N (goodStep st p r).1 := by rw [hit, if_neg (by simpa using h1)]
      have hok := h3.ok hR h hd h2
      generalize goodStep st p r = rs at *
      obtain ⟨r', e'⟩ := rs
      dsimp only at h1 h3 hok hiN
      rcases once_cases hset hb (n := r.stratum) (out := r.known) with g | ⟨g, -⟩ | ⟨g, g2⟩
      · have hRd := once_round g h.known.rise hlen
        have heq : (onceP r.stratum r.known (p.zip st) r.known).1 = r'.known := rising_ext hRd.rise h3.rise fun x => by
          rw [hRd.mem]
          constructor
          · intro hx
            rcases hreach x hx with hx | ⟨r0, t, hm, e, hdv⟩
            · exact h3.sub x hx
            · exact h3.all hy hm e hdv
          · intro hx
            rcases (h3.mem x).1 hx with hx | hx
            · exact .inl hx
            · obtain ⟨r0, t, hm, e, hdv⟩ := hx.derives h.sub
              exact .inr ⟨r0, t, hm, e, (mem_heads (hRd.ok r0 t hm e) x).2 hdv⟩
        rw [if_neg (by simpa using g), heq]
        rcases h3.how with ⟨a1, a2, a3, a4⟩ | ⟨a1, a2, ⟨x, hx⟩, a4⟩
        · rw [if_pos (by rw [a1])]
          refine .inr (.inr (.inr ⟨rfl, 1, r', by rw [a1]; omega, by omega, ?_, hok, a1, by rw [a1, a2], a3, h3.rounds⟩))
          rw [hiN]; rfl
        · have hlt : r.known.length + 1 ≤ r'.known.length := by
            obtain ⟨b1, b2⟩ := (a4 x).1 hx
            have := nodup_le (l := x :: r.known) (m := r'.known) (List.nodup_cons.2 ⟨b2, nodup_rising h.known.rise⟩) fun y hy => by
              rcases List.mem_cons.1 hy with rfl | hy
              · exact b1
              · exact h3.sub y hy
            simpa using this
          rw [if_neg (by omega)]
          have hst' : Still (p.zip st) r.stratum r.known r'.known := by rw [hst] at h3 ⊢; exact still_of hS h.sub h3
          have hr := h3.rounds
          have ih := sim_stratum hS hst hR (k := k) (N := N) hok a2 (h3.sync hy hst') (by omega) (by omega) (by omega)
          rw [a1] at ih
          rw [hiN]
          rcases ih with ih | ih | ih | ⟨i0, j, r2, i1, i2, i3, i4, i5, i6, i7, i8⟩
          · exact .inl ih
          · exact .inr (.inl ih)
          · exact .inr (.inr (.inl ih))
          · refine .inr (.inr (.inr ⟨i0, j + 1, r2, by omega, by omega, ?_, i4, i5, i6, i7, by omega⟩))
            rw [i3, show N + 1 - (j + 1) = N - j by omega]
      · exact .inl (by rw [if_pos (by rw [g]; decide), g])
      · exfalso
        have := g2 r'.known h3.rise fun x hx => by
          rcases hreach x hx with hx | ⟨r0, t, hm, e, hdv⟩
          · exact h3.sub x hx
          · exact h3.all hy hm e hdv
        have := h3.len
        omega
theorem sim_run {p : List PRule} {L : Str → Nat} (hS : Sol p L) {st : List Int} (hst : p.zip st = withL L p) (hR : Ruled st p) : ∀ {k N : Nat} {r : PRun}, RunOk st p r → r.new = r.known → r.stratum + k = countP st → r.rounds + N ≤ 1000 → 200 + k ≤ N + r.known.length →
    (runP (p.zip st) k r.stratum r.known).2 = 4 ∨ (iterP st 0 p N r).2 = 4 ∨ ((runP (p.zip st) k r.stratum r.known) = ([], 5) ∧ iterP st 0 p N r = (zeroRun, 5)) ∨
    ((runP (p.zip st) k r.stratum r.known).2 = 0 ∧ (iterP st 0 p N r).2 = 0 ∧ (iterP st 0 p N r).1.known = (runP (p.zip st) k r.stratum r.known).1)
  | 0, N, r, h, hn, hk, hN, hN2 => by
    have hd : r.done = true := by rw [h.done]; simp; omega
    rw [iter_still hd]
    exact .inr (.inr (.inr ⟨rfl, rfl, rfl⟩))
  | k + 1, N, r, h, hn, hk, hN, hN2 => by
    have hd : r.done = false := by rw [h.done]; simp; omega
    have hlen := h.known.len
    have hsim := sim_stratum hS hst hR (k := 201) (N := N) h hd (by rw [hn]; exact sync_all _ _ _) (by omega) hN (by omega)
    rw [runP]
    rcases hsim with g | g | ⟨g1, g2⟩ | ⟨g0, j, r', i1, i2, i3, i4, i5, i6, i7, i8⟩
    · exact .inl (by rw [if_pos (by rw [g]; decide), g])
    · exact .inr (.inl g)
    · exact .inr (.inr (.inl ⟨by rw [if_pos (by rw [g1]; decide), g1], g2⟩))
    · rw [if_neg (by simpa using g0), i3, ← i5, ← i7]
      have hlen' := i4.known.len
      exact sim_run hS hst hR (k := k) (N := N - j) i4 i6 (by omega) (by omega) (by omega)
/-- IT COMES TO THE SAME. -/
theorem round_same {p : List PRule} {l : List PFact} {st : List Int} {q : Int × Int} (hs : StrataIs p st q) : (naiveP st q.1 p l).2 = 4 ∨ (allRun st q.1 p l).2 = 4 ∨ naiveP st q.1 p l = allRun st q.1 p l := by
  by_cases h1 : q.1 = 0
  case neg =>
    refine .inr (.inr ?_)
    unfold naiveP allRun beginP
    rw [if_pos h1, if_pos h1, if_pos h1]
  by_cases h2 : (factsBad p l).1 = 0
  case neg =>
    refine .inr (.inr ?_)
    have hb : beginP st q.1 p l = (zeroRun, (factsBad p l).1) := by unfold beginP; rw [if_neg (by simpa using h1), if_pos h2]
    unfold naiveP allRun
    rw [hb, if_neg (by simpa using h1), if_pos h2, if_pos h2]
  obtain ⟨hR, c0, c1, L, hL, e⟩ := strata_count hs h1
  have hb0 : (beginP st q.1 p l).2 = 0 := by unfold beginP; rw [if_neg (by simpa using h1), if_neg (by simpa using h2)]
  obtain ⟨-, -, b1, b2⟩ := begin_ok hs hb0
  have hst : p.zip st = withL L p := by rw [e]; exact zip_withL L p
  have hn : naiveP st q.1 p l = runP (p.zip st) (countP st).toNat 0 l := by unfold naiveP; rw [if_neg (by simpa using h1), if_neg (by simpa using h2)]
  rw [b1] at b2
  have hstep := steps_good b2 (n := 1000) (by omega) (by omega)
  have ha : allRun st q.1 p l = if (iterP st 0 p 1000 ⟨l, l, 0, 0, countP st == 0⟩).2 ≠ 0 then ([], (iterP st 0 p 1000 ⟨l, l, 0, 0, countP st == 0⟩).2) else ((iterP st 0 p 1000 ⟨l, l, 0, 0, countP st == 0⟩).1.known, 0) := by
    unfold allRun
    rw [b1, if_neg (by simp), h1]
    show (if (stepsRun st 0 p ⟨l, l, 0, 0, countP st == 0⟩ 1000).2 ≠ 0 then _ else _) = _
    rw [hstep]
    rfl
  have hsim := sim_run hL.sol hst hR (k := (countP st).toNat) (N := 1000) (r := ⟨l, l, 0, 0, countP st == 0⟩) b2 rfl (by show (0 : Int) + _ = _; omega) (by show (0 : Int) + ((1000 : Nat) : Int) ≤ 1000; omega) (by show 200 + _ ≤ 1000 + l.length; omega)
  rw [hn, ha]
  generalize iterP st 0 p 1000 ⟨l, l, 0, 0, countP st == 0⟩ = I at *
  obtain ⟨I1, I2⟩ := I
  rcases hsim with g | g | ⟨g1, g2⟩ | ⟨g1, g2, g3⟩
  · exact .inl g
  · have g : I2 = 4 := g
    subst g
    exact .inr (.inl rfl)
  · refine .inr (.inr ?_)
    have e1 : runP (p.zip st) (countP st).toNat 0 l = ([], 5) := g1
    rw [e1, g2]; rfl
  · refine .inr (.inr ?_)
    have g2 : I2 = 0 := g2
    subst g2
    have g1 : (runP (p.zip st) (countP st).toNat 0 l).2 = 0 := g1
    have g3 : I1.known = (runP (p.zip st) (countP st).toNat 0 l).1 := g3
    show _ = (I1.known, (0 : Int))
    rw [g3]
    exact Prod.ext rfl g1
/-- Of rules that ask for nothing not to be so: what a run knows that is done is closed. -/
structure Toward (st : List Int) (p : List PRule) (r : PRun) : Prop where
  ok : RunOk st p r
  on : r.done = false → r.stratum = 0 ∧ Sync (p.zip st) 0 r.known r.new
  closed : r.done = true → ∀ x0 ∈ p, ∀ x, Derives x0 r.known x → x ∈ r.known
theorem all_zero {p : List PRule} (hp : Plain p) {L : Str → Nat} (hL : Least p L) : L = fun _ => 0 := hL.unique (least_plain hp)
theorem zero_zip {p : List PRule} {x : PRule} (h : x ∈ p) : (x, (0 : Int)) ∈ withL (fun _ => 0) p := mem_withL.2 ⟨h, rfl⟩
theorem Toward.iter {p : List PRule} {st : List Int} (hR : Ruled st p) (hst : p.zip st = withL (fun _ => 0) p) (hS : Sol p fun _ => 0) (hc : countP st ≤ 1) : ∀ {n : Nat} {r : PRun}, Toward st p r → (iterP st 0 p n r).2 = 0 → Toward st p (iterP st 0 p n r).1
  | 0, r, h, _ => h
  | n + 1, r, h, hz => by
    cases hd : r.done
    case true => rw [iter_still hd]; exact h
    rw [iterP, if_neg (by rw [hd]; simp), step_good_eq h.ok] at hz ⊢
    rcases step_cases hR h.ok hd with h1 | ⟨h1, -⟩ | ⟨h1, h2, h3⟩
    · rw [h1] at hz; exact absurd hz (by simp)
    · rw [h1] at hz; exact absurd hz (by simp)
    rw [if_neg (by simpa using h1)] at hz ⊢
    refine Toward.iter hR hst hS hc ⟨h3.ok hR h.ok hd h2, ?_, ?_⟩ hz
    · intro hd'
      obtain ⟨s0, hy⟩ := h.on hd
      rw [← s0] at hy
      have hstl : Still (p.zip st) r.stratum r.known (goodStep st p r).1.known := by rw [hst] at h3 ⊢; exact still_of hS h.ok.sub h3
      have hsy := h3.sync hy hstl
      rcases h3.how with ⟨a1, a2, a3, a4⟩ | ⟨a1, a2, a3, a4⟩
      · exfalso
        have hok := h3.ok hR h.ok hd h2
        have k1 := hok.done
        rw [hd'] at k1
        have k2 : (goodStep st p r).1.stratum ≠ countP st := by simpa using k1.symm
        have k3 := hok.s1
        omega
      · rw [a1, s0] at hsy ⊢; exact ⟨rfl, hsy⟩
    · intro hd' x0 hx0 x hx
      obtain ⟨s0, hy⟩ := h.on hd
      rcases h3.how with ⟨a1, a2, a3, a4⟩ | ⟨a1, a2, a3, a4⟩
      · rw [a1] at hx
        rw [← s0] at hy
        exact h3.all hy (r0 := x0) (t := 0) (by rw [hst]; exact zero_zip hx0) s0.symm hx
      · rw [a2] at hd'; cases hd'
theorem plain_count {p : List PRule} {st : List Int} (e : st = p.map fun _ => (0 : Int)) : countP st ≤ 1 ∧ (p ≠ [] → countP st = 1) ∧ (p = [] → countP st = 0) := by
  rcases count_is st with ⟨h, k⟩ | ⟨x, hx, k⟩
  · refine ⟨by omega, fun hp => ?_, fun _ => k⟩
    rw [h] at e
    exact absurd (List.map_eq_nil_iff.1 e.symm) hp
  · rw [e] at hx
    obtain ⟨y, hy, rfl⟩ := List.mem_map.1 hx
    refine ⟨by omega, fun _ => by omega, fun hp => ?_⟩
    rw [hp] at hy; simp at hy
/-- TOLD WHAT FOLLOWS, NOTHING IS NEW. -/
theorem round_told {p : List PRule} (hp : Plain p) {l : List PFact} {st : List Int} {q : Int × Int} (hs : StrataIs p st q) (h : (allRun st q.1 p l).2 = 0) :
    allRun st q.1 p (allRun st q.1 p l).1 = ((allRun st q.1 p l).1, 0) ∨ (allRun st q.1 p (allRun st q.1 p l).1).2 = 4 := by
  have hb0 : (beginP st q.1 p l).2 = 0 := by
    unfold allRun at h
    by_cases hb : (beginP st q.1 p l).2 = 0
    · exact hb
    · rw [if_pos hb] at h; exact absurd h hb
  obtain ⟨h1, h2, b1, b2⟩ := begin_ok hs hb0
  obtain ⟨hR, c0, c1, L, hL, e⟩ := strata_count hs h1
  obtain rfl := all_zero hp hL
  have hst : p.zip st = withL (fun _ => 0) p := by rw [e]; exact zip_withL (fun _ => 0) p
  obtain ⟨cc, cp, cn⟩ := plain_count (p := p) (st := st) e
  rw [b1] at b2
  have hall : ∀ k : List PFact, RunOk st p ⟨k, k, 0, 0, countP st == 0⟩ → (factsBad p k).1 = 0 → allRun st q.1 p k = if (iterP st 0 p 1000 ⟨k, k, 0, 0, countP st == 0⟩).2 ≠ 0 then ([], (iterP st 0 p 1000 ⟨k, k, 0, 0, countP st == 0⟩).2) else ((iterP st 0 p 1000 ⟨k, k, 0, 0, countP st == 0⟩).1.known, 0) := fun k hk hf => by
    have hstep := steps_good hk (n := 1000) (by omega) (by omega)
    have hbe : beginP st q.1 p k = (⟨k, k, 0, 0, countP st == 0⟩, 0) := by unfold beginP; rw [if_neg (by simpa using h1), if_neg (by simpa using hf)]
    unfold allRun
    rw [hbe, if_neg (by simp), h1]
    show (if (stepsRun st 0 p ⟨k, k, 0, 0, countP st == 0⟩ 1000).2 ≠ 0 then _ else _) = _
    rw [hstep]
    rfl
  have hend := steps_end hR c1 b2
  rw [steps_good b2 (by omega) (by omega)] at hend
  have hz : (iterP st 0 p 1000 ⟨l, l, 0, 0, countP st == 0⟩).2 = 0 := by
    rw [hall l b2 h2] at h
    by_cases hz : (iterP st 0 p 1000 ⟨l, l, 0, 0, countP st == 0⟩).2 = 0
    · exact hz
    · rw [if_pos hz] at h; exact absurd h hz
  have hM : (allRun st q.1 p l).1 = (iterP st 0 p 1000 ⟨l, l, 0, 0, countP st == 0⟩).1.known := by rw [hall l b2 h2, if_neg (by simpa using hz)]
  have hT : Toward st p (iterP st 0 p 1000 ⟨l, l, 0, 0, countP st == 0⟩).1 := by
    refine Toward.iter hR hst hL.sol cc ⟨b2, fun _ => ⟨rfl, sync_all _ _ _⟩, fun hd => ?_⟩ hz
    have hd : (countP st == 0) = true := hd
    have hc0 : countP st = 0 := by simpa using hd
    have hpn : p = [] := Classical.byContradiction fun hne => by have := cp hne; omega
    rw [hpn]; intro x0 hx0; simp at hx0
  have hdone : (iterP st 0 p 1000 ⟨l, l, 0, 0, countP st == 0⟩).1.done = true := by
    have hend' : (iterP st 0 p (1000 : Int).toNat ⟨l, l, 0, 0, countP st == 0⟩).2 = 4 ∨ (iterP st 0 p (1000 : Int).toNat ⟨l, l, 0, 0, countP st == 0⟩).2 = 5 ∨ (iterP st 0 p (1000 : Int).toNat ⟨l, l, 0, 0, countP st == 0⟩).2 = 0 ∧ _ := hend
    rw [show (1000 : Int).toNat = 1000 from rfl] at hend'
    rcases hend' with g | g | ⟨-, -, g⟩
    · rw [hz] at g; cases g
    · rw [hz] at g; cases g
    · exact g
  rw [hM]
  have hok := hT.ok
  have hcl := hT.closed hdone
  generalize (iterP st 0 p 1000 ⟨l, l, 0, 0, countP st == 0⟩).1 = R at hok hcl
  have hk2 : RunOk st p ⟨R.known, R.known, 0, 0, countP st == 0⟩ := ⟨hok.known, hok.fit, hok.known, by show (0 : Int) ≤ 0; omega, by show (0 : Int) ≤ 1000; omega, by show (0 : Int) ≤ 0; omega, c0, by show (countP st == 0) = ((0 : Int) == countP st); rw [Bool.beq_comm], fun x hx => hx⟩
  rw [hall R.known hk2 hok.fit]
  cases hd : (countP st == 0)
  case true =>
    rw [iter_still rfl, if_neg (by simp)]
    exact .inl rfl
  rw [hd] at hk2
  have hc1 : countP st = 1 := by
    have : ¬ countP st = 0 := by simpa using hd
    omega
  have hmk : ∀ x, MakesS (p.zip st) 0 R.known R.known x → x ∈ R.known := fun x hx => by
    obtain ⟨r0, t, hm, -, hdv⟩ := hx.derives fun y hy => hy
    exact hcl r0 (List.of_mem_zip hm).1 x hdv
  have hit : iterP st 0 p 1000 ⟨R.known, R.known, 0, 0, false⟩ = if (goodStep st p ⟨R.known, R.known, 0, 0, false⟩).2 ≠ 0 then (zeroRun, (goodStep st p ⟨R.known, R.known, 0, 0, false⟩).2) else iterP st 0 p 999 (goodStep st p ⟨R.known, R.known, 0, 0, false⟩).1 := by
    show iterP st 0 p (999 + 1) _ = _
    rw [iterP, if_neg (by simp), step_good_eq hk2]
  rcases step_cases hR hk2 rfl with g | ⟨g, g2 | ⟨k, g2, g3, g4⟩⟩ | ⟨g1, g2, g3⟩
  · right
    rw [hit, g]; rfl
  · exact absurd g2 (by show ¬ (0 : Int) = 1000; omega)
  · exfalso
    have := rising_sub_le (a := k) (b := R.known) g2 fun x hx => by
      rcases (g4 x).1 hx with hx | hx
      · exact hx
      · exact hmk x hx
    have := hok.known.len
    omega
  · left
    have hit2 : iterP st 0 p 1000 ⟨R.known, R.known, 0, 0, false⟩ = iterP st 0 p 999 (goodStep st p ⟨R.known, R.known, 0, 0, false⟩).1 := by rw [hit, if_neg (by simpa using g1)]
    rw [hit2]
    generalize (goodStep st p ⟨R.known, R.known, 0, 0, false⟩).1 = r' at g3
    rcases g3.how with ⟨a1, a2, a3, a4⟩ | ⟨a1, a2, ⟨x, hx⟩, a4⟩
    · have hd' : r'.done = true := by rw [a4, hc1]; rfl
      rw [iter_still hd', if_neg (by simp), a1]
    · exfalso
      obtain ⟨b1, b2⟩ := (a4 x).1 hx
      rcases (g3.mem x).1 b1 with b | b
      · exact b2 b
      · exact b2 (hmk x b)
end Go.Proofs.YtbbiapgkcekabaaGreat

/-
  PLAIN: what round.All answers is small and good.
-/
namespace Go.Proofs.YtbbiapgkcekabaaGreat

theorem all_zero2 {p : List PRule} {st : List Int} {q : Int} {l : List PFact} (h : (allRun st q p l).2 = 0) : (beginP st q p l).2 = 0 ∧ (stepsRun st q p (beginP st q p l).1 1000).2 = 0 ∧ (allRun st q p l).1 = (stepsRun st q p (beginP st q p l).1 1000).1.known := by
  unfold allRun at *
  by_cases h1 : (beginP st q p l).2 = 0
  case neg => rw [if_pos h1] at h; exact absurd h h1
  rw [if_neg (by simpa using h1)] at h ⊢
  by_cases h2 : (stepsRun st q p (beginP st q p l).1 1000).2 = 0
  case neg => rw [if_pos h2] at h; exact absurd h h2
  rw [if_neg (by simpa using h2)]
  exact ⟨h1, h2, rfl⟩
theorem all_none {p : List PRule} {st : List Int} {q : Int} {l : List PFact} (h : (allRun st q p l).2 ≠ 0) : (allRun st q p l).1 = [] := by
  unfold allRun at *
  by_cases h1 : (beginP st q p l).2 = 0
  case neg => rw [if_pos h1]
  rw [if_neg (by simpa using h1)] at h ⊢
  by_cases h2 : (stepsRun st q p (beginP st q p l).1 1000).2 = 0
  case neg => rw [if_pos h2]
  rw [if_neg (by simpa using h2)] at h
  exact absurd rfl h
theorem all_good {p : List PRule} {st : List Int} {q : Int × Int} (hs : StrataIs p st q) {l : List PFact} (h : (allRun st q.1 p l).2 = 0) : Good (allRun st q.1 p l).1 := by
  obtain ⟨h1, h2, h3⟩ := all_zero2 h
  obtain ⟨hq, -, -, hok⟩ := begin_ok hs h1
  obtain ⟨hR, -, hc, -⟩ := strata_count hs hq
  rw [h3]
  rw [hq] at h2 hok ⊢
  rcases steps_end hR hc hok with g | g | ⟨-, g, -⟩
  · rw [h2] at g; cases g
  · rw [h2] at g; cases g
  · exact g.known
theorem all_small {p : List PRule} {st : List Int} {q : Int × Int} (hs : StrataIs p st q) {l : List PFact} : (allRun st q.1 p l).1.length ≤ 1048576 ∧ ∀ x ∈ (allRun st q.1 p l).1, x.args.length ≤ 1048576 := by
  by_cases h : (allRun st q.1 p l).2 = 0
  · have hg := all_good hs h
    exact ⟨by have := hg.len; omega, fun x hx => by have := (wrongF_zero.1 (hg.fine x hx)).2.1; omega⟩
  · rw [all_none h]; exact ⟨by simp, fun x hx => by simp at hx⟩
end Go.Proofs.YtbbiapgkcekabaaGreat
