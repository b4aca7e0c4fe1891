/-
  CLAIM: FactTells: of any two lists of facts and any two facts, of bulk at most 1048576 together, the law answers true and leaves its arguments as they were.
-/
import Derived.Test.YtgdokncccldgiaaFactSets
import Derived.Test.YtgdokncccldgiaaRef1Of
import Derived.Test.YtgdokncccldgiaaRef1Set
import Derived.Test.YtgdokncccldgiaaRef1Minus
import Derived.Laws.StructEq
namespace Go.Proofs.Ytgdokncccldgiaa
open Go.RowKit Go.ChangeShapes Go.WideShapes Go.ChangeAt

set_option maxRecDepth 100000 in
theorem neqFault (x y : Int) (w : World) : (binOp .neq 26 (.agg #[.int .i64 x, .int .i64 y]) (.agg #[.int .i64 x, .int .i64 y])).run Try.prog w = .ok (.bool false) w := by
  have hp : Try.prog.stoodInHeld 26 = false := by kernel_rfl
  have hf : Try.prog.fieldsOf 26 = (match Try.prog.underlying 26 with | some (.struct fs) => fs | _ => #[]) := rfl
  rw [Try.underlying26] at hf
  have hu : Try.prog.underlying 26 = some (.struct (Try.prog.fieldsOf 26)) := by rw [hf]; exact Try.underlying26
  simp only [binOp]
  simp [Op.equal, Op.maxDepth, run_equalIn_struct w 9999 _ _ _ hu hp, hf, go_sem]

structure TellsW (w w' : World) (f g : PFact) (fv gv : Value) (vs : List (Value × List PFact)) : Prop where
  below : Below w.heap.size w w'
  size : w.heap.size + 1 < w'.heap.size
  f0 : w'.cell? ⟨w.heap.size, 0, none⟩ = some (.string f.name)
  f1 : w'.cell? ⟨w.heap.size, 1, none⟩ = some fv
  g0 : w'.cell? ⟨w.heap.size + 1, 0, none⟩ = some (.string g.name)
  g1 : w'.cell? ⟨w.heap.size + 1, 1, none⟩ = some gv
  fr : RdStrs (fun _ => True) w' fv f.args
  gr : RdStrs (fun _ => True) w' gv g.args
  rd : ∀ p ∈ vs, RdFacts (fun _ => True) w' p.1 p.2
theorem TellsW.next {w w' w'' : World} {f g : PFact} {fv gv : Value} {vs : List (Value × List PFact)} (h : TellsW w w' f g fv gv vs) (hb : Below w'.heap.size w' w'') : TellsW w w'' f g fv gv vs := by
  have hs := h.size
  exact ⟨h.below.trans (hb.mono (by omega)), Nat.lt_of_lt_of_le hs hb.size, (cell_below hb (by omega) 0).trans h.f0, (cell_below hb (by omega) 1).trans h.f1, (cell_below hb hs 0).trans h.g0, (cell_below hb hs 1).trans h.g1, h.fr.agree RStr.steady (Below.agree hb), h.gr.agree RStr.steady (Below.agree hb), fun p hp => (h.rd p hp).agree RFact.steady (Below.agree hb)⟩
theorem TellsW.drew {w w' : World} {f g : PFact} {fv gv : Value} {vs : List (Value × List PFact)} (h : TellsW w w' f g fv gv vs) : TellsW w w'.drew f g fv gv vs := h.next (Below.refl _ _).drew
theorem TellsW.add {w w' : World} {f g : PFact} {fv gv v : Value} {l : List PFact} {vs : List (Value × List PFact)} (h : TellsW w w' f g fv gv vs) (hr : RdFacts (fun _ => True) w' v l) : TellsW w w' f g fv gv ((v, l) :: vs) :=
  ⟨h.below, h.size, h.f0, h.f1, h.g0, h.g1, h.fr, h.gr, fun p hp => by
    rcases List.mem_cons.1 hp with rfl | hp
    · exact hr
    · exact h.rd p hp⟩
theorem TellsW.made {w w' w'' : World} {f g : PFact} {fv gv v : Value} {l : List PFact} {vs : List (Value × List PFact)} {B : Nat} {S : Nat → Prop} (h : TellsW w w' f g fv gv vs) (ho : Owned 2 RFact B 57 S w'' v l) (hb : Below w'.heap.size w' w'') : TellsW w w'' f g fv gv ((v, l) :: vs) :=
  (h.next hb).add ((ho.read RFact.steady).more RFact.steady (fun _ _ _ => trivial))
theorem TellsW.got {w w' w'' : World} {f g : PFact} {fv gv v : Value} {l : List PFact} {vs : List (Value × List PFact)} (h : TellsW w w' f g fv gv vs) (hr : RdFacts (fun _ => True) w'' v l) (hb : Below w'.heap.size w' w'') : TellsW w w'' f g fv gv ((v, l) :: vs) :=
  (h.next hb).add hr
theorem TellsW.start {w : World} {f g : PFact} {fv gv va vb : Value} {a b : List PFact} (ha : RdFacts (fun _ => True) w va a) (hb : RdFacts (fun _ => True) w vb b) (hf : RdStrs (fun _ => True) w fv f.args) (hg : RdStrs (fun _ => True) w gv g.args) : TellsW w ((w.alloc (.cells #[.string f.name, fv] 57)).alloc (.cells #[.string g.name, gv] 57)) f g fv gv [(va, a), (vb, b)] :=
  ⟨((Below.refl _ _).alloc (Nat.le_refl _) _).alloc (by simp) _, by simp, by simp, by simp, by simp, by simp, hf.agree RStr.steady (((Agree.refl _ _).alloc _).alloc _), hg.agree RStr.steady (((Agree.refl _ _).alloc _).alloc _), fun p hp => by
    simp only [List.mem_cons, List.not_mem_nil, or_false] at hp
    rcases hp with rfl | rfl
    · exact ha.agree RFact.steady (((Agree.refl _ _).alloc _).alloc _)
    · exact hb.agree RFact.steady (((Agree.refl _ _).alloc _).alloc _)⟩


attribute [local go_sem ↓] Go.wp_at_zero Go.wp_at_succ
set_option maxRecDepth 100000 in
set_option maxHeartbeats 8000000 in
theorem factTellsCalls (f g : PFact) (va vb fv gv : Value) (a b : List PFact) (w : World) (ha : RdFacts (fun _ => True) w va a) (hb : RdFacts (fun _ => True) w vb b) (hf : RdStrs (fun _ => True) w fv f.args) (hg : RdStrs (fun _ => True) w gv g.args)
    (n1 : a.length ≤ 1048576) (n2 : b.length ≤ 1048576) (n3 : ∀ x ∈ a, x.args.length ≤ 1073741824) (n4 : ∀ x ∈ b, x.args.length ≤ 1073741824) (n5 : ∀ x ∈ a, x.name.size ≤ 1099511627776 ∧ ∀ s ∈ x.args, s.size ≤ 1099511627776)
    (n6 : f.name.size ≤ 1048576) (n7 : f.args.length ≤ 1048576) (n8 : g.args.length ≤ 1048576) (n9 : ∀ s ∈ f.args, s.size ≤ 1099511627776) :
    Calls Try.prog 10 #[va, vb, .agg #[.string f.name, fv], .agg #[.string g.name, gv]] w fun e w' => e = .returned (.bool true) ∧ Below w.heap.size w w' := by
  have HS := Lib.hid (TellsW.start ha hb hf hg)
  have N3 := Lib.hid n3
  have N4 := Lib.hid n4
  have N5 := Lib.hid n5
  have NF := Lib.hid n9
  obtain ⟨x, HX⟩ : ∃ x, Hid (ofF a = x) := ⟨_, Lib.hid rfl⟩
  obtain ⟨y, HY⟩ : ∃ y, Hid (ofF b = y) := ⟨_, Lib.hid rfl⟩
  have lx : x.length ≤ a.length := by rw [← HX.out]; exact ofF_length a
  have ly : y.length ≤ b.length := by rw [← HY.out]; exact ofF_length b
  have RX := Lib.hid (show Rising x by rw [← HX.out]; exact ofF_rising a)
  have RY := Lib.hid (show Rising y by rw [← HY.out]; exact ofF_rising b)
  have AX := Lib.hid (fun z (hz : z ∈ x) => n3 z ((mem_ofF z a).1 (by have := HX.out; rwa [this])))
  have AY := Lib.hid (fun z (hz : z ∈ y) => n4 z ((mem_ofF z b).1 (by have := HY.out; rwa [this])))
  obtain ⟨j, HJ⟩ : ∃ j, Hid (joinF a b = j) := ⟨_, Lib.hid rfl⟩
  obtain ⟨d, HD⟩ : ∃ d, Hid (lessF x y = d) := ⟨_, Lib.hid rfl⟩
  have lj : j.length ≤ a.length + b.length := by rw [← HJ.out]; have := ofF_length (a ++ b); rw [List.length_append] at this; exact this
  have ld : d.length ≤ x.length := by rw [← HD.out]; exact List.length_filter_le _ _
  have AJ := Lib.hid (fun z (hz : z ∈ j) => (List.mem_append.1 ((mem_ofF z (a ++ b)).1 (by rw [show ofF (a ++ b) = j from HJ.out]; exact hz))).elim (N3.out z) (N4.out z))
  have AD := Lib.hid (fun z (hz : z ∈ d) => AX.out z ((mem_lessF z x y).1 (by rw [HD.out]; exact hz)).1)
  obtain ⟨nb, HN⟩ : ∃ nb, Hid (named f.name = nb) := ⟨_, Lib.hid rfl⟩
  obtain ⟨wf, HWF⟩ : ∃ wf, Hid (wrongF f = wf) := ⟨_, Lib.hid rfl⟩
  obtain ⟨se, HSE⟩ : ∃ se, Hid (setF a = se) := ⟨_, Lib.hid rfl⟩
  obtain ⟨me, HM⟩ : ∃ me, Hid (memF f x = me) := ⟨_, Lib.hid rfl⟩
  obtain ⟨c, HC⟩ : ∃ c, Hid (cmpFact f g = c) := ⟨_, Lib.hid rfl⟩
  have HP := Lib.hid (show ltF f g = decide (c < 0) by rw [← HC.out]; rfl)
  have HQ := Lib.hid (show ltF g f = decide (0 < c) by
    rw [← HC.out]
    unfold ltF
    rw [decide_eq_decide]
    exact cmpFact3.anti g f)
  have hnf := fun w => neqFault se.1 se.2 w
  clear n3 n4 n5 n9 ha hb hf hg
  rcases (show c < 0 ∨ c = 0 ∨ 0 < c by omega) with hc | hc | hc
  · have q1 : decide (c < 0) = true := by simp; omega
    have q2 : decide (0 < c) = false := by simp; omega
    rw [q1] at HP
    rw [q2] at HQ
    go_enter Try.func10, Try.ntmps10
    go_wp2_with fail
    have HI0 := Lib.hid HS.out.drew
    go_region_held3 (fun w' => w'.cell? ⟨w.heap.size, 0, none⟩ = some (.string f.name) ∧ w'.cell? ⟨w.heap.size, 1, none⟩ = some fv ∧ w'.cell? ⟨w.heap.size + 1, 0, none⟩ = some (.string g.name) ∧ w'.cell? ⟨w.heap.size + 1, 1, none⟩ = some gv)
      (first | (exact ⟨HI13.out.f0, HI13.out.f1, HI13.out.g0, HI13.out.g1⟩) | (exact ⟨HI12.out.f0, HI12.out.f1, HI12.out.g0, HI12.out.g1⟩) | (exact ⟨HI11.out.f0, HI11.out.f1, HI11.out.g0, HI11.out.g1⟩) | (exact ⟨HI10.out.f0, HI10.out.f1, HI10.out.g0, HI10.out.g1⟩) | (exact ⟨HI9.out.f0, HI9.out.f1, HI9.out.g0, HI9.out.g1⟩) | (exact ⟨HI8.out.f0, HI8.out.f1, HI8.out.g0, HI8.out.g1⟩) | (exact ⟨HI7.out.f0, HI7.out.f1, HI7.out.g0, HI7.out.g1⟩) | (exact ⟨HI6.out.f0, HI6.out.f1, HI6.out.g0, HI6.out.g1⟩) | (exact ⟨HI5.out.f0, HI5.out.f1, HI5.out.g0, HI5.out.g1⟩) | (exact ⟨HI4.out.f0, HI4.out.f1, HI4.out.g0, HI4.out.g1⟩) | (exact ⟨HI3.out.f0, HI3.out.f1, HI3.out.g0, HI3.out.g1⟩) | (exact ⟨HI2.out.f0, HI2.out.f1, HI2.out.g0, HI2.out.g1⟩) | (exact ⟨HI1.out.f0, HI1.out.f1, HI1.out.g0, HI1.out.g1⟩) | (exact ⟨HI0.out.f0, HI0.out.f1, HI0.out.g0, HI0.out.g1⟩) | go_keep)
      (first
        | (go_at_call 45; refine (sameRef v11 v12 j j _ (HI12.out.rd (v11, j) (by simp)) (HI12.out.rd (v12, j) (by simp)) (by omega) AJ.out AJ.out).mono ?_; rw [decide_eq_true (rfl : j = j)]; rintro e w13 ⟨rfl, hb⟩; have HI13 := Lib.hid (HI12.out.next hb.below); clear hb)
        | (go_at_call 50; refine (bothRef va vb a b _ (HI11.out.rd (va, a) (by simp)) (HI11.out.rd (vb, b) (by simp)) (by omega) (by omega) N3.out N4.out).mono ?_; rw [HJ.out]; rintro e w12 ⟨⟨v12, rfl, ho⟩, hb⟩; have HI12 := Lib.hid (HI11.out.got ho hb); clear ho hb)
        | (go_at_call 49; refine (joinCalls va vb a b _ (HI10.out.rd (va, a) (by simp)) (HI10.out.rd (vb, b) (by simp)) (by omega) N3.out N4.out).mono ?_; rw [HJ.out]; rintro e w11 ⟨⟨v11, rfl, ho⟩, hb⟩; have HI11 := Lib.hid (HI10.out.made ho hb); clear ho hb)
        | (go_at_call 45; refine (sameRef v8 v9 x x _ (HI9.out.rd (v8, x) (by simp)) (HI9.out.rd (v9, x) (by simp)) (by omega) AX.out AX.out).mono ?_; rw [decide_eq_true (rfl : x = x)]; rintro e w10 ⟨rfl, hb⟩; have HI10 := Lib.hid (HI9.out.next hb.below); clear hb)
        | (go_at_call 48; refine (ofRef va a _ (HI8.out.rd (va, a) (by simp)) (by omega) N3.out).mono ?_; rw [HX.out]; rintro e w9 ⟨⟨v9, rfl, ho⟩, hb⟩; have HI9 := Lib.hid (HI8.out.got ho hb); clear ho hb)
        | (go_at_call 47; refine (ofCalls va a _ (HI7.out.rd (va, a) (by simp)) (by omega) N3.out).mono ?_; rw [HX.out]; rintro e w8 ⟨⟨v8, rfl, ho⟩, hb⟩; have HI8 := Lib.hid (HI7.out.made ho hb); clear ho hb)
        | (go_at_call 45; refine (sameRef v6 va a a _ (HI6.out.rd (v6, a) (by simp)) (HI6.out.rd (va, a) (by simp)) (by omega) N3.out N3.out).mono ?_; rw [decide_eq_true (rfl : a = a)]; rintro e w7 ⟨rfl, hb⟩; have HI7 := Lib.hid (HI6.out.next hb.below); clear hb)
        | (go_at_call 46; refine (ownCalls va a _ (HI5.out.rd (va, a) (by simp)) (by omega) N3.out).mono ?_; rintro e w6 ⟨⟨v6, rfl, ho⟩, hb⟩; have HI6 := Lib.hid (HI5.out.made ho hb); clear ho hb)
        | (go_at_call 44; refine (setRef va a _ (HI4.out.rd (va, a) (by simp)) (by omega) N3.out N5.out).mono ?_; rw [HSE.out]; rintro e w5 ⟨rfl, hb⟩; have HI5 := Lib.hid (HI4.out.next hb); clear hb)
        | (go_at_call 43; refine (setCalls va a _ (HI3.out.rd (va, a) (by simp)) (by omega) N3.out).mono ?_; rw [HSE.out]; rintro e w4 ⟨rfl, hb⟩; have HI4 := Lib.hid (HI3.out.next hb); clear hb)
        | (go_at_call 42; refine (wrongRef f fv _ HI2.out.fr (by omega) (by omega) NF.out).mono ?_; rw [HWF.out]; rintro e w3 ⟨rfl, hb⟩; have HI3 := Lib.hid (HI2.out.next hb); clear hb)
        | (go_at_call 41; refine (wrongFact f fv _ HI1.out.fr (by omega)).mono ?_; rw [HWF.out]; rintro e w2 ⟨rfl, hb⟩; have HI2 := Lib.hid (HI1.out.next hb.below); clear hb)
        | (go_at_call 40; refine (namedRef _ _ (by omega)).mono ?_; rw [HN.out]; rintro e w1 ⟨rfl, hb⟩; have HI1 := Lib.hid (HI0.out.next hb); clear hb)
        | (go_at_call 39; refine (namedCalls _ _).mono ?_; rw [HN.out]; rintro e w' ⟨rfl, rfl⟩)
        )
    have f0 := HI13.out.f0
    have f1 := HI13.out.f1
    have g0 := HI13.out.g0
    have g1 := HI13.out.g1
    go_wp2_with (first
        | (go_at_call 48; refine (ofRef vb b _ (HI17.out.rd (vb, b) (by simp)) (by omega) N4.out).mono ?_; rw [HY.out]; rintro e w18 ⟨⟨v19, rfl, ho⟩, hb⟩; have HI18 := Lib.hid (HI17.out.got ho hb); clear ho hb; have f0 := HI18.out.f0; have f1 := HI18.out.f1; have g0 := HI18.out.g0; have g1 := HI18.out.g1)
        | (go_at_call 48; refine (ofRef va a _ (HI16.out.rd (va, a) (by simp)) (by omega) N3.out).mono ?_; rw [HX.out]; rintro e w17 ⟨⟨v18, rfl, ho⟩, hb⟩; have HI17 := Lib.hid (HI16.out.got ho hb); clear ho hb; have f0 := HI17.out.f0; have f1 := HI17.out.f1; have g0 := HI17.out.g0; have g1 := HI17.out.g1)
        | (go_at_call 52; refine (lessRef g f gv fv _ HI15.out.gr HI15.out.fr (by omega)).mono ?_; rw [HQ.out]; rintro e w16 ⟨rfl, hb⟩; have HI16 := Lib.hid (HI15.out.next hb.below); clear hb; have f0 := HI16.out.f0; have f1 := HI16.out.f1; have g0 := HI16.out.g0; have g1 := HI16.out.g1)
        | (go_at_call 52; refine (lessRef f g fv gv _ HI14.out.fr HI14.out.gr (by omega)).mono ?_; rw [HP.out]; rintro e w15 ⟨rfl, hb⟩; have HI15 := Lib.hid (HI14.out.next hb.below); clear hb; have f0 := HI15.out.f0; have f1 := HI15.out.f1; have g0 := HI15.out.g0; have g1 := HI15.out.g1)
        | (go_at_call 51; refine (compareFact f g fv gv _ HI13.out.fr HI13.out.gr (by omega)).mono ?_; rw [HC.out]; rintro e w14 ⟨rfl, hb⟩; have HI14 := Lib.hid (HI13.out.next hb.below); clear hb; have f0 := HI14.out.f0; have f1 := HI14.out.f1; have g0 := HI14.out.g0; have g1 := HI14.out.g1)
        )
    go_region_held3 (fun w' => w'.cell? ⟨w.heap.size, 0, none⟩ = some (.string f.name) ∧ w'.cell? ⟨w.heap.size, 1, none⟩ = some fv ∧ w'.cell? ⟨w.heap.size + 1, 0, none⟩ = some (.string g.name) ∧ w'.cell? ⟨w.heap.size + 1, 1, none⟩ = some gv)
      (first | (exact ⟨HI23.out.f0, HI23.out.f1, HI23.out.g0, HI23.out.g1⟩) | (exact ⟨HI22.out.f0, HI22.out.f1, HI22.out.g0, HI22.out.g1⟩) | (exact ⟨HI21.out.f0, HI21.out.f1, HI21.out.g0, HI21.out.g1⟩) | (exact ⟨HI20.out.f0, HI20.out.f1, HI20.out.g0, HI20.out.g1⟩) | (exact ⟨HI19.out.f0, HI19.out.f1, HI19.out.g0, HI19.out.g1⟩) | (exact ⟨HI18.out.f0, HI18.out.f1, HI18.out.g0, HI18.out.g1⟩) | (exact ⟨HI18.out.drew.f0, HI18.out.drew.f1, HI18.out.drew.g0, HI18.out.drew.g1⟩) | go_keep)
      (first
        | (go_at_call 45; refine (sameRef v22 v23 d d _ (HI22.out.rd (v22, d) (by simp)) (HI22.out.rd (v23, d) (by simp)) (by omega) AD.out AD.out).mono ?_; rw [decide_eq_true (rfl : d = d)]; rintro e w23 ⟨rfl, hb⟩; have HI23 := Lib.hid (HI22.out.next hb.below); clear hb)
        | (go_at_call 56; refine (minusRef v18 v19 x y _ (HI21.out.rd (v18, x) (by simp)) (HI21.out.rd (v19, y) (by simp)) (by omega) AX.out (by omega) AY.out).mono ?_; rw [HD.out]; rintro e w22 ⟨⟨v23, rfl, ho⟩, hb⟩; have HI22 := Lib.hid (HI21.out.made ho hb); clear ho hb)
        | (go_at_call 55; refine (lessCalls v18 v19 x y _ (HI20.out.rd (v18, x) (by simp)) (HI20.out.rd (v19, y) (by simp)) RY.out (by omega) AX.out (by omega) AY.out).mono ?_; rw [HD.out]; rintro e w21 ⟨⟨v22, rfl, ho⟩, hb⟩; have HI21 := Lib.hid (HI20.out.made ho hb); clear ho hb)
        | (go_at_call 54; refine (inRef v18 x f fv _ (HI19.out.rd (v18, x) (by simp)) HI19.out.fr (by omega) AX.out (by omega)).mono ?_; rw [HM.out]; rintro e w20 ⟨rfl, hb⟩; have HI20 := Lib.hid (HI19.out.next hb.below); clear hb)
        | (go_at_call 53; refine (inFact v18 x f fv _ (HI18.out.drew.rd (v18, x) (by simp)) HI18.out.drew.fr RX.out (by omega) AX.out).mono ?_; rw [HM.out]; rintro e w19 ⟨rfl, hb⟩; have HI19 := Lib.hid (HI18.out.drew.next hb.below); clear hb)
        )
    go_wp2
    go_ret
    exact ⟨rfl, HI23.out.below⟩
  · have q1 : decide (c < 0) = false := by simp; omega
    have q2 : decide (0 < c) = false := by simp; omega
    rw [q1] at HP
    rw [q2] at HQ
    go_enter Try.func10, Try.ntmps10
    go_wp2_with fail
    have HI0 := Lib.hid HS.out.drew
    go_region_held3 (fun w' => w'.cell? ⟨w.heap.size, 0, none⟩ = some (.string f.name) ∧ w'.cell? ⟨w.heap.size, 1, none⟩ = some fv ∧ w'.cell? ⟨w.heap.size + 1, 0, none⟩ = some (.string g.name) ∧ w'.cell? ⟨w.heap.size + 1, 1, none⟩ = some gv)
      (first | (exact ⟨HI13.out.f0, HI13.out.f1, HI13.out.g0, HI13.out.g1⟩) | (exact ⟨HI12.out.f0, HI12.out.f1, HI12.out.g0, HI12.out.g1⟩) | (exact ⟨HI11.out.f0, HI11.out.f1, HI11.out.g0, HI11.out.g1⟩) | (exact ⟨HI10.out.f0, HI10.out.f1, HI10.out.g0, HI10.out.g1⟩) | (exact ⟨HI9.out.f0, HI9.out.f1, HI9.out.g0, HI9.out.g1⟩) | (exact ⟨HI8.out.f0, HI8.out.f1, HI8.out.g0, HI8.out.g1⟩) | (exact ⟨HI7.out.f0, HI7.out.f1, HI7.out.g0, HI7.out.g1⟩) | (exact ⟨HI6.out.f0, HI6.out.f1, HI6.out.g0, HI6.out.g1⟩) | (exact ⟨HI5.out.f0, HI5.out.f1, HI5.out.g0, HI5.out.g1⟩) | (exact ⟨HI4.out.f0, HI4.out.f1, HI4.out.g0, HI4.out.g1⟩) | (exact ⟨HI3.out.f0, HI3.out.f1, HI3.out.g0, HI3.out.g1⟩) | (exact ⟨HI2.out.f0, HI2.out.f1, HI2.out.g0, HI2.out.g1⟩) | (exact ⟨HI1.out.f0, HI1.out.f1, HI1.out.g0, HI1.out.g1⟩) | (exact ⟨HI0.out.f0, HI0.out.f1, HI0.out.g0, HI0.out.g1⟩) | go_keep)
      (first
        | (go_at_call 45; refine (sameRef v11 v12 j j _ (HI12.out.rd (v11, j) (by simp)) (HI12.out.rd (v12, j) (by simp)) (by omega) AJ.out AJ.out).mono ?_; rw [decide_eq_true (rfl : j = j)]; rintro e w13 ⟨rfl, hb⟩; have HI13 := Lib.hid (HI12.out.next hb.below); clear hb)
        | (go_at_call 50; refine (bothRef va vb a b _ (HI11.out.rd (va, a) (by simp)) (HI11.out.rd (vb, b) (by simp)) (by omega) (by omega) N3.out N4.out).mono ?_; rw [HJ.out]; rintro e w12 ⟨⟨v12, rfl, ho⟩, hb⟩; have HI12 := Lib.hid (HI11.out.got ho hb); clear ho hb)
        | (go_at_call 49; refine (joinCalls va vb a b _ (HI10.out.rd (va, a) (by simp)) (HI10.out.rd (vb, b) (by simp)) (by omega) N3.out N4.out).mono ?_; rw [HJ.out]; rintro e w11 ⟨⟨v11, rfl, ho⟩, hb⟩; have HI11 := Lib.hid (HI10.out.made ho hb); clear ho hb)
        | (go_at_call 45; refine (sameRef v8 v9 x x _ (HI9.out.rd (v8, x) (by simp)) (HI9.out.rd (v9, x) (by simp)) (by omega) AX.out AX.out).mono ?_; rw [decide_eq_true (rfl : x = x)]; rintro e w10 ⟨rfl, hb⟩; have HI10 := Lib.hid (HI9.out.next hb.below); clear hb)
        | (go_at_call 48; refine (ofRef va a _ (HI8.out.rd (va, a) (by simp)) (by omega) N3.out).mono ?_; rw [HX.out]; rintro e w9 ⟨⟨v9, rfl, ho⟩, hb⟩; have HI9 := Lib.hid (HI8.out.got ho hb); clear ho hb)
        | (go_at_call 47; refine (ofCalls va a _ (HI7.out.rd (va, a) (by simp)) (by omega) N3.out).mono ?_; rw [HX.out]; rintro e w8 ⟨⟨v8, rfl, ho⟩, hb⟩; have HI8 := Lib.hid (HI7.out.made ho hb); clear ho hb)
        | (go_at_call 45; refine (sameRef v6 va a a _ (HI6.out.rd (v6, a) (by simp)) (HI6.out.rd (va, a) (by simp)) (by omega) N3.out N3.out).mono ?_; rw [decide_eq_true (rfl : a = a)]; rintro e w7 ⟨rfl, hb⟩; have HI7 := Lib.hid (HI6.out.next hb.below); clear hb)
        | (go_at_call 46; refine (ownCalls va a _ (HI5.out.rd (va, a) (by simp)) (by omega) N3.out).mono ?_; rintro e w6 ⟨⟨v6, rfl, ho⟩, hb⟩; have HI6 := Lib.hid (HI5.out.made ho hb); clear ho hb)
        | (go_at_call 44; refine (setRef va a _ (HI4.out.rd (va, a) (by simp)) (by omega) N3.out N5.out).mono ?_; rw [HSE.out]; rintro e w5 ⟨rfl, hb⟩; have HI5 := Lib.hid (HI4.out.next hb); clear hb)
        | (go_at_call 43; refine (setCalls va a _ (HI3.out.rd (va, a) (by simp)) (by omega) N3.out).mono ?_; rw [HSE.out]; rintro e w4 ⟨rfl, hb⟩; have HI4 := Lib.hid (HI3.out.next hb); clear hb)
        | (go_at_call 42; refine (wrongRef f fv _ HI2.out.fr (by omega) (by omega) NF.out).mono ?_; rw [HWF.out]; rintro e w3 ⟨rfl, hb⟩; have HI3 := Lib.hid (HI2.out.next hb); clear hb)
        | (go_at_call 41; refine (wrongFact f fv _ HI1.out.fr (by omega)).mono ?_; rw [HWF.out]; rintro e w2 ⟨rfl, hb⟩; have HI2 := Lib.hid (HI1.out.next hb.below); clear hb)
        | (go_at_call 40; refine (namedRef _ _ (by omega)).mono ?_; rw [HN.out]; rintro e w1 ⟨rfl, hb⟩; have HI1 := Lib.hid (HI0.out.next hb); clear hb)
        | (go_at_call 39; refine (namedCalls _ _).mono ?_; rw [HN.out]; rintro e w' ⟨rfl, rfl⟩)
        )
    have f0 := HI13.out.f0
    have f1 := HI13.out.f1
    have g0 := HI13.out.g0
    have g1 := HI13.out.g1
    go_wp2_with (first
        | (go_at_call 48; refine (ofRef vb b _ (HI17.out.rd (vb, b) (by simp)) (by omega) N4.out).mono ?_; rw [HY.out]; rintro e w18 ⟨⟨v19, rfl, ho⟩, hb⟩; have HI18 := Lib.hid (HI17.out.got ho hb); clear ho hb; have f0 := HI18.out.f0; have f1 := HI18.out.f1; have g0 := HI18.out.g0; have g1 := HI18.out.g1)
        | (go_at_call 48; refine (ofRef va a _ (HI16.out.rd (va, a) (by simp)) (by omega) N3.out).mono ?_; rw [HX.out]; rintro e w17 ⟨⟨v18, rfl, ho⟩, hb⟩; have HI17 := Lib.hid (HI16.out.got ho hb); clear ho hb; have f0 := HI17.out.f0; have f1 := HI17.out.f1; have g0 := HI17.out.g0; have g1 := HI17.out.g1)
        | (go_at_call 52; refine (lessRef g f gv fv _ HI15.out.gr HI15.out.fr (by omega)).mono ?_; rw [HQ.out]; rintro e w16 ⟨rfl, hb⟩; have HI16 := Lib.hid (HI15.out.next hb.below); clear hb; have f0 := HI16.out.f0; have f1 := HI16.out.f1; have g0 := HI16.out.g0; have g1 := HI16.out.g1)
        | (go_at_call 52; refine (lessRef f g fv gv _ HI14.out.fr HI14.out.gr (by omega)).mono ?_; rw [HP.out]; rintro e w15 ⟨rfl, hb⟩; have HI15 := Lib.hid (HI14.out.next hb.below); clear hb; have f0 := HI15.out.f0; have f1 := HI15.out.f1; have g0 := HI15.out.g0; have g1 := HI15.out.g1)
        | (go_at_call 51; refine (compareFact f g fv gv _ HI13.out.fr HI13.out.gr (by omega)).mono ?_; rw [HC.out]; rintro e w14 ⟨rfl, hb⟩; have HI14 := Lib.hid (HI13.out.next hb.below); clear hb; have f0 := HI14.out.f0; have f1 := HI14.out.f1; have g0 := HI14.out.g0; have g1 := HI14.out.g1)
        )
    go_region_held3 (fun w' => w'.cell? ⟨w.heap.size, 0, none⟩ = some (.string f.name) ∧ w'.cell? ⟨w.heap.size, 1, none⟩ = some fv ∧ w'.cell? ⟨w.heap.size + 1, 0, none⟩ = some (.string g.name) ∧ w'.cell? ⟨w.heap.size + 1, 1, none⟩ = some gv)
      (first | (exact ⟨HI23.out.f0, HI23.out.f1, HI23.out.g0, HI23.out.g1⟩) | (exact ⟨HI22.out.f0, HI22.out.f1, HI22.out.g0, HI22.out.g1⟩) | (exact ⟨HI21.out.f0, HI21.out.f1, HI21.out.g0, HI21.out.g1⟩) | (exact ⟨HI20.out.f0, HI20.out.f1, HI20.out.g0, HI20.out.g1⟩) | (exact ⟨HI19.out.f0, HI19.out.f1, HI19.out.g0, HI19.out.g1⟩) | (exact ⟨HI18.out.f0, HI18.out.f1, HI18.out.g0, HI18.out.g1⟩) | (exact ⟨HI18.out.drew.f0, HI18.out.drew.f1, HI18.out.drew.g0, HI18.out.drew.g1⟩) | go_keep)
      (first
        | (go_at_call 45; refine (sameRef v22 v23 d d _ (HI22.out.rd (v22, d) (by simp)) (HI22.out.rd (v23, d) (by simp)) (by omega) AD.out AD.out).mono ?_; rw [decide_eq_true (rfl : d = d)]; rintro e w23 ⟨rfl, hb⟩; have HI23 := Lib.hid (HI22.out.next hb.below); clear hb)
        | (go_at_call 56; refine (minusRef v18 v19 x y _ (HI21.out.rd (v18, x) (by simp)) (HI21.out.rd (v19, y) (by simp)) (by omega) AX.out (by omega) AY.out).mono ?_; rw [HD.out]; rintro e w22 ⟨⟨v23, rfl, ho⟩, hb⟩; have HI22 := Lib.hid (HI21.out.made ho hb); clear ho hb)
        | (go_at_call 55; refine (lessCalls v18 v19 x y _ (HI20.out.rd (v18, x) (by simp)) (HI20.out.rd (v19, y) (by simp)) RY.out (by omega) AX.out (by omega) AY.out).mono ?_; rw [HD.out]; rintro e w21 ⟨⟨v22, rfl, ho⟩, hb⟩; have HI21 := Lib.hid (HI20.out.made ho hb); clear ho hb)
        | (go_at_call 54; refine (inRef v18 x f fv _ (HI19.out.rd (v18, x) (by simp)) HI19.out.fr (by omega) AX.out (by omega)).mono ?_; rw [HM.out]; rintro e w20 ⟨rfl, hb⟩; have HI20 := Lib.hid (HI19.out.next hb.below); clear hb)
        | (go_at_call 53; refine (inFact v18 x f fv _ (HI18.out.drew.rd (v18, x) (by simp)) HI18.out.drew.fr RX.out (by omega) AX.out).mono ?_; rw [HM.out]; rintro e w19 ⟨rfl, hb⟩; have HI19 := Lib.hid (HI18.out.drew.next hb.below); clear hb)
        )
    go_wp2
    go_ret
    exact ⟨rfl, HI23.out.below⟩
  · have q1 : decide (c < 0) = false := by simp; omega
    have q2 : decide (0 < c) = true := by simp; omega
    rw [q1] at HP
    rw [q2] at HQ
    go_enter Try.func10, Try.ntmps10
    go_wp2_with fail
    have HI0 := Lib.hid HS.out.drew
    go_region_held3 (fun w' => w'.cell? ⟨w.heap.size, 0, none⟩ = some (.string f.name) ∧ w'.cell? ⟨w.heap.size, 1, none⟩ = some fv ∧ w'.cell? ⟨w.heap.size + 1, 0, none⟩ = some (.string g.name) ∧ w'.cell? ⟨w.heap.size + 1, 1, none⟩ = some gv)
      (first | (exact ⟨HI13.out.f0, HI13.out.f1, HI13.out.g0, HI13.out.g1⟩) | (exact ⟨HI12.out.f0, HI12.out.f1, HI12.out.g0, HI12.out.g1⟩) | (exact ⟨HI11.out.f0, HI11.out.f1, HI11.out.g0, HI11.out.g1⟩) | (exact ⟨HI10.out.f0, HI10.out.f1, HI10.out.g0, HI10.out.g1⟩) | (exact ⟨HI9.out.f0, HI9.out.f1, HI9.out.g0, HI9.out.g1⟩) | (exact ⟨HI8.out.f0, HI8.out.f1, HI8.out.g0, HI8.out.g1⟩) | (exact ⟨HI7.out.f0, HI7.out.f1, HI7.out.g0, HI7.out.g1⟩) | (exact ⟨HI6.out.f0, HI6.out.f1, HI6.out.g0, HI6.out.g1⟩) | (exact ⟨HI5.out.f0, HI5.out.f1, HI5.out.g0, HI5.out.g1⟩) | (exact ⟨HI4.out.f0, HI4.out.f1, HI4.out.g0, HI4.out.g1⟩) | (exact ⟨HI3.out.f0, HI3.out.f1, HI3.out.g0, HI3.out.g1⟩) | (exact ⟨HI2.out.f0, HI2.out.f1, HI2.out.g0, HI2.out.g1⟩) | (exact ⟨HI1.out.f0, HI1.out.f1, HI1.out.g0, HI1.out.g1⟩) | (exact ⟨HI0.out.f0, HI0.out.f1, HI0.out.g0, HI0.out.g1⟩) | go_keep)
      (first
        | (go_at_call 45; refine (sameRef v11 v12 j j _ (HI12.out.rd (v11, j) (by simp)) (HI12.out.rd (v12, j) (by simp)) (by omega) AJ.out AJ.out).mono ?_; rw [decide_eq_true (rfl : j = j)]; rintro e w13 ⟨rfl, hb⟩; have HI13 := Lib.hid (HI12.out.next hb.below); clear hb)
        | (go_at_call 50; refine (bothRef va vb a b _ (HI11.out.rd (va, a) (by simp)) (HI11.out.rd (vb, b) (by simp)) (by omega) (by omega) N3.out N4.out).mono ?_; rw [HJ.out]; rintro e w12 ⟨⟨v12, rfl, ho⟩, hb⟩; have HI12 := Lib.hid (HI11.out.got ho hb); clear ho hb)
        | (go_at_call 49; refine (joinCalls va vb a b _ (HI10.out.rd (va, a) (by simp)) (HI10.out.rd (vb, b) (by simp)) (by omega) N3.out N4.out).mono ?_; rw [HJ.out]; rintro e w11 ⟨⟨v11, rfl, ho⟩, hb⟩; have HI11 := Lib.hid (HI10.out.made ho hb); clear ho hb)
        | (go_at_call 45; refine (sameRef v8 v9 x x _ (HI9.out.rd (v8, x) (by simp)) (HI9.out.rd (v9, x) (by simp)) (by omega) AX.out AX.out).mono ?_; rw [decide_eq_true (rfl : x = x)]; rintro e w10 ⟨rfl, hb⟩; have HI10 := Lib.hid (HI9.out.next hb.below); clear hb)
        | (go_at_call 48; refine (ofRef va a _ (HI8.out.rd (va, a) (by simp)) (by omega) N3.out).mono ?_; rw [HX.out]; rintro e w9 ⟨⟨v9, rfl, ho⟩, hb⟩; have HI9 := Lib.hid (HI8.out.got ho hb); clear ho hb)
        | (go_at_call 47; refine (ofCalls va a _ (HI7.out.rd (va, a) (by simp)) (by omega) N3.out).mono ?_; rw [HX.out]; rintro e w8 ⟨⟨v8, rfl, ho⟩, hb⟩; have HI8 := Lib.hid (HI7.out.made ho hb); clear ho hb)
        | (go_at_call 45; refine (sameRef v6 va a a _ (HI6.out.rd (v6, a) (by simp)) (HI6.out.rd (va, a) (by simp)) (by omega) N3.out N3.out).mono ?_; rw [decide_eq_true (rfl : a = a)]; rintro e w7 ⟨rfl, hb⟩; have HI7 := Lib.hid (HI6.out.next hb.below); clear hb)
        | (go_at_call 46; refine (ownCalls va a _ (HI5.out.rd (va, a) (by simp)) (by omega) N3.out).mono ?_; rintro e w6 ⟨⟨v6, rfl, ho⟩, hb⟩; have HI6 := Lib.hid (HI5.out.made ho hb); clear ho hb)
        | (go_at_call 44; refine (setRef va a _ (HI4.out.rd (va, a) (by simp)) (by omega) N3.out N5.out).mono ?_; rw [HSE.out]; rintro e w5 ⟨rfl, hb⟩; have HI5 := Lib.hid (HI4.out.next hb); clear hb)
        | (go_at_call 43; refine (setCalls va a _ (HI3.out.rd (va, a) (by simp)) (by omega) N3.out).mono ?_; rw [HSE.out]; rintro e w4 ⟨rfl, hb⟩; have HI4 := Lib.hid (HI3.out.next hb); clear hb)
        | (go_at_call 42; refine (wrongRef f fv _ HI2.out.fr (by omega) (by omega) NF.out).mono ?_; rw [HWF.out]; rintro e w3 ⟨rfl, hb⟩; have HI3 := Lib.hid (HI2.out.next hb); clear hb)
        | (go_at_call 41; refine (wrongFact f fv _ HI1.out.fr (by omega)).mono ?_; rw [HWF.out]; rintro e w2 ⟨rfl, hb⟩; have HI2 := Lib.hid (HI1.out.next hb.below); clear hb)
        | (go_at_call 40; refine (namedRef _ _ (by omega)).mono ?_; rw [HN.out]; rintro e w1 ⟨rfl, hb⟩; have HI1 := Lib.hid (HI0.out.next hb); clear hb)
        | (go_at_call 39; refine (namedCalls _ _).mono ?_; rw [HN.out]; rintro e w' ⟨rfl, rfl⟩)
        )
    have f0 := HI13.out.f0
    have f1 := HI13.out.f1
    have g0 := HI13.out.g0
    have g1 := HI13.out.g1
    go_wp2_with (first
        | (go_at_call 48; refine (ofRef vb b _ (HI17.out.rd (vb, b) (by simp)) (by omega) N4.out).mono ?_; rw [HY.out]; rintro e w18 ⟨⟨v19, rfl, ho⟩, hb⟩; have HI18 := Lib.hid (HI17.out.got ho hb); clear ho hb; have f0 := HI18.out.f0; have f1 := HI18.out.f1; have g0 := HI18.out.g0; have g1 := HI18.out.g1)
        | (go_at_call 48; refine (ofRef va a _ (HI16.out.rd (va, a) (by simp)) (by omega) N3.out).mono ?_; rw [HX.out]; rintro e w17 ⟨⟨v18, rfl, ho⟩, hb⟩; have HI17 := Lib.hid (HI16.out.got ho hb); clear ho hb; have f0 := HI17.out.f0; have f1 := HI17.out.f1; have g0 := HI17.out.g0; have g1 := HI17.out.g1)
        | (go_at_call 52; refine (lessRef g f gv fv _ HI15.out.gr HI15.out.fr (by omega)).mono ?_; rw [HQ.out]; rintro e w16 ⟨rfl, hb⟩; have HI16 := Lib.hid (HI15.out.next hb.below); clear hb; have f0 := HI16.out.f0; have f1 := HI16.out.f1; have g0 := HI16.out.g0; have g1 := HI16.out.g1)
        | (go_at_call 52; refine (lessRef f g fv gv _ HI14.out.fr HI14.out.gr (by omega)).mono ?_; rw [HP.out]; rintro e w15 ⟨rfl, hb⟩; have HI15 := Lib.hid (HI14.out.next hb.below); clear hb; have f0 := HI15.out.f0; have f1 := HI15.out.f1; have g0 := HI15.out.g0; have g1 := HI15.out.g1)
        | (go_at_call 51; refine (compareFact f g fv gv _ HI13.out.fr HI13.out.gr (by omega)).mono ?_; rw [HC.out]; rintro e w14 ⟨rfl, hb⟩; have HI14 := Lib.hid (HI13.out.next hb.below); clear hb; have f0 := HI14.out.f0; have f1 := HI14.out.f1; have g0 := HI14.out.g0; have g1 := HI14.out.g1)
        )
    go_region_held3 (fun w' => w'.cell? ⟨w.heap.size, 0, none⟩ = some (.string f.name) ∧ w'.cell? ⟨w.heap.size, 1, none⟩ = some fv ∧ w'.cell? ⟨w.heap.size + 1, 0, none⟩ = some (.string g.name) ∧ w'.cell? ⟨w.heap.size + 1, 1, none⟩ = some gv)
      (first | (exact ⟨HI23.out.f0, HI23.out.f1, HI23.out.g0, HI23.out.g1⟩) | (exact ⟨HI22.out.f0, HI22.out.f1, HI22.out.g0, HI22.out.g1⟩) | (exact ⟨HI21.out.f0, HI21.out.f1, HI21.out.g0, HI21.out.g1⟩) | (exact ⟨HI20.out.f0, HI20.out.f1, HI20.out.g0, HI20.out.g1⟩) | (exact ⟨HI19.out.f0, HI19.out.f1, HI19.out.g0, HI19.out.g1⟩) | (exact ⟨HI18.out.f0, HI18.out.f1, HI18.out.g0, HI18.out.g1⟩) | (exact ⟨HI18.out.drew.f0, HI18.out.drew.f1, HI18.out.drew.g0, HI18.out.drew.g1⟩) | go_keep)
      (first
        | (go_at_call 45; refine (sameRef v22 v23 d d _ (HI22.out.rd (v22, d) (by simp)) (HI22.out.rd (v23, d) (by simp)) (by omega) AD.out AD.out).mono ?_; rw [decide_eq_true (rfl : d = d)]; rintro e w23 ⟨rfl, hb⟩; have HI23 := Lib.hid (HI22.out.next hb.below); clear hb)
        | (go_at_call 56; refine (minusRef v18 v19 x y _ (HI21.out.rd (v18, x) (by simp)) (HI21.out.rd (v19, y) (by simp)) (by omega) AX.out (by omega) AY.out).mono ?_; rw [HD.out]; rintro e w22 ⟨⟨v23, rfl, ho⟩, hb⟩; have HI22 := Lib.hid (HI21.out.made ho hb); clear ho hb)
        | (go_at_call 55; refine (lessCalls v18 v19 x y _ (HI20.out.rd (v18, x) (by simp)) (HI20.out.rd (v19, y) (by simp)) RY.out (by omega) AX.out (by omega) AY.out).mono ?_; rw [HD.out]; rintro e w21 ⟨⟨v22, rfl, ho⟩, hb⟩; have HI21 := Lib.hid (HI20.out.made ho hb); clear ho hb)
        | (go_at_call 54; refine (inRef v18 x f fv _ (HI19.out.rd (v18, x) (by simp)) HI19.out.fr (by omega) AX.out (by omega)).mono ?_; rw [HM.out]; rintro e w20 ⟨rfl, hb⟩; have HI20 := Lib.hid (HI19.out.next hb.below); clear hb)
        | (go_at_call 53; refine (inFact v18 x f fv _ (HI18.out.drew.rd (v18, x) (by simp)) HI18.out.drew.fr RX.out (by omega) AX.out).mono ?_; rw [HM.out]; rintro e w19 ⟨rfl, hb⟩; have HI19 := Lib.hid (HI18.out.drew.next hb.below); clear hb)
        )
    go_wp2
    go_ret
    exact ⟨rfl, HI23.out.below⟩
namespace factTells
theorem own : ownKnob Try.prog.godebug = none := by kernel_rfl

set_option maxRecDepth 100000 in
theorem contract (H : Type) (enc : TypeId × Value → H) (W : World) (base : Nat) (args : Array Value) (ds gs : List (DataW H)) (before : List MemPlace)
    (hval : ∀ (j : Nat) t v, Try.f10.params[j]? = some t → args[j]? = some v → Value.okWide Try.prog W .any base t v)
    (hW : DataW.Whole enc Try.prog Try.f10.params.toList Rows.factTellsSpec.vars false W args.toList ds gs before) (hk : Rows.uptoSmall H (ds ++ gs) = true) :
    Calls Try.prog 10 args W fun e W' => ∃ v, e = .returned v ∧ Rows.factTellsSpec.post enc Try.prog Try.f10 false true false false W args v W' := by
  have hW' := hW
  obtain ⟨p, q, hA0, hV, rfl, hfz, hnd⟩ := hW
  have hA : DataW.TrodAll enc Try.prog W 0 (fun _ => true) true Try.f10.params.toList args.toList ds p := hA0
  rw [Try.params10] at hA hval
  obtain ⟨v0, v1, v2, v3, d0, d1, d2, d3, p0, p1, p2, p3, rfl, rfl, rfl, h0, h1, h2, h3⟩ := trodAll_four hA
  obtain ⟨rfl, rfl⟩ := trodVars_none hV
  obtain ⟨x0, r0, s0⟩ := openFact.sliceArg Try.underlying55 (hval 0 55 v0 rfl rfl) h0
  obtain ⟨x1, r1, s1⟩ := openFact.sliceArg Try.underlying55 (hval 1 55 v1 rfl rfl) h1
  obtain ⟨x2, a2, rfl, r2, s2⟩ := openFact.factArg Try.underlying57 (hval 2 57 v2 rfl rfl) h2
  obtain ⟨x3, a3, rfl, r3, s3⟩ := openFact.factArg Try.underlying57 (hval 3 57 v3 rfl rfl) h3
  rw [List.append_nil] at hk
  have hb : Rows.uptoBulkAll [d0, d1, d2, d3] ≤ 1048576 := of_decide_eq_true hk
  simp only [Rows.uptoBulkAll] at hb
  have l0 := sizeL_le openFact.one x0
  have m0 : ∀ z ∈ x0, z.args.length ≤ 1048576 := fun z hz => by have h1 := sizeL_mem (size := sizeFact) hz; have h2 := sizeL_le openStr.one z.args; simp only [sizeFact] at h1; omega
  have k0 : ∀ z ∈ x0, z.name.size ≤ 1048576 ∧ ∀ s ∈ z.args, s.size ≤ 1048576 := fun z hz => by
    have h1 := sizeL_mem (size := sizeFact) hz
    simp only [sizeFact, sizeStr] at h1
    refine ⟨by omega, fun s hs => ?_⟩
    have h2 := sizeL_mem (size := sizeStr) hs
    simp only [sizeStr] at h2
    have h3 : sizeL sizeStr z.args = sizeL (fun s => s.size + 1) z.args := rfl
    omega
  have l1 := sizeL_le openFact.one x1
  have m1 : ∀ z ∈ x1, z.args.length ≤ 1048576 := fun z hz => by have h1 := sizeL_mem (size := sizeFact) hz; have h2 := sizeL_le openStr.one z.args; simp only [sizeFact] at h1; omega
  have l2 := sizeL_le openStr.one x2.args
  simp only [sizeFact, sizeStr] at s2
  have l3 := sizeL_le openStr.one x3.args
  simp only [sizeFact, sizeStr] at s3
  refine (factTellsCalls x2 x3 v0 v1 a2 a3 x0 x1 W r0 r1 r2 r3 (by omega) (by omega) (fun z hz => by have := m0 z hz; omega) (fun z hz => by have := m1 z hz; omega) (fun z hz => ⟨by have := k0 z hz; omega, fun s hs => by have := (k0 z hz).2 s hs; omega⟩) (by omega) (by omega) (by omega) (fun s hs => by have h1 := sizeL_mem (size := sizeStr) hs; simp only [sizeStr] at h1; omega)).mono fun e W' ⟨he, hb'⟩ => ?_
  subst he
  exact ⟨_, rfl, law_post (tb := 4) hW' rfl rfl (by kernel_rfl) Try.underlying4 (by kernel_rfl) (by kernel_rfl) hb'⟩

set_option maxRecDepth 100000 in
theorem lifted (os : Os) (started : os.Started) (H : Type) (enc : TypeId × Value → H) (F : Stop.Interp) :
    ReturnsInHanded {} Try.checked os 10 .any ((Rows.OpenSpec.upto Rows.factTellsSpec).pre6 enc Try.prog Try.f10 Rows.factTellsUptoRow.domain false) (((Rows.OpenSpec.upto Rows.factTellsSpec).at F).post enc Try.prog Try.f10 false true false false) := by
  refine returnsInHanded_of_cond (C := Try.checked) (s := Rows.OpenSpec.upto Rows.factTellsSpec) (k := Rows.uptoSmall) rfl own started (by kernel_rfl) Try.func10
    (OpenSpec.witness (enc := enc) (C := Try.checked) (s := Rows.OpenSpec.upto Rows.factTellsSpec) (k := Rows.uptoSmall) rfl false ⟨#[], #[.slice none 0 0, .slice none 0 0, .agg #[.string .empty, .slice none 0 0], .agg #[.string .empty, .slice none 0 0]], []⟩ 8 (by kernel_rfl) (by kernel_rfl) (by kernel_rfl)
      (x := ([.nil, .nil, .agg [.lit (.string []), .nil], .agg [.lit (.string []), .nil]], [], [])) (by kernel_rfl) rfl (by kernel_rfl)) ?_
  intro W base args ds gs before hval hW _ hk _
  exact contract H enc W base args ds gs before hval hW hk

theorem proved : Rows.FactTellsUptoSaid :=
  OpenClaim.holds_of_cond 10 Try.f10 rfl rfl rfl rfl rfl rfl rfl ⟨rfl, rfl, rfl, rfl, rfl⟩ rfl rfl rfl rfl rfl (by kernel_rfl) Try.func10 (by kernel_rfl)
    (of_decide_eq_true (by kernel_rfl)) (by unfold Func.isWrapper; first | (rw [if_pos (by decide +kernel)]; kernel_rfl) | (rw [if_neg (by decide +kernel)]; exact ⟨rfl, rfl⟩))
    (fun os started H enc _ F => lifted os started H enc F)
end factTells

end Go.Proofs.Ytgdokncccldgiaa
