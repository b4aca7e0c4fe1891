/-
  THE LAW FactSets: sets as sets do: in whatever order, however often; joined in whatever order; what is taken away, and joined again, is all.
-/
import Derived.Test.YtgdokncccldgiaaAlive1
import Derived.Test.YtgdokncccldgiaaRef1Same
import Derived.Test.YtgdokncccldgiaaEntry
namespace Go.Proofs.Ytgdokncccldgiaa
open Go.RowKit Go.ChangeShapes Go.WideShapes Go.ChangeAt

/-! ### Plain -/
theorem addF_length (f : PFact) (l : List PFact) : (addF f l).length ≤ l.length + 1 := by
  induction l with
  | nil => simp [addF]
  | cons g l ih =>
    unfold addF
    split
    · simp
    · split
      · simp
      · simp only [List.length_cons]; omega
theorem ofF_length (l : List PFact) : (ofF l).length ≤ l.length := by
  induction l with
  | nil => simp [ofF]
  | cons f l ih =>
    have := addF_length f (ofF l)
    show (addF f (ofF l)).length ≤ _
    simp only [List.length_cons]; omega
theorem joinF_comm (a b : List PFact) : joinF a b = joinF b a := by
  refine rising_ext (ofF_rising _) (ofF_rising _) fun x => ?_
  simp only [joinF, mem_ofF, List.mem_append]
  exact Or.comm
theorem ofF_twice {x : List PFact} (h : Rising x) : ofF (x ++ x) = x := by
  refine rising_ext (ofF_rising _) h fun y => ?_
  simp [mem_ofF]
theorem mem_lessF (x : PFact) (a b : List PFact) : x ∈ lessF a b ↔ x ∈ a ∧ ¬ x ∈ b := by
  unfold lessF
  rw [List.mem_filter]
  have := memF_iff x b
  constructor
  · rintro ⟨h1, h2⟩
    refine ⟨h1, fun h3 => ?_⟩
    rw [this.2 h3] at h2; cases h2
  · rintro ⟨h1, h2⟩
    refine ⟨h1, ?_⟩
    cases h3 : memF x b
    · rfl
    · exact absurd (this.1 h3) h2
theorem joinF_less (a b : List PFact) : joinF (lessF a b) b = joinF a b := by
  refine rising_ext (ofF_rising _) (ofF_rising _) fun x => ?_
  simp only [joinF, mem_ofF, List.mem_append, mem_lessF]
  constructor
  · rintro (h | h)
    · exact .inl h.1
    · exact .inr h
  · rintro (h | h)
    · by_cases hb : x ∈ b
      · exact .inr hb
      · exact .inl ⟨h, hb⟩
    · exact .inr h
theorem lessF_rising {a : List PFact} (h : Rising a) (b : List PFact) : Rising (lessF a b) := List.Pairwise.sublist List.filter_sublist h
theorem memF_join (f : PFact) (a b : List PFact) : memF f (joinF a b) = (memF f a || memF f b) := by
  rw [Bool.eq_iff_iff]
  simp [memF_iff, joinF, mem_ofF]
theorem memF_less (f : PFact) (a b : List PFact) : memF f (lessF a b) = (memF f a && !memF f b) := by
  rw [Bool.eq_iff_iff]
  have := memF_iff f b
  simp only [memF_iff, mem_lessF, Bool.and_eq_true, Bool.not_eq_true']
  rw [← this]
  simp

/-! ### A guarded append -/
theorem wpList_plain_w {P : Program} {ops : Array Oper} {Q : Exit → Act → World → Prop} {a : Act} {w : World} {rest : List Oper} {o : Oper} (hw : Region.wanted o (yielded ops a.tmps) = true)
    (h : ∀ K : Act → World → Prop, (∀ a w, wpList P ops Q rest a w → K a w) → o.wp P a w K Q) : wpList P ops Q (o :: rest) a w :=
  wpList_step fun K hK => by simp only [hw, if_true]; exact h K hK

theorem wpList_append_many_w {P : Program} {w : World} {α : Type} {k : Nat} {R : Reader α} {B : Nat} {e : TypeId} {S : Nat → Prop} {ops : Array Oper} {rest : List Oper} {o : Oper} {a : Act} {Q : Exit → Act → World → Prop} (hgd : Region.wanted o (yielded ops a.tmps) = true) (s x : Operand) (t : TypeId)
    (ho : o.op = .call { callee := .builtin .append, args := #[s, x], argTypes := #[t, t] }) (hR : Steady R) (hcell : ∀ {S w cs x}, R S w cs x → ∀ u ∈ cs, u.oneCell' = true) (T : RowT P t e k) (v : Value) (l : List α) (hs : a.eval s = v) (hown : Owned k R B e S w v l)
    (v2 : Value) (l2 : List α) (hx : a.eval x = v2) {S2 : Nat → Prop} (h2 : RdSlice k R S2 w v2 l2) (hm : ∀ cs x, R S2 w cs x → R (fun b => S b ∧ some b ≠ v.ownBlock) w cs x) (hlen : l.length + l2.length < 1099511627776) (hbase : B ≤ w.heap.size)
    (h : ∀ v' w', Owned k R B e S w' v' (l ++ l2) → w.grownBy w' v.ownBlock → (v'.ownBlock = v.ownBlock ∨ v'.ownBlock = some w.heap.size) → wpList P ops Q rest (a.put o.dst v') w') : wpList P ops Q (o :: rest) a w :=
  wpList_plain_w hgd fun K hK => by
    obtain ⟨v', w', hrun, q2, q3, q4⟩ := run_append_many (P := P) (ty := o.type) hR hcell T hown h2 hm hlen hbase
    unfold Oper.wp execOp
    simp only [ho, resolve, invoke, builtin, Sem.run_bind, Sem.run_pure, Result.andThen_ok, List.map_toArray, List.map_cons, List.map_nil, hs, hx, hrun]
    exact hK _ _ (h v' w' q2 q3 q4)

/-! ### The walk -/
structure SetsW (w w' : World) (f : PFact) (fv : Value) (vs : List (Value × List PFact)) : Prop where
  below : Below w.heap.size w w'
  size : w.heap.size < w'.heap.size
  f0 : w'.cell? ⟨w.heap.size, 0, none⟩ = some (.string f.name)
  f1 : w'.cell? ⟨w.heap.size, 1, none⟩ = some fv
  fr : RdStrs (fun _ => True) w' fv f.args
  rd : ∀ p ∈ vs, RdFacts (fun _ => True) w' p.1 p.2
theorem SetsW.next {w w' w'' : World} {f : PFact} {fv : Value} {vs : List (Value × List PFact)} (h : SetsW w w' f fv vs) (hb : Below w'.heap.size w' w'') : SetsW w w'' f fv vs := by
  have hs := h.size
  exact ⟨h.below.trans (hb.mono (by omega)), Nat.lt_of_lt_of_le hs hb.size, (cell_below hb hs 0).trans h.f0, (cell_below hb hs 1).trans h.f1, h.fr.agree RStr.steady (Below.agree hb), fun p hp => (h.rd p hp).agree RFact.steady (Below.agree hb)⟩
theorem SetsW.drew {w w' : World} {f : PFact} {fv : Value} {vs : List (Value × List PFact)} (h : SetsW w w' f fv vs) : SetsW w w'.drew f fv vs := h.next (Below.refl _ _).drew
theorem SetsW.add {w w' : World} {f : PFact} {fv v : Value} {l : List PFact} {vs : List (Value × List PFact)} (h : SetsW w w' f fv vs) (hr : RdFacts (fun _ => True) w' v l) : SetsW w w' f fv ((v, l) :: vs) :=
  ⟨h.below, h.size, h.f0, h.f1, h.fr, fun p hp => by
    rcases List.mem_cons.1 hp with rfl | hp
    · exact hr
    · exact h.rd p hp⟩
theorem SetsW.made {w w' w'' : World} {f : PFact} {fv v : Value} {l : List PFact} {vs : List (Value × List PFact)} {B : Nat} {S : Nat → Prop} (h : SetsW w w' f fv vs) (ho : Owned 2 RFact B 57 S w'' v l) (hb : Below w'.heap.size w' w'') : SetsW w w'' f fv ((v, l) :: vs) :=
  (h.next hb).add ((ho.read RFact.steady).more RFact.steady (fun _ _ _ => trivial))
theorem SetsW.start {w : World} {f : PFact} {fv va vb : Value} {a b : List PFact} (ha : RdFacts (fun _ => True) w va a) (hb : RdFacts (fun _ => True) w vb b) (hf : RdStrs (fun _ => True) w fv f.args) : SetsW w (w.alloc (.cells #[.string f.name, fv] 57)) f fv [(va, a), (vb, b)] :=
  ⟨(Below.refl _ _).alloc (Nat.le_refl _) _, by simp, by simp, by simp, hf.agree RStr.steady ((Agree.refl _ _).alloc _), fun p hp => by
    simp only [List.mem_cons, List.not_mem_nil, or_false] at hp
    rcases hp with rfl | rfl
    · exact ha.agree RFact.steady ((Agree.refl _ _).alloc _)
    · exact hb.agree RFact.steady ((Agree.refl _ _).alloc _)⟩

attribute [local go_sem ↓] Go.wp_at_zero Go.wp_at_succ
set_option maxRecDepth 100000 in
set_option maxHeartbeats 8000000 in
theorem factSetsCalls (f : PFact) (va vb fv : Value) (a b : List PFact) (w : World) (ha : RdFacts (fun _ => True) w va a) (hb : RdFacts (fun _ => True) w vb b) (hf : RdStrs (fun _ => True) w fv f.args)
    (n1 : a.length ≤ 1048576) (n2 : b.length ≤ 1048576) (n3 : ∀ x ∈ a, x.args.length ≤ 1073741824) (n4 : ∀ x ∈ b, x.args.length ≤ 1073741824) :
    Calls Try.prog 11 #[va, vb, .agg #[.string f.name, fv]] w fun e w' => e = .returned (.bool true) ∧ Below w.heap.size w w' := by
  have HS := Lib.hid (SetsW.start ha hb hf)
  have N3 := Lib.hid n3
  have N4 := Lib.hid n4
  obtain ⟨x, HX⟩ : ∃ x, Hid (ofF a = x) := ⟨_, Lib.hid rfl⟩
  obtain ⟨y, HY⟩ : ∃ y, Hid (ofF b = y) := ⟨_, Lib.hid rfl⟩
  have lx : x.length ≤ a.length := by rw [← HX.out]; exact ofF_length a
  have ly : y.length ≤ b.length := by rw [← HY.out]; exact ofF_length b
  have RX := Lib.hid (show Rising x by rw [← HX.out]; exact ofF_rising a)
  have RY := Lib.hid (show Rising y by rw [← HY.out]; exact ofF_rising b)
  have AX := Lib.hid (fun z (hz : z ∈ x) => n3 z ((mem_ofF z a).1 (by have := HX.out; rwa [this])))
  have AY := Lib.hid (fun z (hz : z ∈ y) => n4 z ((mem_ofF z b).1 (by have := HY.out; rwa [this])))
  clear n3 n4 ha hb hf
  obtain ⟨j, HJ⟩ : ∃ j, Hid (joinF x y = j) := ⟨_, Lib.hid rfl⟩
  obtain ⟨d, HD⟩ : ∃ d, Hid (lessF x y = d) := ⟨_, Lib.hid rfl⟩
  have HJ2 := Lib.hid ((joinF_comm y x).trans HJ.out)
  have HJ3 := Lib.hid (show joinF d y = j by rw [← HD.out]; exact (joinF_less x y).trans HJ.out)
  have HXX := Lib.hid (ofF_twice RX.out)
  have RD := Lib.hid (show Rising d by rw [← HD.out]; exact lessF_rising RX.out y)
  have RJ := Lib.hid (show Rising j by rw [← HJ.out]; exact ofF_rising _)
  have MJ := Lib.hid (show memF f j = (memF f x || memF f y) by rw [← HJ.out]; exact memF_join f x y)
  have MD := Lib.hid (show memF f d = (memF f x && !memF f y) by rw [← HD.out]; exact memF_less f x y)
  have lj : j.length ≤ x.length + y.length := by rw [← HJ.out]; have := ofF_length (x ++ y); rw [List.length_append] at this; exact this
  have ld : d.length ≤ x.length := by rw [← HD.out]; exact List.length_filter_le _ _
  have AJ := Lib.hid (fun z (hz : z ∈ j) => (List.mem_append.1 ((mem_ofF z (x ++ y)).1 (by rw [show ofF (x ++ y) = j from HJ.out]; exact hz))).elim (AX.out z) (AY.out z))
  have AD := Lib.hid (fun z (hz : z ∈ d) => AX.out z ((mem_lessF z x y).1 (by rw [HD.out]; exact hz)).1)
  have AXX := Lib.hid (fun z (hz : z ∈ x ++ x) => (List.mem_append.1 hz).elim (AX.out z) (AX.out z))
  obtain ⟨p, KX⟩ : ∃ p, Hid (memF f x = p) := ⟨_, Lib.hid rfl⟩
  obtain ⟨q, KY⟩ : ∃ q, Hid (memF f y = q) := ⟨_, Lib.hid rfl⟩
  rw [KX.out, KY.out] at MJ MD
  cases p <;> cases q
  · have MJ' := Lib.hid (MJ.out.trans (rfl : _ = false))
    have MD' := Lib.hid (MD.out.trans (rfl : _ = false))
    go_enter Try.func11, Try.ntmps11
    go_wp2_with (first
      | (go_at_call 45; refine (sameRef v12 v4 j j _ (HI12.out.rd (v12, j) (by simp)) (HI12.out.rd (v4, j) (by simp)) (by omega) AJ.out AJ.out).mono ?_; rw [decide_eq_true (rfl : j = j)]; rintro e w13 ⟨rfl, hb⟩; have HI13 := Lib.hid (HI12.out.next hb.below); clear hb; have f0 := HI13.out.f0; have f1 := HI13.out.f1)
      | (go_at_call 49; refine (joinCalls v11 v3 d y _ (HI11.out.rd (v11, d) (by simp)) (HI11.out.rd (v3, y) (by simp)) (by omega) AD.out AY.out).mono ?_; rw [HJ3.out]; rintro e w12 ⟨⟨v12, rfl, ho⟩, hb⟩; have HI12 := Lib.hid (HI11.out.made ho hb); clear ho hb)
      | (go_at_call 55; refine (lessCalls v2 v3 x y _ (HI10.out.rd (v2, x) (by simp)) (HI10.out.rd (v3, y) (by simp)) RY.out (by omega) AX.out (by omega) AY.out).mono ?_; rw [HD.out]; rintro e w11 ⟨⟨v11, rfl, ho⟩, hb⟩; have HI11 := Lib.hid (HI10.out.made ho hb); clear ho hb)
      | (go_at_call 45; refine (sameRef v9 v2 x x _ (HI9.out.rd (v9, x) (by simp)) (HI9.out.rd (v2, x) (by simp)) (by omega) AX.out AX.out).mono ?_; rw [decide_eq_true (rfl : x = x)]; rintro e w10 ⟨rfl, hb⟩; have HI10 := Lib.hid (HI9.out.next hb.below); clear hb)
      | (go_at_call 47; refine (ofCalls v8 (x ++ x) _ (HI8.out.rd (v8, x ++ x) (by simp)) (by simp; omega) AXX.out).mono ?_; rw [HXX.out]; rintro e w9 ⟨⟨v9, rfl, ho⟩, hb⟩; have HI9 := Lib.hid (HI8.out.made ho hb); clear ho hb)
      | (at_builtin; refine wpList_append_many_w (B := w6.heap.size) (e := 57) (S := fun q => q < w6.heap.size) (by rfl) _ _ 55 (by rfl) RFact.steady RFact.one rowFacts _ ([] ++ x) (by rfl) HO7.out v2 x (by rfl) (((HI6.out.rd (v2, x) (by simp)).more RFact.steady (S' := fun q => q < w6.heap.size) (fun _ _ h => h)).agree RFact.steady (Below.agree HB7.out)) (fun cs x' hr => RFact.steady.more (fun q hq _ => ⟨hq, fun e => by have := (HO7.out.row_lt e.symm).1; omega⟩) hr) (by simp; omega) HB7.out.size ?_; intro v8 w8 hown8 hg8 hat8; have HI8 := Lib.hid ((HI6.out).made (show Owned 2 RFact w6.heap.size 57 (fun q => q < w6.heap.size) w8 v8 (x ++ x) from hown8) (HB7.out.grown hg8 HB7.out.size (fun q hq => (HO7.out.row_lt hq).1))); clear hown8 hg8 hat8)
      | (at_builtin; have HM := Lib.hid (Owned.made (α := PFact) (k := 2) (R := RFact) (B := w6.heap.size) (e := 57) (S := fun q => q < w6.heap.size) (w := w6) (cur := #[]) (cap := 0) (Nat.le_refl _) (Nat.zero_le _) rfl); refine wpList_append_many_w (B := w6.heap.size) (e := 57) (S := fun q => q < w6.heap.size) (by rfl) _ _ 55 (by rfl) RFact.steady RFact.one rowFacts _ [] (by rfl) HM.out v2 x (by rfl) (((HI6.out.rd (v2, x) (by simp)).more RFact.steady (S' := fun q => q < w6.heap.size) (fun _ _ h => h)).agree RFact.steady ((Agree.refl _ _).alloc _)) (fun cs x' hr => RFact.steady.more (fun q hq _ => ⟨hq, fun e => by have := (HM.out.row_lt e.symm).1; omega⟩) hr) (by simp; omega) (by simp) ?_; intro v7 w7 hown7 hg7 hat7; have HO7 := Lib.hid hown7; have HB7 := Lib.hid (((Below.refl w6.heap.size w6).alloc (Nat.le_refl _) _).grown hg7 (by simp) (fun q hq => (HM.out.row_lt hq).1)); clear hown7 hg7 hat7)
      | (go_at_call 45; refine (sameRef v4 v5 j j _ (HI5.out.rd (v4, j) (by simp)) (HI5.out.rd (v5, j) (by simp)) (by omega) AJ.out AJ.out).mono ?_; rw [decide_eq_true (rfl : j = j)]; rintro e w6 ⟨rfl, hb⟩; have HI6 := Lib.hid (HI5.out.next hb.below); clear hb)
      | (go_at_call 49; refine (joinCalls v3 v2 y x _ (HI4.out.rd (v3, y) (by simp)) (HI4.out.rd (v2, x) (by simp)) (by omega) AY.out AX.out).mono ?_; rw [HJ2.out]; rintro e w5 ⟨⟨v5, rfl, ho⟩, hb⟩; have HI5 := Lib.hid (HI4.out.made ho hb); clear ho hb)
      | (go_at_call 49; refine (joinCalls v2 v3 x y _ (HI3.out.rd (v2, x) (by simp)) (HI3.out.rd (v3, y) (by simp)) (by omega) AX.out AY.out).mono ?_; rw [HJ.out]; rintro e w4 ⟨⟨v4, rfl, ho⟩, hb⟩; have HI4 := Lib.hid (HI3.out.made ho hb); clear ho hb)
      | (go_at_call 47; refine (ofCalls vb b _ (HI2.out.rd (vb, b) (by simp)) (by omega) N4.out).mono ?_; rw [HY.out]; rintro e w3 ⟨⟨v3, rfl, ho⟩, hb⟩; have HI3 := Lib.hid (HI2.out.made ho hb); clear ho hb)
      | (go_at_call 47; refine (ofCalls va a _ (HI1.out.rd (va, a) (by simp)) (by omega) N3.out).mono ?_; rw [HX.out]; rintro e w2 ⟨⟨v2, rfl, ho⟩, hb⟩; have HI2 := Lib.hid (HI1.out.made ho hb); clear ho hb)
      | (go_at_call 57; refine (alive1Calls _).mono ?_; rintro e w1 ⟨rfl, hb⟩; have HI1 := Lib.hid (HS.out.next hb); clear hb)
      )
    refine wp_region_held_drew (S := (fun w' => w'.cell? ⟨w.heap.size, 0, none⟩ = some (.string f.name) ∧ w'.cell? ⟨w.heap.size, 1, none⟩ = some fv)) (by kernel_rfl) ?_ (fun hHeld => ?_)
    · exact ⟨HI13.out.drew.f0, HI13.out.drew.f1⟩
    refine wpAnyH_take (i := 0) (oi := ⟨some 46, _, _, _, _, _⟩) (v := ?_) rfl (by kernel_rfl) (by kernel_rfl) (by kernel_rfl) (fun _ _ _ h => h) (Or.inl ⟨by rfl, ?_⟩) (by assumption) ?_
    rotate_left
    · (intro w' hSw; (try dsimp only at hSw); go_simp; try with_reducible rfl)
    try simp only [Act.put, List.setIfInBounds_toArray, List.set_cons_zero, List.set_cons_succ]
    refine wpAnyH_take (i := 1) (oi := ⟨some 47, _, _, _, _, _⟩) (v := ?_) rfl (by kernel_rfl) (by kernel_rfl) (by kernel_rfl) (fun _ _ _ h => h) (Or.inl ⟨by rfl, ?_⟩) (by assumption) ?_
    rotate_left
    · (intro w' hSw; (try dsimp only at hSw); go_simp; try with_reducible rfl)
    try simp only [Act.put, List.setIfInBounds_toArray, List.set_cons_zero, List.set_cons_succ]
    refine wpAnyH_take (i := 3) (oi := ⟨some 49, _, _, _, _, _⟩) (v := ?_) rfl (by kernel_rfl) (by kernel_rfl) (by kernel_rfl) (fun _ _ _ h => h) (Or.inl ⟨by rfl, ?_⟩) (by assumption) ?_
    rotate_left
    · (intro w' hSw; (try dsimp only at hSw); go_simp; try with_reducible rfl)
    try simp only [Act.put, List.setIfInBounds_toArray, List.set_cons_zero, List.set_cons_succ]
    refine wpAnyH_take (i := 4) (oi := ⟨some 50, _, _, _, _, _⟩) (v := ?_) rfl (by kernel_rfl) (by kernel_rfl) (by kernel_rfl) (fun _ _ _ h => h) (Or.inl ⟨by rfl, ?_⟩) (by assumption) ?_
    rotate_left
    · (intro w' hSw; (try dsimp only at hSw); go_simp; try with_reducible rfl)
    try simp only [Act.put, List.setIfInBounds_toArray, List.set_cons_zero, List.set_cons_succ]
    refine wpAnyH_ready (rs := [2]) (by kernel_rfl) (by simp) ?_
    refine AllReadyH.cons (o := ⟨some 48, _, _, _, _, _⟩) rfl (fun K hK => ?_) AllReadyH.nil
    go_simp
    (go_at_call 53; refine (inFact v4 j f fv _ (HI13.out.drew.rd (v4, j) (by simp)) HI13.out.drew.fr RJ.out (by omega) AJ.out).mono ?_; rw [MJ'.out]; rintro e w14 ⟨rfl, hb⟩; have HI14 := Lib.hid (HI13.out.drew.next hb.below); clear hb)
    refine hK.out _ _ ?_ (fun hHeld => ?_)
    · exact ⟨HI14.out.f0, HI14.out.f1⟩
    clear hK K
    try simp only [Act.put, List.setIfInBounds_toArray, List.set_cons_zero, List.set_cons_succ]
    refine wpAnyH_ready (rs := [5]) (by kernel_rfl) (by simp) ?_
    refine AllReadyH.cons (o := ⟨some 51, _, _, _, _, _⟩) rfl (fun K hK => ?_) AllReadyH.nil
    go_simp
    (go_at_call 53; refine (inFact v2 x f fv _ (HI14.out.rd (v2, x) (by simp)) HI14.out.fr RX.out (by omega) AX.out).mono ?_; rw [KX.out]; rintro e w15 ⟨rfl, hb⟩; have HI15 := Lib.hid (HI14.out.next hb.below); clear hb)
    refine hK.out _ _ ?_ (fun hHeld => ?_)
    · exact ⟨HI15.out.f0, HI15.out.f1⟩
    clear hK K
    try simp only [Act.put, List.setIfInBounds_toArray, List.set_cons_zero, List.set_cons_succ]
    refine wpAnyH_take (i := 6) (oi := ⟨some 52, _, _, _, _, _⟩) (v := ?_) rfl (by kernel_rfl) (by kernel_rfl) (by kernel_rfl) (fun _ _ _ h => h) (Or.inl ⟨by rfl, ?_⟩) (by assumption) ?_
    rotate_left
    · (intro w' hSw; (try dsimp only at hSw); go_simp; try with_reducible rfl)
    try simp only [Act.put, List.setIfInBounds_toArray, List.set_cons_zero, List.set_cons_succ]
    refine wpAnyH_take (i := 7) (oi := ⟨some 53, _, _, _, _, _⟩) (v := ?_) rfl (by kernel_rfl) (by kernel_rfl) (by kernel_rfl) (fun _ _ _ h => h) (Or.inl ⟨by rfl, ?_⟩) (by assumption) ?_
    rotate_left
    · (intro w' hSw; (try dsimp only at hSw); go_simp; try with_reducible rfl)
    try simp only [Act.put, List.setIfInBounds_toArray, List.set_cons_zero, List.set_cons_succ]
    refine wpAnyH_take (i := 8) (oi := ⟨some 54, _, _, _, _, _⟩) (v := ?_) rfl (by kernel_rfl) (by kernel_rfl) (by kernel_rfl) (fun _ _ _ h => h) (Or.inl ⟨by rfl, ?_⟩) (by assumption) ?_
    rotate_left
    · (intro w' hSw; (try dsimp only at hSw); go_simp; try with_reducible rfl)
    try simp only [Act.put, List.setIfInBounds_toArray, List.set_cons_zero, List.set_cons_succ]
    refine wpAnyH_ready (rs := [9]) (by kernel_rfl) (by simp) ?_
    refine AllReadyH.cons (o := ⟨some 55, _, _, _, _, _⟩) rfl (fun K hK => ?_) AllReadyH.nil
    go_simp
    (go_at_call 53; refine (inFact v3 y f fv _ (HI15.out.rd (v3, y) (by simp)) HI15.out.fr RY.out (by omega) AY.out).mono ?_; rw [KY.out]; rintro e w16 ⟨rfl, hb⟩; have HI16 := Lib.hid (HI15.out.next hb.below); clear hb)
    refine hK.out _ _ ?_ (fun hHeld => ?_)
    · exact ⟨HI16.out.f0, HI16.out.f1⟩
    clear hK K
    try simp only [Act.put, List.setIfInBounds_toArray, List.set_cons_zero, List.set_cons_succ]
    refine wpAnyH_take (i := 10) (oi := ⟨some 56, _, _, _, _, _⟩) (v := ?_) rfl (by kernel_rfl) (by kernel_rfl) (by kernel_rfl) (fun _ _ _ h => h) (Or.inl ⟨by rfl, ?_⟩) (by assumption) ?_
    rotate_left
    · (intro w' hSw; (try dsimp only at hSw); go_simp; try with_reducible rfl)
    try simp only [Act.put, List.setIfInBounds_toArray, List.set_cons_zero, List.set_cons_succ]
    refine wpAnyH_take (i := 11) (oi := ⟨some 57, _, _, _, _, _⟩) (v := ?_) rfl (by kernel_rfl) (by kernel_rfl) (by kernel_rfl) (fun _ _ _ h => h) (Or.inl ⟨by rfl, ?_⟩) (by assumption) ?_
    rotate_left
    · (intro w' hSw; (try dsimp only at hSw); go_simp; try with_reducible rfl)
    try simp only [Act.put, List.setIfInBounds_toArray, List.set_cons_zero, List.set_cons_succ]
    refine wpAnyH_take (i := 12) (oi := ⟨some 58, _, _, _, _, _⟩) (v := ?_) rfl (by kernel_rfl) (by kernel_rfl) (by kernel_rfl) (fun _ _ _ h => h) (Or.inl ⟨by rfl, ?_⟩) (by assumption) ?_
    rotate_left
    · (intro w' hSw; (try dsimp only at hSw); go_simp; try with_reducible rfl)
    try simp only [Act.put, List.setIfInBounds_toArray, List.set_cons_zero, List.set_cons_succ]
    refine wpAnyH_take (i := 13) (oi := ⟨some 59, _, _, _, _, _⟩) (v := ?_) rfl (by kernel_rfl) (by kernel_rfl) (by kernel_rfl) (fun _ _ _ h => h) (Or.inl ⟨by rfl, ?_⟩) (by assumption) ?_
    rotate_left
    · (intro w' hSw; (try dsimp only at hSw); go_simp; try with_reducible rfl)
    try simp only [Act.put, List.setIfInBounds_toArray, List.set_cons_zero, List.set_cons_succ]
    refine wpAnyH_take (i := 14) (oi := ⟨some 60, _, _, _, _, _⟩) (v := ?_) rfl (by kernel_rfl) (by kernel_rfl) (by kernel_rfl) (fun _ _ _ h => h) (Or.inl ⟨by rfl, ?_⟩) (by assumption) ?_
    rotate_left
    · (intro w' hSw; (try dsimp only at hSw); go_simp; try with_reducible rfl)
    try simp only [Act.put, List.setIfInBounds_toArray, List.set_cons_zero, List.set_cons_succ]
    refine wpAnyH_take (i := 16) (oi := ⟨some 62, _, _, _, _, _⟩) (v := ?_) rfl (by kernel_rfl) (by kernel_rfl) (by kernel_rfl) (fun _ _ _ h => h) (Or.inl ⟨by rfl, ?_⟩) (by assumption) ?_
    rotate_left
    · (intro w' hSw; (try dsimp only at hSw); go_simp; try with_reducible rfl)
    try simp only [Act.put, List.setIfInBounds_toArray, List.set_cons_zero, List.set_cons_succ]
    refine wpAnyH_take (i := 18) (oi := ⟨some 64, _, _, _, _, _⟩) (v := ?_) rfl (by kernel_rfl) (by kernel_rfl) (by kernel_rfl) (fun _ _ _ h => h) (Or.inl ⟨by rfl, ?_⟩) (by assumption) ?_
    rotate_left
    · (intro w' hSw; (try dsimp only at hSw); go_simp; try with_reducible rfl)
    try simp only [Act.put, List.setIfInBounds_toArray, List.set_cons_zero, List.set_cons_succ]
    refine wpAnyH_take (i := 19) (oi := ⟨some 65, _, _, _, _, _⟩) (v := ?_) rfl (by kernel_rfl) (by kernel_rfl) (by kernel_rfl) (fun _ _ _ h => h) (Or.inl ⟨by rfl, ?_⟩) (by assumption) ?_
    rotate_left
    · (intro w' hSw; (try dsimp only at hSw); go_simp; try with_reducible rfl)
    try simp only [Act.put, List.setIfInBounds_toArray, List.set_cons_zero, List.set_cons_succ]
    refine wpAnyH_ready (rs := [15]) (by kernel_rfl) (by simp) ?_
    refine AllReadyH.cons (o := ⟨some 61, _, _, _, _, _⟩) rfl (fun K hK => ?_) AllReadyH.nil
    go_simp
    (go_at_call 55; refine (lessCalls v2 v3 x y _ (HI16.out.rd (v2, x) (by simp)) (HI16.out.rd (v3, y) (by simp)) RY.out (by omega) AX.out (by omega) AY.out).mono ?_; rw [HD.out]; rintro e w17 ⟨⟨v17, rfl, ho⟩, hb⟩; have HI17 := Lib.hid (HI16.out.made ho hb); clear ho hb)
    refine hK.out _ _ ?_ (fun hHeld => ?_)
    · exact ⟨HI17.out.f0, HI17.out.f1⟩
    clear hK K
    try simp only [Act.put, List.setIfInBounds_toArray, List.set_cons_zero, List.set_cons_succ]
    refine wpAnyH_ready (rs := [17]) (by kernel_rfl) (by simp) ?_
    refine AllReadyH.cons (o := ⟨some 63, _, _, _, _, _⟩) rfl (fun K hK => ?_) AllReadyH.nil
    go_simp
    (go_at_call 53; refine (inFact v17 d f fv _ (HI17.out.rd (v17, d) (by simp)) HI17.out.fr RD.out (by omega) AD.out).mono ?_; rw [MD'.out]; rintro e w18 ⟨rfl, hb⟩; have HI18 := Lib.hid (HI17.out.next hb.below); clear hb)
    refine hK.out _ _ ?_ (fun hHeld => ?_)
    · exact ⟨HI18.out.f0, HI18.out.f1⟩
    clear hK K
    try simp only [Act.put, List.setIfInBounds_toArray, List.set_cons_zero, List.set_cons_succ]
    refine wpAnyH_ready (rs := [20]) (by kernel_rfl) (by simp) ?_
    refine AllReadyH.cons (o := ⟨some 66, _, _, _, _, _⟩) rfl (fun K hK => ?_) AllReadyH.nil
    go_simp
    (go_at_call 53; refine (inFact v2 x f fv _ (HI18.out.rd (v2, x) (by simp)) HI18.out.fr RX.out (by omega) AX.out).mono ?_; rw [KX.out]; rintro e w19 ⟨rfl, hb⟩; have HI19 := Lib.hid (HI18.out.next hb.below); clear hb)
    refine hK.out _ _ ?_ (fun hHeld => ?_)
    · exact ⟨HI19.out.f0, HI19.out.f1⟩
    clear hK K
    try simp only [Act.put, List.setIfInBounds_toArray, List.set_cons_zero, List.set_cons_succ]
    refine wpAnyH_take (i := 21) (oi := ⟨some 67, _, _, _, _, _⟩) (v := ?_) rfl (by kernel_rfl) (by kernel_rfl) (by kernel_rfl) (fun _ _ _ h => h) (Or.inl ⟨by rfl, ?_⟩) (by assumption) ?_
    rotate_left
    · (intro w' hSw; (try dsimp only at hSw); go_simp; try with_reducible rfl)
    try simp only [Act.put, List.setIfInBounds_toArray, List.set_cons_zero, List.set_cons_succ]
    refine wpAnyH_take (i := 22) (oi := ⟨some 68, _, _, _, _, _⟩) (v := undef) rfl (by kernel_rfl) (by kernel_rfl) (by kernel_rfl) (fun _ _ _ h => h) (Or.inr ⟨by rfl, rfl⟩) (by assumption) ?_
    try simp only [Act.put, List.setIfInBounds_toArray, List.set_cons_zero, List.set_cons_succ]
    refine wpAnyH_take (i := 23) (oi := ⟨some 69, _, _, _, _, _⟩) (v := undef) rfl (by kernel_rfl) (by kernel_rfl) (by kernel_rfl) (fun _ _ _ h => h) (Or.inr ⟨by rfl, rfl⟩) (by assumption) ?_
    try simp only [Act.put, List.setIfInBounds_toArray, List.set_cons_zero, List.set_cons_succ]
    refine wpAnyH_take (i := 24) (oi := ⟨some 70, _, _, _, _, _⟩) (v := undef) rfl (by kernel_rfl) (by kernel_rfl) (by kernel_rfl) (fun _ _ _ h => h) (Or.inr ⟨by rfl, rfl⟩) (by assumption) ?_
    try simp only [Act.put, List.setIfInBounds_toArray, List.set_cons_zero, List.set_cons_succ]
    refine wpAnyH_take (i := 25) (oi := ⟨some 71, _, _, _, _, _⟩) (v := undef) rfl (by kernel_rfl) (by kernel_rfl) (by kernel_rfl) (fun _ _ _ h => h) (Or.inr ⟨by rfl, rfl⟩) (by assumption) ?_
    try simp only [Act.put, List.setIfInBounds_toArray, List.set_cons_zero, List.set_cons_succ]
    refine wpAnyH_take (i := 26) (oi := ⟨some 72, _, _, _, _, _⟩) (v := ?_) rfl (by kernel_rfl) (by kernel_rfl) (by kernel_rfl) (fun _ _ _ h => h) (Or.inl ⟨by rfl, ?_⟩) (by assumption) ?_
    rotate_left
    · (intro w' hSw; (try dsimp only at hSw); go_simp; try with_reducible rfl)
    try simp only [Act.put, List.setIfInBounds_toArray, List.set_cons_zero, List.set_cons_succ]
    refine wpAnyH_take (i := 27) (oi := ⟨some 73, _, _, _, _, _⟩) (v := ?_) rfl (by kernel_rfl) (by kernel_rfl) (by kernel_rfl) (fun _ _ _ h => h) (Or.inl ⟨by rfl, ?_⟩) (by assumption) ?_
    rotate_left
    · (intro w' hSw; (try dsimp only at hSw); go_simp; try with_reducible rfl)
    try simp only [Act.put, List.setIfInBounds_toArray, List.set_cons_zero, List.set_cons_succ]
    refine wpAnyH_take (i := 28) (oi := ⟨some 74, _, _, _, _, _⟩) (v := ?_) rfl (by kernel_rfl) (by kernel_rfl) (by kernel_rfl) (fun _ _ _ h => h) (Or.inl ⟨by rfl, ?_⟩) (by assumption) ?_
    rotate_left
    · (intro w' hSw; (try dsimp only at hSw); go_simp; try with_reducible rfl)
    try simp only [Act.put, List.setIfInBounds_toArray, List.set_cons_zero, List.set_cons_succ]
    refine wpAnyH_take (i := 29) (oi := ⟨some 6, _, _, _, _, _⟩) (v := ?_) rfl (by kernel_rfl) (by kernel_rfl) (by kernel_rfl) (fun _ _ _ h => h) (Or.inl ⟨by rfl, ?_⟩) (by assumption) ?_
    rotate_left
    · (intro w' hSw; (try dsimp only at hSw); go_simp; try with_reducible rfl)
    try simp only [Act.put, List.setIfInBounds_toArray, List.set_cons_zero, List.set_cons_succ]
    refine wpAnyH_done (by kernel_rfl) ?_ _
    go_wp2
    go_ret
    exact ⟨rfl, HI19.out.below⟩
  · have MJ' := Lib.hid (MJ.out.trans (rfl : _ = true))
    have MD' := Lib.hid (MD.out.trans (rfl : _ = false))
    go_enter Try.func11, Try.ntmps11
    go_wp2_with (first
      | (go_at_call 45; refine (sameRef v12 v4 j j _ (HI12.out.rd (v12, j) (by simp)) (HI12.out.rd (v4, j) (by simp)) (by omega) AJ.out AJ.out).mono ?_; rw [decide_eq_true (rfl : j = j)]; rintro e w13 ⟨rfl, hb⟩; have HI13 := Lib.hid (HI12.out.next hb.below); clear hb; have f0 := HI13.out.f0; have f1 := HI13.out.f1)
      | (go_at_call 49; refine (joinCalls v11 v3 d y _ (HI11.out.rd (v11, d) (by simp)) (HI11.out.rd (v3, y) (by simp)) (by omega) AD.out AY.out).mono ?_; rw [HJ3.out]; rintro e w12 ⟨⟨v12, rfl, ho⟩, hb⟩; have HI12 := Lib.hid (HI11.out.made ho hb); clear ho hb)
      | (go_at_call 55; refine (lessCalls v2 v3 x y _ (HI10.out.rd (v2, x) (by simp)) (HI10.out.rd (v3, y) (by simp)) RY.out (by omega) AX.out (by omega) AY.out).mono ?_; rw [HD.out]; rintro e w11 ⟨⟨v11, rfl, ho⟩, hb⟩; have HI11 := Lib.hid (HI10.out.made ho hb); clear ho hb)
      | (go_at_call 45; refine (sameRef v9 v2 x x _ (HI9.out.rd (v9, x) (by simp)) (HI9.out.rd (v2, x) (by simp)) (by omega) AX.out AX.out).mono ?_; rw [decide_eq_true (rfl : x = x)]; rintro e w10 ⟨rfl, hb⟩; have HI10 := Lib.hid (HI9.out.next hb.below); clear hb)
      | (go_at_call 47; refine (ofCalls v8 (x ++ x) _ (HI8.out.rd (v8, x ++ x) (by simp)) (by simp; omega) AXX.out).mono ?_; rw [HXX.out]; rintro e w9 ⟨⟨v9, rfl, ho⟩, hb⟩; have HI9 := Lib.hid (HI8.out.made ho hb); clear ho hb)
      | (at_builtin; refine wpList_append_many_w (B := w6.heap.size) (e := 57) (S := fun q => q < w6.heap.size) (by rfl) _ _ 55 (by rfl) RFact.steady RFact.one rowFacts _ ([] ++ x) (by rfl) HO7.out v2 x (by rfl) (((HI6.out.rd (v2, x) (by simp)).more RFact.steady (S' := fun q => q < w6.heap.size) (fun _ _ h => h)).agree RFact.steady (Below.agree HB7.out)) (fun cs x' hr => RFact.steady.more (fun q hq _ => ⟨hq, fun e => by have := (HO7.out.row_lt e.symm).1; omega⟩) hr) (by simp; omega) HB7.out.size ?_; intro v8 w8 hown8 hg8 hat8; have HI8 := Lib.hid ((HI6.out).made (show Owned 2 RFact w6.heap.size 57 (fun q => q < w6.heap.size) w8 v8 (x ++ x) from hown8) (HB7.out.grown hg8 HB7.out.size (fun q hq => (HO7.out.row_lt hq).1))); clear hown8 hg8 hat8)
      | (at_builtin; have HM := Lib.hid (Owned.made (α := PFact) (k := 2) (R := RFact) (B := w6.heap.size) (e := 57) (S := fun q => q < w6.heap.size) (w := w6) (cur := #[]) (cap := 0) (Nat.le_refl _) (Nat.zero_le _) rfl); refine wpList_append_many_w (B := w6.heap.size) (e := 57) (S := fun q => q < w6.heap.size) (by rfl) _ _ 55 (by rfl) RFact.steady RFact.one rowFacts _ [] (by rfl) HM.out v2 x (by rfl) (((HI6.out.rd (v2, x) (by simp)).more RFact.steady (S' := fun q => q < w6.heap.size) (fun _ _ h => h)).agree RFact.steady ((Agree.refl _ _).alloc _)) (fun cs x' hr => RFact.steady.more (fun q hq _ => ⟨hq, fun e => by have := (HM.out.row_lt e.symm).1; omega⟩) hr) (by simp; omega) (by simp) ?_; intro v7 w7 hown7 hg7 hat7; have HO7 := Lib.hid hown7; have HB7 := Lib.hid (((Below.refl w6.heap.size w6).alloc (Nat.le_refl _) _).grown hg7 (by simp) (fun q hq => (HM.out.row_lt hq).1)); clear hown7 hg7 hat7)
      | (go_at_call 45; refine (sameRef v4 v5 j j _ (HI5.out.rd (v4, j) (by simp)) (HI5.out.rd (v5, j) (by simp)) (by omega) AJ.out AJ.out).mono ?_; rw [decide_eq_true (rfl : j = j)]; rintro e w6 ⟨rfl, hb⟩; have HI6 := Lib.hid (HI5.out.next hb.below); clear hb)
      | (go_at_call 49; refine (joinCalls v3 v2 y x _ (HI4.out.rd (v3, y) (by simp)) (HI4.out.rd (v2, x) (by simp)) (by omega) AY.out AX.out).mono ?_; rw [HJ2.out]; rintro e w5 ⟨⟨v5, rfl, ho⟩, hb⟩; have HI5 := Lib.hid (HI4.out.made ho hb); clear ho hb)
      | (go_at_call 49; refine (joinCalls v2 v3 x y _ (HI3.out.rd (v2, x) (by simp)) (HI3.out.rd (v3, y) (by simp)) (by omega) AX.out AY.out).mono ?_; rw [HJ.out]; rintro e w4 ⟨⟨v4, rfl, ho⟩, hb⟩; have HI4 := Lib.hid (HI3.out.made ho hb); clear ho hb)
      | (go_at_call 47; refine (ofCalls vb b _ (HI2.out.rd (vb, b) (by simp)) (by omega) N4.out).mono ?_; rw [HY.out]; rintro e w3 ⟨⟨v3, rfl, ho⟩, hb⟩; have HI3 := Lib.hid (HI2.out.made ho hb); clear ho hb)
      | (go_at_call 47; refine (ofCalls va a _ (HI1.out.rd (va, a) (by simp)) (by omega) N3.out).mono ?_; rw [HX.out]; rintro e w2 ⟨⟨v2, rfl, ho⟩, hb⟩; have HI2 := Lib.hid (HI1.out.made ho hb); clear ho hb)
      | (go_at_call 57; refine (alive1Calls _).mono ?_; rintro e w1 ⟨rfl, hb⟩; have HI1 := Lib.hid (HS.out.next hb); clear hb)
      )
    refine wp_region_held_drew (S := (fun w' => w'.cell? ⟨w.heap.size, 0, none⟩ = some (.string f.name) ∧ w'.cell? ⟨w.heap.size, 1, none⟩ = some fv)) (by kernel_rfl) ?_ (fun hHeld => ?_)
    · exact ⟨HI13.out.drew.f0, HI13.out.drew.f1⟩
    refine wpAnyH_take (i := 0) (oi := ⟨some 46, _, _, _, _, _⟩) (v := ?_) rfl (by kernel_rfl) (by kernel_rfl) (by kernel_rfl) (fun _ _ _ h => h) (Or.inl ⟨by rfl, ?_⟩) (by assumption) ?_
    rotate_left
    · (intro w' hSw; (try dsimp only at hSw); go_simp; try with_reducible rfl)
    try simp only [Act.put, List.setIfInBounds_toArray, List.set_cons_zero, List.set_cons_succ]
    refine wpAnyH_take (i := 1) (oi := ⟨some 47, _, _, _, _, _⟩) (v := ?_) rfl (by kernel_rfl) (by kernel_rfl) (by kernel_rfl) (fun _ _ _ h => h) (Or.inl ⟨by rfl, ?_⟩) (by assumption) ?_
    rotate_left
    · (intro w' hSw; (try dsimp only at hSw); go_simp; try with_reducible rfl)
    try simp only [Act.put, List.setIfInBounds_toArray, List.set_cons_zero, List.set_cons_succ]
    refine wpAnyH_take (i := 3) (oi := ⟨some 49, _, _, _, _, _⟩) (v := ?_) rfl (by kernel_rfl) (by kernel_rfl) (by kernel_rfl) (fun _ _ _ h => h) (Or.inl ⟨by rfl, ?_⟩) (by assumption) ?_
    rotate_left
    · (intro w' hSw; (try dsimp only at hSw); go_simp; try with_reducible rfl)
    try simp only [Act.put, List.setIfInBounds_toArray, List.set_cons_zero, List.set_cons_succ]
    refine wpAnyH_take (i := 4) (oi := ⟨some 50, _, _, _, _, _⟩) (v := ?_) rfl (by kernel_rfl) (by kernel_rfl) (by kernel_rfl) (fun _ _ _ h => h) (Or.inl ⟨by rfl, ?_⟩) (by assumption) ?_
    rotate_left
    · (intro w' hSw; (try dsimp only at hSw); go_simp; try with_reducible rfl)
    try simp only [Act.put, List.setIfInBounds_toArray, List.set_cons_zero, List.set_cons_succ]
    refine wpAnyH_ready (rs := [2]) (by kernel_rfl) (by simp) ?_
    refine AllReadyH.cons (o := ⟨some 48, _, _, _, _, _⟩) rfl (fun K hK => ?_) AllReadyH.nil
    go_simp
    (go_at_call 53; refine (inFact v4 j f fv _ (HI13.out.drew.rd (v4, j) (by simp)) HI13.out.drew.fr RJ.out (by omega) AJ.out).mono ?_; rw [MJ'.out]; rintro e w14 ⟨rfl, hb⟩; have HI14 := Lib.hid (HI13.out.drew.next hb.below); clear hb)
    refine hK.out _ _ ?_ (fun hHeld => ?_)
    · exact ⟨HI14.out.f0, HI14.out.f1⟩
    clear hK K
    try simp only [Act.put, List.setIfInBounds_toArray, List.set_cons_zero, List.set_cons_succ]
    refine wpAnyH_ready (rs := [5]) (by kernel_rfl) (by simp) ?_
    refine AllReadyH.cons (o := ⟨some 51, _, _, _, _, _⟩) rfl (fun K hK => ?_) AllReadyH.nil
    go_simp
    (go_at_call 53; refine (inFact v2 x f fv _ (HI14.out.rd (v2, x) (by simp)) HI14.out.fr RX.out (by omega) AX.out).mono ?_; rw [KX.out]; rintro e w15 ⟨rfl, hb⟩; have HI15 := Lib.hid (HI14.out.next hb.below); clear hb)
    refine hK.out _ _ ?_ (fun hHeld => ?_)
    · exact ⟨HI15.out.f0, HI15.out.f1⟩
    clear hK K
    try simp only [Act.put, List.setIfInBounds_toArray, List.set_cons_zero, List.set_cons_succ]
    refine wpAnyH_take (i := 6) (oi := ⟨some 52, _, _, _, _, _⟩) (v := ?_) rfl (by kernel_rfl) (by kernel_rfl) (by kernel_rfl) (fun _ _ _ h => h) (Or.inl ⟨by rfl, ?_⟩) (by assumption) ?_
    rotate_left
    · (intro w' hSw; (try dsimp only at hSw); go_simp; try with_reducible rfl)
    try simp only [Act.put, List.setIfInBounds_toArray, List.set_cons_zero, List.set_cons_succ]
    refine wpAnyH_take (i := 7) (oi := ⟨some 53, _, _, _, _, _⟩) (v := ?_) rfl (by kernel_rfl) (by kernel_rfl) (by kernel_rfl) (fun _ _ _ h => h) (Or.inl ⟨by rfl, ?_⟩) (by assumption) ?_
    rotate_left
    · (intro w' hSw; (try dsimp only at hSw); go_simp; try with_reducible rfl)
    try simp only [Act.put, List.setIfInBounds_toArray, List.set_cons_zero, List.set_cons_succ]
    refine wpAnyH_take (i := 8) (oi := ⟨some 54, _, _, _, _, _⟩) (v := ?_) rfl (by kernel_rfl) (by kernel_rfl) (by kernel_rfl) (fun _ _ _ h => h) (Or.inl ⟨by rfl, ?_⟩) (by assumption) ?_
    rotate_left
    · (intro w' hSw; (try dsimp only at hSw); go_simp; try with_reducible rfl)
    try simp only [Act.put, List.setIfInBounds_toArray, List.set_cons_zero, List.set_cons_succ]
    refine wpAnyH_ready (rs := [9]) (by kernel_rfl) (by simp) ?_
    refine AllReadyH.cons (o := ⟨some 55, _, _, _, _, _⟩) rfl (fun K hK => ?_) AllReadyH.nil
    go_simp
    (go_at_call 53; refine (inFact v3 y f fv _ (HI15.out.rd (v3, y) (by simp)) HI15.out.fr RY.out (by omega) AY.out).mono ?_; rw [KY.out]; rintro e w16 ⟨rfl, hb⟩; have HI16 := Lib.hid (HI15.out.next hb.below); clear hb)
    refine hK.out _ _ ?_ (fun hHeld => ?_)
    · exact ⟨HI16.out.f0, HI16.out.f1⟩
    clear hK K
    try simp only [Act.put, List.setIfInBounds_toArray, List.set_cons_zero, List.set_cons_succ]
    refine wpAnyH_take (i := 10) (oi := ⟨some 56, _, _, _, _, _⟩) (v := ?_) rfl (by kernel_rfl) (by kernel_rfl) (by kernel_rfl) (fun _ _ _ h => h) (Or.inl ⟨by rfl, ?_⟩) (by assumption) ?_
    rotate_left
    · (intro w' hSw; (try dsimp only at hSw); go_simp; try with_reducible rfl)
    try simp only [Act.put, List.setIfInBounds_toArray, List.set_cons_zero, List.set_cons_succ]
    refine wpAnyH_take (i := 11) (oi := ⟨some 57, _, _, _, _, _⟩) (v := ?_) rfl (by kernel_rfl) (by kernel_rfl) (by kernel_rfl) (fun _ _ _ h => h) (Or.inl ⟨by rfl, ?_⟩) (by assumption) ?_
    rotate_left
    · (intro w' hSw; (try dsimp only at hSw); go_simp; try with_reducible rfl)
    try simp only [Act.put, List.setIfInBounds_toArray, List.set_cons_zero, List.set_cons_succ]
    refine wpAnyH_take (i := 12) (oi := ⟨some 58, _, _, _, _, _⟩) (v := ?_) rfl (by kernel_rfl) (by kernel_rfl) (by kernel_rfl) (fun _ _ _ h => h) (Or.inl ⟨by rfl, ?_⟩) (by assumption) ?_
    rotate_left
    · (intro w' hSw; (try dsimp only at hSw); go_simp; try with_reducible rfl)
    try simp only [Act.put, List.setIfInBounds_toArray, List.set_cons_zero, List.set_cons_succ]
    refine wpAnyH_take (i := 13) (oi := ⟨some 59, _, _, _, _, _⟩) (v := ?_) rfl (by kernel_rfl) (by kernel_rfl) (by kernel_rfl) (fun _ _ _ h => h) (Or.inl ⟨by rfl, ?_⟩) (by assumption) ?_
    rotate_left
    · (intro w' hSw; (try dsimp only at hSw); go_simp; try with_reducible rfl)
    try simp only [Act.put, List.setIfInBounds_toArray, List.set_cons_zero, List.set_cons_succ]
    refine wpAnyH_take (i := 14) (oi := ⟨some 60, _, _, _, _, _⟩) (v := ?_) rfl (by kernel_rfl) (by kernel_rfl) (by kernel_rfl) (fun _ _ _ h => h) (Or.inl ⟨by rfl, ?_⟩) (by assumption) ?_
    rotate_left
    · (intro w' hSw; (try dsimp only at hSw); go_simp; try with_reducible rfl)
    try simp only [Act.put, List.setIfInBounds_toArray, List.set_cons_zero, List.set_cons_succ]
    refine wpAnyH_take (i := 16) (oi := ⟨some 62, _, _, _, _, _⟩) (v := ?_) rfl (by kernel_rfl) (by kernel_rfl) (by kernel_rfl) (fun _ _ _ h => h) (Or.inl ⟨by rfl, ?_⟩) (by assumption) ?_
    rotate_left
    · (intro w' hSw; (try dsimp only at hSw); go_simp; try with_reducible rfl)
    try simp only [Act.put, List.setIfInBounds_toArray, List.set_cons_zero, List.set_cons_succ]
    refine wpAnyH_take (i := 18) (oi := ⟨some 64, _, _, _, _, _⟩) (v := ?_) rfl (by kernel_rfl) (by kernel_rfl) (by kernel_rfl) (fun _ _ _ h => h) (Or.inl ⟨by rfl, ?_⟩) (by assumption) ?_
    rotate_left
    · (intro w' hSw; (try dsimp only at hSw); go_simp; try with_reducible rfl)
    try simp only [Act.put, List.setIfInBounds_toArray, List.set_cons_zero, List.set_cons_succ]
    refine wpAnyH_take (i := 19) (oi := ⟨some 65, _, _, _, _, _⟩) (v := ?_) rfl (by kernel_rfl) (by kernel_rfl) (by kernel_rfl) (fun _ _ _ h => h) (Or.inl ⟨by rfl, ?_⟩) (by assumption) ?_
    rotate_left
    · (intro w' hSw; (try dsimp only at hSw); go_simp; try with_reducible rfl)
    try simp only [Act.put, List.setIfInBounds_toArray, List.set_cons_zero, List.set_cons_succ]
    refine wpAnyH_ready (rs := [15]) (by kernel_rfl) (by simp) ?_
    refine AllReadyH.cons (o := ⟨some 61, _, _, _, _, _⟩) rfl (fun K hK => ?_) AllReadyH.nil
    go_simp
    (go_at_call 55; refine (lessCalls v2 v3 x y _ (HI16.out.rd (v2, x) (by simp)) (HI16.out.rd (v3, y) (by simp)) RY.out (by omega) AX.out (by omega) AY.out).mono ?_; rw [HD.out]; rintro e w17 ⟨⟨v17, rfl, ho⟩, hb⟩; have HI17 := Lib.hid (HI16.out.made ho hb); clear ho hb)
    refine hK.out _ _ ?_ (fun hHeld => ?_)
    · exact ⟨HI17.out.f0, HI17.out.f1⟩
    clear hK K
    try simp only [Act.put, List.setIfInBounds_toArray, List.set_cons_zero, List.set_cons_succ]
    refine wpAnyH_ready (rs := [17]) (by kernel_rfl) (by simp) ?_
    refine AllReadyH.cons (o := ⟨some 63, _, _, _, _, _⟩) rfl (fun K hK => ?_) AllReadyH.nil
    go_simp
    (go_at_call 53; refine (inFact v17 d f fv _ (HI17.out.rd (v17, d) (by simp)) HI17.out.fr RD.out (by omega) AD.out).mono ?_; rw [MD'.out]; rintro e w18 ⟨rfl, hb⟩; have HI18 := Lib.hid (HI17.out.next hb.below); clear hb)
    refine hK.out _ _ ?_ (fun hHeld => ?_)
    · exact ⟨HI18.out.f0, HI18.out.f1⟩
    clear hK K
    try simp only [Act.put, List.setIfInBounds_toArray, List.set_cons_zero, List.set_cons_succ]
    refine wpAnyH_ready (rs := [20]) (by kernel_rfl) (by simp) ?_
    refine AllReadyH.cons (o := ⟨some 66, _, _, _, _, _⟩) rfl (fun K hK => ?_) AllReadyH.nil
    go_simp
    (go_at_call 53; refine (inFact v2 x f fv _ (HI18.out.rd (v2, x) (by simp)) HI18.out.fr RX.out (by omega) AX.out).mono ?_; rw [KX.out]; rintro e w19 ⟨rfl, hb⟩; have HI19 := Lib.hid (HI18.out.next hb.below); clear hb)
    refine hK.out _ _ ?_ (fun hHeld => ?_)
    · exact ⟨HI19.out.f0, HI19.out.f1⟩
    clear hK K
    try simp only [Act.put, List.setIfInBounds_toArray, List.set_cons_zero, List.set_cons_succ]
    refine wpAnyH_take (i := 21) (oi := ⟨some 67, _, _, _, _, _⟩) (v := ?_) rfl (by kernel_rfl) (by kernel_rfl) (by kernel_rfl) (fun _ _ _ h => h) (Or.inl ⟨by rfl, ?_⟩) (by assumption) ?_
    rotate_left
    · (intro w' hSw; (try dsimp only at hSw); go_simp; try with_reducible rfl)
    try simp only [Act.put, List.setIfInBounds_toArray, List.set_cons_zero, List.set_cons_succ]
    refine wpAnyH_take (i := 22) (oi := ⟨some 68, _, _, _, _, _⟩) (v := undef) rfl (by kernel_rfl) (by kernel_rfl) (by kernel_rfl) (fun _ _ _ h => h) (Or.inr ⟨by rfl, rfl⟩) (by assumption) ?_
    try simp only [Act.put, List.setIfInBounds_toArray, List.set_cons_zero, List.set_cons_succ]
    refine wpAnyH_take (i := 23) (oi := ⟨some 69, _, _, _, _, _⟩) (v := undef) rfl (by kernel_rfl) (by kernel_rfl) (by kernel_rfl) (fun _ _ _ h => h) (Or.inr ⟨by rfl, rfl⟩) (by assumption) ?_
    try simp only [Act.put, List.setIfInBounds_toArray, List.set_cons_zero, List.set_cons_succ]
    refine wpAnyH_take (i := 24) (oi := ⟨some 70, _, _, _, _, _⟩) (v := undef) rfl (by kernel_rfl) (by kernel_rfl) (by kernel_rfl) (fun _ _ _ h => h) (Or.inr ⟨by rfl, rfl⟩) (by assumption) ?_
    try simp only [Act.put, List.setIfInBounds_toArray, List.set_cons_zero, List.set_cons_succ]
    refine wpAnyH_take (i := 25) (oi := ⟨some 71, _, _, _, _, _⟩) (v := undef) rfl (by kernel_rfl) (by kernel_rfl) (by kernel_rfl) (fun _ _ _ h => h) (Or.inr ⟨by rfl, rfl⟩) (by assumption) ?_
    try simp only [Act.put, List.setIfInBounds_toArray, List.set_cons_zero, List.set_cons_succ]
    refine wpAnyH_take (i := 26) (oi := ⟨some 72, _, _, _, _, _⟩) (v := ?_) rfl (by kernel_rfl) (by kernel_rfl) (by kernel_rfl) (fun _ _ _ h => h) (Or.inl ⟨by rfl, ?_⟩) (by assumption) ?_
    rotate_left
    · (intro w' hSw; (try dsimp only at hSw); go_simp; try with_reducible rfl)
    try simp only [Act.put, List.setIfInBounds_toArray, List.set_cons_zero, List.set_cons_succ]
    refine wpAnyH_take (i := 27) (oi := ⟨some 73, _, _, _, _, _⟩) (v := ?_) rfl (by kernel_rfl) (by kernel_rfl) (by kernel_rfl) (fun _ _ _ h => h) (Or.inl ⟨by rfl, ?_⟩) (by assumption) ?_
    rotate_left
    · (intro w' hSw; (try dsimp only at hSw); go_simp; try with_reducible rfl)
    try simp only [Act.put, List.setIfInBounds_toArray, List.set_cons_zero, List.set_cons_succ]
    refine wpAnyH_take (i := 28) (oi := ⟨some 74, _, _, _, _, _⟩) (v := ?_) rfl (by kernel_rfl) (by kernel_rfl) (by kernel_rfl) (fun _ _ _ h => h) (Or.inl ⟨by rfl, ?_⟩) (by assumption) ?_
    rotate_left
    · (intro w' hSw; (try dsimp only at hSw); go_simp; try with_reducible rfl)
    try simp only [Act.put, List.setIfInBounds_toArray, List.set_cons_zero, List.set_cons_succ]
    refine wpAnyH_take (i := 29) (oi := ⟨some 6, _, _, _, _, _⟩) (v := ?_) rfl (by kernel_rfl) (by kernel_rfl) (by kernel_rfl) (fun _ _ _ h => h) (Or.inl ⟨by rfl, ?_⟩) (by assumption) ?_
    rotate_left
    · (intro w' hSw; (try dsimp only at hSw); go_simp; try with_reducible rfl)
    try simp only [Act.put, List.setIfInBounds_toArray, List.set_cons_zero, List.set_cons_succ]
    refine wpAnyH_done (by kernel_rfl) ?_ _
    go_wp2
    go_ret
    exact ⟨rfl, HI19.out.below⟩
  · have MJ' := Lib.hid (MJ.out.trans (rfl : _ = true))
    have MD' := Lib.hid (MD.out.trans (rfl : _ = true))
    go_enter Try.func11, Try.ntmps11
    go_wp2_with (first
      | (go_at_call 45; refine (sameRef v12 v4 j j _ (HI12.out.rd (v12, j) (by simp)) (HI12.out.rd (v4, j) (by simp)) (by omega) AJ.out AJ.out).mono ?_; rw [decide_eq_true (rfl : j = j)]; rintro e w13 ⟨rfl, hb⟩; have HI13 := Lib.hid (HI12.out.next hb.below); clear hb; have f0 := HI13.out.f0; have f1 := HI13.out.f1)
      | (go_at_call 49; refine (joinCalls v11 v3 d y _ (HI11.out.rd (v11, d) (by simp)) (HI11.out.rd (v3, y) (by simp)) (by omega) AD.out AY.out).mono ?_; rw [HJ3.out]; rintro e w12 ⟨⟨v12, rfl, ho⟩, hb⟩; have HI12 := Lib.hid (HI11.out.made ho hb); clear ho hb)
      | (go_at_call 55; refine (lessCalls v2 v3 x y _ (HI10.out.rd (v2, x) (by simp)) (HI10.out.rd (v3, y) (by simp)) RY.out (by omega) AX.out (by omega) AY.out).mono ?_; rw [HD.out]; rintro e w11 ⟨⟨v11, rfl, ho⟩, hb⟩; have HI11 := Lib.hid (HI10.out.made ho hb); clear ho hb)
      | (go_at_call 45; refine (sameRef v9 v2 x x _ (HI9.out.rd (v9, x) (by simp)) (HI9.out.rd (v2, x) (by simp)) (by omega) AX.out AX.out).mono ?_; rw [decide_eq_true (rfl : x = x)]; rintro e w10 ⟨rfl, hb⟩; have HI10 := Lib.hid (HI9.out.next hb.below); clear hb)
      | (go_at_call 47; refine (ofCalls v8 (x ++ x) _ (HI8.out.rd (v8, x ++ x) (by simp)) (by simp; omega) AXX.out).mono ?_; rw [HXX.out]; rintro e w9 ⟨⟨v9, rfl, ho⟩, hb⟩; have HI9 := Lib.hid (HI8.out.made ho hb); clear ho hb)
      | (at_builtin; refine wpList_append_many_w (B := w6.heap.size) (e := 57) (S := fun q => q < w6.heap.size) (by rfl) _ _ 55 (by rfl) RFact.steady RFact.one rowFacts _ ([] ++ x) (by rfl) HO7.out v2 x (by rfl) (((HI6.out.rd (v2, x) (by simp)).more RFact.steady (S' := fun q => q < w6.heap.size) (fun _ _ h => h)).agree RFact.steady (Below.agree HB7.out)) (fun cs x' hr => RFact.steady.more (fun q hq _ => ⟨hq, fun e => by have := (HO7.out.row_lt e.symm).1; omega⟩) hr) (by simp; omega) HB7.out.size ?_; intro v8 w8 hown8 hg8 hat8; have HI8 := Lib.hid ((HI6.out).made (show Owned 2 RFact w6.heap.size 57 (fun q => q < w6.heap.size) w8 v8 (x ++ x) from hown8) (HB7.out.grown hg8 HB7.out.size (fun q hq => (HO7.out.row_lt hq).1))); clear hown8 hg8 hat8)
      | (at_builtin; have HM := Lib.hid (Owned.made (α := PFact) (k := 2) (R := RFact) (B := w6.heap.size) (e := 57) (S := fun q => q < w6.heap.size) (w := w6) (cur := #[]) (cap := 0) (Nat.le_refl _) (Nat.zero_le _) rfl); refine wpList_append_many_w (B := w6.heap.size) (e := 57) (S := fun q => q < w6.heap.size) (by rfl) _ _ 55 (by rfl) RFact.steady RFact.one rowFacts _ [] (by rfl) HM.out v2 x (by rfl) (((HI6.out.rd (v2, x) (by simp)).more RFact.steady (S' := fun q => q < w6.heap.size) (fun _ _ h => h)).agree RFact.steady ((Agree.refl _ _).alloc _)) (fun cs x' hr => RFact.steady.more (fun q hq _ => ⟨hq, fun e => by have := (HM.out.row_lt e.symm).1; omega⟩) hr) (by simp; omega) (by simp) ?_; intro v7 w7 hown7 hg7 hat7; have HO7 := Lib.hid hown7; have HB7 := Lib.hid (((Below.refl w6.heap.size w6).alloc (Nat.le_refl _) _).grown hg7 (by simp) (fun q hq => (HM.out.row_lt hq).1)); clear hown7 hg7 hat7)
      | (go_at_call 45; refine (sameRef v4 v5 j j _ (HI5.out.rd (v4, j) (by simp)) (HI5.out.rd (v5, j) (by simp)) (by omega) AJ.out AJ.out).mono ?_; rw [decide_eq_true (rfl : j = j)]; rintro e w6 ⟨rfl, hb⟩; have HI6 := Lib.hid (HI5.out.next hb.below); clear hb)
      | (go_at_call 49; refine (joinCalls v3 v2 y x _ (HI4.out.rd (v3, y) (by simp)) (HI4.out.rd (v2, x) (by simp)) (by omega) AY.out AX.out).mono ?_; rw [HJ2.out]; rintro e w5 ⟨⟨v5, rfl, ho⟩, hb⟩; have HI5 := Lib.hid (HI4.out.made ho hb); clear ho hb)
      | (go_at_call 49; refine (joinCalls v2 v3 x y _ (HI3.out.rd (v2, x) (by simp)) (HI3.out.rd (v3, y) (by simp)) (by omega) AX.out AY.out).mono ?_; rw [HJ.out]; rintro e w4 ⟨⟨v4, rfl, ho⟩, hb⟩; have HI4 := Lib.hid (HI3.out.made ho hb); clear ho hb)
      | (go_at_call 47; refine (ofCalls vb b _ (HI2.out.rd (vb, b) (by simp)) (by omega) N4.out).mono ?_; rw [HY.out]; rintro e w3 ⟨⟨v3, rfl, ho⟩, hb⟩; have HI3 := Lib.hid (HI2.out.made ho hb); clear ho hb)
      | (go_at_call 47; refine (ofCalls va a _ (HI1.out.rd (va, a) (by simp)) (by omega) N3.out).mono ?_; rw [HX.out]; rintro e w2 ⟨⟨v2, rfl, ho⟩, hb⟩; have HI2 := Lib.hid (HI1.out.made ho hb); clear ho hb)
      | (go_at_call 57; refine (alive1Calls _).mono ?_; rintro e w1 ⟨rfl, hb⟩; have HI1 := Lib.hid (HS.out.next hb); clear hb)
      )
    refine wp_region_held_drew (S := (fun w' => w'.cell? ⟨w.heap.size, 0, none⟩ = some (.string f.name) ∧ w'.cell? ⟨w.heap.size, 1, none⟩ = some fv)) (by kernel_rfl) ?_ (fun hHeld => ?_)
    · exact ⟨HI13.out.drew.f0, HI13.out.drew.f1⟩
    refine wpAnyH_take (i := 0) (oi := ⟨some 46, _, _, _, _, _⟩) (v := ?_) rfl (by kernel_rfl) (by kernel_rfl) (by kernel_rfl) (fun _ _ _ h => h) (Or.inl ⟨by rfl, ?_⟩) (by assumption) ?_
    rotate_left
    · (intro w' hSw; (try dsimp only at hSw); go_simp; try with_reducible rfl)
    try simp only [Act.put, List.setIfInBounds_toArray, List.set_cons_zero, List.set_cons_succ]
    refine wpAnyH_take (i := 1) (oi := ⟨some 47, _, _, _, _, _⟩) (v := ?_) rfl (by kernel_rfl) (by kernel_rfl) (by kernel_rfl) (fun _ _ _ h => h) (Or.inl ⟨by rfl, ?_⟩) (by assumption) ?_
    rotate_left
    · (intro w' hSw; (try dsimp only at hSw); go_simp; try with_reducible rfl)
    try simp only [Act.put, List.setIfInBounds_toArray, List.set_cons_zero, List.set_cons_succ]
    refine wpAnyH_take (i := 3) (oi := ⟨some 49, _, _, _, _, _⟩) (v := ?_) rfl (by kernel_rfl) (by kernel_rfl) (by kernel_rfl) (fun _ _ _ h => h) (Or.inl ⟨by rfl, ?_⟩) (by assumption) ?_
    rotate_left
    · (intro w' hSw; (try dsimp only at hSw); go_simp; try with_reducible rfl)
    try simp only [Act.put, List.setIfInBounds_toArray, List.set_cons_zero, List.set_cons_succ]
    refine wpAnyH_take (i := 4) (oi := ⟨some 50, _, _, _, _, _⟩) (v := ?_) rfl (by kernel_rfl) (by kernel_rfl) (by kernel_rfl) (fun _ _ _ h => h) (Or.inl ⟨by rfl, ?_⟩) (by assumption) ?_
    rotate_left
    · (intro w' hSw; (try dsimp only at hSw); go_simp; try with_reducible rfl)
    try simp only [Act.put, List.setIfInBounds_toArray, List.set_cons_zero, List.set_cons_succ]
    refine wpAnyH_ready (rs := [2]) (by kernel_rfl) (by simp) ?_
    refine AllReadyH.cons (o := ⟨some 48, _, _, _, _, _⟩) rfl (fun K hK => ?_) AllReadyH.nil
    go_simp
    (go_at_call 53; refine (inFact v4 j f fv _ (HI13.out.drew.rd (v4, j) (by simp)) HI13.out.drew.fr RJ.out (by omega) AJ.out).mono ?_; rw [MJ'.out]; rintro e w14 ⟨rfl, hb⟩; have HI14 := Lib.hid (HI13.out.drew.next hb.below); clear hb)
    refine hK.out _ _ ?_ (fun hHeld => ?_)
    · exact ⟨HI14.out.f0, HI14.out.f1⟩
    clear hK K
    try simp only [Act.put, List.setIfInBounds_toArray, List.set_cons_zero, List.set_cons_succ]
    refine wpAnyH_ready (rs := [5]) (by kernel_rfl) (by simp) ?_
    refine AllReadyH.cons (o := ⟨some 51, _, _, _, _, _⟩) rfl (fun K hK => ?_) AllReadyH.nil
    go_simp
    (go_at_call 53; refine (inFact v2 x f fv _ (HI14.out.rd (v2, x) (by simp)) HI14.out.fr RX.out (by omega) AX.out).mono ?_; rw [KX.out]; rintro e w15 ⟨rfl, hb⟩; have HI15 := Lib.hid (HI14.out.next hb.below); clear hb)
    refine hK.out _ _ ?_ (fun hHeld => ?_)
    · exact ⟨HI15.out.f0, HI15.out.f1⟩
    clear hK K
    try simp only [Act.put, List.setIfInBounds_toArray, List.set_cons_zero, List.set_cons_succ]
    refine wpAnyH_take (i := 6) (oi := ⟨some 52, _, _, _, _, _⟩) (v := ?_) rfl (by kernel_rfl) (by kernel_rfl) (by kernel_rfl) (fun _ _ _ h => h) (Or.inl ⟨by rfl, ?_⟩) (by assumption) ?_
    rotate_left
    · (intro w' hSw; (try dsimp only at hSw); go_simp; try with_reducible rfl)
    try simp only [Act.put, List.setIfInBounds_toArray, List.set_cons_zero, List.set_cons_succ]
    refine wpAnyH_take (i := 7) (oi := ⟨some 53, _, _, _, _, _⟩) (v := undef) rfl (by kernel_rfl) (by kernel_rfl) (by kernel_rfl) (fun _ _ _ h => h) (Or.inr ⟨by rfl, rfl⟩) (by assumption) ?_
    try simp only [Act.put, List.setIfInBounds_toArray, List.set_cons_zero, List.set_cons_succ]
    refine wpAnyH_take (i := 8) (oi := ⟨some 54, _, _, _, _, _⟩) (v := undef) rfl (by kernel_rfl) (by kernel_rfl) (by kernel_rfl) (fun _ _ _ h => h) (Or.inr ⟨by rfl, rfl⟩) (by assumption) ?_
    try simp only [Act.put, List.setIfInBounds_toArray, List.set_cons_zero, List.set_cons_succ]
    refine wpAnyH_take (i := 9) (oi := ⟨some 55, _, _, _, _, _⟩) (v := undef) rfl (by kernel_rfl) (by kernel_rfl) (by kernel_rfl) (fun _ _ _ h => h) (Or.inr ⟨by rfl, rfl⟩) (by assumption) ?_
    try simp only [Act.put, List.setIfInBounds_toArray, List.set_cons_zero, List.set_cons_succ]
    refine wpAnyH_take (i := 10) (oi := ⟨some 56, _, _, _, _, _⟩) (v := ?_) rfl (by kernel_rfl) (by kernel_rfl) (by kernel_rfl) (fun _ _ _ h => h) (Or.inl ⟨by rfl, ?_⟩) (by assumption) ?_
    rotate_left
    · (intro w' hSw; (try dsimp only at hSw); go_simp; try with_reducible rfl)
    try simp only [Act.put, List.setIfInBounds_toArray, List.set_cons_zero, List.set_cons_succ]
    refine wpAnyH_take (i := 11) (oi := ⟨some 57, _, _, _, _, _⟩) (v := ?_) rfl (by kernel_rfl) (by kernel_rfl) (by kernel_rfl) (fun _ _ _ h => h) (Or.inl ⟨by rfl, ?_⟩) (by assumption) ?_
    rotate_left
    · (intro w' hSw; (try dsimp only at hSw); go_simp; try with_reducible rfl)
    try simp only [Act.put, List.setIfInBounds_toArray, List.set_cons_zero, List.set_cons_succ]
    refine wpAnyH_take (i := 12) (oi := ⟨some 58, _, _, _, _, _⟩) (v := ?_) rfl (by kernel_rfl) (by kernel_rfl) (by kernel_rfl) (fun _ _ _ h => h) (Or.inl ⟨by rfl, ?_⟩) (by assumption) ?_
    rotate_left
    · (intro w' hSw; (try dsimp only at hSw); go_simp; try with_reducible rfl)
    try simp only [Act.put, List.setIfInBounds_toArray, List.set_cons_zero, List.set_cons_succ]
    refine wpAnyH_take (i := 13) (oi := ⟨some 59, _, _, _, _, _⟩) (v := ?_) rfl (by kernel_rfl) (by kernel_rfl) (by kernel_rfl) (fun _ _ _ h => h) (Or.inl ⟨by rfl, ?_⟩) (by assumption) ?_
    rotate_left
    · (intro w' hSw; (try dsimp only at hSw); go_simp; try with_reducible rfl)
    try simp only [Act.put, List.setIfInBounds_toArray, List.set_cons_zero, List.set_cons_succ]
    refine wpAnyH_take (i := 14) (oi := ⟨some 60, _, _, _, _, _⟩) (v := ?_) rfl (by kernel_rfl) (by kernel_rfl) (by kernel_rfl) (fun _ _ _ h => h) (Or.inl ⟨by rfl, ?_⟩) (by assumption) ?_
    rotate_left
    · (intro w' hSw; (try dsimp only at hSw); go_simp; try with_reducible rfl)
    try simp only [Act.put, List.setIfInBounds_toArray, List.set_cons_zero, List.set_cons_succ]
    refine wpAnyH_take (i := 16) (oi := ⟨some 62, _, _, _, _, _⟩) (v := ?_) rfl (by kernel_rfl) (by kernel_rfl) (by kernel_rfl) (fun _ _ _ h => h) (Or.inl ⟨by rfl, ?_⟩) (by assumption) ?_
    rotate_left
    · (intro w' hSw; (try dsimp only at hSw); go_simp; try with_reducible rfl)
    try simp only [Act.put, List.setIfInBounds_toArray, List.set_cons_zero, List.set_cons_succ]
    refine wpAnyH_take (i := 18) (oi := ⟨some 64, _, _, _, _, _⟩) (v := ?_) rfl (by kernel_rfl) (by kernel_rfl) (by kernel_rfl) (fun _ _ _ h => h) (Or.inl ⟨by rfl, ?_⟩) (by assumption) ?_
    rotate_left
    · (intro w' hSw; (try dsimp only at hSw); go_simp; try with_reducible rfl)
    try simp only [Act.put, List.setIfInBounds_toArray, List.set_cons_zero, List.set_cons_succ]
    refine wpAnyH_take (i := 19) (oi := ⟨some 65, _, _, _, _, _⟩) (v := ?_) rfl (by kernel_rfl) (by kernel_rfl) (by kernel_rfl) (fun _ _ _ h => h) (Or.inl ⟨by rfl, ?_⟩) (by assumption) ?_
    rotate_left
    · (intro w' hSw; (try dsimp only at hSw); go_simp; try with_reducible rfl)
    try simp only [Act.put, List.setIfInBounds_toArray, List.set_cons_zero, List.set_cons_succ]
    refine wpAnyH_ready (rs := [15]) (by kernel_rfl) (by simp) ?_
    refine AllReadyH.cons (o := ⟨some 61, _, _, _, _, _⟩) rfl (fun K hK => ?_) AllReadyH.nil
    go_simp
    (go_at_call 55; refine (lessCalls v2 v3 x y _ (HI15.out.rd (v2, x) (by simp)) (HI15.out.rd (v3, y) (by simp)) RY.out (by omega) AX.out (by omega) AY.out).mono ?_; rw [HD.out]; rintro e w16 ⟨⟨v17, rfl, ho⟩, hb⟩; have HI16 := Lib.hid (HI15.out.made ho hb); clear ho hb)
    refine hK.out _ _ ?_ (fun hHeld => ?_)
    · exact ⟨HI16.out.f0, HI16.out.f1⟩
    clear hK K
    try simp only [Act.put, List.setIfInBounds_toArray, List.set_cons_zero, List.set_cons_succ]
    refine wpAnyH_ready (rs := [17]) (by kernel_rfl) (by simp) ?_
    refine AllReadyH.cons (o := ⟨some 63, _, _, _, _, _⟩) rfl (fun K hK => ?_) AllReadyH.nil
    go_simp
    (go_at_call 53; refine (inFact v17 d f fv _ (HI16.out.rd (v17, d) (by simp)) HI16.out.fr RD.out (by omega) AD.out).mono ?_; rw [MD'.out]; rintro e w17 ⟨rfl, hb⟩; have HI17 := Lib.hid (HI16.out.next hb.below); clear hb)
    refine hK.out _ _ ?_ (fun hHeld => ?_)
    · exact ⟨HI17.out.f0, HI17.out.f1⟩
    clear hK K
    try simp only [Act.put, List.setIfInBounds_toArray, List.set_cons_zero, List.set_cons_succ]
    refine wpAnyH_ready (rs := [20]) (by kernel_rfl) (by simp) ?_
    refine AllReadyH.cons (o := ⟨some 66, _, _, _, _, _⟩) rfl (fun K hK => ?_) AllReadyH.nil
    go_simp
    (go_at_call 53; refine (inFact v2 x f fv _ (HI17.out.rd (v2, x) (by simp)) HI17.out.fr RX.out (by omega) AX.out).mono ?_; rw [KX.out]; rintro e w18 ⟨rfl, hb⟩; have HI18 := Lib.hid (HI17.out.next hb.below); clear hb)
    refine hK.out _ _ ?_ (fun hHeld => ?_)
    · exact ⟨HI18.out.f0, HI18.out.f1⟩
    clear hK K
    try simp only [Act.put, List.setIfInBounds_toArray, List.set_cons_zero, List.set_cons_succ]
    refine wpAnyH_take (i := 21) (oi := ⟨some 67, _, _, _, _, _⟩) (v := ?_) rfl (by kernel_rfl) (by kernel_rfl) (by kernel_rfl) (fun _ _ _ h => h) (Or.inl ⟨by rfl, ?_⟩) (by assumption) ?_
    rotate_left
    · (intro w' hSw; (try dsimp only at hSw); go_simp; try with_reducible rfl)
    try simp only [Act.put, List.setIfInBounds_toArray, List.set_cons_zero, List.set_cons_succ]
    refine wpAnyH_take (i := 22) (oi := ⟨some 68, _, _, _, _, _⟩) (v := ?_) rfl (by kernel_rfl) (by kernel_rfl) (by kernel_rfl) (fun _ _ _ h => h) (Or.inl ⟨by rfl, ?_⟩) (by assumption) ?_
    rotate_left
    · (intro w' hSw; (try dsimp only at hSw); go_simp; try with_reducible rfl)
    try simp only [Act.put, List.setIfInBounds_toArray, List.set_cons_zero, List.set_cons_succ]
    refine wpAnyH_take (i := 23) (oi := ⟨some 69, _, _, _, _, _⟩) (v := ?_) rfl (by kernel_rfl) (by kernel_rfl) (by kernel_rfl) (fun _ _ _ h => h) (Or.inl ⟨by rfl, ?_⟩) (by assumption) ?_
    rotate_left
    · (intro w' hSw; (try dsimp only at hSw); go_simp; try with_reducible rfl)
    try simp only [Act.put, List.setIfInBounds_toArray, List.set_cons_zero, List.set_cons_succ]
    refine wpAnyH_ready (rs := [24]) (by kernel_rfl) (by simp) ?_
    refine AllReadyH.cons (o := ⟨some 70, _, _, _, _, _⟩) rfl (fun K hK => ?_) AllReadyH.nil
    go_simp
    (go_at_call 53; refine (inFact v3 y f fv _ (HI18.out.rd (v3, y) (by simp)) HI18.out.fr RY.out (by omega) AY.out).mono ?_; rw [KY.out]; rintro e w19 ⟨rfl, hb⟩; have HI19 := Lib.hid (HI18.out.next hb.below); clear hb)
    refine hK.out _ _ ?_ (fun hHeld => ?_)
    · exact ⟨HI19.out.f0, HI19.out.f1⟩
    clear hK K
    try simp only [Act.put, List.setIfInBounds_toArray, List.set_cons_zero, List.set_cons_succ]
    refine wpAnyH_take (i := 25) (oi := ⟨some 71, _, _, _, _, _⟩) (v := ?_) rfl (by kernel_rfl) (by kernel_rfl) (by kernel_rfl) (fun _ _ _ h => h) (Or.inl ⟨by rfl, ?_⟩) (by assumption) ?_
    rotate_left
    · (intro w' hSw; (try dsimp only at hSw); go_simp; try with_reducible rfl)
    try simp only [Act.put, List.setIfInBounds_toArray, List.set_cons_zero, List.set_cons_succ]
    refine wpAnyH_take (i := 26) (oi := ⟨some 72, _, _, _, _, _⟩) (v := ?_) rfl (by kernel_rfl) (by kernel_rfl) (by kernel_rfl) (fun _ _ _ h => h) (Or.inl ⟨by rfl, ?_⟩) (by assumption) ?_
    rotate_left
    · (intro w' hSw; (try dsimp only at hSw); go_simp; try with_reducible rfl)
    try simp only [Act.put, List.setIfInBounds_toArray, List.set_cons_zero, List.set_cons_succ]
    refine wpAnyH_take (i := 27) (oi := ⟨some 73, _, _, _, _, _⟩) (v := ?_) rfl (by kernel_rfl) (by kernel_rfl) (by kernel_rfl) (fun _ _ _ h => h) (Or.inl ⟨by rfl, ?_⟩) (by assumption) ?_
    rotate_left
    · (intro w' hSw; (try dsimp only at hSw); go_simp; try with_reducible rfl)
    try simp only [Act.put, List.setIfInBounds_toArray, List.set_cons_zero, List.set_cons_succ]
    refine wpAnyH_take (i := 28) (oi := ⟨some 74, _, _, _, _, _⟩) (v := ?_) rfl (by kernel_rfl) (by kernel_rfl) (by kernel_rfl) (fun _ _ _ h => h) (Or.inl ⟨by rfl, ?_⟩) (by assumption) ?_
    rotate_left
    · (intro w' hSw; (try dsimp only at hSw); go_simp; try with_reducible rfl)
    try simp only [Act.put, List.setIfInBounds_toArray, List.set_cons_zero, List.set_cons_succ]
    refine wpAnyH_take (i := 29) (oi := ⟨some 6, _, _, _, _, _⟩) (v := ?_) rfl (by kernel_rfl) (by kernel_rfl) (by kernel_rfl) (fun _ _ _ h => h) (Or.inl ⟨by rfl, ?_⟩) (by assumption) ?_
    rotate_left
    · (intro w' hSw; (try dsimp only at hSw); go_simp; try with_reducible rfl)
    try simp only [Act.put, List.setIfInBounds_toArray, List.set_cons_zero, List.set_cons_succ]
    refine wpAnyH_done (by kernel_rfl) ?_ _
    go_wp2
    go_ret
    exact ⟨rfl, HI19.out.below⟩
  · have MJ' := Lib.hid (MJ.out.trans (rfl : _ = true))
    have MD' := Lib.hid (MD.out.trans (rfl : _ = false))
    go_enter Try.func11, Try.ntmps11
    go_wp2_with (first
      | (go_at_call 45; refine (sameRef v12 v4 j j _ (HI12.out.rd (v12, j) (by simp)) (HI12.out.rd (v4, j) (by simp)) (by omega) AJ.out AJ.out).mono ?_; rw [decide_eq_true (rfl : j = j)]; rintro e w13 ⟨rfl, hb⟩; have HI13 := Lib.hid (HI12.out.next hb.below); clear hb; have f0 := HI13.out.f0; have f1 := HI13.out.f1)
      | (go_at_call 49; refine (joinCalls v11 v3 d y _ (HI11.out.rd (v11, d) (by simp)) (HI11.out.rd (v3, y) (by simp)) (by omega) AD.out AY.out).mono ?_; rw [HJ3.out]; rintro e w12 ⟨⟨v12, rfl, ho⟩, hb⟩; have HI12 := Lib.hid (HI11.out.made ho hb); clear ho hb)
      | (go_at_call 55; refine (lessCalls v2 v3 x y _ (HI10.out.rd (v2, x) (by simp)) (HI10.out.rd (v3, y) (by simp)) RY.out (by omega) AX.out (by omega) AY.out).mono ?_; rw [HD.out]; rintro e w11 ⟨⟨v11, rfl, ho⟩, hb⟩; have HI11 := Lib.hid (HI10.out.made ho hb); clear ho hb)
      | (go_at_call 45; refine (sameRef v9 v2 x x _ (HI9.out.rd (v9, x) (by simp)) (HI9.out.rd (v2, x) (by simp)) (by omega) AX.out AX.out).mono ?_; rw [decide_eq_true (rfl : x = x)]; rintro e w10 ⟨rfl, hb⟩; have HI10 := Lib.hid (HI9.out.next hb.below); clear hb)
      | (go_at_call 47; refine (ofCalls v8 (x ++ x) _ (HI8.out.rd (v8, x ++ x) (by simp)) (by simp; omega) AXX.out).mono ?_; rw [HXX.out]; rintro e w9 ⟨⟨v9, rfl, ho⟩, hb⟩; have HI9 := Lib.hid (HI8.out.made ho hb); clear ho hb)
      | (at_builtin; refine wpList_append_many_w (B := w6.heap.size) (e := 57) (S := fun q => q < w6.heap.size) (by rfl) _ _ 55 (by rfl) RFact.steady RFact.one rowFacts _ ([] ++ x) (by rfl) HO7.out v2 x (by rfl) (((HI6.out.rd (v2, x) (by simp)).more RFact.steady (S' := fun q => q < w6.heap.size) (fun _ _ h => h)).agree RFact.steady (Below.agree HB7.out)) (fun cs x' hr => RFact.steady.more (fun q hq _ => ⟨hq, fun e => by have := (HO7.out.row_lt e.symm).1; omega⟩) hr) (by simp; omega) HB7.out.size ?_; intro v8 w8 hown8 hg8 hat8; have HI8 := Lib.hid ((HI6.out).made (show Owned 2 RFact w6.heap.size 57 (fun q => q < w6.heap.size) w8 v8 (x ++ x) from hown8) (HB7.out.grown hg8 HB7.out.size (fun q hq => (HO7.out.row_lt hq).1))); clear hown8 hg8 hat8)
      | (at_builtin; have HM := Lib.hid (Owned.made (α := PFact) (k := 2) (R := RFact) (B := w6.heap.size) (e := 57) (S := fun q => q < w6.heap.size) (w := w6) (cur := #[]) (cap := 0) (Nat.le_refl _) (Nat.zero_le _) rfl); refine wpList_append_many_w (B := w6.heap.size) (e := 57) (S := fun q => q < w6.heap.size) (by rfl) _ _ 55 (by rfl) RFact.steady RFact.one rowFacts _ [] (by rfl) HM.out v2 x (by rfl) (((HI6.out.rd (v2, x) (by simp)).more RFact.steady (S' := fun q => q < w6.heap.size) (fun _ _ h => h)).agree RFact.steady ((Agree.refl _ _).alloc _)) (fun cs x' hr => RFact.steady.more (fun q hq _ => ⟨hq, fun e => by have := (HM.out.row_lt e.symm).1; omega⟩) hr) (by simp; omega) (by simp) ?_; intro v7 w7 hown7 hg7 hat7; have HO7 := Lib.hid hown7; have HB7 := Lib.hid (((Below.refl w6.heap.size w6).alloc (Nat.le_refl _) _).grown hg7 (by simp) (fun q hq => (HM.out.row_lt hq).1)); clear hown7 hg7 hat7)
      | (go_at_call 45; refine (sameRef v4 v5 j j _ (HI5.out.rd (v4, j) (by simp)) (HI5.out.rd (v5, j) (by simp)) (by omega) AJ.out AJ.out).mono ?_; rw [decide_eq_true (rfl : j = j)]; rintro e w6 ⟨rfl, hb⟩; have HI6 := Lib.hid (HI5.out.next hb.below); clear hb)
      | (go_at_call 49; refine (joinCalls v3 v2 y x _ (HI4.out.rd (v3, y) (by simp)) (HI4.out.rd (v2, x) (by simp)) (by omega) AY.out AX.out).mono ?_; rw [HJ2.out]; rintro e w5 ⟨⟨v5, rfl, ho⟩, hb⟩; have HI5 := Lib.hid (HI4.out.made ho hb); clear ho hb)
      | (go_at_call 49; refine (joinCalls v2 v3 x y _ (HI3.out.rd (v2, x) (by simp)) (HI3.out.rd (v3, y) (by simp)) (by omega) AX.out AY.out).mono ?_; rw [HJ.out]; rintro e w4 ⟨⟨v4, rfl, ho⟩, hb⟩; have HI4 := Lib.hid (HI3.out.made ho hb); clear ho hb)
      | (go_at_call 47; refine (ofCalls vb b _ (HI2.out.rd (vb, b) (by simp)) (by omega) N4.out).mono ?_; rw [HY.out]; rintro e w3 ⟨⟨v3, rfl, ho⟩, hb⟩; have HI3 := Lib.hid (HI2.out.made ho hb); clear ho hb)
      | (go_at_call 47; refine (ofCalls va a _ (HI1.out.rd (va, a) (by simp)) (by omega) N3.out).mono ?_; rw [HX.out]; rintro e w2 ⟨⟨v2, rfl, ho⟩, hb⟩; have HI2 := Lib.hid (HI1.out.made ho hb); clear ho hb)
      | (go_at_call 57; refine (alive1Calls _).mono ?_; rintro e w1 ⟨rfl, hb⟩; have HI1 := Lib.hid (HS.out.next hb); clear hb)
      )
    refine wp_region_held_drew (S := (fun w' => w'.cell? ⟨w.heap.size, 0, none⟩ = some (.string f.name) ∧ w'.cell? ⟨w.heap.size, 1, none⟩ = some fv)) (by kernel_rfl) ?_ (fun hHeld => ?_)
    · exact ⟨HI13.out.drew.f0, HI13.out.drew.f1⟩
    refine wpAnyH_take (i := 0) (oi := ⟨some 46, _, _, _, _, _⟩) (v := ?_) rfl (by kernel_rfl) (by kernel_rfl) (by kernel_rfl) (fun _ _ _ h => h) (Or.inl ⟨by rfl, ?_⟩) (by assumption) ?_
    rotate_left
    · (intro w' hSw; (try dsimp only at hSw); go_simp; try with_reducible rfl)
    try simp only [Act.put, List.setIfInBounds_toArray, List.set_cons_zero, List.set_cons_succ]
    refine wpAnyH_take (i := 1) (oi := ⟨some 47, _, _, _, _, _⟩) (v := ?_) rfl (by kernel_rfl) (by kernel_rfl) (by kernel_rfl) (fun _ _ _ h => h) (Or.inl ⟨by rfl, ?_⟩) (by assumption) ?_
    rotate_left
    · (intro w' hSw; (try dsimp only at hSw); go_simp; try with_reducible rfl)
    try simp only [Act.put, List.setIfInBounds_toArray, List.set_cons_zero, List.set_cons_succ]
    refine wpAnyH_take (i := 3) (oi := ⟨some 49, _, _, _, _, _⟩) (v := ?_) rfl (by kernel_rfl) (by kernel_rfl) (by kernel_rfl) (fun _ _ _ h => h) (Or.inl ⟨by rfl, ?_⟩) (by assumption) ?_
    rotate_left
    · (intro w' hSw; (try dsimp only at hSw); go_simp; try with_reducible rfl)
    try simp only [Act.put, List.setIfInBounds_toArray, List.set_cons_zero, List.set_cons_succ]
    refine wpAnyH_take (i := 4) (oi := ⟨some 50, _, _, _, _, _⟩) (v := ?_) rfl (by kernel_rfl) (by kernel_rfl) (by kernel_rfl) (fun _ _ _ h => h) (Or.inl ⟨by rfl, ?_⟩) (by assumption) ?_
    rotate_left
    · (intro w' hSw; (try dsimp only at hSw); go_simp; try with_reducible rfl)
    try simp only [Act.put, List.setIfInBounds_toArray, List.set_cons_zero, List.set_cons_succ]
    refine wpAnyH_ready (rs := [2]) (by kernel_rfl) (by simp) ?_
    refine AllReadyH.cons (o := ⟨some 48, _, _, _, _, _⟩) rfl (fun K hK => ?_) AllReadyH.nil
    go_simp
    (go_at_call 53; refine (inFact v4 j f fv _ (HI13.out.drew.rd (v4, j) (by simp)) HI13.out.drew.fr RJ.out (by omega) AJ.out).mono ?_; rw [MJ'.out]; rintro e w14 ⟨rfl, hb⟩; have HI14 := Lib.hid (HI13.out.drew.next hb.below); clear hb)
    refine hK.out _ _ ?_ (fun hHeld => ?_)
    · exact ⟨HI14.out.f0, HI14.out.f1⟩
    clear hK K
    try simp only [Act.put, List.setIfInBounds_toArray, List.set_cons_zero, List.set_cons_succ]
    refine wpAnyH_ready (rs := [5]) (by kernel_rfl) (by simp) ?_
    refine AllReadyH.cons (o := ⟨some 51, _, _, _, _, _⟩) rfl (fun K hK => ?_) AllReadyH.nil
    go_simp
    (go_at_call 53; refine (inFact v2 x f fv _ (HI14.out.rd (v2, x) (by simp)) HI14.out.fr RX.out (by omega) AX.out).mono ?_; rw [KX.out]; rintro e w15 ⟨rfl, hb⟩; have HI15 := Lib.hid (HI14.out.next hb.below); clear hb)
    refine hK.out _ _ ?_ (fun hHeld => ?_)
    · exact ⟨HI15.out.f0, HI15.out.f1⟩
    clear hK K
    try simp only [Act.put, List.setIfInBounds_toArray, List.set_cons_zero, List.set_cons_succ]
    refine wpAnyH_take (i := 6) (oi := ⟨some 52, _, _, _, _, _⟩) (v := ?_) rfl (by kernel_rfl) (by kernel_rfl) (by kernel_rfl) (fun _ _ _ h => h) (Or.inl ⟨by rfl, ?_⟩) (by assumption) ?_
    rotate_left
    · (intro w' hSw; (try dsimp only at hSw); go_simp; try with_reducible rfl)
    try simp only [Act.put, List.setIfInBounds_toArray, List.set_cons_zero, List.set_cons_succ]
    refine wpAnyH_take (i := 7) (oi := ⟨some 53, _, _, _, _, _⟩) (v := undef) rfl (by kernel_rfl) (by kernel_rfl) (by kernel_rfl) (fun _ _ _ h => h) (Or.inr ⟨by rfl, rfl⟩) (by assumption) ?_
    try simp only [Act.put, List.setIfInBounds_toArray, List.set_cons_zero, List.set_cons_succ]
    refine wpAnyH_take (i := 8) (oi := ⟨some 54, _, _, _, _, _⟩) (v := undef) rfl (by kernel_rfl) (by kernel_rfl) (by kernel_rfl) (fun _ _ _ h => h) (Or.inr ⟨by rfl, rfl⟩) (by assumption) ?_
    try simp only [Act.put, List.setIfInBounds_toArray, List.set_cons_zero, List.set_cons_succ]
    refine wpAnyH_take (i := 9) (oi := ⟨some 55, _, _, _, _, _⟩) (v := undef) rfl (by kernel_rfl) (by kernel_rfl) (by kernel_rfl) (fun _ _ _ h => h) (Or.inr ⟨by rfl, rfl⟩) (by assumption) ?_
    try simp only [Act.put, List.setIfInBounds_toArray, List.set_cons_zero, List.set_cons_succ]
    refine wpAnyH_take (i := 10) (oi := ⟨some 56, _, _, _, _, _⟩) (v := ?_) rfl (by kernel_rfl) (by kernel_rfl) (by kernel_rfl) (fun _ _ _ h => h) (Or.inl ⟨by rfl, ?_⟩) (by assumption) ?_
    rotate_left
    · (intro w' hSw; (try dsimp only at hSw); go_simp; try with_reducible rfl)
    try simp only [Act.put, List.setIfInBounds_toArray, List.set_cons_zero, List.set_cons_succ]
    refine wpAnyH_take (i := 11) (oi := ⟨some 57, _, _, _, _, _⟩) (v := ?_) rfl (by kernel_rfl) (by kernel_rfl) (by kernel_rfl) (fun _ _ _ h => h) (Or.inl ⟨by rfl, ?_⟩) (by assumption) ?_
    rotate_left
    · (intro w' hSw; (try dsimp only at hSw); go_simp; try with_reducible rfl)
    try simp only [Act.put, List.setIfInBounds_toArray, List.set_cons_zero, List.set_cons_succ]
    refine wpAnyH_take (i := 12) (oi := ⟨some 58, _, _, _, _, _⟩) (v := ?_) rfl (by kernel_rfl) (by kernel_rfl) (by kernel_rfl) (fun _ _ _ h => h) (Or.inl ⟨by rfl, ?_⟩) (by assumption) ?_
    rotate_left
    · (intro w' hSw; (try dsimp only at hSw); go_simp; try with_reducible rfl)
    try simp only [Act.put, List.setIfInBounds_toArray, List.set_cons_zero, List.set_cons_succ]
    refine wpAnyH_take (i := 13) (oi := ⟨some 59, _, _, _, _, _⟩) (v := ?_) rfl (by kernel_rfl) (by kernel_rfl) (by kernel_rfl) (fun _ _ _ h => h) (Or.inl ⟨by rfl, ?_⟩) (by assumption) ?_
    rotate_left
    · (intro w' hSw; (try dsimp only at hSw); go_simp; try with_reducible rfl)
    try simp only [Act.put, List.setIfInBounds_toArray, List.set_cons_zero, List.set_cons_succ]
    refine wpAnyH_take (i := 14) (oi := ⟨some 60, _, _, _, _, _⟩) (v := ?_) rfl (by kernel_rfl) (by kernel_rfl) (by kernel_rfl) (fun _ _ _ h => h) (Or.inl ⟨by rfl, ?_⟩) (by assumption) ?_
    rotate_left
    · (intro w' hSw; (try dsimp only at hSw); go_simp; try with_reducible rfl)
    try simp only [Act.put, List.setIfInBounds_toArray, List.set_cons_zero, List.set_cons_succ]
    refine wpAnyH_take (i := 16) (oi := ⟨some 62, _, _, _, _, _⟩) (v := ?_) rfl (by kernel_rfl) (by kernel_rfl) (by kernel_rfl) (fun _ _ _ h => h) (Or.inl ⟨by rfl, ?_⟩) (by assumption) ?_
    rotate_left
    · (intro w' hSw; (try dsimp only at hSw); go_simp; try with_reducible rfl)
    try simp only [Act.put, List.setIfInBounds_toArray, List.set_cons_zero, List.set_cons_succ]
    refine wpAnyH_take (i := 18) (oi := ⟨some 64, _, _, _, _, _⟩) (v := ?_) rfl (by kernel_rfl) (by kernel_rfl) (by kernel_rfl) (fun _ _ _ h => h) (Or.inl ⟨by rfl, ?_⟩) (by assumption) ?_
    rotate_left
    · (intro w' hSw; (try dsimp only at hSw); go_simp; try with_reducible rfl)
    try simp only [Act.put, List.setIfInBounds_toArray, List.set_cons_zero, List.set_cons_succ]
    refine wpAnyH_take (i := 19) (oi := ⟨some 65, _, _, _, _, _⟩) (v := ?_) rfl (by kernel_rfl) (by kernel_rfl) (by kernel_rfl) (fun _ _ _ h => h) (Or.inl ⟨by rfl, ?_⟩) (by assumption) ?_
    rotate_left
    · (intro w' hSw; (try dsimp only at hSw); go_simp; try with_reducible rfl)
    try simp only [Act.put, List.setIfInBounds_toArray, List.set_cons_zero, List.set_cons_succ]
    refine wpAnyH_ready (rs := [15]) (by kernel_rfl) (by simp) ?_
    refine AllReadyH.cons (o := ⟨some 61, _, _, _, _, _⟩) rfl (fun K hK => ?_) AllReadyH.nil
    go_simp
    (go_at_call 55; refine (lessCalls v2 v3 x y _ (HI15.out.rd (v2, x) (by simp)) (HI15.out.rd (v3, y) (by simp)) RY.out (by omega) AX.out (by omega) AY.out).mono ?_; rw [HD.out]; rintro e w16 ⟨⟨v17, rfl, ho⟩, hb⟩; have HI16 := Lib.hid (HI15.out.made ho hb); clear ho hb)
    refine hK.out _ _ ?_ (fun hHeld => ?_)
    · exact ⟨HI16.out.f0, HI16.out.f1⟩
    clear hK K
    try simp only [Act.put, List.setIfInBounds_toArray, List.set_cons_zero, List.set_cons_succ]
    refine wpAnyH_ready (rs := [17]) (by kernel_rfl) (by simp) ?_
    refine AllReadyH.cons (o := ⟨some 63, _, _, _, _, _⟩) rfl (fun K hK => ?_) AllReadyH.nil
    go_simp
    (go_at_call 53; refine (inFact v17 d f fv _ (HI16.out.rd (v17, d) (by simp)) HI16.out.fr RD.out (by omega) AD.out).mono ?_; rw [MD'.out]; rintro e w17 ⟨rfl, hb⟩; have HI17 := Lib.hid (HI16.out.next hb.below); clear hb)
    refine hK.out _ _ ?_ (fun hHeld => ?_)
    · exact ⟨HI17.out.f0, HI17.out.f1⟩
    clear hK K
    try simp only [Act.put, List.setIfInBounds_toArray, List.set_cons_zero, List.set_cons_succ]
    refine wpAnyH_ready (rs := [20]) (by kernel_rfl) (by simp) ?_
    refine AllReadyH.cons (o := ⟨some 66, _, _, _, _, _⟩) rfl (fun K hK => ?_) AllReadyH.nil
    go_simp
    (go_at_call 53; refine (inFact v2 x f fv _ (HI17.out.rd (v2, x) (by simp)) HI17.out.fr RX.out (by omega) AX.out).mono ?_; rw [KX.out]; rintro e w18 ⟨rfl, hb⟩; have HI18 := Lib.hid (HI17.out.next hb.below); clear hb)
    refine hK.out _ _ ?_ (fun hHeld => ?_)
    · exact ⟨HI18.out.f0, HI18.out.f1⟩
    clear hK K
    try simp only [Act.put, List.setIfInBounds_toArray, List.set_cons_zero, List.set_cons_succ]
    refine wpAnyH_take (i := 21) (oi := ⟨some 67, _, _, _, _, _⟩) (v := ?_) rfl (by kernel_rfl) (by kernel_rfl) (by kernel_rfl) (fun _ _ _ h => h) (Or.inl ⟨by rfl, ?_⟩) (by assumption) ?_
    rotate_left
    · (intro w' hSw; (try dsimp only at hSw); go_simp; try with_reducible rfl)
    try simp only [Act.put, List.setIfInBounds_toArray, List.set_cons_zero, List.set_cons_succ]
    refine wpAnyH_take (i := 22) (oi := ⟨some 68, _, _, _, _, _⟩) (v := ?_) rfl (by kernel_rfl) (by kernel_rfl) (by kernel_rfl) (fun _ _ _ h => h) (Or.inl ⟨by rfl, ?_⟩) (by assumption) ?_
    rotate_left
    · (intro w' hSw; (try dsimp only at hSw); go_simp; try with_reducible rfl)
    try simp only [Act.put, List.setIfInBounds_toArray, List.set_cons_zero, List.set_cons_succ]
    refine wpAnyH_take (i := 23) (oi := ⟨some 69, _, _, _, _, _⟩) (v := ?_) rfl (by kernel_rfl) (by kernel_rfl) (by kernel_rfl) (fun _ _ _ h => h) (Or.inl ⟨by rfl, ?_⟩) (by assumption) ?_
    rotate_left
    · (intro w' hSw; (try dsimp only at hSw); go_simp; try with_reducible rfl)
    try simp only [Act.put, List.setIfInBounds_toArray, List.set_cons_zero, List.set_cons_succ]
    refine wpAnyH_ready (rs := [24]) (by kernel_rfl) (by simp) ?_
    refine AllReadyH.cons (o := ⟨some 70, _, _, _, _, _⟩) rfl (fun K hK => ?_) AllReadyH.nil
    go_simp
    (go_at_call 53; refine (inFact v3 y f fv _ (HI18.out.rd (v3, y) (by simp)) HI18.out.fr RY.out (by omega) AY.out).mono ?_; rw [KY.out]; rintro e w19 ⟨rfl, hb⟩; have HI19 := Lib.hid (HI18.out.next hb.below); clear hb)
    refine hK.out _ _ ?_ (fun hHeld => ?_)
    · exact ⟨HI19.out.f0, HI19.out.f1⟩
    clear hK K
    try simp only [Act.put, List.setIfInBounds_toArray, List.set_cons_zero, List.set_cons_succ]
    refine wpAnyH_take (i := 25) (oi := ⟨some 71, _, _, _, _, _⟩) (v := ?_) rfl (by kernel_rfl) (by kernel_rfl) (by kernel_rfl) (fun _ _ _ h => h) (Or.inl ⟨by rfl, ?_⟩) (by assumption) ?_
    rotate_left
    · (intro w' hSw; (try dsimp only at hSw); go_simp; try with_reducible rfl)
    try simp only [Act.put, List.setIfInBounds_toArray, List.set_cons_zero, List.set_cons_succ]
    refine wpAnyH_take (i := 26) (oi := ⟨some 72, _, _, _, _, _⟩) (v := ?_) rfl (by kernel_rfl) (by kernel_rfl) (by kernel_rfl) (fun _ _ _ h => h) (Or.inl ⟨by rfl, ?_⟩) (by assumption) ?_
    rotate_left
    · (intro w' hSw; (try dsimp only at hSw); go_simp; try with_reducible rfl)
    try simp only [Act.put, List.setIfInBounds_toArray, List.set_cons_zero, List.set_cons_succ]
    refine wpAnyH_take (i := 27) (oi := ⟨some 73, _, _, _, _, _⟩) (v := ?_) rfl (by kernel_rfl) (by kernel_rfl) (by kernel_rfl) (fun _ _ _ h => h) (Or.inl ⟨by rfl, ?_⟩) (by assumption) ?_
    rotate_left
    · (intro w' hSw; (try dsimp only at hSw); go_simp; try with_reducible rfl)
    try simp only [Act.put, List.setIfInBounds_toArray, List.set_cons_zero, List.set_cons_succ]
    refine wpAnyH_take (i := 28) (oi := ⟨some 74, _, _, _, _, _⟩) (v := ?_) rfl (by kernel_rfl) (by kernel_rfl) (by kernel_rfl) (fun _ _ _ h => h) (Or.inl ⟨by rfl, ?_⟩) (by assumption) ?_
    rotate_left
    · (intro w' hSw; (try dsimp only at hSw); go_simp; try with_reducible rfl)
    try simp only [Act.put, List.setIfInBounds_toArray, List.set_cons_zero, List.set_cons_succ]
    refine wpAnyH_take (i := 29) (oi := ⟨some 6, _, _, _, _, _⟩) (v := ?_) rfl (by kernel_rfl) (by kernel_rfl) (by kernel_rfl) (fun _ _ _ h => h) (Or.inl ⟨by rfl, ?_⟩) (by assumption) ?_
    rotate_left
    · (intro w' hSw; (try dsimp only at hSw); go_simp; try with_reducible rfl)
    try simp only [Act.put, List.setIfInBounds_toArray, List.set_cons_zero, List.set_cons_succ]
    refine wpAnyH_done (by kernel_rfl) ?_ _
    go_wp2
    go_ret
    exact ⟨rfl, HI19.out.below⟩
end Go.Proofs.Ytgdokncccldgiaa
