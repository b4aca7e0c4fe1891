/-
  THE WALK OF cororef1.WrongProgram: what check.Wrong tells.
-/
import Derived.Test.YtobbjapmdpkogaaCheckR2
import Derived.Test.YtobbjapmdpkogaaSynW4
import Derived.Test.YtobbjapmdpkogaaAppendW
namespace Go.Proofs.Ytobbjapmdpkogaa
open Go.RowKit Go.Maps

theorem Owned.lit {α : Type} {k : Nat} {R : Reader α} {B : Nat} {e : TypeId} {S : Nat → Prop} {w : World} {l : List α} (css : List (List Value)) (cs : Array Value) (hl : css.length = l.length) (hk : ∀ c ∈ css, c.length = k) (hc : cs.toList = css.flatten) (hs : cs.size = l.length * k)
    (hb : B ≤ w.heap.size) (hm : l.length ≤ maxLen) (hr : ∀ (i : Nat) (c : List Value) (x : α), css[i]? = some c → l[i]? = some x → R (fun b => S b ∧ some b ≠ some w.heap.size) (w.alloc (.cells cs e)) c x) :
    Owned k R B e S (w.alloc (.cells cs e)) (.slice (some ⟨w.heap.size, 0, none⟩) l.length l.length) l :=
  ⟨css, hl, hk, by have := World.ownsRow_lit (base := B) (size := k) (e := e) w cs l.length hb hm hs; rwa [hc] at this, hr⟩
theorem RAtom.one {S : Nat → Prop} {w : World} {cs : List Value} {x : PAtom} (h : RAtom S w cs x) : ∀ u ∈ cs, u.oneCell' = true := by
  obtain ⟨tv, rfl, hr⟩ := h
  obtain ⟨a, c, rfl, -⟩ := hr.form
  simp [Value.oneCell']

/-! ### Plain -/
def up1 (m : Known) : Known := fun s => (m s).map (· + 1)
theorem up1_learn {m : Known} {y : PAtom} (h : fits m y = true) : (fun t => if t = y.name then some ((y.terms.length : Int) + 1) else up1 m t) = up1 (learn m y) := by
  funext t
  unfold fits at h
  unfold up1 learn
  cases hm : m y.name with
  | none =>
    simp only [Option.isSome, Bool.false_eq_true, if_false]
    by_cases e : t = y.name
    · rw [if_pos e, if_pos e]; rfl
    · rw [if_neg e, if_neg e]
  | some n =>
    rw [hm] at h
    simp only [Option.isSome, if_true]
    by_cases e : t = y.name
    · rw [if_pos e, e, hm]
      have : n = (y.terms.length : Int) := by simpa using h
      rw [this]; rfl
    · rw [if_neg e]
theorem mem_allVars {v : Str} {l : List PAtom} : v ∈ allVars l ↔ ∃ a ∈ l, v ∈ varsOf a := by unfold allVars; rw [List.mem_flatMap]
theorem mem_heldOf {v : Str} {l : List PAtom} : v ∈ heldOf l ↔ ∃ a ∈ l, a.neg = false ∧ v ∈ varsOf a := by
  unfold heldOf
  rw [List.mem_flatMap]
  constructor
  · rintro ⟨a, ha, hv⟩
    cases hn : a.neg <;> rw [hn] at hv
    · exact ⟨a, ha, hn, by simpa using hv⟩
    · simp at hv
  · rintro ⟨a, ha, hn, hv⟩
    exact ⟨a, ha, by rw [hn]; simpa using hv⟩
theorem bound_all {l : List PAtom} (h : bodyBad l = 0) (vs : List Str) : boundIn (heldOf l) vs = vs.all fun v => memS v (allVars l) := by
  have hf : freeIn (heldOf l) l = true := by
    unfold bodyBad at h
    split at h
    · cases h
    · split at h
      · rename_i h1; exact absurd h h1
      · split at h
        · assumption
        · cases h
  have e : ∀ v, memS v (heldOf l) = memS v (allVars l) := fun v => by
    rw [Bool.eq_iff_iff, memS_iff, memS_iff]
    constructor
    · intro hv
      obtain ⟨a, ha, -, hv⟩ := mem_heldOf.1 hv
      exact mem_allVars.2 ⟨a, ha, hv⟩
    · intro hv
      obtain ⟨a, ha, hv⟩ := mem_allVars.1 hv
      exact (memS_iff _ _).1 (List.all_eq_true.1 (List.all_eq_true.1 hf a ha) v hv)
  unfold boundIn
  congr 1
  funext v
  exact e v
theorem ruleBad_head {r : PRule} (h : atomBad r.head ≠ 0) : ruleBad r = atomBad r.head := by unfold ruleBad; rw [if_pos h]
theorem ruleBad_neg {r : PRule} (h : atomBad r.head = 0) (hn : r.head.neg = true) : ruleBad r = 2 := by unfold ruleBad; rw [if_neg (by simpa using h), if_pos hn]
theorem ruleBad_bad {r : PRule} (h : atomBad r.head = 0) (hn : r.head.neg = false) (hb : bodyBad r.body ≠ 0) : ruleBad r = bodyBad r.body := by unfold ruleBad; rw [if_neg (by simpa using h), if_neg (by simp [hn]), if_pos hb]
theorem ruleBad_last {r : PRule} (h : atomBad r.head = 0) (hn : r.head.neg = false) (hb : bodyBad r.body = 0) : ruleBad r = if boundIn (heldOf r.body) (varsOf r.head) then 0 else 9 := by
  unfold ruleBad; rw [if_neg (by simpa using h), if_neg (by simp [hn]), if_neg (by simpa using hb), bound_all hb]

/-! ### The closure -/
set_option maxRecDepth 100000 in
set_option maxHeartbeats 4000000 in
theorem badRef (e k : Int) (C : Nat) (w : World) (h : Blk w C 3 #[.int .i64 k]) :
    Calls Try.prog 34 #[.int .i64 e, .pointer (some ⟨C, 0, none⟩)] w fun en w' => en = .returned (.agg #[.int .i64 e, .int .i64 k]) ∧ Below w.heap.size w w' := by
  have HC := Lib.hid (h.alloc (.cells #[.int .i64 0, .int .i64 0] 26))
  have c0 := HC.out.cell 0
  simp only [List.getElem?_toArray, List.getElem?_cons_zero] at c0
  clear h
  go_enter Try.func34, Try.ntmps34
  go_wp2
  refine bodyPost_ret (v := .agg #[.int .i64 e, .int .i64 k]) (by simp [results, Try.results34, go_sem]) rfl ⟨rfl, ?_⟩
  exact (Below.refl _ _).alloc (Nat.le_refl _) _

/-- The worlds of WrongProgram. -/
structure PgW (w W : World) (n : Nat) (m : Known) : Prop where
  below : Below w.heap.size w W
  out : Blk W w.heap.size 26 #[.int .i64 0, .int .i64 0]
  map : MapI W (w.heap.size + 1) n (up1 m)
section
variable {w W W' : World} {n : Nat} {m : Known}
theorem PgW.next (h : PgW w W n m) (hb : Below W.heap.size W W') : PgW w W' n m := ⟨h.below.trans (hb.mono h.below.size), h.out.below hb h.out.lt, h.map.below hb h.map.lt⟩
theorem PgW.alloc (h : PgW w W n m) (o : Obj) : PgW w (W.alloc o) n m := h.next ((Below.refl _ _).alloc (Nat.le_refl _) o)
theorem PgW.lt (h : PgW w W n m) : w.heap.size + 1 < W.heap.size := h.map.lt
end
theorem PgW.grow {w W W' : World} {n : Nat} {m : Known} {row : Option Nat} (h : PgW w W n m) (hg : W.grownBy W' row) (hr : ∀ q, row = some q → w.heap.size + 1 < q) : PgW w W' n m :=
  ⟨h.below.grown hg h.below.size (fun q hq => by have := hr q hq; omega), h.out.grown hg (fun e => by have := hr _ e.symm; omega), h.map.kept hg (fun e => by have := hr _ e.symm; omega)⟩
theorem PgW.put {w W W' : World} {n n' : Nat} {m m' : Known} (h : PgW w W n m) (hg : W.grownBy W' (some (w.heap.size + 1))) (hm : MapI W' (w.heap.size + 1) n' (up1 m')) : PgW w W' n' m' :=
  ⟨h.below.grown hg h.below.size (fun q hq => by injection hq with e; omega), h.out.grown hg (fun e => by injection e with e; omega), hm⟩
/-- A round's own cells. -/
structure PgR (W : World) (C R k : Nat) (x : PRule) (tv bv : Value) : Prop where
  ic : Blk W C 3 #[.int .i64 k]
  rc : Blk W R 33 #[.bool x.head.neg, .string x.head.name, tv, bv]
theorem PgR.next {W W' : World} {C R k : Nat} {x : PRule} {tv bv : Value} (h : PgR W C R k x tv bv) (hb : Below W.heap.size W W') : PgR W' C R k x tv bv := ⟨h.ic.below hb h.ic.lt, h.rc.below hb h.rc.lt⟩
theorem PgR.grow {W W' : World} {C R k : Nat} {x : PRule} {tv bv : Value} {row : Option Nat} (h : PgR W C R k x tv bv) (hg : W.grownBy W' row) (hr : ∀ q, row = some q → C ≠ q ∧ R ≠ q) : PgR W' C R k x tv bv :=
  ⟨h.ic.grown hg (fun e => (hr _ e.symm).1 rfl), h.rc.grown hg (fun e => (hr _ e.symm).2 rfl)⟩

set_option maxRecDepth 100000 in
set_option maxHeartbeats 8000000 in
theorem wrongRefP {S : Nat → Prop} (p : List PRule) (v : Value) (w : World) (h : RdRules S w v p) (n1 : p.length ≤ 1048576) (n2 : ∀ r ∈ p, RuleSmall r) (n3 : ∀ r ∈ p, NameSmall r) :
    Calls Try.prog 11 #[v] w fun e w' => e = .returned (.agg #[.int .i64 (wrongP p).1, .int .i64 (wrongP p).2]) ∧ Below w.heap.size w w' := by
  obtain ⟨a, c, rfl, -, -, -⟩ := id h.form
  have H := Lib.hid h
  have N2 := Lib.hid n2
  have N3 := Lib.hid n3
  clear h n2 n3
  by_cases hmany : 16 < p.length
  · have hs : wrongP p = (5, 0) := by unfold wrongP; rw [if_pos hmany]
    have HS := Lib.hid hs
    have i1 : (16 : Int) < (p.length : Int) := by omega
    clear hs
    go_enter Try.func11, Try.ntmps11
    go_wp2
    refine bodyPost_ret (v := .agg #[.int .i64 5, .int .i64 0]) (by simp [results, Try.results11, go_sem]) rfl ⟨by rw [HS.out], ?_⟩
    exact (Below.refl _ _).alloc (Nat.le_refl _) _
  have hP0 : wrongP p = wrongFrom (fun _ => none) ((0 : Nat) : Int) (p.drop 0) := by unfold wrongP; rw [if_neg hmany]; rfl
  have HP0 := Lib.hid hP0
  clear hP0
  have i0 : ¬ ((16 : Int) < (p.length : Int)) := by omega
  have hmm := @run_makeMap Try.prog
  have hmf : ∀ (fn : Fn) (first cap : Array Value) (w : World), (Instr.makeFunc fn first cap).run Try.prog w = .ok (.func fn first cap) w := fun _ _ _ _ => rfl
  have HW0 := Lib.hid (show PgW w ((w.alloc (.cells #[.int .i64 0, .int .i64 0] 26)).alloc (.map #[] 0)) 0 (fun _ => none) from
    ⟨((Below.refl w.heap.size w).alloc (Nat.le_refl _) (.cells #[.int .i64 0, .int .i64 0] 26)).alloc (by simp) (.map #[] 0), (Blk.new w 26 #[.int .i64 0, .int .i64 0]).alloc (.map #[] 0), by
      have hms : (w.alloc (.cells #[.int .i64 0, .int .i64 0] 26)).heap.size = w.heap.size + 1 := by simp
      have HM := MapI.made (w.alloc (.cells #[.int .i64 0, .int .i64 0] 26))
      rw [hms] at HM
      exact HM⟩)
  go_enter Try.func11, Try.ntmps11
  go_wp2
  go_loopw [20] (fun i wr => ∃ (k : Nat) (n : Nat) (m : Known), k ≤ p.length ∧ i = .int .i64 k ∧ n ≤ k * 6 ∧ Hid (PgW w wr n m) ∧ Hid (wrongP p = wrongFrom m (k : Int) (p.drop k))) (fun i _ => p.length - (intOf i).toNat)
  case atStart => exact ⟨0, 0, _, Nat.zero_le _, rfl, Nat.zero_le _, HW0, HP0⟩
  case round =>
    clear HW0 HP0
    obtain ⟨k, n, m, hk, rfl, hn, HW, HP⟩ := hrel
    by_cases hlt : k < p.length
    · obtain ⟨x, hx⟩ : ∃ x, p[k]? = some x := ⟨_, List.getElem?_eq_getElem hlt⟩
      have hmem := List.mem_of_getElem? hx
      obtain ⟨b1, o1, tv, bv, rfl, -, hb1, d0, d1, d2, d3, htv, hbv⟩ := RdRules.at H.out hx
      obtain ⟨ta, tc, rfl, -, -, -⟩ := id htv.form
      obtain ⟨ba, bc, rfl, -, -, -⟩ := id hbv.form
      have HRA := Lib.hid (show RuleAt S w b1 (o1 + k * 4) x (.slice ta x.head.terms.length tc) (.slice ba x.body.length bc) from ⟨hb1, d0, d1, d2, d3, htv, hbv⟩)
      have HS := Lib.hid (N2.out x hmem)
      have HN := Lib.hid (N3.out x hmem)
      clear d0 d1 d2 d3
      obtain ⟨-, d0, d1, d2, d3, -, -⟩ := HRA.out.up HW.out.below
      rw [at_drop hx] at HP
      have HW1 := Lib.hid (HW.out.alloc (.cells #[.int .i64 k] 3))
      have HW2 := Lib.hid (HW1.out.alloc (.cells #[.bool x.head.neg, .string x.head.name, .slice ta x.head.terms.length tc, .slice ba x.body.length bc] 33))
      have HR2 := Lib.hid (show PgR ((wr.alloc (.cells #[.int .i64 k] 3)).alloc (.cells #[.bool x.head.neg, .string x.head.name, .slice ta x.head.terms.length tc, .slice ba x.body.length bc] 33)) wr.heap.size (wr.heap.size + 1) k x (.slice ta x.head.terms.length tc) (.slice ba x.body.length bc) from
        ⟨(Blk.new wr _ _).alloc _, by have := Blk.new (wr.alloc (.cells #[.int .i64 k] 3)) 33 #[.bool x.head.neg, .string x.head.name, .slice ta x.head.terms.length tc, .slice ba x.body.length bc]; simpa using this⟩)
      have KA : Hid (∀ W, Below w.heap.size w W → Calls Try.prog 35 #[.agg #[.bool x.head.neg, .string x.head.name, .slice ta x.head.terms.length tc]] W fun e w' => e = .returned (.int .i64 (atomBad x.head)) ∧ Below W.heap.size W w') :=
        Lib.hid fun W hW => wrongAtomRef x.head _ W (HRA.out.up hW).t (by have := HN.out.h; omega) (by have := HS.out.h1; omega) (fun t ht => by have := HS.out.h2 t ht; omega)
      have KB : Hid (∀ W, Below w.heap.size w W → Calls Try.prog 15 #[.slice ba x.body.length bc] W fun e w' => e = .returned (.int .i64 (bodyBad x.body)) ∧ Below W.heap.size W w') :=
        Lib.hid fun W hW => wrongBodyRef x.body _ W (HRA.out.up hW).b HS.out.b0 HS.out.b1 HS.out.b2 HN.out.b
      have KC : Hid (∀ W, Below w.heap.size w W → Calls Try.prog 36 #[.agg #[.bool x.head.neg, .string x.head.name, .slice ta x.head.terms.length tc], .slice ba x.body.length bc] W fun e w' => e = .returned (.bool (boundIn (heldOf x.body) (varsOf x.head))) ∧ Below W.heap.size W w') :=
        Lib.hid fun W hW => boundRef x.head _ x.body _ W (HRA.out.up hW).t (HRA.out.up hW).b HS.out.h1 HS.out.h2 HS.out.b0 HS.out.b1 HS.out.b2
      have HX := Lib.hid hx
      clear hx hmem htv hbv
      by_cases hz : atomBad x.head = 0
      rotate_left
      · have HE := Lib.hid (HP.out.trans (wrongFrom_bad (by rw [ruleBad_head hz]; exact hz)))
        rw [ruleBad_head hz] at HE
        have hne : (atomBad x.head != 0) = true := by simpa using hz
        clear hz
        generalize atomBad x.head = q at *
        go_wp2_with (first
          | (go_at_call 34; have hh := HW3.out; clear hh; refine (badRef q k _ _ HR3.out.ic).mono ?_; rintro e w9 ⟨rfl, hb9⟩; have HW9 := Lib.hid (HW3.out.next hb9); clear hb9; have c0 := HW9.out.out.cell 0; have c1 := HW9.out.out.cell 1; have f0 := HW9.out.out.frozen 0; have f1 := HW9.out.out.frozen 1; simp at c0 c1)
          | (go_at_call 35; refine (KA.out _ HW2.out.below).mono ?_; rintro e w3 ⟨rfl, hb3⟩; have HW3 := Lib.hid (HW2.out.next hb3); have HR3 := Lib.hid (HR2.out.next hb3); clear hb3; have r0 := HR3.out.rc.cell 0; have r1 := HR3.out.rc.cell 1; have r2 := HR3.out.rc.cell 2; have r3 := HR3.out.rc.cell 3; simp only [List.getElem?_toArray, List.getElem?_cons_zero, List.getElem?_cons_succ] at r0 r1 r2 r3))
        go_wp2
        refine bodyPost_ret (v := .agg #[.int .i64 q, .int .i64 k]) (by simp [results, Try.results11, go_sem, c0, c1]) rfl ⟨by rw [HE.out], ?_⟩
        exact (HW9.out.below.setCell (Nat.le_refl _) _).setCell (Nat.le_refl _) _
      rw [hz] at KA
      cases hn2 : x.head.neg
      rotate_left
      · have HE := Lib.hid (HP.out.trans (wrongFrom_bad (by rw [ruleBad_neg hz hn2]; decide)))
        rw [ruleBad_neg hz hn2] at HE
        rw [hn2] at KA HW2 HR2 d0
        clear hz KB KC
        go_wp2_with (first
          | (go_at_call 34; have hh := HW3.out; clear hh; refine (badRef 2 k _ _ HR3.out.ic).mono ?_; rintro e w9 ⟨rfl, hb9⟩; have HW9 := Lib.hid (HW3.out.next hb9); clear hb9; have c0 := HW9.out.out.cell 0; have c1 := HW9.out.out.cell 1; have f0 := HW9.out.out.frozen 0; have f1 := HW9.out.out.frozen 1; simp at c0 c1)
          | (go_at_call 35; refine (KA.out _ HW2.out.below).mono ?_; rintro e w3 ⟨rfl, hb3⟩; have HW3 := Lib.hid (HW2.out.next hb3); have HR3 := Lib.hid (HR2.out.next hb3); clear hb3; have r0 := HR3.out.rc.cell 0; have r1 := HR3.out.rc.cell 1; have r2 := HR3.out.rc.cell 2; have r3 := HR3.out.rc.cell 3; simp only [List.getElem?_toArray, List.getElem?_cons_zero, List.getElem?_cons_succ] at r0 r1 r2 r3))
        go_wp2
        refine bodyPost_ret (v := .agg #[.int .i64 2, .int .i64 k]) (by simp [results, Try.results11, go_sem, c0, c1]) rfl ⟨by rw [HE.out], ?_⟩
        exact (HW9.out.below.setCell (Nat.le_refl _) _).setCell (Nat.le_refl _) _
      by_cases hbz : bodyBad x.body = 0
      rotate_left
      · have HE := Lib.hid (HP.out.trans (wrongFrom_bad (by rw [ruleBad_bad hz hn2 hbz]; exact hbz)))
        rw [ruleBad_bad hz hn2 hbz] at HE
        rw [hn2] at KA HW2 HR2 d0
        have hne : (bodyBad x.body != 0) = true := by simpa using hbz
        clear hz hbz KC
        generalize bodyBad x.body = q at *
        go_wp2_with (first
          | (go_at_call 34; have hh := HW4.out; clear hh; refine (badRef q k _ _ HR4.out.ic).mono ?_; rintro e w9 ⟨rfl, hb9⟩; have HW9 := Lib.hid (HW4.out.next hb9); clear hb9; have c0 := HW9.out.out.cell 0; have c1 := HW9.out.out.cell 1; have f0 := HW9.out.out.frozen 0; have f1 := HW9.out.out.frozen 1; simp at c0 c1)
          | (go_at_call 15; refine (KB.out _ HW3.out.below).mono ?_; rintro e w4 ⟨rfl, hb4⟩; have HW4 := Lib.hid (HW3.out.next hb4); have HR4 := Lib.hid (HR3.out.next hb4); clear hb4 r0 r1 r2 r3; have r0 := HR4.out.rc.cell 0; have r1 := HR4.out.rc.cell 1; have r2 := HR4.out.rc.cell 2; have r3 := HR4.out.rc.cell 3; simp only [List.getElem?_toArray, List.getElem?_cons_zero, List.getElem?_cons_succ] at r0 r1 r2 r3)
          | (go_at_call 35; refine (KA.out _ HW2.out.below).mono ?_; rintro e w3 ⟨rfl, hb3⟩; have HW3 := Lib.hid (HW2.out.next hb3); have HR3 := Lib.hid (HR2.out.next hb3); clear hb3; have r0 := HR3.out.rc.cell 0; have r1 := HR3.out.rc.cell 1; have r2 := HR3.out.rc.cell 2; have r3 := HR3.out.rc.cell 3; simp only [List.getElem?_toArray, List.getElem?_cons_zero, List.getElem?_cons_succ] at r0 r1 r2 r3))
        go_wp2
        refine bodyPost_ret (v := .agg #[.int .i64 q, .int .i64 k]) (by simp [results, Try.results11, go_sem, c0, c1]) rfl ⟨by rw [HE.out], ?_⟩
        exact (HW9.out.below.setCell (Nat.le_refl _) _).setCell (Nat.le_refl _) _
      rw [hbz] at KB
      have hb5 : x.body.length ≤ 5 := by
        unfold bodyBad at hbz
        split at hbz
        · cases hbz
        · omega
      cases hbd : boundIn (heldOf x.body) (varsOf x.head)
      · have hrb : ruleBad x = 9 := by rw [ruleBad_last hz hn2 hbz, hbd]; rfl
        have HE := Lib.hid (HP.out.trans (wrongFrom_bad (by rw [hrb]; decide)))
        rw [hrb] at HE
        rw [hbd] at KC
        rw [hn2] at KA HW2 HR2 d0 KC
        clear hz hbz hbd hrb
        go_wp2_with (first
          | (go_at_call 34; have hh := HW5.out; clear hh; refine (badRef 9 k _ _ HR5.out.ic).mono ?_; rintro e w9 ⟨rfl, hb9⟩; have HW9 := Lib.hid (HW5.out.next hb9); clear hb9; have c0 := HW9.out.out.cell 0; have c1 := HW9.out.out.cell 1; have f0 := HW9.out.out.frozen 0; have f1 := HW9.out.out.frozen 1; simp at c0 c1)
          | (go_at_call 36; refine (KC.out _ HW4.out.below).mono ?_; rintro e w5 ⟨rfl, hb5⟩; have HW5 := Lib.hid (HW4.out.next hb5); have HR5 := Lib.hid (HR4.out.next hb5); clear hb5 r0 r1 r2 r3; have r0 := HR5.out.rc.cell 0; have r1 := HR5.out.rc.cell 1; have r2 := HR5.out.rc.cell 2; have r3 := HR5.out.rc.cell 3; simp only [List.getElem?_toArray, List.getElem?_cons_zero, List.getElem?_cons_succ] at r0 r1 r2 r3)
          | (go_at_call 15; refine (KB.out _ HW3.out.below).mono ?_; rintro e w4 ⟨rfl, hb4⟩; have HW4 := Lib.hid (HW3.out.next hb4); have HR4 := Lib.hid (HR3.out.next hb4); clear hb4 r0 r1 r2 r3; have r0 := HR4.out.rc.cell 0; have r1 := HR4.out.rc.cell 1; have r2 := HR4.out.rc.cell 2; have r3 := HR4.out.rc.cell 3; simp only [List.getElem?_toArray, List.getElem?_cons_zero, List.getElem?_cons_succ] at r0 r1 r2 r3)
          | (go_at_call 35; refine (KA.out _ HW2.out.below).mono ?_; rintro e w3 ⟨rfl, hb3⟩; have HW3 := Lib.hid (HW2.out.next hb3); have HR3 := Lib.hid (HR2.out.next hb3); clear hb3; have r0 := HR3.out.rc.cell 0; have r1 := HR3.out.rc.cell 1; have r2 := HR3.out.rc.cell 2; have r3 := HR3.out.rc.cell 3; simp only [List.getElem?_toArray, List.getElem?_cons_zero, List.getElem?_cons_succ] at r0 r1 r2 r3))
        go_wp2
        refine bodyPost_ret (v := .agg #[.int .i64 9, .int .i64 k]) (by simp [results, Try.results11, go_sem, c0, c1]) rfl ⟨by rw [HE.out], ?_⟩
        exact (HW9.out.below.setCell (Nat.le_refl _) _).setCell (Nat.le_refl _) _
      have HZ := Lib.hid (show ruleBad x = 0 by rw [ruleBad_last hz hn2 hbz, hbd]; rfl)
      rw [hbd] at KC
      have HN2 := Lib.hid hn2
      rw [hn2] at KA HW2 HR2 d0 KC
      clear hz hbz hbd
      have hwr := HW.out.lt
      go_wp2_with (first
        | (at_builtin; have hbig := HW5.out.lt; have HO6 := Lib.hid (Owned.lit (k := 3) (R := RAtom) (B := w5.heap.size) (e := 30) (S := fun q => q < w.heap.size) (w := w5) (l := [x.head]) [[.bool false, .string x.head.name, .slice ta x.head.terms.length tc]] #[.bool false, .string x.head.name, .slice ta x.head.terms.length tc] rfl (by simp) (by simp) rfl (Nat.le_refl _) (by simp [maxLen]) (fun i c z hc hz => by
              rcases i with _ | i
              · simp at hc hz
                subst hc hz
                exact ⟨_, by rw [HN2.out], ((HRA.out.t.more (S' := fun q => q < w.heap.size ∧ some q ≠ some w5.heap.size) RTerm.steady (fun q _ hq => ⟨hq, fun e => by injection e with e; omega⟩)).agree RTerm.steady ⟨(HW5.out.alloc _).below.size, fun q hq _ => (HW5.out.alloc _).below.block q hq.1⟩)⟩
              · simp at hc)); refine wpList_append_many (B := w5.heap.size) (e := 30) (S := fun q => q < w.heap.size) (by rfl) _ _ 31 (by rfl) RAtom.steady RAtom.one rowAtoms _ [x.head] (by rfl) HO6.out (.slice ba x.body.length bc) x.body (by rfl) ((HRA.out.b.more (S' := fun q => q < w.heap.size) RAtom.steady (fun q _ hq => hq)).agree RAtom.steady ⟨(HW5.out.alloc _).below.size, fun q hq _ => (HW5.out.alloc _).below.block q hq⟩) (fun cs x' hr => RAtom.steady.more (fun q hq _ => ⟨hq, fun e => by have := (HO6.out.row_lt e.symm).1; omega⟩) hr) (by simp; omega) (by simp) ?_; intro v7 w7 hown7 hg7 hat7; have HO7 := Lib.hid (show Owned 3 RAtom w5.heap.size 30 (fun q => q < w.heap.size) w7 v7 (x.head :: x.body) from hown7); have HW7 := Lib.hid ((HW5.out.alloc _).grow hg7 (fun q hq => by have := (HO6.out.row_lt hq).1; omega)); have HR7 := Lib.hid ((HR5.out.next ((Below.refl _ _).alloc (Nat.le_refl _) _)).grow hg7 (fun q hq => by have h1 := (HO6.out.row_lt hq).1; have h2 := HR5.out.ic.lt; have h3 := HR5.out.rc.lt; constructor <;> omega)); obtain ⟨a7, c7, rfl, -, -, -⟩ := id (HO7.out.read RAtom.steady).form; clear hown7 hg7 hat7)
        | (go_at_call 36; refine (KC.out _ HW4.out.below).mono ?_; rintro e w5 ⟨rfl, hb5⟩; have HW5 := Lib.hid (HW4.out.next hb5); have HR5 := Lib.hid (HR4.out.next hb5); clear hb5 r0 r1 r2 r3; have r0 := HR5.out.rc.cell 0; have r1 := HR5.out.rc.cell 1; have r2 := HR5.out.rc.cell 2; have r3 := HR5.out.rc.cell 3; simp only [List.getElem?_toArray, List.getElem?_cons_zero, List.getElem?_cons_succ] at r0 r1 r2 r3; have q3 := (HR5.out.next ((Below.refl _ _).alloc (Nat.le_refl _) (.cells #[.bool false, .string x.head.name, .slice ta x.head.terms.length tc] 30))).rc.cell 3; simp only [List.getElem?_toArray, List.getElem?_cons_zero, List.getElem?_cons_succ] at q3)
        | (go_at_call 15; refine (KB.out _ HW3.out.below).mono ?_; rintro e w4 ⟨rfl, hb4⟩; have HW4 := Lib.hid (HW3.out.next hb4); have HR4 := Lib.hid (HR3.out.next hb4); clear hb4 r0 r1 r2 r3; have r0 := HR4.out.rc.cell 0; have r1 := HR4.out.rc.cell 1; have r2 := HR4.out.rc.cell 2; have r3 := HR4.out.rc.cell 3; simp only [List.getElem?_toArray, List.getElem?_cons_zero, List.getElem?_cons_succ] at r0 r1 r2 r3)
        | (go_at_call 35; refine (KA.out _ HW2.out.below).mono ?_; rintro e w3 ⟨rfl, hb3⟩; have HW3 := Lib.hid (HW2.out.next hb3); have HR3 := Lib.hid (HR2.out.next hb3); clear hb3; have r0 := HR3.out.rc.cell 0; have r1 := HR3.out.rc.cell 1; have r2 := HR3.out.rc.cell 2; have r3 := HR3.out.rc.cell 3; simp only [List.getElem?_toArray, List.getElem?_cons_zero, List.getElem?_cons_succ] at r0 r1 r2 r3))
      have HRL := Lib.hid (show RdAtoms (fun b => b < w.heap.size ∨ w5.heap.size ≤ b) w7 (.slice a7 (x.head :: x.body).length c7) (x.head :: x.body) from HO7.out.read RAtom.steady)
      have hbig := HW5.out.lt
      have hcr := HR7.out.ic.lt
      have HSM := Lib.hid (show ∀ y ∈ x.head :: x.body, y.terms.length ≤ 1048576 ∧ y.name.size ≤ 1048576 from fun y hy => by
        rcases List.mem_cons.1 hy with rfl | hy
        · exact ⟨HS.out.h1, HN.out.h⟩
        · exact ⟨HS.out.b1 y hy, HN.out.b y hy⟩)
      obtain ⟨l2, hl2⟩ : ∃ l2, x.head :: x.body = l2 := ⟨_, rfl⟩
      have hl6 : l2.length ≤ 6 := by rw [← hl2]; simp only [List.length_cons]; omega
      have hlen2 : (x.head :: x.body).length = l2.length := by rw [hl2]
      rw [hl2] at HRL HSM
      have HFF := Lib.hid (show wrongP p = if fitAll m l2 then wrongFrom (learnAll m l2) (k + 1) (p.drop (k + 1)) else (8, (k : Int)) from by
        rw [HP.out, ← hl2]
        cases hf : fitAll m (x.head :: x.body)
        · rw [wrongFrom_unfit HZ.out hf]; rfl
        · rw [wrongFrom_fit HZ.out hf]; rfl)
      have hlc : x.body.length + 1 = l2.length := by rw [← hl2]; rfl
      clear r0 r1 r2 r3 q3 HW2 HW3 HW4 HW5 HW1 HW HR2 HR3 HR4 HO6 HO7 d0 d1 d2 d3 KA KB KC hl2 HX HP HZ
      have hn0 : n ≤ k * 6 + 0 := hn
      have HF0 := Lib.hid (show fitAll m l2 = fitAll m (l2.drop 0) ∧ learnAll m l2 = learnAll m (l2.drop 0) from ⟨rfl, rfl⟩)
      try simp only [List.length_append, List.length_cons, List.length_nil, Nat.zero_add, Nat.add_comm 1] at *
      have hlcI : (x.body.length : Int) + 1 = (l2.length : Int) := by omega
      try rw [hlcI]
      try rw [hlc] at *
      clear hlcI
      generalize HCB : wr.heap.size = cb at *
      clear HCB
      go_loopw [62] (fun i wx => ∃ (j n' : Nat) (m' : Known), j ≤ l2.length ∧ i = .int .i64 j ∧ n' ≤ k * 6 + j ∧ Hid (PgW w wx n' m') ∧ Hid (PgR wx cb (cb + 1) k x (.slice ta x.head.terms.length tc) (.slice ba x.body.length bc)) ∧ Hid (RdAtoms (fun b => b < w.heap.size ∨ w5.heap.size ≤ b) wx (.slice a7 l2.length c7) l2) ∧ Hid (fitAll m l2 = fitAll m' (l2.drop j) ∧ learnAll m l2 = learnAll m' (l2.drop j))) (fun i _ => l2.length - (intOf i).toNat)
      case atStart => exact ⟨0, n, m, Nat.zero_le _, rfl, hn0, HW7, HR7, HRL, HF0⟩
      case round =>
        clear HW7 HR7 HRL HF0 hcr hn0 hlc hlen2 hn hk
        obtain ⟨j, n', m', hj, rfl, hn', HW, HR, HRL, HF⟩ := hrel
        by_cases hlj : j < l2.length
        · obtain ⟨y, hy⟩ : ∃ y, l2[j]? = some y := ⟨_, List.getElem?_eq_getElem hlj⟩
          obtain ⟨b4, o4, yv, rfl, hS4, hb4, e0, e1, e2, hyv⟩ := RdAtoms.at HRL.out hy
          obtain ⟨ya, yc, rfl, -, -, -⟩ := id hyv.form
          obtain ⟨ny1, ny2⟩ := HSM.out y (List.mem_of_getElem? hy)
          have HW6 := Lib.hid (HW.out.alloc (.cells #[.bool y.neg, .string y.name, .slice ya y.terms.length yc] 30))
          have HR6 := Lib.hid (HR.out.next ((Below.refl _ _).alloc (Nat.le_refl _) (.cells #[.bool y.neg, .string y.name, .slice ya y.terms.length yc] 30)))
          have HRL6 := Lib.hid (HRL.out.agree RAtom.steady ((Agree.refl _ _).alloc (.cells #[.bool y.neg, .string y.name, .slice ya y.terms.length yc] 30)))
          have hys : y.name.size ≤ maxLen := by unfold maxLen; omega
          have hget := HW6.out.map.getOk hys
          obtain ⟨z', hz'⟩ : ∃ z' : Int, (y.terms.length : Int) + 1 = z' := ⟨_, rfl⟩
          have hw1 : IntKind.i64.wrap ((y.terms.length : Int) + 1) = z' := by rw [IntKind.wrap_i64]; omega
          obtain ⟨w8, hput, hm8, hg8⟩ := HW6.out.map.put (by unfold maxLen; omega) (s := y.name) hys (x := z') (WalkArith.wf_i64 (by omega))
          rw [at_drop hy] at HF
          have KG := Lib.hid (show fits m' y = true → PgW w w8 (n' + 1) (learn m' y) ∧ PgR w8 cb (cb + 1) k x (.slice ta x.head.terms.length tc) (.slice ba x.body.length bc) ∧ RdAtoms (fun b => b < w.heap.size ∨ w5.heap.size ≤ b) w8 (.slice (some ⟨b4, o4, none⟩) l2.length c7) l2 from fun hf =>
            ⟨HW6.out.put hg8 (by rw [← up1_learn hf, hz']; exact hm8), HR6.out.grow hg8 (fun q hq => by injection hq with e; constructor <;> omega), HRL6.out.agree RAtom.steady ⟨hg8.size, fun b hb hlt => hg8.block b hlt (fun e => by injection e with e; omega)⟩⟩)
          clear hy hyv hm8 hg8 HRL HR HW
          cases hv : m' y.name with
          | none =>
            have hu : up1 m' y.name = none := by unfold up1; rw [hv]; rfl
            rw [hu] at hget
            simp only [Option.isSome, Option.getD] at hget
            have hf : fits m' y = true := by unfold fits; rw [hv]
            obtain ⟨hW8, hR8, hRL8⟩ := KG.out hf
            have HW8 := Lib.hid hW8
            have HR8 := Lib.hid hR8
            have HRL8 := Lib.hid hRL8
            have HF2 := Lib.hid (show fitAll m l2 = fitAll (learn m' y) (l2.drop (j + 1)) ∧ learnAll m l2 = learnAll (learn m' y) (l2.drop (j + 1)) from ⟨HF.out.1.trans (by show (fits m' y && _) = _; rw [hf]; rfl), HF.out.2⟩)
            clear hv hu hf KG HF hW8 hR8 hRL8 hz'
            go_wp2
            go_roundw
            case rel => exact ⟨j + 1, n' + 1, _, by omega, by go_num, by omega, HW8, HR8, HRL8, HF2⟩
            case measure => simp [intOf]; omega
          | some q =>
            obtain ⟨z, hz⟩ : ∃ z : Int, q + 1 = z := ⟨_, rfl⟩
            have hu : up1 m' y.name = some z := by unfold up1; rw [hv, ← hz]; rfl
            rw [hu] at hget
            simp only [Option.isSome, Option.getD] at hget
            have hff : fits m' y = decide (z = z') := by
              unfold fits
              rw [hv]
              show (q == (y.terms.length : Int)) = _
              rw [Bool.eq_iff_iff, beq_iff_eq, decide_eq_true_iff]
              omega
            by_cases hzz : z = z'
            · rw [decide_eq_true hzz] at hff
              obtain ⟨hW8, hR8, hRL8⟩ := KG.out hff
              have HW8 := Lib.hid hW8
              have HR8 := Lib.hid hR8
              have HRL8 := Lib.hid hRL8
              have HF2 := Lib.hid (show fitAll m l2 = fitAll (learn m' y) (l2.drop (j + 1)) ∧ learnAll m l2 = learnAll (learn m' y) (l2.drop (j + 1)) from ⟨HF.out.1.trans (by show (fits m' y && _) = _; rw [hff]; rfl), HF.out.2⟩)
              have hne : (z != z') = false := by rw [hzz]; simp
              clear hv hu hff KG HF hW8 hR8 hRL8 hz' hz hzz
              go_wp2
              go_roundw
              case rel => exact ⟨j + 1, n' + 1, _, by omega, by go_num, by omega, HW8, HR8, HRL8, HF2⟩
              case measure => simp [intOf]; omega
            · rw [decide_eq_false hzz] at hff
              have HE := Lib.hid (show wrongP p = (8, (k : Int)) from by
                rw [HFF.out, HF.out.1, if_neg]
                show ¬ (fits m' y && _) = true
                rw [hff]; simp)
              have hne : (z != z') = true := by simpa using hzz
              clear hv hu hff KG HF hz' hz hzz hput
              go_wp2_with (go_at_call 34; refine (badRef 8 k _ _ HR6.out.ic).mono ?_; rintro e w9 ⟨rfl, hb9⟩; have HW9 := Lib.hid (HW6.out.next hb9); clear hb9; have c0 := HW9.out.out.cell 0; have c1 := HW9.out.out.cell 1; have f0 := HW9.out.out.frozen 0; have f1 := HW9.out.out.frozen 1; simp at c0 c1)
              go_wp2
              refine bodyPost_ret (v := .agg #[.int .i64 8, .int .i64 k]) (by simp [results, Try.results11, go_sem, c0, c1]) rfl ⟨by rw [HE.out], ?_⟩
              exact (HW9.out.below.setCell (Nat.le_refl _) _).setCell (Nat.le_refl _) _
        · have HF2 := Lib.hid (show wrongP p = wrongFrom m' ((k + 1 : Nat) : Int) (p.drop (k + 1)) by
            have h1 := HF.out
            rw [List.drop_eq_nil_of_le (show l2.length ≤ j by omega)] at h1
            rw [HFF.out, h1.1, h1.2]
            show wrongFrom m' _ _ = _
            congr 1)
          have hk2 : k + 1 ≤ p.length := by omega
          go_wp2
          go_roundw
          case rel => exact ⟨k + 1, n', m', by omega, by go_num, by omega, HW, HF2⟩
          case measure => simp [intOf]; omega
    · have HE := Lib.hid (show wrongP p = (0, 0) by rw [HP.out, List.drop_eq_nil_of_le (by omega)]; rfl)
      have c0 := HW.out.out.cell 0; have c1 := HW.out.out.cell 1; have f0 := HW.out.out.frozen 0; have f1 := HW.out.out.frozen 1
      simp at c0 c1
      go_wp2
      refine bodyPost_ret (v := .agg #[.int .i64 0, .int .i64 0]) (by simp [results, Try.results11, go_sem, c0, c1]) rfl ⟨by rw [HE.out], ?_⟩
      exact (HW.out.below.setCell (Nat.le_refl _) _).setCell (Nat.le_refl _) _
end Go.Proofs.Ytobbjapmdpkogaa
