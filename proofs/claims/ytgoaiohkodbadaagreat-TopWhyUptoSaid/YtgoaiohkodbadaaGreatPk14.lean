/-
  THE TEXTS SynW5, Known, LitF, Alive5, NaiveM, RoundP, RoundQ, one behind the other.
-/
import Derived.Test.YtgoaiohkodbadaaGreatPk3
import Derived.Test.YtgoaiohkodbadaaGreatPk6
import Derived.Test.YtgoaiohkodbadaaGreatPk11
import Derived.Test.YtgoaiohkodbadaaGreatPk12
import Derived.Test.YtgoaiohkodbadaaGreatPk13
import Derived.Defers
import Derived.Recover
/-
  THE WALKS OF syntax.guard, Parse, Body: what is thrown is caught.
-/
namespace Go.Proofs.YtgoaiohkodbadaaGreat
open Go.RowKit

set_option maxRecDepth 100000 in
set_option maxHeartbeats 2000000 in
theorem guardCatch (F : Nat) (a b e0 : Int) (k : Nat) (w : World) (hF : Blk w F 65 #[.int .i64 a, .int .i64 b]) :
    CallsD Tryz.prog 77 #[.pointer (some ⟨F, 0, none⟩)] (.panicking (oopsV e0 k)) w fun e' u' w' => e' = .returned (.tuple #[]) ∧
      u' = .panicking [{ v := .iface 196 (.agg #[.int .i64 e0, .int .i64 (k : Int)]), recovered := true }] ∧ Blk w' F 65 #[.int .i64 e0, .int .i64 (k : Int)] ∧ But F w w' := by
  have HA := Lib.hid (hF.alloc (.cells #[.int .i64 e0, .int .i64 (k : Int)] 196))
  have c0 : (w.alloc (.cells #[.int .i64 e0, .int .i64 (k : Int)] 196)).cell? ⟨F, 0, none⟩ = some (.int .i64 a) := HA.out.cell 0
  have c1 : (w.alloc (.cells #[.int .i64 e0, .int .i64 (k : Int)] 196)).cell? ⟨F, 1, none⟩ = some (.int .i64 b) := HA.out.cell 1
  have f0 := HA.out.frozen 0
  have f1 := HA.out.frozen 1
  clear hF
  unfold oopsV
  refine callsD_of_wpS Tryz.func77 rfl fun c₀ cs hu => ?_
  apply wpS_seq
  apply wpS_region
  simp [wpOpsS, go_sem, recoverD, hu, Tryz.ntmps77, Exit.thenS]
  have hta : ∀ w : World, (Instr.typeAssert (.iface 196 (.agg #[.int .i64 e0, .int .i64 (k : Int)])) 20 196 true).run Tryz.prog w = .ok (.tuple #[.agg #[.int .i64 e0, .int .i64 (k : Int)], .bool true]) w := fun _ => by kernel_rfl
  refine wpS_of_wp ?_
  change Code.wp _ _ _ { tmps := #[.pointer (some ⟨F, 0, none⟩), undef, undef, undef, undef, .iface 196 (.agg #[.int .i64 e0, .int .i64 (k : Int)]), undef, undef, undef, undef, undef, undef, undef, undef, undef], defers := [] } _
  go_wp2
  simp [bodyPostS, results, Tryz.results77]
  exact ⟨(HA.out.set_ 0 (.int .i64 e0)).set_ 1 (.int .i64 (k : Int)), (((But.refl F w).alloc _).setCell (.inl rfl) _).setCell (.inl rfl) _⟩

set_option maxRecDepth 100000 in
set_option maxHeartbeats 2000000 in
theorem guardIdle (F : Nat) (w : World) :
    CallsD Tryz.prog 77 #[.pointer (some ⟨F, 0, none⟩)] .returning w fun e' u' w' => e' = .returned (.tuple #[]) ∧ u' = .returning ∧ w' = w := by
  refine callsD_of_wpS Tryz.func77 rfl fun c₀ cs hu => ?_
  apply wpS_seq
  apply wpS_region
  simp [wpOpsS, go_sem, recoverD, hu, Tryz.ntmps77, Exit.thenS]
  refine wpS_of_wp ?_
  change Code.wp _ _ _ { tmps := #[.pointer (some ⟨F, 0, none⟩), undef, undef, undef, undef, .nilIface, undef, undef, undef, undef, undef, undef, undef, undef, undef], defers := [] } _
  go_wp2
  cases c₀
  simp_all [bodyPostS, results, Tryz.results77]

theorem parse1 (F O : Nat) (a b : Int) (v : Value) (w : World) (hF : Blk w F 65 #[.int .i64 a, .int .i64 b]) (hO : Blk w O 23 #[v]) :
    CallsD Tryz.prog 88 #[.pointer (some ⟨F, 0, none⟩), .pointer (some ⟨O, 0, none⟩)] .returning w fun e' u' w' => u' = .returning ∧ e' = .returned (.tuple #[]) ∧ w' = (if a = 0 then w else w.setCell ⟨O, 0, none⟩ (.slice none 0 0)) := by
  have c0 : w.cell? ⟨F, 0, none⟩ = some (.int .i64 a) := hF.cell 0
  have d0 : w.cell? ⟨O, 0, none⟩ = some v := hO.cell 0
  have f0 := hO.frozen 0
  clear hF hO
  by_cases ha : a = 0
  · subst ha
    rw [if_pos rfl]
    go_enter_d Tryz.func88, Tryz.ntmps88
    go_wp2
    go_end0
    exact ⟨rfl, rfl⟩
  · rw [if_neg ha]
    have h1 : (a != 0) = true := by simpa using ha
    go_enter_d Tryz.func88, Tryz.ntmps88
    go_wp2
    go_end0
    exact ⟨rfl, rfl⟩

/-! ### What is wrong is no nothing -/
def Got.bad {α : Type} : Got α → Prop
  | .ok _ => True
  | .error (e, _) => e ≠ 0
theorem wordF_bad (r : Bytes) : (wordF r).bad := by
  unfold wordF
  split
  · show (2 : Int) ≠ 0; decide
  · split
    · show (7 : Int) ≠ 0; decide
    · trivial
theorem mustF_bad (sign r : Bytes) : (mustF sign r).bad := by
  unfold mustF
  split
  · trivial
  · show (2 : Int) ≠ 0; decide
theorem termsF_bad : ∀ (n : Nat) (acc : List PTerm) (r : Bytes), (termsF n acc r).bad
  | 0, _, _ => by show (5 : Int) ≠ 0; decide
  | n + 1, acc, r => by
    have hw := wordF_bad r
    unfold termsF
    split
    · rename_i e h; rw [h] at hw; exact hw
    · split
      · exact termsF_bad n _ _
      · rename_i w r1 h _
        have hm := mustF_bad [41] (eatF [44] r1)
        split
        · rename_i e h2; rw [h2] at hm; exact hm
        · trivial
theorem atomF_bad (no : Bool) (r : Bytes) : (atomF no r).bad := by
  have hw := wordF_bad (behindNot no r)
  unfold atomF
  split
  · rename_i e h; rw [h] at hw; exact hw
  · split
    · show (7 : Int) ≠ 0; decide
    · split
      · rename_i w r2 h _ _
        have ht := termsF_bad 4 [] (eatF [40] r2)
        split
        · rename_i e h2; rw [h2] at ht; exact ht
        · trivial
      · trivial
theorem bodyF_bad' : ∀ (n : Nat) (acc : List PAtom) (r : Bytes), (bodyF n acc r).bad
  | 0, _, _ => by show (5 : Int) ≠ 0; decide
  | n + 1, acc, r => by
    have hw := atomF_bad true r
    unfold bodyF
    split
    · rename_i e h; rw [h] at hw; exact hw
    · split
      · exact bodyF_bad' n _ _
      · trivial
theorem tailF_bad (r : Bytes) : (tailF r).bad := by
  unfold tailF
  split
  · exact bodyF_bad' _ _ _
  · trivial
theorem ruleF_bad (r : Bytes) : (ruleF r).bad := by
  have hh := atomF_bad false r
  unfold ruleF headF
  split
  · rename_i e h; rw [h] at hh; exact hh
  · rename_i a r1 h
    have ht := tailF_bad r1
    split
    · rename_i e h2; rw [h2] at ht; exact ht
    · rename_i b r3 h2
      have hm := mustF_bad [46] r3
      split
      · rename_i e h3; rw [h3] at hm; exact hm
      · trivial
theorem progF_bad : ∀ (n : Nat) (acc : List PRule) (r : Bytes), (progF n acc r).bad
  | 0, acc, r => by
    unfold progF
    split
    · trivial
    · show (5 : Int) ≠ 0; decide
  | n + 1, acc, r => by
    unfold progF
    split
    · trivial
    · have hr := ruleF_bad (blankF false r)
      split
      · rename_i e h; rw [h] at hr; exact hr
      · exact progF_bad n _ _
theorem progF_suffix : ∀ (n : Nat) (acc : List PRule) (r : Bytes), (progF n acc r).left <:+ r
  | 0, acc, r => by
    unfold progF
    split
    · exact List.nil_suffix
    · exact blankF_suffix _ _
  | n + 1, acc, r => by
    unfold progF
    split
    · exact List.nil_suffix
    · have hr := ruleF_suffix (blankF false r)
      split
      · rename_i e h; rw [h] at hr; exact List.IsSuffix.trans hr (blankF_suffix _ _)
      · rename_i x r1 h
        rw [h] at hr
        exact (progF_suffix n _ _).trans (List.IsSuffix.trans (l₂ := blankF false r) hr (blankF_suffix _ _))

/-! ### Parse -/
theorem rest_zero (s : Str) : rest s 0 = s.data.toList := rfl
theorem parseF_long {s : Str} (h : 3000 < s.size) : parseF s = ([], 4, 0) := by unfold parseF; rw [if_pos h]
theorem parseF_ok {s : Str} (h : ¬ 3000 < s.size) {l : List PRule} {r : Bytes} (k : progF 16 [] (rest s 0) = .ok (l, r)) : parseF s = (l, 0, 0) := by
  unfold parseF; rw [if_neg h, ← rest_zero, k]
theorem parseF_error {s : Str} (h : ¬ 3000 < s.size) {e : Int} {r : Bytes} (k : progF 16 [] (rest s 0) = .error (e, r)) : parseF s = ([], e, ((posF s r : Nat) : Int)) := by
  have hs := progF_suffix 16 [] (rest s 0)
  rw [k] at hs
  have hs' : r <:+ bytesOf s := hs
  unfold parseF; rw [if_neg h, ← rest_zero, k, posF_int s hs']

def ParsePost (s : Str) (w : World) (e : Ending) (w' : World) : Prop :=
  (∃ v, e = .returned (.tuple #[v, .agg #[.int .i64 (parseF s).2.1, .int .i64 (parseF s).2.2]]) ∧ RdRules (New w) w' v (parseF s).1) ∧ Below w.heap.size w w'

/-- Behind the deferred calls. -/
def doorDefers (F O : Nat) (g : Nat) : List Deferred := [{ target := .fn (.func 77) #[], args := #[.pointer (some ⟨F, 0, none⟩)] }, { target := .fn (.func g) #[.pointer (some ⟨F, 0, none⟩), .pointer (some ⟨O, 0, none⟩)], args := #[] }]

set_option maxRecDepth 100000 in
set_option maxHeartbeats 2000000 in
theorem parseDoorOk {s : Str} {w w5 : World} {a : Act} {F O : Nat} {l : List PRule} {v : Value} (hd : a.defers = doorDefers F O 88) (h2 : a.tmps.getD 2 undef = .pointer (some ⟨O, 0, none⟩)) (h3 : a.tmps.getD 3 undef = .pointer (some ⟨F, 0, none⟩))
    (hF : Blk w5 F 65 #[.int .i64 0, .int .i64 0]) (hO : Blk w5 O 23 #[v]) (hb : Below w.heap.size w w5) (hE : parseF s = (l, 0, 0)) (hv : RdRules (New w) w5 v l) :
    bodyPostD Tryz.prog Tryz.f42 (ParsePost s w) .ret a w5 := by
  have c0 : w5.cell? ⟨O, 0, none⟩ = some v := hO.cell 0
  have d0 : w5.cell? ⟨F, 0, none⟩ = some (.int .i64 0) := hF.cell 0
  have d1 : w5.cell? ⟨F, 1, none⟩ = some (.int .i64 0) := hF.cell 1
  show Leaves _ _ a.tmps (ParsePost s w) a.defers .returning w5
  rw [hd]
  unfold doorDefers
  refine leaves_cons (f := 77) (args := #[.pointer (some ⟨F, 0, none⟩)]) (by simp) (by simp [go_sem]) ?_
  refine (guardIdle F _).mono ?_
  rintro e u' w'' ⟨rfl, rfl, rfl⟩
  refine leaves_cons (f := 88) (args := #[.pointer (some ⟨F, 0, none⟩), .pointer (some ⟨O, 0, none⟩)]) (by simp [settle]) (by simp [go_sem]) ?_
  refine (parse1 F O 0 0 v _ hF hO).mono ?_
  rintro e u' w'' ⟨rfl, rfl, rfl⟩
  simp only
  show ∃ v', (results Tryz.f42 a.tmps).run Tryz.prog w'' = .ok v' w'' ∧ ParsePost s w (.returned v') w''
  refine ⟨.tuple #[v, .agg #[.int .i64 0, .int .i64 0]], ?_, ⟨v, ?_, ?_⟩, hb⟩
  · have h2' : a.tmps[2]?.getD undef = .pointer (some ⟨O, 0, none⟩) := by simpa [Array.getD_eq_getD_getElem?] using h2
    have h3' : a.tmps[3]?.getD undef = .pointer (some ⟨F, 0, none⟩) := by simpa [Array.getD_eq_getD_getElem?] using h3
    simp [results, Tryz.results42, h2', h3', c0, d0, d1, go_sem]
  · rw [hE]
  · rw [hE]; exact hv

set_option maxRecDepth 100000 in
set_option maxHeartbeats 2000000 in
theorem parseDoorBad {s : Str} {w w5 : World} {a : Act} {F O : Nat} {er : Int} {p : Nat} {v : Value} (hd : a.defers = doorDefers F O 88) (h2 : a.tmps.getD 2 undef = .pointer (some ⟨O, 0, none⟩)) (h3 : a.tmps.getD 3 undef = .pointer (some ⟨F, 0, none⟩))
    (hF : Blk w5 F 65 #[.int .i64 0, .int .i64 0]) (hO : Blk w5 O 23 #[v]) (hOF : O ≠ F) (hwO : w.heap.size ≤ O) (hwF : w.heap.size ≤ F) (hb : Below w.heap.size w w5) (hE : parseF s = ([], er, (p : Int))) (hn : er ≠ 0) :
    bodyPostD Tryz.prog Tryz.f42 (ParsePost s w) (.panic (oopsV er p)) a w5 := by
  show Leaves _ _ a.tmps (ParsePost s w) a.defers (.panicking (oopsV er p)) w5
  rw [hd]
  unfold doorDefers
  refine leaves_cons (f := 77) (args := #[.pointer (some ⟨F, 0, none⟩)]) (by simp) (by simp [go_sem]) ?_
  refine (guardCatch F 0 0 er p _ hF).mono ?_
  rintro e u' w6 ⟨rfl, rfl, hF6, hb6⟩
  have hO6 := hO.but hb6 hOF
  refine leaves_cons (f := 88) (args := #[.pointer (some ⟨F, 0, none⟩), .pointer (some ⟨O, 0, none⟩)]) (by simp [settle]) (by simp [go_sem]) ?_
  refine (parse1 F O er p v _ hF6 hO6).mono ?_
  rintro e u' w'' ⟨rfl, rfl, rfl⟩
  rw [if_neg hn]
  have hF7 := hF6.far (p := ⟨O, 0, none⟩) (fun e => hOF e.symm) (.slice none 0 0)
  have hO7 : Blk (w6.setCell ⟨O, 0, none⟩ (.slice none 0 0)) O 23 #[.slice none 0 0] := hO6.set_ 0 (.slice none 0 0)
  have hb7 : Below w.heap.size w (w6.setCell ⟨O, 0, none⟩ (.slice none 0 0)) := (hb.grown hb6 hb.size (fun q hq => by have := Option.some.inj hq; omega)).setCell hwO _
  generalize w6.setCell ⟨O, 0, none⟩ (.slice none 0 0) = w7 at *
  have c0 : w7.cell? ⟨O, 0, none⟩ = some (.slice none 0 0) := hO7.cell 0
  have d0 : w7.cell? ⟨F, 0, none⟩ = some (.int .i64 er) := hF7.cell 0
  have d1 : w7.cell? ⟨F, 1, none⟩ = some (.int .i64 (p : Int)) := hF7.cell 1
  show ∃ v', (results Tryz.f42 a.tmps).run Tryz.prog w7 = .ok v' w7 ∧ ParsePost s w (.returned v') w7
  refine ⟨.tuple #[.slice none 0 0, .agg #[.int .i64 er, .int .i64 (p : Int)]], ?_, ⟨.slice none 0 0, ?_, ?_⟩, hb7⟩
  · have h2' : a.tmps[2]?.getD undef = .pointer (some ⟨O, 0, none⟩) := by simpa [Array.getD_eq_getD_getElem?] using h2
    have h3' : a.tmps[3]?.getD undef = .pointer (some ⟨F, 0, none⟩) := by simpa [Array.getD_eq_getD_getElem?] using h3
    simp [results, Tryz.results42, h2', h3', c0, d0, d1, go_sem]
  · rw [hE]
  · rw [hE]; exact RdSlice.nothing (Nat.zero_le _) (fun _ => rfl)

/-- What is known where the parser throws. -/
def Thrown (F O g : Nat) (er : Int) (p : Nat) (T : World → Prop) : Exit → Act → World → Prop
  | .panic c, a, w => c = oopsV er p ∧ a.defers = doorDefers F O g ∧ a.tmps.getD 2 undef = .pointer (some ⟨O, 0, none⟩) ∧ a.tmps.getD 3 undef = .pointer (some ⟨F, 0, none⟩) ∧ T w
  | _, _, _ => False
theorem Thrown.put {F O g : Nat} {er : Int} {p : Nat} {T : World → Prop} {d : Nat} {v : Value} (h2 : d ≠ 2) (h3 : d ≠ 3) : ∀ c a w, Thrown F O g er p T (.panic c) (a.put (some d) v) w → Thrown F O g er p T (.panic c) a w := by
  rintro c a w ⟨k1, k2, k3, k4, k5⟩
  refine ⟨k1, k2, ?_, ?_, k5⟩
  · simpa [Act.put, Array.getD_eq_getD_getElem?, Array.getElem?_setIfInBounds, h2] using k3
  · simpa [Act.put, Array.getD_eq_getD_getElem?, Array.getElem?_setIfInBounds, h3] using k4

set_option maxRecDepth 100000 in
set_option maxHeartbeats 4000000 in
theorem parseCalls (s : Str) (w : World) (hs : s.size ≤ 1048576) : Calls Tryz.prog 42 #[.string s] w (ParsePost s w) := by
  have hmf : ∀ (fn : Fn) (first cap : Array Value) (w : World), (Instr.makeFunc fn first cap).run Tryz.prog w = .ok (.func fn first cap) w := fun _ _ _ _ => rfl
  by_cases h3 : 3000 < s.size
  · have i1 : (3000 : Int) < (s.size : Int) := by omega
    have HE := Lib.hid (parseF_long h3)
    go_enter_defers Tryz.func42, Tryz.ntmps42
    go_wp2
    simp [Leaves, results, Tryz.results42, go_sem, bodyPostD]
    unfold ParsePost
    rw [HE.out]
    exact ⟨⟨_, rfl, RdSlice.nothing (Nat.zero_le _) (fun _ => rfl)⟩, (((Below.refl _ _).alloc (Nat.le_refl _) _).alloc (by simp) _)⟩
  · have i1 : ¬ (3000 : Int) < (s.size : Int) := by omega
    have HO0 := Lib.hid (show Blk ((w.alloc (.cells #[.slice none 0 0] 23)).alloc (.cells #[.int .i64 0, .int .i64 0] 65)) w.heap.size 23 #[.slice none 0 0] from (Blk.new w _ _).alloc _)
    have HF0 := Lib.hid (show Blk ((w.alloc (.cells #[.slice none 0 0] 23)).alloc (.cells #[.int .i64 0, .int .i64 0] 65)) (w.heap.size + 1) 65 #[.int .i64 0, .int .i64 0] from heap_new_at (by simp))
    have HB0 := Lib.hid (show Below w.heap.size w ((w.alloc (.cells #[.slice none 0 0] 23)).alloc (.cells #[.int .i64 0, .int .i64 0] 65)) from ((Below.refl _ _).alloc (Nat.le_refl _) _).alloc (by simp) _)
    have hz0 : ((w.alloc (.cells #[.slice none 0 0] 23)).alloc (.cells #[.int .i64 0, .int .i64 0] 65)).heap.size = w.heap.size + 2 := by simp
    rcases hg : progF 16 [] (rest s 0) with ⟨er, r'⟩ | ⟨l, r⟩
    · have HE := Lib.hid (parseF_error h3 hg)
      have HNZ := Lib.hid (show er ≠ 0 by have := progF_bad 16 [] (rest s 0); rw [hg] at this; exact this)
      have HGG := Lib.hid hg
      clear hg
      go_enter_defers Tryz.func42, Tryz.ntmps42
      go_wp2
      generalize (w.alloc (.cells #[.slice none 0 0] 23)).alloc (.cells #[.int .i64 0, .int .i64 0] 65) = w0 at *
      have HZ0 := Lib.hid hz0
      clear hz0
      have f0 : w0.cell? ⟨w.heap.size + 1, 0, none⟩ = some (.int .i64 0) := HF0.out.cell 0
      have f1 : w0.cell? ⟨w.heap.size + 1, 1, none⟩ = some (.int .i64 0) := HF0.out.cell 1
      have g0 := World.new_ne w0 ⟨w.heap.size + 1, 0, none⟩ f0
      have g1 := World.new_ne w0 ⟨w.heap.size + 1, 1, none⟩ f1
      have HPS := Lib.hid (show Ps w0.heap.size s 0 ((w0.alloc (.cells #[.string s, .int .i64 0] 152)).drew) from ⟨heap_alloc_new w0 _, Nat.zero_le _⟩)
      refine Code.wp_mono (Q := Thrown (w.heap.size + 1) w.heap.size 88 er (posF s r') (fun w5 => But w0.heap.size ((w0.alloc (.cells #[.string s, .int .i64 0] 152)).drew) w5)) ?_ ?_
      · rintro (_ | _ | _ | _ | c | _) a5 w5 h5
        all_goals first | exact h5.elim | skip
        obtain ⟨rfl, k2, k3, k4, hb5⟩ := h5
        have hF5 := (show Blk ((w0.alloc (.cells #[.string s, .int .i64 0] 152)).drew) (w.heap.size + 1) 65 #[.int .i64 0, .int .i64 0] from HF0.out.alloc _).but hb5 (by have := HZ0.out; omega)
        have hO5 := (show Blk ((w0.alloc (.cells #[.string s, .int .i64 0] 152)).drew) w.heap.size 23 #[.slice none 0 0] from HO0.out.alloc _).but hb5 (by have := HZ0.out; omega)
        refine parseDoorBad k2 k3 k4 hF5 hO5 (by omega) (Nat.le_refl _) (by omega) ?_ HE.out HNZ.out
        exact ((HB0.out.alloc HB0.out.size _).drew).grown hb5 (by simp; have := HZ0.out; omega) (fun q hq => by have := Option.some.inj hq; have := HZ0.out; omega)
      refine wp_region_held_drew (S := fun w' => w'.cell? ⟨w.heap.size + 1, 0, none⟩ = some (.int .i64 0) ∧ w'.cell? ⟨w.heap.size + 1, 1, none⟩ = some (.int .i64 0)) (by kernel_rfl) ?_ (fun hHeld => ?_)
      · exact ⟨f0, f1⟩
      refine wpAnyH_take (i := 0) (oi := ⟨some 9, _, _, _, _, _⟩) (v := ?_) rfl (by kernel_rfl) (by kernel_rfl) (by kernel_rfl) (Thrown.put (by decide) (by decide)) (Or.inl ⟨by rfl, ?_⟩) (by assumption) ?_
      rotate_left
      · (intro w' hSw; (try dsimp only at hSw); go_simp; try with_reducible rfl)
      try simp only [Act.put, List.setIfInBounds_toArray, List.set_cons_zero, List.set_cons_succ]
      refine wpAnyH_take (i := 1) (oi := ⟨some 10, _, _, _, _, _⟩) (v := ?_) rfl (by kernel_rfl) (by kernel_rfl) (by kernel_rfl) (Thrown.put (by decide) (by decide)) (Or.inl ⟨by rfl, ?_⟩) (by assumption) ?_
      rotate_left
      · (intro w' hSw; (try dsimp only at hSw); go_simp; try with_reducible rfl)
      try simp only [Act.put, List.setIfInBounds_toArray, List.set_cons_zero, List.set_cons_succ]
      refine wpAnyH_take (i := 4) (oi := ⟨some 13, _, _, _, _, _⟩) (v := ?_) rfl (by kernel_rfl) (by kernel_rfl) (by kernel_rfl) (Thrown.put (by decide) (by decide)) (Or.inl ⟨by rfl, ?_⟩) (by assumption) ?_
      rotate_left
      · (intro w' hSw; (try dsimp only at hSw); go_simp; try with_reducible rfl)
      try simp only [Act.put, List.setIfInBounds_toArray, List.set_cons_zero, List.set_cons_succ]
      refine wpAnyH_ready (rs := [2]) (by kernel_rfl) (by simp) ?_
      refine AllReadyH.cons (o := ⟨some 11, _, _, _, _, _⟩) rfl (fun K hK => ?_) AllReadyH.nil
      go_simp
      refine hK.out _ _ ?_ (fun hHeld => ?_)
      · exact ⟨(HF0.out.alloc _).cell 0, (HF0.out.alloc _).cell 1⟩
      clear hK K
      try simp only [Act.put, List.setIfInBounds_toArray, List.set_cons_zero, List.set_cons_succ]
      refine wpAnyH_ready (rs := [3]) (by kernel_rfl) (by simp) ?_
      refine AllReadyH.cons (o := ⟨some 12, _, _, _, _, _⟩) rfl (fun K hK => ?_) AllReadyH.nil
      go_simp
      go_at_call 89
      refine (programCalls w0.heap.size s 0 _ hs HPS.out).mono ?_
      rintro e w5 h5
      obtain ⟨hb5, rfl⟩ := h5.error HGG.out
      exact ⟨rfl, rfl, rfl, rfl, hb5⟩
    · have HE := Lib.hid (parseF_ok h3 hg)
      have HGG := Lib.hid hg
      clear hg
      go_enter_defers Tryz.func42, Tryz.ntmps42
      go_wp2
      generalize (w.alloc (.cells #[.slice none 0 0] 23)).alloc (.cells #[.int .i64 0, .int .i64 0] 65) = w0 at *
      have HZ0 := Lib.hid hz0
      clear hz0
      have f0 : w0.cell? ⟨w.heap.size + 1, 0, none⟩ = some (.int .i64 0) := HF0.out.cell 0
      have f1 : w0.cell? ⟨w.heap.size + 1, 1, none⟩ = some (.int .i64 0) := HF0.out.cell 1
      have g0 := World.new_ne w0 ⟨w.heap.size + 1, 0, none⟩ f0
      have g1 := World.new_ne w0 ⟨w.heap.size + 1, 1, none⟩ f1
      have HPS := Lib.hid (show Ps w0.heap.size s 0 ((w0.alloc (.cells #[.string s, .int .i64 0] 152)).drew) from ⟨heap_alloc_new w0 _, Nat.zero_le _⟩)
      go_region_held3 (fun w' => w'.cell? ⟨w.heap.size + 1, 0, none⟩ = some (.int .i64 0) ∧ w'.cell? ⟨w.heap.size + 1, 1, none⟩ = some (.int .i64 0))
        (first | (exact ⟨((HF6.out.set_ 0 (.int .i64 0)).set_ 1 (.int .i64 0)).cell 0, ((HF6.out.set_ 0 (.int .i64 0)).set_ 1 (.int .i64 0)).cell 1⟩) | (exact ⟨HF6.out.cell 0, HF6.out.cell 1⟩) | (exact ⟨HF5.out.cell 0, HF5.out.cell 1⟩) | go_keep)
        (first | (go_at_call 89; refine (programCalls w0.heap.size s 0 _ hs HPS.out).mono ?_; rintro e w5 h5; obtain ⟨hb5, v5, rfl, hv5, -⟩ := h5.ok HGG.out; have hv5' : RdRules (New ((w0.alloc (.cells #[.string s, .int .i64 0] 152)).drew)) w5 v5 l := hv5; obtain ⟨va, vc, rfl, -, -, -⟩ := id hv5'.form; have HF5 := Lib.hid ((show Blk ((w0.alloc (.cells #[.string s, .int .i64 0] 152)).drew) (w.heap.size + 1) 65 #[.int .i64 0, .int .i64 0] from HF0.out.alloc _).but hb5 (by have := HZ0.out; omega)); have HO5 := Lib.hid ((show Blk ((w0.alloc (.cells #[.string s, .int .i64 0] 152)).drew) w.heap.size 23 #[.slice none 0 0] from HO0.out.alloc _).but hb5 (by have := HZ0.out; omega)); have HB5 := Lib.hid (((HB0.out.alloc HB0.out.size _).drew).grown hb5 (by simp; have := HZ0.out; omega) (fun q hq => by have := Option.some.inj hq; have := HZ0.out; omega)); have HV5 := Lib.hid hv5'; have d0 : w5.cell? ⟨w.heap.size, 0, none⟩ = some (.slice none 0 0) := HO5.out.cell 0; have d1 := HO5.out.frozen 0; have HF6 := Lib.hid (HF5.out.far (p := ⟨w.heap.size, 0, none⟩) (show w.heap.size + 1 ≠ w.heap.size by omega) (.slice va l.length vc)); have x0 := HF6.out.frozen 0; have x1 := HF6.out.frozen 1; clear h5 hb5 hv5))
      go_wp2
      have HO6 : Blk (w5.setCell ⟨w.heap.size, 0, none⟩ (.slice va l.length vc)) w.heap.size 23 #[.slice va l.length vc] := HO5.out.set_ 0 (.slice va l.length vc)
      have hNO : ¬ New ((w0.alloc (.cells #[.string s, .int .i64 0] 152)).drew) w.heap.size := fun h => by
        have h' : (w0.alloc (.cells #[.string s, .int .i64 0] 152)).heap.size ≤ w.heap.size := h
        simp at h'; have := HZ0.out; omega
      have hNF : ¬ New ((w0.alloc (.cells #[.string s, .int .i64 0] 152)).drew) (w.heap.size + 1) := fun h => by
        have h' : (w0.alloc (.cells #[.string s, .int .i64 0] 152)).heap.size ≤ w.heap.size + 1 := h
        simp at h'; have := HZ0.out; omega
      refine parseDoorOk (F := w.heap.size + 1) (O := w.heap.size) rfl rfl rfl ((HF6.out.set_ 0 (.int .i64 0)).set_ 1 (.int .i64 0)) ((HO6.far (p := ⟨w.heap.size + 1, 0, none⟩) (show w.heap.size ≠ w.heap.size + 1 by omega) _).far (p := ⟨w.heap.size + 1, 1, none⟩) (show w.heap.size ≠ w.heap.size + 1 by omega) _) (((HB5.out.setCell (Nat.le_refl _) _).setCell (Nat.le_succ _) _).setCell (Nat.le_succ _) _) HE.out ?_
      refine (((HV5.out.agree RRule.steady (Agree.setCell (p := ⟨w.heap.size, 0, none⟩) hNO _)).agree RRule.steady (Agree.setCell (p := ⟨w.heap.size + 1, 0, none⟩) hNF _)).agree RRule.steady (Agree.setCell (p := ⟨w.heap.size + 1, 1, none⟩) hNF _)).more RRule.steady (fun b hb _ => ?_)
      have hb' : (w0.alloc (.cells #[.string s, .int .i64 0] 152)).heap.size ≤ b := hb
      show w.heap.size ≤ b
      simp at hb'; have := HZ0.out; omega

end Go.Proofs.YtgoaiohkodbadaaGreat

/-
  THE WALKS OF syntax.Parse AND check.Strata, WHAT THEY ANSWER BEING KNOWN.
-/
namespace Go.Proofs.YtgoaiohkodbadaaGreat
open Go.RowKit

theorem parseKnown {s : Str} {p : List PRule} {n : Nat} (hn : p.length = n) (hs : s.size ≤ 1048576) (h : parseF s = (p, 0, 0)) (w : World) :
    Calls Tryz.prog 42 #[.string s] w fun e w' => (∃ a c, e = .returned (.tuple #[.slice a n c, .agg #[.int .i64 0, .int .i64 0]]) ∧ RdRules (New w) w' (.slice a n c) p) ∧ Below w.heap.size w w' := by
  refine (parseCalls s w hs).mono fun e w' ⟨⟨v, he, hr⟩, hb⟩ => ⟨?_, hb⟩
  rw [h] at he hr
  obtain ⟨a, c, rfl, -, -, -⟩ := id hr.form
  subst hn
  exact ⟨a, c, he, hr⟩
theorem strataKnown {S : Nat → Prop} {p : List PRule} {v : Value} {w : World} {l : List Int} {x y : Int} {n : Nat} (hn : l.length = n) (hk : StrataIs p l (x, y)) (h : RdRules S w v p) (n1 : p.length ≤ 1048576) (n2 : ∀ r ∈ p, RuleSmall r) (n3 : ∀ r ∈ p, NameSmall r) :
    Calls Tryz.prog 52 #[v] w fun e w' => (∃ a c, e = .returned (.tuple #[.slice a n c, .agg #[.int .i64 x, .int .i64 y]]) ∧ RdInts (New w) w' (.slice a n c) l) ∧ Below w.heap.size w w' := by
  refine (strataCalls p v w h n1 n2 n3).mono fun e w' ⟨hb, v', l', q, he, hr, hs⟩ => ⟨?_, hb⟩
  obtain ⟨rfl, rfl⟩ := hs.unique hk
  obtain ⟨a, c, rfl, -, -, -⟩ := id hr.form
  subst hn
  exact ⟨a, c, he, hr⟩
def ruleSmallB (x : PRule) : Bool := decide (x.head.terms.length ≤ 1048576) && x.head.terms.all (fun t => decide (t.name.size ≤ 1048576)) && decide (x.body.length ≤ 1048576) && x.body.all (fun a => decide (a.terms.length ≤ 1048576) && a.terms.all (fun t => decide (t.name.size ≤ 1048576)))
theorem ruleSmall_of {x : PRule} (h : ruleSmallB x = true) : RuleSmall x := by
  simp only [ruleSmallB, Bool.and_eq_true, List.all_eq_true, decide_eq_true_eq] at h
  exact ⟨h.1.1.1, h.1.1.2, h.1.2, fun a ha => (h.2 a ha).1, fun a ha => (h.2 a ha).2⟩
def nameSmallB (x : PRule) : Bool := decide (x.head.name.size ≤ 1048576) && x.body.all (fun a => decide (a.name.size ≤ 1048576))
theorem nameSmall_of {x : PRule} (h : nameSmallB x = true) : NameSmall x := by
  simp only [nameSmallB, Bool.and_eq_true, List.all_eq_true, decide_eq_true_eq] at h
  exact ⟨h.1, h.2⟩
end Go.Proofs.YtgoaiohkodbadaaGreat

/-
  TEXTS AND FACTS THAT ARE LAID WHOLE.
-/
namespace Go.Proofs.YtgoaiohkodbadaaGreat
open Go.RowKit

theorem Blk.at_ {w : World} {t : TypeId} {cs : Array Value} {n : Nat} (h : w.heap.size = n) : Blk (w.alloc (.cells cs t)) n t cs := heap_new_at h
theorem RdStrs.lit {w : World} {b : Nat} {t : TypeId} {l : List Str} {n : Nat} (hn : l.length = n) (hm : n ≤ maxLen) (h : Blk w b t (l.map Value.string).toArray) : RdStrs (fun _ => True) w (.slice (some ⟨b, 0, none⟩) n n) l := by
  subst hn
  refine ⟨_, _, rfl, Nat.le_refl _, hm, (fun h => by cases h), fun i x hx => ⟨b, 0, [.string x], rfl, trivial, h.lt, rfl, fun j u hu => ?_, rfl⟩⟩
  rcases j with _ | j
  · obtain rfl := Option.some.inj hu
    rw [h.cell]
    simp [hx]
  · simp at hu
theorem RdFacts.lit {w : World} {b : Nat} {t : TypeId} {l : List PFact} (avs : List Value) {n : Nat} (hn : l.length = n) (hm : n ≤ maxLen) (hl : avs.length = n) (h : Blk w b t (List.zipWith (fun (f : PFact) v => [Value.string f.name, v]) l avs).flatten.toArray)
    (ha : ∀ (i : Nat) (f : PFact) (v : Value), l[i]? = some f → avs[i]? = some v → RdStrs (fun _ => True) w v f.args) : RdFacts (fun _ => True) w (.slice (some ⟨b, 0, none⟩) n n) l := by
  subst hn
  refine ⟨_, _, rfl, Nat.le_refl _, hm, (fun h => by cases h), fun i x hx => ?_⟩
  have hi := (List.getElem?_eq_some_iff.1 hx).1
  obtain ⟨v, hv⟩ : ∃ v, avs[i]? = some v := ⟨_, List.getElem?_eq_getElem (by omega)⟩
  refine ⟨b, 0, [.string x.name, v], rfl, trivial, h.lt, rfl, fun j u hu => ?_, v, rfl, ha i x v hx hv⟩
  have hz : (List.zipWith (fun (f : PFact) v => [Value.string f.name, v]) l avs)[i]? = some [.string x.name, v] := by
    rw [List.getElem?_zipWith, hx, hv]
  have hg := flatten_get (k := 2) _ (fun cs hcs => by
    obtain ⟨i, hi⟩ := List.mem_iff_getElem?.1 hcs
    rw [List.getElem?_zipWith] at hi
    split at hi
    · obtain rfl := Option.some.inj hi; rfl
    · cases hi) i _ j u hz hu
  rw [h.cell, List.getElem?_toArray, Nat.zero_add]
  exact hg
end Go.Proofs.YtgoaiohkodbadaaGreat

/-
  THE WALK OF corolaw5.alive: true.
-/
namespace Go.Proofs.YtgoaiohkodbadaaGreat
open Go.RowKit

def xt : Str := ⟨#[116]⟩
def xe : Str := ⟨#[101]⟩
def xn : Str := ⟨#[110]⟩
def xv : Str := ⟨#[118]⟩
def xa : Str := ⟨#[97]⟩
def xb : Str := ⟨#[98]⟩
def xc : Str := ⟨#[99]⟩
def xX : Str := ⟨#[88]⟩
def xY : Str := ⟨#[89]⟩
def xZ : Str := ⟨#[90]⟩
def a5Text : Str := ⟨([116, 40, 88, 44, 89, 41, 32, 58, 45, 32, 101, 40, 88, 44, 89, 41, 46, 32, 116, 40, 88, 44, 90, 41, 32, 58, 45, 32, 116, 40, 88, 44, 89].append [41, 44, 32, 101, 40, 89, 44, 90, 41, 46, 32, 110, 40, 88, 41, 32, 58, 45, 32, 118, 40, 88, 41, 44, 32, 33, 116, 40, 97, 44, 88, 41, 46]).toArray⟩
def a5Prog : List PRule := [⟨⟨false, xt, [⟨true, xX⟩, ⟨true, xY⟩]⟩, [⟨false, xe, [⟨true, xX⟩, ⟨true, xY⟩]⟩]⟩,
  ⟨⟨false, xt, [⟨true, xX⟩, ⟨true, xZ⟩]⟩, [⟨false, xt, [⟨true, xX⟩, ⟨true, xY⟩]⟩, ⟨false, xe, [⟨true, xY⟩, ⟨true, xZ⟩]⟩]⟩,
  ⟨⟨false, xn, [⟨true, xX⟩]⟩, [⟨false, xv, [⟨true, xX⟩]⟩, ⟨true, xt, [⟨false, xa⟩, ⟨true, xX⟩]⟩]⟩]
def a5Facts : List PFact := [⟨xe, [xa, xb]⟩, ⟨xe, [xb, xc]⟩, ⟨xv, [xa]⟩, ⟨xv, [xc]⟩]
def a5All : List PFact := [⟨xe, [xa, xb]⟩, ⟨xe, [xb, xc]⟩, ⟨xn, [xa]⟩, ⟨xt, [xa, xb]⟩, ⟨xt, [xa, xc]⟩, ⟨xt, [xb, xc]⟩, ⟨xv, [xa]⟩, ⟨xv, [xc]⟩]
theorem parse_a5 : parseF a5Text = (a5Prog, 0, 0) := by decide +kernel
theorem of_a5 : ofF a5Facts = a5Facts := by decide +kernel
theorem naive_a5 : naiveP [0, 0, 1] 0 a5Prog a5Facts = (a5All, 0) := by decide +kernel
theorem wrong_a5 : wrongP a5Prog = (0, 0) := by decide +kernel
theorem mem_a5 : memF ⟨xn, [xa]⟩ a5All = true := by decide +kernel
theorem small_a5 : ∀ r ∈ a5Prog, RuleSmall r := fun r hr => ruleSmall_of (List.all_eq_true.1 (show a5Prog.all ruleSmallB = true by decide +kernel) r hr)
theorem names_a5 : ∀ r ∈ a5Prog, NameSmall r := fun r hr => nameSmall_of (List.all_eq_true.1 (show a5Prog.all nameSmallB = true by decide +kernel) r hr)
theorem rising_a5 : Rising a5All := by unfold Rising; decide +kernel

/-- A way to lay heads, as a list; the least one, told by counting. -/
def solB (p : List PRule) (M : Str → Nat) : Bool := p.all fun r => r.body.all fun a => decide (M a.name + dl p a ≤ M r.head.name)
theorem sol_of {p : List PRule} {M : Str → Nat} (h0 : ∀ s, s ∉ headsOf p → M s = 0) (h : solB p M = true) : Sol p M :=
  ⟨h0, fun r hr a ha => of_decide_eq_true (List.all_eq_true.1 (List.all_eq_true.1 h r hr) a ha)⟩
theorem least_a5 : Least a5Prog (fun s => if s = xn then 1 else 0) := by
  refine ⟨sol_of (fun s hs => ?_) (by decide +kernel), fun M hM s => ?_⟩
  · show (if s = xn then 1 else 0) = 0
    rw [if_neg]
    rintro rfl
    exact hs (by decide +kernel)
  · show (if s = xn then 1 else 0) ≤ M s
    split
    · rename_i e
      subst e
      have h := hM.up ⟨⟨false, xn, [⟨true, xX⟩]⟩, [⟨false, xv, [⟨true, xX⟩]⟩, ⟨true, xt, [⟨false, xa⟩, ⟨true, xX⟩]⟩]⟩ (by simp [a5Prog]) ⟨true, xt, [⟨false, xa⟩, ⟨true, xX⟩]⟩ (by simp)
      rw [show dl a5Prog ⟨true, xt, [⟨false, xa⟩, ⟨true, xX⟩]⟩ = 1 by decide +kernel] at h
      exact Nat.le_trans (Nat.le_add_left _ _) h
    · exact Nat.zero_le _
theorem strata_a5 : StrataIs a5Prog [0, 0, 1] (0, 0) := .inr ⟨by rw [wrong_a5], .inl ⟨_, least_a5, by decide +kernel, rfl⟩⟩

/-- naive.All, what it answers being known. -/
theorem naiveKnown {S S3 : Nat → Prop} {p : List PRule} {v fv : Value} {st : List Int} {q : Int × Int} {l r : List PFact} {e0 : Int} {n : Nat} {w : World} (hn : r.length = n) (hS : StrataIs p st q) (hr : naiveP st q.1 p l = (r, e0)) (h : RdRules S w v p) (hf : RdFacts S3 w fv l)
    (n1 : p.length ≤ 1048576) (n2 : ∀ r ∈ p, RuleSmall r) (n3 : ∀ r ∈ p, NameSmall r) (n4 : l.length ≤ 1048576) (n5 : ∀ x ∈ l, x.args.length ≤ 1048576) :
    Calls Tryz.prog 46 #[v, fv] w fun e w' => (∃ a c, e = .returned (.tuple #[.slice a n c, .int .i64 e0]) ∧ RdFacts (fun _ => True) w' (.slice a n c) r) ∧ Below w.heap.size w w' := by
  subst hn
  refine (naiveCalls p v fv st q l w hS h hf n1 n2 n3 n4 n5).mono fun e w' ⟨hb, v', he, ho⟩ => ⟨?_, hb⟩
  rw [hr] at he ho
  have h' := (ho.read RFact.steady).more RFact.steady (S' := fun _ => True) (fun _ _ _ => trivial)
  obtain ⟨a, c, rfl, -, -, -⟩ := id h'.form
  exact ⟨a, c, he, h'⟩
/-- fact.Of, likewise. -/
theorem ofKnown {S : Nat → Prop} {v : Value} {l r : List PFact} {n : Nat} {w : World} (hn : r.length = n) (hr : ofF l = r) (h : RdFacts S w v l) (n1 : l.length ≤ 1073741824) (n2 : ∀ x ∈ l, x.args.length ≤ 1073741824) :
    Calls Tryz.prog 47 #[v] w fun e w' => (∃ a c, e = .returned (.slice a n c) ∧ RdFacts (fun _ => True) w' (.slice a n c) r) ∧ Below w.heap.size w w' := by
  subst hn
  refine (ofCalls v l w h n1 n2).mono fun e w' ⟨⟨v', he, ho⟩, hb⟩ => ⟨?_, hb⟩
  rw [hr] at ho
  have h' := (ho.read RFact.steady).more RFact.steady (S' := fun _ => True) (fun _ _ _ => trivial)
  obtain ⟨a, c, rfl, -, -, -⟩ := id h'.form
  exact ⟨a, c, he, h'⟩

end Go.Proofs.YtgoaiohkodbadaaGreat

/-
  PLAIN: of a program that asks for nothing not to be so: what follows is the least that is closed; told what follows, nothing more follows.
-/
namespace Go.Proofs.YtgoaiohkodbadaaGreat

def Plain (p : List PRule) : Prop := ∀ r ∈ p, ∀ a ∈ r.body, a.neg = false
theorem Derives.up {r : PRule} {O M : List PFact} {x : PFact} (hn : ∀ a ∈ r.body, a.neg = false) (h : Derives r O x) (hp : ∀ f ∈ O, f ∈ M) : Derives r M x :=
  h.grow hp fun a ha e => absurd (hn a ha) (by rw [e]; decide)

theorem fix_under {p : List (PRule × Int)} {n : Int} {N : List PFact} (hc : ∀ r s, (r, s) ∈ p → (∀ a ∈ r.body, a.neg = false) ∧ ∀ x, Derives r N x → x ∈ N) : ∀ {k : Nat} {out : List PFact}, Rising out → out.length ≤ 200 → (∀ x ∈ out, x ∈ N) → (fixP p n k out).2 = 0 → ∀ x ∈ (fixP p n k out).1, x ∈ N
  | 0, out, _, _, ho, _ => ho
  | k + 1, out, hr, hl, ho, h => by
    rw [fixP] at h ⊢
    by_cases he : (onceP n out p out).2 = 0
    case neg => rw [if_pos he] at h; exact absurd h he
    rw [if_neg (by simpa using he)] at h ⊢
    have hR := once_round he hr hl
    by_cases hle : (onceP n out p out).1.length = out.length
    · rw [if_pos hle]; exact ho
    · rw [if_neg hle] at h ⊢
      refine fix_under hc (k := k) hR.rise hR.len (fun x hx => ?_) h
      rcases (hR.mem x).1 hx with h1 | ⟨r, s, h1, h2, h3⟩
      · exact ho x h1
      · obtain ⟨g1, g2⟩ := hc r s h1
        exact g2 x (Derives.up g1 ((mem_heads (hR.ok r s h1 h2) x).1 h3) ho)
theorem fix_set {p : List (PRule × Int)} {n : Int} : ∀ {k : Nat} {out : List PFact}, Rising out → out.length ≤ 200 → (fixP p n k out).2 = 0 → Rising (fixP p n k out).1 ∧ (fixP p n k out).1.length ≤ 200
  | 0, out, h1, h2, _ => ⟨h1, h2⟩
  | k + 1, out, hr, hl, h => by
    rw [fixP] at h ⊢
    by_cases he : (onceP n out p out).2 = 0
    case neg => rw [if_pos he] at h; exact absurd h he
    rw [if_neg (by simpa using he)] at h ⊢
    have hR := once_round he hr hl
    by_cases hle : (onceP n out p out).1.length = out.length
    · rw [if_pos hle]; exact ⟨hr, hl⟩
    · rw [if_neg hle] at h ⊢
      exact fix_set hR.rise hR.len h
theorem run_under {p : List (PRule × Int)} {N : List PFact} (hc : ∀ r s, (r, s) ∈ p → (∀ a ∈ r.body, a.neg = false) ∧ ∀ x, Derives r N x → x ∈ N) : ∀ {k : Nat} {i : Int} {out : List PFact}, Rising out → out.length ≤ 200 → (∀ x ∈ out, x ∈ N) → (runP p k i out).2 = 0 → ∀ x ∈ (runP p k i out).1, x ∈ N
  | 0, i, out, _, _, ho, _ => ho
  | k + 1, i, out, hr, hl, ho, h => by
    obtain ⟨h1, h2⟩ := run_step h
    rw [h2] at h ⊢
    obtain ⟨h3, h4⟩ := fix_set hr hl h1
    exact run_under hc (k := k) h3 h4 (fix_under hc hr hl ho h1) h
/-- What follows is the least. -/
theorem naive_least {p : List PRule} (hp : Plain p) {l N : List PFact} {st : List Int} {q : Int × Int} (hs : StrataIs p st q) (h : (naiveP st q.1 p l).2 = 0) (hl : ∀ x ∈ l, x ∈ N) (hN : ∀ r ∈ p, ∀ x, Derives r N x → x ∈ N) : ∀ x ∈ (naiveP st q.1 p l).1, x ∈ N := by
  obtain ⟨h1, h2, h3⟩ := naive_zero h
  obtain ⟨hR, hW, L, hL, rfl⟩ := strata_zero hs h1
  obtain ⟨g1, g2, g3⟩ := setF_set (factsBad_set h2)
  rw [h3] at h ⊢
  rw [zip_withL] at h ⊢
  exact run_under (fun r s hm => ⟨hp r (mem_withL.1 hm).1, hN r (mem_withL.1 hm).1⟩) g2 g1 hl h

theorem once_closed {n : Int} {M : List PFact} (hM : Good M) {p : List (PRule × Int)} (hR : ∀ r s, (r, s) ∈ p → ruleBad r = 0 ∧ ∀ x, Derives r M x → x ∈ M) : onceP n M p M = (M, 0) ∨ onceP n M p M = ([], 4) := by
  have hb : ∀ r s, (r, s) ∈ p → bodyBad r.body = 0 := fun r s h => (ruleBad_zero (hR r s h).1).2.2.1
  have hr : ∀ x, ReachF n M p M x → (onceP n M p M).2 ≠ 4 → x ∈ M := fun x hx h4 => by
    rcases hx with h | ⟨r, s, h1, h2, h3⟩
    · exact h
    · by_cases he : (headsP r M).2 = 0
      · exact (hR r s h1).2 x ((mem_heads he x).1 h3)
      · rw [(heads_err he).1] at h3
        simp at h3
  rcases once_cases (n := n) (out := M) (by rw [hM.set]) hb with h | ⟨h, -⟩ | ⟨h, h5⟩
  · left
    have hRd := once_round h hM.rise hM.len
    refine Prod.ext (rising_ext hRd.rise hM.rise fun x => ⟨fun hx => hr x ((hRd.mem x).1 hx) (by rw [h]; decide), fun hx => (hRd.mem x).2 (.inl hx)⟩) h
  · exact .inr h
  · have h6 := h5 M hM.rise fun x hx => hr x hx (by rw [h]; decide)
    have := hM.len
    omega
theorem fix_closed {n : Int} {M : List PFact} (hM : Good M) {p : List (PRule × Int)} (hR : ∀ r s, (r, s) ∈ p → ruleBad r = 0 ∧ ∀ x, Derives r M x → x ∈ M) : ∀ k, fixP p n k M = (M, 0) ∨ fixP p n k M = ([], 4)
  | 0 => .inl rfl
  | k + 1 => by
    rw [fixP]
    rcases once_closed (n := n) hM hR with h | h <;> rw [h]
    · rw [if_neg (by simp), if_pos rfl]; exact .inl rfl
    · exact .inr rfl
theorem run_closed {M : List PFact} (hM : Good M) {p : List (PRule × Int)} (hR : ∀ r s, (r, s) ∈ p → ruleBad r = 0 ∧ ∀ x, Derives r M x → x ∈ M) : ∀ k i, runP p k i M = (M, 0) ∨ runP p k i M = ([], 4)
  | 0, _ => .inl rfl
  | k + 1, i => by
    rw [runP]
    rcases fix_closed (n := i) hM hR 201 with h | h <;> rw [h]
    · rw [if_neg (by simp)]; exact run_closed hM hR k (i + 1)
    · exact .inr rfl
/-- Told what follows, nothing more follows. -/
theorem naive_again {p : List PRule} {l : List PFact} {st : List Int} {q : Int × Int} (hs : StrataIs p st q) (h : (naiveP st q.1 p l).2 = 0) :
    naiveP st q.1 p (naiveP st q.1 p l).1 = ((naiveP st q.1 p l).1, 0) ∨ naiveP st q.1 p (naiveP st q.1 p l).1 = ([], 4) := by
  obtain ⟨hF, -, hR⟩ := naive_follows hs h
  obtain ⟨h1, h2, -⟩ := naive_zero h
  obtain ⟨-, hW, L, hL, e⟩ := strata_zero hs h1
  have hA := (wrongP_iff.1 hW).2.2
  generalize (naiveP st q.1 p l).1 = M at *
  have hfit := hF.fit hA h2
  unfold naiveP
  rw [if_neg (by simpa using h1), if_neg (by simpa using hfit), e, zip_withL]
  exact run_closed ⟨hF.rise, hF.len, hF.good⟩ (fun r s hm => ⟨hR r (mem_withL.1 hm).1, hF.closed r (mem_withL.1 hm).1⟩) _ _
end Go.Proofs.YtgoaiohkodbadaaGreat

/-
  PLAIN: what is new of what was new, round by round (chapter 6).
-/
namespace Go.Proofs.YtgoaiohkodbadaaGreat

structure PRun where
  known : List PFact
  new : List PFact
  stratum : Int
  rounds : Int
  done : Bool
  deriving DecidableEq
def zeroRun : PRun := ⟨[], [], 0, 0, false⟩
/-- Stratum, Rounds, Done that can't be, of n strata. -/
def rangeBad (r : PRun) (n : Int) : Bool := decide (r.rounds < 0) || decide (1000 < r.rounds) || decide (r.stratum < 0) || decide (n < r.stratum) || (r.done != (r.stratum == n))
/-- round.Wrong, the strata being told. -/
def runBad (st : List Int) (q : Int) (p : List PRule) (r : PRun) : Int :=
  if q ≠ 0 then q else if (factsBad p r.known).1 ≠ 0 then (factsBad p r.known).1 else if (setF r.new).1 ≠ 0 then (setF r.new).1 else if rangeBad r (countP st) then 3 else if lessF r.new r.known ≠ [] then 8 else 0
/-- round.Begin. -/
def beginP (st : List Int) (q : Int) (p : List PRule) (l : List PFact) : PRun × Int :=
  if q ≠ 0 then (zeroRun, q) else if (factsBad p l).1 ≠ 0 then (zeroRun, (factsBad p l).1) else (⟨l, l, 0, 0, countP st == 0⟩, 0)
/-- What a rule's head is with each list. -/
def fillAll (h : PAtom) (ls : List Binds) : List PFact := ls.filterMap fun b => fillP h b
/-- round.heads. -/
def newP (x : PRule) (known new : List PFact) : Nat → List PAtom → List PFact → Bool → List PFact × Int
  | _, [], out, sm => if sm then (out, 0) else headsP x known
  | i, a :: b, out, sm => if a.neg then newP x known new (i + 1) b out sm
    else if (withP x.body known i new).2 ≠ 0 then ([], (withP x.body known i new).2) else newP x known new (i + 1) b (out ++ fillAll x.head (withP x.body known i new).1) true
def newHeads (x : PRule) (known new : List PFact) : List PFact × Int := newP x known new 0 x.body [] false
/-- What all rules of a stratum make. -/
def makeP (s : Int) (known new : List PFact) : List (PRule × Int) → List PFact → List PFact × Int
  | [], made => (made, 0)
  | (r, t) :: ps, made => if t ≠ s then makeP s known new ps made else if (newHeads r known new).2 ≠ 0 then ([], (newHeads r known new).2) else makeP s known new ps (made ++ (newHeads r known new).1)
/-- The run then. -/
def nextRun (n : Int) (r : PRun) (made : List PFact) : PRun :=
  if lessF (ofF made) r.known = [] then ⟨joinF r.known (lessF (ofF made) r.known), joinF r.known (lessF (ofF made) r.known), r.stratum + 1, r.rounds + 1, r.stratum + 1 == n⟩
  else ⟨joinF r.known (lessF (ofF made) r.known), lessF (ofF made) r.known, r.stratum, r.rounds + 1, false⟩
/-- A step of a run with which nothing is wrong. -/
def goodStep (st : List Int) (p : List PRule) (r : PRun) : PRun × Int :=
  if r.done then (r, 0) else if r.rounds = 1000 then (zeroRun, 5)
  else if (makeP r.stratum r.known r.new (p.zip st) []).2 ≠ 0 then (zeroRun, (makeP r.stratum r.known r.new (p.zip st) []).2)
  else if 200 < (joinF r.known (lessF (ofF (makeP r.stratum r.known r.new (p.zip st) []).1) r.known)).length then (zeroRun, 5)
  else (nextRun (countP st) r (makeP r.stratum r.known r.new (p.zip st) []).1, 0)
/-- round.Step. -/
def stepRun (st : List Int) (q : Int) (p : List PRule) (r : PRun) : PRun × Int := if runBad st q p r ≠ 0 then (zeroRun, runBad st q p r) else goodStep st p r
def iterP (st : List Int) (q : Int) (p : List PRule) : Nat → PRun → PRun × Int
  | 0, r => (r, 0)
  | k + 1, r => if r.done then (r, 0) else if (stepRun st q p r).2 ≠ 0 then (zeroRun, (stepRun st q p r).2) else iterP st q p k (stepRun st q p r).1
/-- round.Steps. -/
def stepsRun (st : List Int) (q : Int) (p : List PRule) (r : PRun) (n : Int) : PRun × Int :=
  if runBad st q p r ≠ 0 then (zeroRun, runBad st q p r) else if n < 0 ∨ 1000 < n then (zeroRun, 3) else iterP st q p n.toNat r
/-- round.All. -/
def allRun (st : List Int) (q : Int) (p : List PRule) (l : List PFact) : List PFact × Int :=
  if (beginP st q p l).2 ≠ 0 then ([], (beginP st q p l).2) else if (stepsRun st q p (beginP st q p l).1 1000).2 ≠ 0 then ([], (stepsRun st q p (beginP st q p l).1 1000).2) else ((stepsRun st q p (beginP st q p l).1 1000).1.known, 0)

theorem run_bad1 {st : List Int} {q : Int} {p : List PRule} {r : PRun} (h : q ≠ 0) : runBad st q p r = q := by unfold runBad; rw [if_pos h]
theorem run_bad2 {st : List Int} {p : List PRule} {r : PRun} (h : (factsBad p r.known).1 ≠ 0) : runBad st 0 p r = (factsBad p r.known).1 := by unfold runBad; rw [if_neg (by simp), if_pos h]
theorem run_bad3 {st : List Int} {p : List PRule} {r : PRun} (h : (factsBad p r.known).1 = 0) (h2 : (setF r.new).1 ≠ 0) : runBad st 0 p r = (setF r.new).1 := by unfold runBad; rw [if_neg (by simp), if_neg (by simpa using h), if_pos h2]
theorem run_bad4 {st : List Int} {p : List PRule} {r : PRun} (h : (factsBad p r.known).1 = 0) (h2 : (setF r.new).1 = 0) : runBad st 0 p r = if rangeBad r (countP st) then 3 else if lessF r.new r.known ≠ [] then 8 else 0 := by
  unfold runBad; rw [if_neg (by simp), if_neg (by simpa using h), if_neg (by simpa using h2)]
/-- What is not wrong. -/
structure RunOk (st : List Int) (p : List PRule) (r : PRun) : Prop where
  known : Good r.known
  fit : (factsBad p r.known).1 = 0
  new : Good r.new
  r0 : 0 ≤ r.rounds
  r1 : r.rounds ≤ 1000
  s0 : 0 ≤ r.stratum
  s1 : r.stratum ≤ countP st
  done : r.done = (r.stratum == countP st)
  sub : ∀ x ∈ r.new, x ∈ r.known
theorem rangeBad_iff {r : PRun} {n : Int} : rangeBad r n = false ↔ 0 ≤ r.rounds ∧ r.rounds ≤ 1000 ∧ 0 ≤ r.stratum ∧ r.stratum ≤ n ∧ r.done = (r.stratum == n) := by
  unfold rangeBad
  simp only [Bool.or_eq_false_iff, decide_eq_false_iff_not, bne_eq_false_iff_eq]
  constructor
  · rintro ⟨⟨⟨⟨h1, h2⟩, h3⟩, h4⟩, h5⟩; exact ⟨by omega, by omega, by omega, by omega, h5⟩
  · rintro ⟨h1, h2, h3, h4, h5⟩; exact ⟨⟨⟨⟨by omega, by omega⟩, by omega⟩, by omega⟩, h5⟩
theorem lessF_nil_iff {l m : List PFact} : lessF l m = [] ↔ ∀ x ∈ l, x ∈ m := by
  unfold lessF
  rw [List.filter_eq_nil_iff]
  constructor
  · intro h x hx
    have := h x hx
    simp only [Bool.not_eq_true', Bool.not_eq_false] at this
    exact (memF_iff x m).1 this
  · intro h x hx
    rw [(memF_iff x m).2 (h x hx)]; decide
theorem runBad_zero {st : List Int} {q : Int} {p : List PRule} {r : PRun} : runBad st q p r = 0 ↔ q = 0 ∧ RunOk st p r := by
  by_cases hq : q = 0
  case neg => rw [run_bad1 hq]; exact ⟨fun h => absurd h hq, fun h => absurd h.1 hq⟩
  subst hq
  by_cases hf : (factsBad p r.known).1 = 0
  case neg => rw [run_bad2 hf]; exact ⟨fun h => absurd h hf, fun h => absurd h.2.fit hf⟩
  by_cases hs : (setF r.new).1 = 0
  case neg => rw [run_bad3 hf hs]; exact ⟨fun h => absurd h hs, fun h => absurd (by rw [h.2.new.set]) hs⟩
  rw [run_bad4 hf hs]
  cases hr : rangeBad r (countP st)
  · obtain ⟨h1, h2, h3, h4, h5⟩ := rangeBad_iff.1 hr
    by_cases hl : lessF r.new r.known = []
    · rw [if_neg (by simp), if_neg (by simpa using hl)]
      exact ⟨fun _ => ⟨rfl, good_of (factsBad_set hf), hf, good_of hs, h1, h2, h3, h4, h5, lessF_nil_iff.1 hl⟩, fun _ => rfl⟩
    · rw [if_neg (by simp), if_pos hl]
      exact ⟨fun h => absurd h (by decide), fun h => absurd (lessF_nil_iff.2 h.2.sub) hl⟩
  · rw [if_pos rfl]
    refine ⟨fun h => absurd h (by decide), fun h => ?_⟩
    have := rangeBad_iff.2 ⟨h.2.r0, h.2.r1, h.2.s0, h.2.s1, h.2.done⟩
    rw [hr] at this; cases this
end Go.Proofs.YtgoaiohkodbadaaGreat

/-
  PLAIN: what a round makes; a right run stays right; rounds end; in two parts or at once (chapter 6).
-/
namespace Go.Proofs.YtgoaiohkodbadaaGreat

/-- What a rule makes, something in its body being new, or nothing in it can be. -/
def Makes (r : PRule) (known new : List PFact) (x : PFact) : Prop :=
  (∃ (i : Nat) (a : PAtom) (m : Binds), r.body[i]? = some a ∧ a.neg = false ∧ Told (pickP known new (i : Int)) r.body m ∧ fillP r.head m = some x) ∨ ((∀ a ∈ r.body, a.neg = true) ∧ Derives r known x)
theorem with_much {b : List PAtom} {known new : List PFact} {i : Int} (hb : bodyBad b = 0) (hk : (setF known).1 = 0) (hn : (setF new).1 = 0) (h : (withP b known i new).2 ≠ 0) : (withP b known i new).2 = 4 := by
  unfold withP at *
  rw [if_neg (by simpa using hb), if_neg (by simpa using hk), if_neg (by simpa using hn)] at *
  cases hg : goP (pickP known new i) 0 [[]] b with
  | none => rfl
  | some ls => rw [hg] at h; exact absurd rfl h
theorem newP_cases {x : PRule} {known new : List PFact} (hb : bodyBad x.body = 0) (hk : (setF known).1 = 0) (hn : (setF new).1 = 0) : ∀ (b : List PAtom) (i : Nat) (out : List PFact) (sm : Bool), x.body.drop i = b →
    (newP x known new i b out sm).2 = 4 ∨
    (newP x known new i b out sm).2 = 0 ∧ (sm = true ∨ ∃ a ∈ b, a.neg = false) ∧ (∀ f, f ∈ (newP x known new i b out sm).1 ↔ f ∈ out ∨ ∃ (j : Nat) (a : PAtom) (m : Binds), i ≤ j ∧ x.body[j]? = some a ∧ a.neg = false ∧ Told (pickP known new (j : Int)) x.body m ∧ fillP x.head m = some f) ∨
    sm = false ∧ (∀ a ∈ b, a.neg = true) ∧ newP x known new i b out sm = headsP x known
  | [], i, out, sm, hd => by
    rw [newP]
    cases sm
    · exact .inr (.inr ⟨rfl, fun a ha => by simp at ha, rfl⟩)
    · refine .inr (.inl ⟨rfl, .inl rfl, fun f => ?_⟩)
      refine ⟨fun h => .inl h, fun h => ?_⟩
      rcases h with h | ⟨j, a, m, hj, ha, -⟩
      · exact h
      · have hlen : x.body.length ≤ i := List.drop_eq_nil_iff.1 hd
        have := (List.getElem?_eq_some_iff.1 ha).1
        omega
  | a :: b, i, out, sm, hd => by
    have hai : x.body[i]? = some a := by
      have := congrArg (fun l => l[0]?) hd
      simpa using this
    have hd' : x.body.drop (i + 1) = b := by
      have := congrArg (fun l => l.drop 1) hd
      simpa [List.drop_drop] using this
    rw [newP]
    cases hneg : a.neg
    case true =>
      rw [if_pos rfl]
      rcases newP_cases hb hk hn b (i + 1) out sm hd' with h | ⟨h0, h1, h2⟩ | ⟨h1, h2, h3⟩
      · exact .inl h
      · refine .inr (.inl ⟨h0, ?_, fun f => ?_⟩)
        · rcases h1 with h1 | ⟨c, hc, hc'⟩
          · exact .inl h1
          · exact .inr ⟨c, List.mem_cons_of_mem _ hc, hc'⟩
        · rw [h2]
          refine or_congr_right ⟨fun ⟨j, c, m, hj, hr⟩ => ⟨j, c, m, by omega, hr⟩, fun ⟨j, c, m, hj, hc, hcn, hr⟩ => ⟨j, c, m, ?_, hc, hcn, hr⟩⟩
          by_cases e : j = i
          · subst e; rw [hai] at hc; injection hc with hc; subst hc; rw [hneg] at hcn; cases hcn
          · omega
      · exact .inr (.inr ⟨h1, fun c hc => by
          rcases List.mem_cons.1 hc with rfl | hc
          · exact hneg
          · exact h2 c hc, h3⟩)
    case false =>
      rw [if_neg (by simp)]
      by_cases he : (withP x.body known (i : Int) new).2 = 0
      case neg => rw [if_pos he]; exact .inl (with_much hb hk hn he)
      rw [if_neg (by simpa using he)]
      have hT : ∀ m, m ∈ (withP x.body known (i : Int) new).1 ↔ Told (pickP known new (i : Int)) x.body m := by
        rcases withP_cases x.body known (i : Int) new with ⟨h, -⟩ | ⟨-, -, -, -, -, h⟩
        · exact absurd he h
        · exact h
      rcases newP_cases hb hk hn b (i + 1) (out ++ fillAll x.head (withP x.body known (i : Int) new).1) true hd' with h | ⟨h0, h1, h2⟩ | ⟨h1, -⟩
      · exact .inl h
      · refine .inr (.inl ⟨h0, .inr ⟨a, by simp, hneg⟩, fun f => ?_⟩)
        rw [h2, List.mem_append]
        constructor
        · rintro ((h | h) | ⟨j, c, m, hj, hr⟩)
          · exact .inl h
          · obtain ⟨m, hm, hf⟩ := List.mem_filterMap.1 h
            exact .inr ⟨i, a, m, Nat.le_refl _, hai, hneg, (hT m).1 hm, hf⟩
          · exact .inr ⟨j, c, m, by omega, hr⟩
        · rintro (h | ⟨j, c, m, hj, hc, hcn, ht, hf⟩)
          · exact .inl (.inl h)
          · by_cases e : j = i
            · subst e
              exact .inl (.inr (List.mem_filterMap.2 ⟨m, (hT m).2 ht, hf⟩))
            · exact .inr ⟨j, c, m, by omega, hc, hcn, ht, hf⟩
      · cases h1
theorem newHeads_cases {x : PRule} {known new : List PFact} (hb : bodyBad x.body = 0) (hk : (setF known).1 = 0) (hn : (setF new).1 = 0) :
    (newHeads x known new).2 = 4 ∨ (newHeads x known new).2 = 0 ∧ ∀ f, f ∈ (newHeads x known new).1 ↔ Makes x known new f := by
  unfold newHeads
  rcases newP_cases hb hk hn x.body 0 [] false (by simp) with h | ⟨h0, h1, h2⟩ | ⟨-, h2, h3⟩
  · exact .inl h
  · refine .inr ⟨h0, fun f => ?_⟩
    rw [h2]
    constructor
    · rintro (h | ⟨j, c, m, -, hr⟩)
      · simp at h
      · exact .inl ⟨j, c, m, hr⟩
    · rintro (⟨j, c, m, hr⟩ | ⟨h, -⟩)
      · exact .inr ⟨j, c, m, Nat.zero_le _, hr⟩
      · rcases h1 with h1 | ⟨a, ha, han⟩
        · cases h1
        · rw [h a ha] at han; cases han
  · rw [h3]
    by_cases he : (headsP x known).2 = 0
    · refine .inr ⟨he, fun f => ?_⟩
      rw [mem_heads he]
      constructor
      · exact fun h => .inr ⟨h2, h⟩
      · rintro (⟨j, c, m, hc, hcn, -⟩ | ⟨-, h⟩)
        · rw [h2 c (List.mem_of_getElem? hc)] at hcn; cases hcn
        · exact h
    · exact .inl (heads_much hb hk he)
def MakesS (ps : List (PRule × Int)) (s : Int) (known new : List PFact) (x : PFact) : Prop := ∃ r t, (r, t) ∈ ps ∧ t = s ∧ Makes r known new x
theorem makeP_cases {s : Int} {known new : List PFact} (hk : (setF known).1 = 0) (hn : (setF new).1 = 0) : ∀ {ps : List (PRule × Int)} {made : List PFact}, (∀ r t, (r, t) ∈ ps → bodyBad r.body = 0) →
    (makeP s known new ps made).2 = 4 ∨ (makeP s known new ps made).2 = 0 ∧ ∀ f, f ∈ (makeP s known new ps made).1 ↔ f ∈ made ∨ MakesS ps s known new f
  | [], made, _ => .inr ⟨rfl, fun f => ⟨.inl, fun h => by
      rcases h with h | ⟨r, t, h, -⟩
      · exact h
      · simp at h⟩⟩
  | (r, t) :: ps, made, hb => by
    have hb' : ∀ r t, (r, t) ∈ ps → bodyBad r.body = 0 := fun r t h => hb r t (List.mem_cons_of_mem _ h)
    rw [makeP]
    by_cases ht : t = s
    case neg =>
      rw [if_pos ht]
      rcases makeP_cases (made := made) hk hn hb' with h | ⟨h0, h1⟩
      · exact .inl h
      · refine .inr ⟨h0, fun f => ?_⟩
        rw [h1]
        refine or_congr_right ⟨fun ⟨r', t', hm, hr⟩ => ⟨r', t', List.mem_cons_of_mem _ hm, hr⟩, fun ⟨r', t', hm, e, hr⟩ => ?_⟩
        rcases List.mem_cons.1 hm with hm | hm
        · injection hm with _ h2; subst h2; exact absurd e ht
        · exact ⟨r', t', hm, e, hr⟩
    rw [if_neg (by simpa using ht)]
    rcases newHeads_cases (hb r t (by simp)) hk hn with h | ⟨h0, h1⟩
    · rw [if_pos (by rw [h]; decide)]; exact .inl h
    rw [if_neg (by simpa using h0)]
    rcases makeP_cases (made := made ++ (newHeads r known new).1) hk hn hb' with h | ⟨g0, g1⟩
    · exact .inl h
    · refine .inr ⟨g0, fun f => ?_⟩
      rw [g1, List.mem_append, h1]
      constructor
      · rintro ((h | h) | ⟨r', t', hm, hr⟩)
        · exact .inl h
        · exact .inr ⟨r, t, by simp, ht, h⟩
        · exact .inr ⟨r', t', List.mem_cons_of_mem _ hm, hr⟩
      · rintro (h | ⟨r', t', hm, e, hr⟩)
        · exact .inl (.inl h)
        · rcases List.mem_cons.1 hm with hm | hm
          · injection hm with h2 _; subst h2; exact .inl (.inr hr)
          · exact .inr ⟨r', t', hm, e, hr⟩
/-- What is made of what is new is made of what is known. -/
theorem Makes.derives {r : PRule} {known new : List PFact} {x : PFact} (hs : ∀ y ∈ new, y ∈ known) (h : Makes r known new x) : Derives r known x := by
  rcases h with ⟨i, a, m, ha, hneg, ⟨h1, h2, h3, h4⟩, hf⟩ | ⟨-, h⟩
  · refine ⟨m, ⟨h1, h2, h3, fun j c hc => ?_⟩, hf⟩
    obtain ⟨f, k1, k2⟩ := h4 j c hc
    refine ⟨f, k1, ?_⟩
    unfold pickP at k2
    by_cases e : (j : Int) = (i : Int)
    · rw [if_pos e] at k2
      have e' : j = i := by omega
      subst e'
      rw [ha] at hc; injection hc with hc; subst hc
      rw [hneg] at k2 ⊢
      exact (memF_iff f known).2 (hs f ((memF_iff f new).1 k2))
    · rw [if_neg e] at k2; exact k2
  · exact h

theorem in_lessF (l m : List PFact) (x : PFact) : x ∈ lessF l m ↔ x ∈ l ∧ x ∉ m := by
  unfold lessF
  rw [List.mem_filter]
  refine and_congr_right fun _ => ?_
  rw [← memF_iff x m]
  cases memF x m <;> simp
theorem lessF_up {l m : List PFact} (h : Rising l) : Rising (lessF l m) := List.Pairwise.filter _ h
theorem joinF_nil {l : List PFact} (h : Rising l) : joinF l [] = l := rising_ext (ofF_rising _) h fun x => by rw [mem_joinF]; simp
/-- What a step comes to, with which nothing is wrong. -/
structure Stepped (ps : List (PRule × Int)) (n : Int) (r r' : PRun) : Prop where
  mem : ∀ x, x ∈ r'.known ↔ x ∈ r.known ∨ MakesS ps r.stratum r.known r.new x
  rise : Rising r'.known
  len : r'.known.length ≤ 200
  rnew : Rising r'.new
  rounds : r'.rounds = r.rounds + 1
  how : (r'.known = r.known ∧ r'.new = r.known ∧ r'.stratum = r.stratum + 1 ∧ r'.done = (r.stratum + 1 == n)) ∨
    (r'.stratum = r.stratum ∧ r'.done = false ∧ (∃ x, x ∈ r'.new) ∧ ∀ x, x ∈ r'.new ↔ x ∈ r'.known ∧ x ∉ r.known)
/-- The rules, and what is said of them. -/
structure Ruled (st : List Int) (p : List PRule) : Prop where
  rules : ∀ r ∈ p, ruleBad r = 0
  arity : Arity p
theorem Ruled.body {st : List Int} {p : List PRule} (h : Ruled st p) {r : PRule} {t : Int} (hm : (r, t) ∈ p.zip st) : bodyBad r.body = 0 := (ruleBad_zero (h.rules r (List.of_mem_zip hm).1)).2.2.1
theorem step_cases {st : List Int} {p : List PRule} (hR : Ruled st p) {r : PRun} (h : RunOk st p r) (hd : r.done = false) :
    goodStep st p r = (zeroRun, 4) ∨ (goodStep st p r = (zeroRun, 5) ∧ (r.rounds = 1000 ∨ ∃ l, Rising l ∧ 200 < l.length ∧ ∀ x, x ∈ l ↔ x ∈ r.known ∨ MakesS (p.zip st) r.stratum r.known r.new x)) ∨
    ((goodStep st p r).2 = 0 ∧ r.rounds ≠ 1000 ∧ Stepped (p.zip st) (countP st) r (goodStep st p r).1) := by
  have hk : (setF r.known).1 = 0 := by rw [h.known.set]
  have hn : (setF r.new).1 = 0 := by rw [h.new.set]
  unfold goodStep
  rw [hd, if_neg (by decide)]
  by_cases h1 : r.rounds = 1000
  · rw [if_pos h1]; exact .inr (.inl ⟨rfl, .inl h1⟩)
  rw [if_neg h1]
  rcases makeP_cases (s := r.stratum) (made := []) (ps := p.zip st) hk hn (fun r t hm => hR.body hm) with h2 | ⟨h2, h3⟩
  · rw [if_pos (by rw [h2]; decide), h2]; exact .inl rfl
  rw [if_neg (by simpa using h2)]
  generalize (makeP r.stratum r.known r.new (p.zip st) []).1 = made at h3
  have hM : ∀ x, x ∈ joinF r.known (lessF (ofF made) r.known) ↔ x ∈ r.known ∨ MakesS (p.zip st) r.stratum r.known r.new x := fun x => by
    rw [mem_joinF, in_lessF, mem_ofF, h3]
    constructor
    · rintro (h | ⟨h | h, -⟩)
      · exact .inl h
      · simp at h
      · exact .inr h
    · rintro (h | h)
      · exact .inl h
      · by_cases hx : x ∈ r.known
        · exact .inl hx
        · exact .inr ⟨.inr h, hx⟩
  by_cases h4 : 200 < (joinF r.known (lessF (ofF made) r.known)).length
  · rw [if_pos h4]; exact .inr (.inl ⟨rfl, .inr ⟨_, ofF_rising _, h4, hM⟩⟩)
  rw [if_neg h4]
  refine .inr (.inr ⟨rfl, h1, ?_⟩)
  show Stepped _ _ _ (nextRun (countP st) r made)
  unfold nextRun
  by_cases h5 : lessF (ofF made) r.known = []
  · rw [if_pos h5]
    have e : joinF r.known (lessF (ofF made) r.known) = r.known := by rw [h5, joinF_nil h.known.rise]
    rw [e] at hM h4 ⊢
    exact ⟨hM, h.known.rise, by show r.known.length ≤ 200; omega, h.known.rise, rfl, .inl ⟨rfl, rfl, rfl, rfl⟩⟩
  · rw [if_neg h5]
    refine ⟨hM, ofF_rising _, by show (joinF r.known (lessF (ofF made) r.known)).length ≤ 200; omega, lessF_up (ofF_rising _), rfl, .inr ⟨rfl, rfl, List.exists_mem_of_ne_nil _ h5, fun x => ?_⟩⟩
    show x ∈ lessF (ofF made) r.known ↔ x ∈ joinF r.known (lessF (ofF made) r.known) ∧ x ∉ r.known
    rw [mem_joinF, in_lessF]
    constructor
    · rintro ⟨a, b⟩; exact ⟨.inr ⟨a, b⟩, b⟩
    · rintro ⟨a | a, b⟩
      · exact absurd a b
      · exact a
theorem MakesS.derives {ps : List (PRule × Int)} {s : Int} {known new : List PFact} {x : PFact} (hs : ∀ y ∈ new, y ∈ known) (h : MakesS ps s known new x) : ∃ r t, (r, t) ∈ ps ∧ t = s ∧ Derives r known x := by
  obtain ⟨r, t, hm, e, h⟩ := h
  exact ⟨r, t, hm, e, h.derives hs⟩
theorem Stepped.sub {ps : List (PRule × Int)} {n : Int} {r r' : PRun} (h : Stepped ps n r r') : ∀ x ∈ r.known, x ∈ r'.known := fun x hx => (h.mem x).2 (.inl hx)
theorem Stepped.newsub {ps : List (PRule × Int)} {n : Int} {r r' : PRun} (h : Stepped ps n r r') : ∀ x ∈ r'.new, x ∈ r'.known := fun x hx => by
  rcases h.how with ⟨e1, e2, -⟩ | ⟨-, -, -, e⟩
  · rw [e2] at hx; rw [e1]; exact hx
  · exact ((e x).1 hx).1
/-- A right run stays right. -/
theorem Stepped.ok {st : List Int} {p : List PRule} (hR : Ruled st p) {r r' : PRun} (h : RunOk st p r) (hd : r.done = false) (h1 : r.rounds ≠ 1000) (hs : Stepped (p.zip st) (countP st) r r') : RunOk st p r' := by
  have hfine : ∀ x ∈ r'.known, wrongF x = 0 ∧ misfit p x = false := fun x hx => by
    rcases (hs.mem x).1 hx with hx | hx
    · exact ⟨h.known.fine x hx, (factsBad_iff.1 h.fit).2 x hx⟩
    · obtain ⟨r0, t, hm, -, hdv⟩ := hx.derives h.sub
      have hr0 := (List.of_mem_zip hm).1
      exact ⟨derives_good (hR.rules r0 hr0) (fun f hf => h.known.fine f hf) hdv, derives_fit hR.arity hr0 hdv⟩
  have hk : Good r'.known := ⟨hs.rise, hs.len, fun x hx => (hfine x hx).1⟩
  have hdn : (r.stratum == countP st) = false := by rw [← h.done]; exact hd
  have hne : r.stratum ≠ countP st := by simpa using hdn
  have h0 := h.s0
  have hs1 := h.s1
  have hr0 := h.r0
  have hr1 := h.r1
  have e := hs.rounds
  refine ⟨hk, factsBad_iff.2 ⟨by rw [hk.set], fun x hx => (hfine x hx).2⟩, ⟨hs.rnew, Nat.le_trans (rising_sub_le hs.rnew hs.newsub) hs.len, fun x hx => (hfine x (hs.newsub x hx)).1⟩, by omega, by omega, ?_, ?_, ?_, hs.newsub⟩
  · rcases hs.how with ⟨-, -, e, -⟩ | ⟨e, -⟩ <;> omega
  · rcases hs.how with ⟨-, -, e, -⟩ | ⟨e, -⟩ <;> omega
  · rcases hs.how with ⟨-, -, e, e2⟩ | ⟨e, e2, -⟩
    · rw [e2, e]
    · rw [e2, e, hdn]
theorem step_done {st : List Int} {p : List PRule} {r : PRun} (h : r.done = true) : goodStep st p r = (r, 0) := by unfold goodStep; rw [if_pos h]
theorem step_good_eq {st : List Int} {p : List PRule} {r : PRun} (h : RunOk st p r) : stepRun st 0 p r = goodStep st p r := by
  unfold stepRun
  rw [if_neg (by rw [runBad_zero.2 ⟨rfl, h⟩]; simp)]
/-- EACH ROUND IS RIGHT. -/
structure Rightly (st : List Int) (p : List PRule) (r r' : PRun) : Prop where
  ok : RunOk st p r'
  grows : ∀ x ∈ r.known, x ∈ r'.known
  done : r.done = true → r' = r
  rounds : r.rounds ≤ r'.rounds
  stratum : r.stratum ≤ r'.stratum
theorem step_right {st : List Int} {p : List PRule} (hR : Ruled st p) {r : PRun} (h : RunOk st p r) :
    (stepRun st 0 p r).2 = 4 ∨ (stepRun st 0 p r).2 = 5 ∨ (stepRun st 0 p r).2 = 0 ∧ Rightly st p r (stepRun st 0 p r).1 := by
  rw [step_good_eq h]
  cases hd : r.done
  · rcases step_cases hR h hd with h1 | ⟨h1, -⟩ | ⟨h1, h2, h3⟩
    · rw [h1]; exact .inl rfl
    · rw [h1]; exact .inr (.inl rfl)
    · refine .inr (.inr ⟨h1, h3.ok hR h hd h2, h3.sub, fun h => (by rw [hd] at h; cases h), ?_, ?_⟩)
      · have := h3.rounds; omega
      · rcases h3.how with ⟨-, -, e, -⟩ | ⟨e, -⟩ <;> omega
  · rw [step_done hd]
    exact .inr (.inr ⟨rfl, h, fun x hx => hx, fun _ => rfl, Int.le_refl _, Int.le_refl _⟩)
theorem iter_still {st : List Int} {q : Int} {p : List PRule} {r : PRun} (h : r.done = true) : ∀ k, iterP st q p k r = (r, 0)
  | 0 => rfl
  | k + 1 => by rw [iterP, if_pos h]
theorem iter_on {st : List Int} {q : Int} {p : List PRule} {r : PRun} (h : r.done = false) (k : Nat) : iterP st q p (k + 1) r = if (stepRun st q p r).2 ≠ 0 then (zeroRun, (stepRun st q p r).2) else iterP st q p k (stepRun st q p r).1 := by
  rw [iterP, if_neg (by rw [h]; simp)]
theorem iter_add {st : List Int} {q : Int} {p : List PRule} : ∀ {n m : Nat} {r : PRun}, (iterP st q p n r).2 = 0 → iterP st q p (n + m) r = iterP st q p m (iterP st q p n r).1
  | 0, m, r, _ => by rw [Nat.zero_add]; rfl
  | n + 1, m, r, h => by
    cases hd : r.done
    · rw [show n + 1 + m = (n + m) + 1 by omega, iter_on hd (n + m)]
      rw [iter_on hd n] at h ⊢
      by_cases he : (stepRun st q p r).2 = 0
      · rw [if_neg (by simpa using he)] at h ⊢
        rw [if_neg (by simpa using he)]
        exact iter_add h
      · rw [if_pos he] at h; exact absurd h he
    · rw [iter_still hd, iter_still hd]
      exact (iter_still hd m).symm
theorem iter_right {st : List Int} {p : List PRule} (hR : Ruled st p) : ∀ {n : Nat} {r : PRun}, RunOk st p r →
    (iterP st 0 p n r).2 = 4 ∨ (iterP st 0 p n r).2 = 5 ∨ (iterP st 0 p n r).2 = 0 ∧ RunOk st p (iterP st 0 p n r).1 ∧ ((iterP st 0 p n r).1.done = true ∨ n + r.known.length + r.stratum ≤ (iterP st 0 p n r).1.known.length + (iterP st 0 p n r).1.stratum)
  | 0, r, h => .inr (.inr ⟨rfl, h, .inr (by show ((0 : Nat) : Int) + _ + _ ≤ (r.known.length : Int) + r.stratum; omega)⟩)
  | n + 1, r, h => by
    cases hd : r.done
    case true => rw [iter_still hd]; exact .inr (.inr ⟨rfl, h, .inl hd⟩)
    rw [iterP, if_neg (by rw [hd]; simp), step_good_eq h]
    rcases step_cases hR h hd with h1 | ⟨h1, -⟩ | ⟨h1, h2, h3⟩
    · rw [h1]; exact .inl rfl
    · rw [h1]; exact .inr (.inl rfl)
    · rw [if_neg (by simpa using h1)]
      have hlen : (r.known.length : Int) + r.stratum + 1 ≤ (goodStep st p r).1.known.length + (goodStep st p r).1.stratum := by
        rcases h3.how with ⟨e, -, e2, -⟩ | ⟨e, -, ⟨x, hx⟩, e2⟩
        · rw [e, e2]; omega
        · rw [e]
          obtain ⟨a, b⟩ := (e2 x).1 hx
          have := nodup_le (l := x :: r.known) (m := (goodStep st p r).1.known) (List.nodup_cons.2 ⟨b, nodup_rising h.known.rise⟩) fun y hy => by
            rcases List.mem_cons.1 hy with rfl | hy
            · exact a
            · exact h3.sub y hy
          simp only [List.length_cons] at this
          omega
      rcases iter_right hR (n := n) (h3.ok hR h hd h2) with g | g | ⟨g1, g2, g3⟩
      · exact .inl g
      · exact .inr (.inl g)
      · refine .inr (.inr ⟨g1, g2, ?_⟩)
        rcases g3 with g3 | g3
        · exact .inl g3
        · refine .inr ?_
          omega
theorem steps_good {st : List Int} {p : List PRule} {r : PRun} (h : RunOk st p r) {n : Int} (h0 : 0 ≤ n) (h1 : n ≤ 1000) : stepsRun st 0 p r n = iterP st 0 p n.toNat r := by
  unfold stepsRun
  rw [if_neg (by rw [runBad_zero.2 ⟨rfl, h⟩]; simp), if_neg (by omega)]
/-- Each run ends. -/
theorem steps_end {st : List Int} {p : List PRule} (hR : Ruled st p) (hc : countP st ≤ 16) {r : PRun} (h : RunOk st p r) :
    (stepsRun st 0 p r 1000).2 = 4 ∨ (stepsRun st 0 p r 1000).2 = 5 ∨ (stepsRun st 0 p r 1000).2 = 0 ∧ RunOk st p (stepsRun st 0 p r 1000).1 ∧ (stepsRun st 0 p r 1000).1.done = true := by
  rw [steps_good h (by omega) (by omega)]
  rcases iter_right hR (n := (1000 : Int).toNat) h with g | g | ⟨g1, g2, g3⟩
  · exact .inl g
  · exact .inr (.inl g)
  · refine .inr (.inr ⟨g1, g2, ?_⟩)
    rcases g3 with g3 | g3
    · exact g3
    · have k1 := g2.known.len
      have k2 := g2.s1
      have k3 := h.s0
      have k4 : (((1000 : Int).toNat : Nat) : Int) = 1000 := rfl
      rw [k4] at g3
      omega
/-- STOPPED, AND GONE ON WITH. -/
theorem steps_parts {st : List Int} {p : List PRule} (hR : Ruled st p) {r : PRun} (h : RunOk st p r) {n m : Int} (n0 : 0 ≤ n) (n1 : n ≤ 100) (m0 : 0 ≤ m) (m1 : m ≤ 100) (he : (stepsRun st 0 p r n).2 = 0) :
    RunOk st p (stepsRun st 0 p r n).1 ∧ stepsRun st 0 p (stepsRun st 0 p r n).1 m = stepsRun st 0 p r (n + m) := by
  have e1 := steps_good h n0 (by omega)
  rw [e1] at he ⊢
  rcases iter_right hR (n := n.toNat) h with g | g | ⟨g1, g2, g3⟩
  · rw [he] at g; cases g
  · rw [he] at g; cases g
  · refine ⟨g2, ?_⟩
    rw [steps_good g2 m0 (by omega), steps_good h (by omega) (by omega), show (n + m).toNat = n.toNat + m.toNat by omega, iter_add g1]
theorem strata_count {p : List PRule} {st : List Int} {q : Int × Int} (hs : StrataIs p st q) (hq : q.1 = 0) : Ruled st p ∧ 0 ≤ countP st ∧ countP st ≤ 16 ∧ ∃ L, Least p L ∧ st = p.map (fun r => (L r.head.name : Int)) := by
  obtain ⟨h1, h2, L, hL, e⟩ := strata_zero hs hq
  obtain ⟨k1, -, k3⟩ := wrongP_iff.1 h2
  refine ⟨⟨h1, k3⟩, ?_, ?_, L, hL, e⟩
  · rcases count_is st with ⟨-, h⟩ | ⟨x, hx, h⟩
    · omega
    · rw [e] at hx
      obtain ⟨r, -, rfl⟩ := List.mem_map.1 hx
      omega
  · rcases count_is st with ⟨-, h⟩ | ⟨x, hx, h⟩
    · omega
    · rw [e] at hx
      obtain ⟨r, hr, rfl⟩ := List.mem_map.1 hx
      have := hL.bound (D := headsOf p) (fun x hx => hx) (s := r.head.name) (List.mem_map.2 ⟨r, hr, rfl⟩)
      rw [show (headsOf p).length = p.length from List.length_map ..] at this
      omega
theorem begin_ok {p : List PRule} {st : List Int} {q : Int × Int} (hs : StrataIs p st q) {l : List PFact} (h : (beginP st q.1 p l).2 = 0) :
    q.1 = 0 ∧ (factsBad p l).1 = 0 ∧ beginP st q.1 p l = (⟨l, l, 0, 0, countP st == 0⟩, 0) ∧ RunOk st p (beginP st q.1 p l).1 := by
  by_cases h1 : q.1 = 0
  case neg => unfold beginP at h; rw [if_pos h1] at h; exact absurd h h1
  by_cases h2 : (factsBad p l).1 = 0
  case neg => unfold beginP at h; rw [if_neg (by simpa using h1), if_pos h2] at h; exact absurd h h2
  have e : beginP st q.1 p l = (⟨l, l, 0, 0, countP st == 0⟩, 0) := by unfold beginP; rw [if_neg (by simpa using h1), if_neg (by simpa using h2)]
  have hg := good_of (factsBad_set h2)
  obtain ⟨-, c0, -⟩ := strata_count hs h1
  refine ⟨h1, h2, e, ?_⟩
  rw [e]
  exact ⟨hg, h2, hg, by show (0 : Int) ≤ 0; omega, by show (0 : Int) ≤ 1000; omega, by show (0 : Int) ≤ 0; omega, c0, by show (countP st == 0) = ((0 : Int) == countP st); rw [Bool.beq_comm], fun x hx => hx⟩
end Go.Proofs.YtgoaiohkodbadaaGreat
