/-
  THE TEXTS SynW5, Known, Alive5, Entry, RulesIn, NaiveK, ProofChk, ProofF, one behind the other.
-/
import Derived.Test.YtiaehkpimepbgaaGreatPk1
import Derived.Test.YtiaehkpimepbgaaGreatPk6
import Derived.Test.YtiaehkpimepbgaaGreatPk8
import Derived.Test.YtiaehkpimepbgaaGreatPk10
import Derived.Test.YtiaehkpimepbgaaGreatPk13
import Derived.Test.YtiaehkpimepbgaaGreatPk15
import Derived.Test.YtiaehkpimepbgaaGreatPk16
import Derived.Defers
import Derived.Recover
import Derived.Test.YtiaehkpimepbgaaGreatRows
import Derived.ProofKit
import Derived.OpenShut
import Derived.JoinedCond
import Derived.Carry
import Derived.Deep.Strs
import Derived.Deep.Slices
import Derived.Test.YtiaehkpimepbgaaGreatChecked
/-
  THE WALKS OF syntax.guard, Parse, Body: what is thrown is caught.
-/
namespace Go.Proofs.YtiaehkpimepbgaaGreat
open Go.RowKit

set_option maxRecDepth 100000 in
set_option maxHeartbeats 2000000 in
theorem guardCatch (F : Nat) (a b e0 : Int) (k : Nat) (w : World) (hF : Blk w F 55 #[.int .i64 a, .int .i64 b]) :
    CallsD Tryz.prog 36 #[.pointer (some ⟨F, 0, none⟩)] (.panicking (oopsV e0 k)) w fun e' u' w' => e' = .returned (.tuple #[]) ∧
      u' = .panicking [{ v := .iface 136 (.agg #[.int .i64 e0, .int .i64 (k : Int)]), recovered := true }] ∧ Blk w' F 55 #[.int .i64 e0, .int .i64 (k : Int)] ∧ But F w w' := by
  have HA := Lib.hid (hF.alloc (.cells #[.int .i64 e0, .int .i64 (k : Int)] 136))
  have c0 : (w.alloc (.cells #[.int .i64 e0, .int .i64 (k : Int)] 136)).cell? ⟨F, 0, none⟩ = some (.int .i64 a) := HA.out.cell 0
  have c1 : (w.alloc (.cells #[.int .i64 e0, .int .i64 (k : Int)] 136)).cell? ⟨F, 1, none⟩ = some (.int .i64 b) := HA.out.cell 1
  have f0 := HA.out.frozen 0
  have f1 := HA.out.frozen 1
  clear hF
  unfold oopsV
  refine callsD_of_wpS Tryz.func36 rfl fun c₀ cs hu => ?_
  apply wpS_seq
  apply wpS_region
  simp [wpOpsS, go_sem, recoverD, hu, Tryz.ntmps36, Exit.thenS]
  have hta : ∀ w : World, (Instr.typeAssert (.iface 136 (.agg #[.int .i64 e0, .int .i64 (k : Int)])) 20 136 true).run Tryz.prog w = .ok (.tuple #[.agg #[.int .i64 e0, .int .i64 (k : Int)], .bool true]) w := fun _ => by kernel_rfl
  refine wpS_of_wp ?_
  change Code.wp _ _ _ { tmps := #[.pointer (some ⟨F, 0, none⟩), undef, undef, undef, undef, .iface 136 (.agg #[.int .i64 e0, .int .i64 (k : Int)]), undef, undef, undef, undef, undef, undef, undef, undef, undef], defers := [] } _
  go_wp2
  simp [bodyPostS, results, Tryz.results36]
  exact ⟨(HA.out.set_ 0 (.int .i64 e0)).set_ 1 (.int .i64 (k : Int)), (((But.refl F w).alloc _).setCell (.inl rfl) _).setCell (.inl rfl) _⟩

set_option maxRecDepth 100000 in
set_option maxHeartbeats 2000000 in
theorem guardIdle (F : Nat) (w : World) :
    CallsD Tryz.prog 36 #[.pointer (some ⟨F, 0, none⟩)] .returning w fun e' u' w' => e' = .returned (.tuple #[]) ∧ u' = .returning ∧ w' = w := by
  refine callsD_of_wpS Tryz.func36 rfl fun c₀ cs hu => ?_
  apply wpS_seq
  apply wpS_region
  simp [wpOpsS, go_sem, recoverD, hu, Tryz.ntmps36, Exit.thenS]
  refine wpS_of_wp ?_
  change Code.wp _ _ _ { tmps := #[.pointer (some ⟨F, 0, none⟩), undef, undef, undef, undef, .nilIface, undef, undef, undef, undef, undef, undef, undef, undef, undef], defers := [] } _
  go_wp2
  cases c₀
  simp_all [bodyPostS, results, Tryz.results36]

theorem parse1 (F O : Nat) (a b : Int) (v : Value) (w : World) (hF : Blk w F 55 #[.int .i64 a, .int .i64 b]) (hO : Blk w O 23 #[v]) :
    CallsD Tryz.prog 87 #[.pointer (some ⟨F, 0, none⟩), .pointer (some ⟨O, 0, none⟩)] .returning w fun e' u' w' => u' = .returning ∧ e' = .returned (.tuple #[]) ∧ w' = (if a = 0 then w else w.setCell ⟨O, 0, none⟩ (.slice none 0 0)) := by
  have c0 : w.cell? ⟨F, 0, none⟩ = some (.int .i64 a) := hF.cell 0
  have d0 : w.cell? ⟨O, 0, none⟩ = some v := hO.cell 0
  have f0 := hO.frozen 0
  clear hF hO
  by_cases ha : a = 0
  · subst ha
    rw [if_pos rfl]
    go_enter_d Tryz.func87, Tryz.ntmps87
    go_wp2
    go_end0
    exact ⟨rfl, rfl⟩
  · rw [if_neg ha]
    have h1 : (a != 0) = true := by simpa using ha
    go_enter_d Tryz.func87, Tryz.ntmps87
    go_wp2
    go_end0
    exact ⟨rfl, rfl⟩

/-! ### What is wrong is no nothing -/
def Got.bad {α : Type} : Got α → Prop
  | .ok _ => True
  | .error (e, _) => e ≠ 0
theorem wordF_bad (r : Bytes) : (wordF r).bad := by
  unfold wordF
  split
  · show (2 : Int) ≠ 0; decide
  · split
    · show (7 : Int) ≠ 0; decide
    · trivial
theorem mustF_bad (sign r : Bytes) : (mustF sign r).bad := by
  unfold mustF
  split
  · trivial
  · show (2 : Int) ≠ 0; decide
theorem termsF_bad : ∀ (n : Nat) (acc : List PTerm) (r : Bytes), (termsF n acc r).bad
  | 0, _, _ => by show (5 : Int) ≠ 0; decide
  | n + 1, acc, r => by
    have hw := wordF_bad r
    unfold termsF
    split
    · rename_i e h; rw [h] at hw; exact hw
    · split
      · exact termsF_bad n _ _
      · rename_i w r1 h _
        have hm := mustF_bad [41] (eatF [44] r1)
        split
        · rename_i e h2; rw [h2] at hm; exact hm
        · trivial
theorem atomF_bad (no : Bool) (r : Bytes) : (atomF no r).bad := by
  have hw := wordF_bad (behindNot no r)
  unfold atomF
  split
  · rename_i e h; rw [h] at hw; exact hw
  · split
    · show (7 : Int) ≠ 0; decide
    · split
      · rename_i w r2 h _ _
        have ht := termsF_bad 4 [] (eatF [40] r2)
        split
        · rename_i e h2; rw [h2] at ht; exact ht
        · trivial
      · trivial
theorem bodyF_bad' : ∀ (n : Nat) (acc : List PAtom) (r : Bytes), (bodyF n acc r).bad
  | 0, _, _ => by show (5 : Int) ≠ 0; decide
  | n + 1, acc, r => by
    have hw := atomF_bad true r
    unfold bodyF
    split
    · rename_i e h; rw [h] at hw; exact hw
    · split
      · exact bodyF_bad' n _ _
      · trivial
theorem tailF_bad (r : Bytes) : (tailF r).bad := by
  unfold tailF
  split
  · exact bodyF_bad' _ _ _
  · trivial
theorem ruleF_bad (r : Bytes) : (ruleF r).bad := by
  have hh := atomF_bad false r
  unfold ruleF headF
  split
  · rename_i e h; rw [h] at hh; exact hh
  · rename_i a r1 h
    have ht := tailF_bad r1
    split
    · rename_i e h2; rw [h2] at ht; exact ht
    · rename_i b r3 h2
      have hm := mustF_bad [46] r3
      split
      · rename_i e h3; rw [h3] at hm; exact hm
      · trivial
theorem progF_bad : ∀ (n : Nat) (acc : List PRule) (r : Bytes), (progF n acc r).bad
  | 0, acc, r => by
    unfold progF
    split
    · trivial
    · show (5 : Int) ≠ 0; decide
  | n + 1, acc, r => by
    unfold progF
    split
    · trivial
    · have hr := ruleF_bad (blankF false r)
      split
      · rename_i e h; rw [h] at hr; exact hr
      · exact progF_bad n _ _
theorem progF_suffix : ∀ (n : Nat) (acc : List PRule) (r : Bytes), (progF n acc r).left <:+ r
  | 0, acc, r => by
    unfold progF
    split
    · exact List.nil_suffix
    · exact blankF_suffix _ _
  | n + 1, acc, r => by
    unfold progF
    split
    · exact List.nil_suffix
    · have hr := ruleF_suffix (blankF false r)
      split
      · rename_i e h; rw [h] at hr; exact List.IsSuffix.trans hr (blankF_suffix _ _)
      · rename_i x r1 h
        rw [h] at hr
        exact (progF_suffix n _ _).trans (List.IsSuffix.trans (l₂ := blankF false r) hr (blankF_suffix _ _))

/-! ### Parse -/
theorem rest_zero (s : Str) : rest s 0 = s.data.toList := rfl
theorem parseF_long {s : Str} (h : 3000 < s.size) : parseF s = ([], 4, 0) := by unfold parseF; rw [if_pos h]
theorem parseF_ok {s : Str} (h : ¬ 3000 < s.size) {l : List PRule} {r : Bytes} (k : progF 16 [] (rest s 0) = .ok (l, r)) : parseF s = (l, 0, 0) := by
  unfold parseF; rw [if_neg h, ← rest_zero, k]
theorem parseF_error {s : Str} (h : ¬ 3000 < s.size) {e : Int} {r : Bytes} (k : progF 16 [] (rest s 0) = .error (e, r)) : parseF s = ([], e, ((posF s r : Nat) : Int)) := by
  have hs := progF_suffix 16 [] (rest s 0)
  rw [k] at hs
  have hs' : r <:+ bytesOf s := hs
  unfold parseF; rw [if_neg h, ← rest_zero, k, posF_int s hs']

def ParsePost (s : Str) (w : World) (e : Ending) (w' : World) : Prop :=
  (∃ v, e = .returned (.tuple #[v, .agg #[.int .i64 (parseF s).2.1, .int .i64 (parseF s).2.2]]) ∧ RdRules (New w) w' v (parseF s).1) ∧ Below w.heap.size w w'

/-- Behind the deferred calls. -/
def doorDefers (F O : Nat) (g : Nat) : List Deferred := [{ target := .fn (.func 36) #[], args := #[.pointer (some ⟨F, 0, none⟩)] }, { target := .fn (.func g) #[.pointer (some ⟨F, 0, none⟩), .pointer (some ⟨O, 0, none⟩)], args := #[] }]

set_option maxRecDepth 100000 in
set_option maxHeartbeats 2000000 in
theorem parseDoorOk {s : Str} {w w5 : World} {a : Act} {F O : Nat} {l : List PRule} {v : Value} (hd : a.defers = doorDefers F O 87) (h2 : a.tmps.getD 2 undef = .pointer (some ⟨O, 0, none⟩)) (h3 : a.tmps.getD 3 undef = .pointer (some ⟨F, 0, none⟩))
    (hF : Blk w5 F 55 #[.int .i64 0, .int .i64 0]) (hO : Blk w5 O 23 #[v]) (hb : Below w.heap.size w w5) (hE : parseF s = (l, 0, 0)) (hv : RdRules (New w) w5 v l) :
    bodyPostD Tryz.prog Tryz.f53 (ParsePost s w) .ret a w5 := by
  have c0 : w5.cell? ⟨O, 0, none⟩ = some v := hO.cell 0
  have d0 : w5.cell? ⟨F, 0, none⟩ = some (.int .i64 0) := hF.cell 0
  have d1 : w5.cell? ⟨F, 1, none⟩ = some (.int .i64 0) := hF.cell 1
  show Leaves _ _ a.tmps (ParsePost s w) a.defers .returning w5
  rw [hd]
  unfold doorDefers
  refine leaves_cons (f := 36) (args := #[.pointer (some ⟨F, 0, none⟩)]) (by simp) (by simp [go_sem]) ?_
  refine (guardIdle F _).mono ?_
  rintro e u' w'' ⟨rfl, rfl, rfl⟩
  refine leaves_cons (f := 87) (args := #[.pointer (some ⟨F, 0, none⟩), .pointer (some ⟨O, 0, none⟩)]) (by simp [settle]) (by simp [go_sem]) ?_
  refine (parse1 F O 0 0 v _ hF hO).mono ?_
  rintro e u' w'' ⟨rfl, rfl, rfl⟩
  simp only
  show ∃ v', (results Tryz.f53 a.tmps).run Tryz.prog w'' = .ok v' w'' ∧ ParsePost s w (.returned v') w''
  refine ⟨.tuple #[v, .agg #[.int .i64 0, .int .i64 0]], ?_, ⟨v, ?_, ?_⟩, hb⟩
  · have h2' : a.tmps[2]?.getD undef = .pointer (some ⟨O, 0, none⟩) := by simpa [Array.getD_eq_getD_getElem?] using h2
    have h3' : a.tmps[3]?.getD undef = .pointer (some ⟨F, 0, none⟩) := by simpa [Array.getD_eq_getD_getElem?] using h3
    simp [results, Tryz.results53, h2', h3', c0, d0, d1, go_sem]
  · rw [hE]
  · rw [hE]; exact hv

set_option maxRecDepth 100000 in
set_option maxHeartbeats 2000000 in
theorem parseDoorBad {s : Str} {w w5 : World} {a : Act} {F O : Nat} {er : Int} {p : Nat} {v : Value} (hd : a.defers = doorDefers F O 87) (h2 : a.tmps.getD 2 undef = .pointer (some ⟨O, 0, none⟩)) (h3 : a.tmps.getD 3 undef = .pointer (some ⟨F, 0, none⟩))
    (hF : Blk w5 F 55 #[.int .i64 0, .int .i64 0]) (hO : Blk w5 O 23 #[v]) (hOF : O ≠ F) (hwO : w.heap.size ≤ O) (hwF : w.heap.size ≤ F) (hb : Below w.heap.size w w5) (hE : parseF s = ([], er, (p : Int))) (hn : er ≠ 0) :
    bodyPostD Tryz.prog Tryz.f53 (ParsePost s w) (.panic (oopsV er p)) a w5 := by
  show Leaves _ _ a.tmps (ParsePost s w) a.defers (.panicking (oopsV er p)) w5
  rw [hd]
  unfold doorDefers
  refine leaves_cons (f := 36) (args := #[.pointer (some ⟨F, 0, none⟩)]) (by simp) (by simp [go_sem]) ?_
  refine (guardCatch F 0 0 er p _ hF).mono ?_
  rintro e u' w6 ⟨rfl, rfl, hF6, hb6⟩
  have hO6 := hO.but hb6 hOF
  refine leaves_cons (f := 87) (args := #[.pointer (some ⟨F, 0, none⟩), .pointer (some ⟨O, 0, none⟩)]) (by simp [settle]) (by simp [go_sem]) ?_
  refine (parse1 F O er p v _ hF6 hO6).mono ?_
  rintro e u' w'' ⟨rfl, rfl, rfl⟩
  rw [if_neg hn]
  have hF7 := hF6.far (p := ⟨O, 0, none⟩) (fun e => hOF e.symm) (.slice none 0 0)
  have hO7 : Blk (w6.setCell ⟨O, 0, none⟩ (.slice none 0 0)) O 23 #[.slice none 0 0] := hO6.set_ 0 (.slice none 0 0)
  have hb7 : Below w.heap.size w (w6.setCell ⟨O, 0, none⟩ (.slice none 0 0)) := (hb.grown hb6 hb.size (fun q hq => by have := Option.some.inj hq; omega)).setCell hwO _
  generalize w6.setCell ⟨O, 0, none⟩ (.slice none 0 0) = w7 at *
  have c0 : w7.cell? ⟨O, 0, none⟩ = some (.slice none 0 0) := hO7.cell 0
  have d0 : w7.cell? ⟨F, 0, none⟩ = some (.int .i64 er) := hF7.cell 0
  have d1 : w7.cell? ⟨F, 1, none⟩ = some (.int .i64 (p : Int)) := hF7.cell 1
  show ∃ v', (results Tryz.f53 a.tmps).run Tryz.prog w7 = .ok v' w7 ∧ ParsePost s w (.returned v') w7
  refine ⟨.tuple #[.slice none 0 0, .agg #[.int .i64 er, .int .i64 (p : Int)]], ?_, ⟨.slice none 0 0, ?_, ?_⟩, hb7⟩
  · have h2' : a.tmps[2]?.getD undef = .pointer (some ⟨O, 0, none⟩) := by simpa [Array.getD_eq_getD_getElem?] using h2
    have h3' : a.tmps[3]?.getD undef = .pointer (some ⟨F, 0, none⟩) := by simpa [Array.getD_eq_getD_getElem?] using h3
    simp [results, Tryz.results53, h2', h3', c0, d0, d1, go_sem]
  · rw [hE]
  · rw [hE]; exact RdSlice.nothing (Nat.zero_le _) (fun _ => rfl)

/-- What is known where the parser throws. -/
def Thrown (F O g : Nat) (er : Int) (p : Nat) (T : World → Prop) : Exit → Act → World → Prop
  | .panic c, a, w => c = oopsV er p ∧ a.defers = doorDefers F O g ∧ a.tmps.getD 2 undef = .pointer (some ⟨O, 0, none⟩) ∧ a.tmps.getD 3 undef = .pointer (some ⟨F, 0, none⟩) ∧ T w
  | _, _, _ => False
theorem Thrown.put {F O g : Nat} {er : Int} {p : Nat} {T : World → Prop} {d : Nat} {v : Value} (h2 : d ≠ 2) (h3 : d ≠ 3) : ∀ c a w, Thrown F O g er p T (.panic c) (a.put (some d) v) w → Thrown F O g er p T (.panic c) a w := by
  rintro c a w ⟨k1, k2, k3, k4, k5⟩
  refine ⟨k1, k2, ?_, ?_, k5⟩
  · simpa [Act.put, Array.getD_eq_getD_getElem?, Array.getElem?_setIfInBounds, h2] using k3
  · simpa [Act.put, Array.getD_eq_getD_getElem?, Array.getElem?_setIfInBounds, h3] using k4

set_option maxRecDepth 100000 in
set_option maxHeartbeats 4000000 in
theorem parseCalls (s : Str) (w : World) (hs : s.size ≤ 1048576) : Calls Tryz.prog 53 #[.string s] w (ParsePost s w) := by
  have hmf : ∀ (fn : Fn) (first cap : Array Value) (w : World), (Instr.makeFunc fn first cap).run Tryz.prog w = .ok (.func fn first cap) w := fun _ _ _ _ => rfl
  by_cases h3 : 3000 < s.size
  · have i1 : (3000 : Int) < (s.size : Int) := by omega
    have HE := Lib.hid (parseF_long h3)
    go_enter_defers Tryz.func53, Tryz.ntmps53
    go_wp2
    simp [Leaves, results, Tryz.results53, go_sem, bodyPostD]
    unfold ParsePost
    rw [HE.out]
    exact ⟨⟨_, rfl, RdSlice.nothing (Nat.zero_le _) (fun _ => rfl)⟩, (((Below.refl _ _).alloc (Nat.le_refl _) _).alloc (by simp) _)⟩
  · have i1 : ¬ (3000 : Int) < (s.size : Int) := by omega
    have HO0 := Lib.hid (show Blk ((w.alloc (.cells #[.slice none 0 0] 23)).alloc (.cells #[.int .i64 0, .int .i64 0] 55)) w.heap.size 23 #[.slice none 0 0] from (Blk.new w _ _).alloc _)
    have HF0 := Lib.hid (show Blk ((w.alloc (.cells #[.slice none 0 0] 23)).alloc (.cells #[.int .i64 0, .int .i64 0] 55)) (w.heap.size + 1) 55 #[.int .i64 0, .int .i64 0] from heap_new_at (by simp))
    have HB0 := Lib.hid (show Below w.heap.size w ((w.alloc (.cells #[.slice none 0 0] 23)).alloc (.cells #[.int .i64 0, .int .i64 0] 55)) from ((Below.refl _ _).alloc (Nat.le_refl _) _).alloc (by simp) _)
    have hz0 : ((w.alloc (.cells #[.slice none 0 0] 23)).alloc (.cells #[.int .i64 0, .int .i64 0] 55)).heap.size = w.heap.size + 2 := by simp
    rcases hg : progF 16 [] (rest s 0) with ⟨er, r'⟩ | ⟨l, r⟩
    · have HE := Lib.hid (parseF_error h3 hg)
      have HNZ := Lib.hid (show er ≠ 0 by have := progF_bad 16 [] (rest s 0); rw [hg] at this; exact this)
      have HGG := Lib.hid hg
      clear hg
      go_enter_defers Tryz.func53, Tryz.ntmps53
      go_wp2
      generalize (w.alloc (.cells #[.slice none 0 0] 23)).alloc (.cells #[.int .i64 0, .int .i64 0] 55) = w0 at *
      have HZ0 := Lib.hid hz0
      clear hz0
      have f0 : w0.cell? ⟨w.heap.size + 1, 0, none⟩ = some (.int .i64 0) := HF0.out.cell 0
      have f1 : w0.cell? ⟨w.heap.size + 1, 1, none⟩ = some (.int .i64 0) := HF0.out.cell 1
      have g0 := World.new_ne w0 ⟨w.heap.size + 1, 0, none⟩ f0
      have g1 := World.new_ne w0 ⟨w.heap.size + 1, 1, none⟩ f1
      have HPS := Lib.hid (show Ps w0.heap.size s 0 ((w0.alloc (.cells #[.string s, .int .i64 0] 105)).drew) from ⟨heap_alloc_new w0 _, Nat.zero_le _⟩)
      refine Code.wp_mono (Q := Thrown (w.heap.size + 1) w.heap.size 87 er (posF s r') (fun w5 => But w0.heap.size ((w0.alloc (.cells #[.string s, .int .i64 0] 105)).drew) w5)) ?_ ?_
      · rintro (_ | _ | _ | _ | c | _) a5 w5 h5
        all_goals first | exact h5.elim | skip
        obtain ⟨rfl, k2, k3, k4, hb5⟩ := h5
        have hF5 := (show Blk ((w0.alloc (.cells #[.string s, .int .i64 0] 105)).drew) (w.heap.size + 1) 55 #[.int .i64 0, .int .i64 0] from HF0.out.alloc _).but hb5 (by have := HZ0.out; omega)
        have hO5 := (show Blk ((w0.alloc (.cells #[.string s, .int .i64 0] 105)).drew) w.heap.size 23 #[.slice none 0 0] from HO0.out.alloc _).but hb5 (by have := HZ0.out; omega)
        refine parseDoorBad k2 k3 k4 hF5 hO5 (by omega) (Nat.le_refl _) (by omega) ?_ HE.out HNZ.out
        exact ((HB0.out.alloc HB0.out.size _).drew).grown hb5 (by simp; have := HZ0.out; omega) (fun q hq => by have := Option.some.inj hq; have := HZ0.out; omega)
      refine wp_region_held_drew (S := fun w' => w'.cell? ⟨w.heap.size + 1, 0, none⟩ = some (.int .i64 0) ∧ w'.cell? ⟨w.heap.size + 1, 1, none⟩ = some (.int .i64 0)) (by kernel_rfl) ?_ (fun hHeld => ?_)
      · exact ⟨f0, f1⟩
      refine wpAnyH_take (i := 0) (oi := ⟨some 9, _, _, _, _, _⟩) (v := ?_) rfl (by kernel_rfl) (by kernel_rfl) (by kernel_rfl) (Thrown.put (by decide) (by decide)) (Or.inl ⟨by rfl, ?_⟩) (by assumption) ?_
      rotate_left
      · (intro w' hSw; (try dsimp only at hSw); go_simp; try with_reducible rfl)
      try simp only [Act.put, List.setIfInBounds_toArray, List.set_cons_zero, List.set_cons_succ]
      refine wpAnyH_take (i := 1) (oi := ⟨some 10, _, _, _, _, _⟩) (v := ?_) rfl (by kernel_rfl) (by kernel_rfl) (by kernel_rfl) (Thrown.put (by decide) (by decide)) (Or.inl ⟨by rfl, ?_⟩) (by assumption) ?_
      rotate_left
      · (intro w' hSw; (try dsimp only at hSw); go_simp; try with_reducible rfl)
      try simp only [Act.put, List.setIfInBounds_toArray, List.set_cons_zero, List.set_cons_succ]
      refine wpAnyH_take (i := 4) (oi := ⟨some 13, _, _, _, _, _⟩) (v := ?_) rfl (by kernel_rfl) (by kernel_rfl) (by kernel_rfl) (Thrown.put (by decide) (by decide)) (Or.inl ⟨by rfl, ?_⟩) (by assumption) ?_
      rotate_left
      · (intro w' hSw; (try dsimp only at hSw); go_simp; try with_reducible rfl)
      try simp only [Act.put, List.setIfInBounds_toArray, List.set_cons_zero, List.set_cons_succ]
      refine wpAnyH_ready (rs := [2]) (by kernel_rfl) (by simp) ?_
      refine AllReadyH.cons (o := ⟨some 11, _, _, _, _, _⟩) rfl (fun K hK => ?_) AllReadyH.nil
      go_simp
      refine hK.out _ _ ?_ (fun hHeld => ?_)
      · exact ⟨(HF0.out.alloc _).cell 0, (HF0.out.alloc _).cell 1⟩
      clear hK K
      try simp only [Act.put, List.setIfInBounds_toArray, List.set_cons_zero, List.set_cons_succ]
      refine wpAnyH_ready (rs := [3]) (by kernel_rfl) (by simp) ?_
      refine AllReadyH.cons (o := ⟨some 12, _, _, _, _, _⟩) rfl (fun K hK => ?_) AllReadyH.nil
      go_simp
      go_at_call 88
      refine (programCalls w0.heap.size s 0 _ hs HPS.out).mono ?_
      rintro e w5 h5
      obtain ⟨hb5, rfl⟩ := h5.error HGG.out
      exact ⟨rfl, rfl, rfl, rfl, hb5⟩
    · have HE := Lib.hid (parseF_ok h3 hg)
      have HGG := Lib.hid hg
      clear hg
      go_enter_defers Tryz.func53, Tryz.ntmps53
      go_wp2
      generalize (w.alloc (.cells #[.slice none 0 0] 23)).alloc (.cells #[.int .i64 0, .int .i64 0] 55) = w0 at *
      have HZ0 := Lib.hid hz0
      clear hz0
      have f0 : w0.cell? ⟨w.heap.size + 1, 0, none⟩ = some (.int .i64 0) := HF0.out.cell 0
      have f1 : w0.cell? ⟨w.heap.size + 1, 1, none⟩ = some (.int .i64 0) := HF0.out.cell 1
      have g0 := World.new_ne w0 ⟨w.heap.size + 1, 0, none⟩ f0
      have g1 := World.new_ne w0 ⟨w.heap.size + 1, 1, none⟩ f1
      have HPS := Lib.hid (show Ps w0.heap.size s 0 ((w0.alloc (.cells #[.string s, .int .i64 0] 105)).drew) from ⟨heap_alloc_new w0 _, Nat.zero_le _⟩)
      go_region_held3 (fun w' => w'.cell? ⟨w.heap.size + 1, 0, none⟩ = some (.int .i64 0) ∧ w'.cell? ⟨w.heap.size + 1, 1, none⟩ = some (.int .i64 0))
        (first | (exact ⟨((HF6.out.set_ 0 (.int .i64 0)).set_ 1 (.int .i64 0)).cell 0, ((HF6.out.set_ 0 (.int .i64 0)).set_ 1 (.int .i64 0)).cell 1⟩) | (exact ⟨HF6.out.cell 0, HF6.out.cell 1⟩) | (exact ⟨HF5.out.cell 0, HF5.out.cell 1⟩) | go_keep)
        (first | (go_at_call 88; refine (programCalls w0.heap.size s 0 _ hs HPS.out).mono ?_; rintro e w5 h5; obtain ⟨hb5, v5, rfl, hv5, -⟩ := h5.ok HGG.out; have hv5' : RdRules (New ((w0.alloc (.cells #[.string s, .int .i64 0] 105)).drew)) w5 v5 l := hv5; obtain ⟨va, vc, rfl, -, -, -⟩ := id hv5'.form; have HF5 := Lib.hid ((show Blk ((w0.alloc (.cells #[.string s, .int .i64 0] 105)).drew) (w.heap.size + 1) 55 #[.int .i64 0, .int .i64 0] from HF0.out.alloc _).but hb5 (by have := HZ0.out; omega)); have HO5 := Lib.hid ((show Blk ((w0.alloc (.cells #[.string s, .int .i64 0] 105)).drew) w.heap.size 23 #[.slice none 0 0] from HO0.out.alloc _).but hb5 (by have := HZ0.out; omega)); have HB5 := Lib.hid (((HB0.out.alloc HB0.out.size _).drew).grown hb5 (by simp; have := HZ0.out; omega) (fun q hq => by have := Option.some.inj hq; have := HZ0.out; omega)); have HV5 := Lib.hid hv5'; have d0 : w5.cell? ⟨w.heap.size, 0, none⟩ = some (.slice none 0 0) := HO5.out.cell 0; have d1 := HO5.out.frozen 0; have HF6 := Lib.hid (HF5.out.far (p := ⟨w.heap.size, 0, none⟩) (show w.heap.size + 1 ≠ w.heap.size by omega) (.slice va l.length vc)); have x0 := HF6.out.frozen 0; have x1 := HF6.out.frozen 1; clear h5 hb5 hv5))
      go_wp2
      have HO6 : Blk (w5.setCell ⟨w.heap.size, 0, none⟩ (.slice va l.length vc)) w.heap.size 23 #[.slice va l.length vc] := HO5.out.set_ 0 (.slice va l.length vc)
      have hNO : ¬ New ((w0.alloc (.cells #[.string s, .int .i64 0] 105)).drew) w.heap.size := fun h => by
        have h' : (w0.alloc (.cells #[.string s, .int .i64 0] 105)).heap.size ≤ w.heap.size := h
        simp at h'; have := HZ0.out; omega
      have hNF : ¬ New ((w0.alloc (.cells #[.string s, .int .i64 0] 105)).drew) (w.heap.size + 1) := fun h => by
        have h' : (w0.alloc (.cells #[.string s, .int .i64 0] 105)).heap.size ≤ w.heap.size + 1 := h
        simp at h'; have := HZ0.out; omega
      refine parseDoorOk (F := w.heap.size + 1) (O := w.heap.size) rfl rfl rfl ((HF6.out.set_ 0 (.int .i64 0)).set_ 1 (.int .i64 0)) ((HO6.far (p := ⟨w.heap.size + 1, 0, none⟩) (show w.heap.size ≠ w.heap.size + 1 by omega) _).far (p := ⟨w.heap.size + 1, 1, none⟩) (show w.heap.size ≠ w.heap.size + 1 by omega) _) (((HB5.out.setCell (Nat.le_refl _) _).setCell (Nat.le_succ _) _).setCell (Nat.le_succ _) _) HE.out ?_
      refine (((HV5.out.agree RRule.steady (Agree.setCell (p := ⟨w.heap.size, 0, none⟩) hNO _)).agree RRule.steady (Agree.setCell (p := ⟨w.heap.size + 1, 0, none⟩) hNF _)).agree RRule.steady (Agree.setCell (p := ⟨w.heap.size + 1, 1, none⟩) hNF _)).more RRule.steady (fun b hb _ => ?_)
      have hb' : (w0.alloc (.cells #[.string s, .int .i64 0] 105)).heap.size ≤ b := hb
      show w.heap.size ≤ b
      simp at hb'; have := HZ0.out; omega

end Go.Proofs.YtiaehkpimepbgaaGreat

/-
  THE WALKS OF syntax.Parse AND check.Strata, WHAT THEY ANSWER BEING KNOWN.
-/
namespace Go.Proofs.YtiaehkpimepbgaaGreat
open Go.RowKit

theorem strataKnown {S : Nat → Prop} {p : List PRule} {v : Value} {w : World} {l : List Int} {x y : Int} {n : Nat} (hn : l.length = n) (hk : StrataIs p l (x, y)) (h : RdRules S w v p) (n1 : p.length ≤ 1048576) (n2 : ∀ r ∈ p, RuleSmall r) (n3 : ∀ r ∈ p, NameSmall r) :
    Calls Tryz.prog 47 #[v] w fun e w' => (∃ a c, e = .returned (.tuple #[.slice a n c, .agg #[.int .i64 x, .int .i64 y]]) ∧ RdInts (New w) w' (.slice a n c) l) ∧ Below w.heap.size w w' := by
  refine (strataCalls p v w h n1 n2 n3).mono fun e w' ⟨hb, v', l', q, he, hr, hs⟩ => ⟨?_, hb⟩
  obtain ⟨rfl, rfl⟩ := hs.unique hk
  obtain ⟨a, c, rfl, -, -, -⟩ := id hr.form
  subst hn
  exact ⟨a, c, he, hr⟩
end Go.Proofs.YtiaehkpimepbgaaGreat

/-
  THE WALK OF corolaw5.alive: true.
-/
namespace Go.Proofs.YtiaehkpimepbgaaGreat
open Go.RowKit

def xe : Str := ⟨#[101]⟩
def xn : Str := ⟨#[110]⟩
def xv : Str := ⟨#[118]⟩
def xa : Str := ⟨#[97]⟩
def xb : Str := ⟨#[98]⟩
def xc : Str := ⟨#[99]⟩
/-- naive.All, what it answers being known. -/
theorem naiveKnown {S S3 : Nat → Prop} {p : List PRule} {v fv : Value} {st : List Int} {q : Int × Int} {l r : List PFact} {e0 : Int} {n : Nat} {w : World} (hn : r.length = n) (hS : StrataIs p st q) (hr : naiveP st q.1 p l = (r, e0)) (h : RdRules S w v p) (hf : RdFacts S3 w fv l)
    (n1 : p.length ≤ 1048576) (n2 : ∀ r ∈ p, RuleSmall r) (n3 : ∀ r ∈ p, NameSmall r) (n4 : l.length ≤ 1048576) (n5 : ∀ x ∈ l, x.args.length ≤ 1048576) :
    Calls Tryz.prog 54 #[v, fv] w fun e w' => (∃ a c, e = .returned (.tuple #[.slice a n c, .int .i64 e0]) ∧ RdFacts (fun _ => True) w' (.slice a n c) r) ∧ Below w.heap.size w w' := by
  subst hn
  refine (naiveCalls p v fv st q l w hS h hf n1 n2 n3 n4 n5).mono fun e w' ⟨hb, v', he, ho⟩ => ⟨?_, hb⟩
  rw [hr] at he ho
  have h' := (ho.read RFact.steady).more RFact.steady (S' := fun _ => True) (fun _ _ _ => trivial)
  obtain ⟨a, c, rfl, -, -, -⟩ := id h'.form
  exact ⟨a, c, he, h'⟩
end Go.Proofs.YtiaehkpimepbgaaGreat

/-
  THE ENTRY: from the row's reading of an argument to 'RdSlice': 'Opens'; and the row's end: what was below the heap's size is as it was.
-/
namespace Go.Proofs.YtiaehkpimepbgaaGreat
open Go.RowKit Go.ChangeShapes Go.WideShapes Go.Deep

theorem bulk_append {H : Type} (l r : List (DataW H)) : Rows.uptoBulkAll (l ++ r) = Rows.uptoBulkAll l + Rows.uptoBulkAll r := by
  induction l with
  | nil => simp [Rows.uptoBulkAll]
  | cons x l ih => simp only [List.cons_append, Rows.uptoBulkAll, ih]; omega

theorem cell_spot {w : World} {a : Addr} {v : Value} (h : w.cell? a = some v) : a.spot = none ∧ a.block < w.heap.size := by
  unfold World.cell? at h
  split at h
  · rename_i c t f hc
    refine ⟨?_, (Array.getElem?_eq_some_iff.1 hc).1⟩
    cases hs : a.spot with
    | none => rfl
    | some s => rw [hs] at h; simp at h
  · cases h

/-- How much a list of values is. -/
def sizeL {α : Type} (size : α → Nat) (l : List α) : Nat := 1 + (l.map size).sum
theorem sizeL_le {α : Type} {size : α → Nat} (hp : ∀ x, 1 ≤ size x) (l : List α) : l.length + 1 ≤ sizeL size l := by
  unfold sizeL
  induction l with
  | nil => simp
  | cons x l ih => have := hp x; simp only [List.map_cons, List.sum_cons, List.length_cons]; omega
theorem sizeL_mem {α : Type} {size : α → Nat} {l : List α} {x : α} (h : x ∈ l) : size x ≤ sizeL size l := by
  unfold sizeL
  induction l with
  | nil => cases h
  | cons y l ih =>
    simp only [List.map_cons, List.sum_cons]
    rcases List.mem_cons.1 h with rfl | h
    · omega
    · have := ih h; omega

/-- What the row's reading of a type gives. -/
structure Opens {α : Type} (P : Program) (t : TypeId) (k : Nat) (R : Reader α) (size : α → Nat) : Prop where
  cells : P.cellsOf t = k
  pos : 0 < k
  one : ∀ x, 1 ≤ size x
  opn : ∀ {H : Type} {enc : TypeId × Value → H} {w : World} {n : Nat} {cs : List Value} {x : DataW H × List MemPlace}, DataW.trod enc P w 0 (fun _ => true) true n t cs = some x → ∃ y, R (fun _ => True) w cs y ∧ size y ≤ Rows.uptoBulk x.1

theorem Opens.slice {α : Type} {P : Program} {t e : TypeId} {k : Nat} {R : Reader α} {size : α → Nat} (h : Opens P e k R size) (ht : P.underlying t = some (.slice e)) {H : Type} {enc : TypeId × Value → H} {w : World} {n : Nat} {cs : List Value} {x : DataW H × List MemPlace}
    (hx : DataW.trod enc P w 0 (fun _ => true) true n t cs = some x) : ∃ v l, cs = [v] ∧ RdSlice k R (fun _ => True) w v l ∧ sizeL size l ≤ Rows.uptoBulk x.1 := by
  rcases open_slice ht hx with ⟨rfl, rfl⟩ | ⟨a, len, cap, m, n', D, Pl, rfl, -, hl, hm, hmm, rfl, hi⟩
  · exact ⟨_, [], rfl, ⟨none, 0, rfl, Nat.le_refl _, Nat.zero_le _, fun _ => rfl, fun i x hx => by simp at hx⟩, by simp [sizeL, Rows.uptoBulk]⟩
  · simp only [if_true] at hmm
    subst hmm
    have main : ∀ j, j ≤ len → ∃ l : List α, l.length = j ∧ (∀ i y, l[i]? = some y → ∃ cs', w.cells? 0 (a.add (i * P.cellsOf e)) (P.cellsOf e) = some cs' ∧ R (fun _ => True) w cs' y) ∧ (l.map size).sum ≤ Rows.uptoBulkAll ((List.range j).map D) := by
      intro j
      induction j with
      | zero => exact fun _ => ⟨[], rfl, fun i y hy => by simp at hy, by simp⟩
      | succ j ih =>
        intro hj
        obtain ⟨l, h1, h2, h3⟩ := ih (by omega)
        obtain ⟨cs', g1, g2⟩ := hi j (by omega)
        obtain ⟨y, r1, r2⟩ := h.opn g2
        refine ⟨l ++ [y], by simp [h1], fun i z hz => ?_, ?_⟩
        · by_cases hij : i < j
          · rw [List.getElem?_append_left (by omega)] at hz; exact h2 i z hz
          · rw [List.getElem?_append_right (by omega)] at hz
            have : i - l.length = 0 := by
              have := (List.getElem?_eq_some_iff.1 hz).1
              simp at this; omega
            rw [this] at hz
            obtain rfl : y = z := by simpa using hz
            obtain rfl : i = j := by omega
            exact ⟨cs', g1, r1⟩
        · rw [List.range_succ, List.map_append (f := D), bulk_append, List.map_append, List.sum_append]
          simp [Rows.uptoBulkAll]
          simp at r2
          omega
    obtain ⟨l, h1, h2, h3⟩ := main len (Nat.le_refl _)
    refine ⟨_, l, rfl, ⟨some a, m, by rw [h1], by omega, hm, (fun e => by cases e), fun i y hy => ?_⟩, by simp only [sizeL, Rows.uptoBulk]; omega⟩
    obtain ⟨cs', g1, g2⟩ := h2 i y hy
    obtain ⟨-, hlen, hget⟩ := World.cells?_some g1
    rw [h.cells] at hlen hget
    have hk := h.pos
    obtain ⟨b, off, spot⟩ := a
    have hspot : spot = none ∧ b < w.heap.size := by
      obtain ⟨y0, hy0⟩ : ∃ y0, l[0]? = some y0 := ⟨_, List.getElem?_eq_getElem (by have := (List.getElem?_eq_some_iff.1 hy).1; omega)⟩
      obtain ⟨cs0, g3, -⟩ := h2 0 y0 hy0
      obtain ⟨-, hlen0, hget0⟩ := World.cells?_some g3
      rw [h.cells] at hlen0 hget0
      have h0 := hget0 0 hk
      rw [List.getElem?_eq_getElem (by omega)] at h0
      have := cell_spot h0
      simpa [Addr.add] using this
    obtain ⟨rfl, hb⟩ := hspot
    refine ⟨b, off, cs', rfl, trivial, hb, hlen, fun j u hu => ?_, g2⟩
    · have hj : j < k := by rw [← hlen]; exact (List.getElem?_eq_some_iff.1 hu).1
      have := hget j hj
      rw [hu] at this
      have hadd : ((⟨b, off, none⟩ : Addr).add (i * k)).add j = ⟨b, off + i * k + j, none⟩ := by
        unfold Addr.add
        split
        · split
          · simp_all
          · simp_all
        · split <;> simp_all <;> omega
      rwa [hadd] at this

/-- A struct that is an argument. -/
theorem Opens.arg {α : Type} {P : Program} {t : TypeId} {k : Nat} {R : Reader α} {size : α → Nat} (h : Opens P t k R size) {fs : Array Field} (ht : P.underlying t = some (.struct fs)) {H : Type} {enc : TypeId × Value → H} {W : World} {r : Reach} {b : Nat} {v : Value} {d : DataW H} {p : List MemPlace}
    (hv : Value.okWide P W r b t v) (hd : DataW.Trod enc P W 0 (fun _ => true) true t v d p) : ∃ x cs, v = .agg cs ∧ R (fun _ => True) W cs.toList x ∧ size x ≤ Rows.uptoBulk d := by
  obtain ⟨cs, rfl, -⟩ := okWide_struct ht hv
  obtain ⟨n, hn⟩ := hd
  obtain ⟨x, hr, hb⟩ := h.opn hn
  exact ⟨x, cs, rfl, hr, hb⟩
/-- A slice that is an argument. -/
theorem Opens.sliceArg {α : Type} {P : Program} {t e : TypeId} {k : Nat} {R : Reader α} {size : α → Nat} (h : Opens P e k R size) (ht : P.underlying t = some (.slice e)) {H : Type} {enc : TypeId × Value → H} {W : World} {r : Reach} {b : Nat} {v : Value} {d : DataW H} {p : List MemPlace}
    (hv : Value.okWide P W r b t v) (hd : DataW.Trod enc P W 0 (fun _ => true) true t v d p) : ∃ l, RdSlice k R (fun _ => True) W v l ∧ sizeL size l ≤ Rows.uptoBulk d := by
  obtain ⟨a, len, cap, rfl⟩ := okWide_slice ht hv
  obtain ⟨n, hn⟩ := hd
  obtain ⟨v', l, e1, hr, hb⟩ := h.slice ht hn
  have e2 : [Value.slice a len cap] = [v'] := e1
  obtain rfl : Value.slice a len cap = v' := by simpa using e2
  exact ⟨l, hr, hb⟩

theorem Opens.factArg {P : Program} {t : TypeId} {size : PFact → Nat} (h : Opens P t 2 RFact size) {fs : Array Field} (ht : P.underlying t = some (.struct fs)) {H : Type} {enc : TypeId × Value → H} {W : World} {r : Reach} {b : Nat} {v : Value} {d : DataW H} {p : List MemPlace}
    (hv : Value.okWide P W r b t v) (hd : DataW.Trod enc P W 0 (fun _ => true) true t v d p) : ∃ (f : PFact) (av : Value), v = .agg #[.string f.name, av] ∧ RdStrs (fun _ => True) W av f.args ∧ size f ≤ Rows.uptoBulk d := by
  obtain ⟨f, cs, rfl, ⟨av, e, hr⟩, hb⟩ := h.arg ht hv hd
  exact ⟨f, av, by rw [← Array.toArray_toList (xs := cs), e], hr, hb⟩

theorem Opens.strArg {P : Program} {t : TypeId} (h : Opens P t 1 RStr (fun s => s.size + 1)) (ht : P.underlying t = some .string) {H : Type} {enc : TypeId × Value → H} {W : World} {r : Reach} {b : Nat} {v : Value} {d : DataW H} {p : List MemPlace}
    (hv : Value.okWide P W r b t v) (hd : DataW.Trod enc P W 0 (fun _ => true) true t v d p) : ∃ s : Str, v = .string s ∧ s.size + 1 ≤ Rows.uptoBulk d := by
  obtain ⟨s, rfl⟩ := okWide_string ht hv
  obtain ⟨n, hn⟩ := hd
  obtain ⟨y, e, hb⟩ := h.opn hn
  have e' : [Value.string s] = [.string y] := e
  obtain rfl : s = y := by simpa using e'
  exact ⟨_, rfl, hb⟩
theorem Opens.intArg {P : Program} {t : TypeId} (h : Opens P t 1 RInt (fun _ => 1)) (ht : P.underlying t = some (.int .i64)) {H : Type} {enc : TypeId × Value → H} {W : World} {r : Reach} {b : Nat} {v : Value} {d : DataW H} {p : List MemPlace}
    (hv : Value.okWide P W r b t v) (hd : DataW.Trod enc P W 0 (fun _ => true) true t v d p) : ∃ n : Int, v = .int .i64 n ∧ 1 ≤ Rows.uptoBulk d := by
  obtain ⟨s, rfl⟩ := okWide_int ht hv
  obtain ⟨n, hn⟩ := hd
  obtain ⟨y, e, hb⟩ := h.opn hn
  exact ⟨_, rfl, hb⟩

theorem list2 {l : List Value} (h : l.length = 2) : ∃ a b, l = [a, b] := match l, h with | [a, b], _ => ⟨a, b, rfl⟩
theorem list3 {l : List Value} (h : l.length = 3) : ∃ a b c, l = [a, b, c] := match l, h with | [a, b, c], _ => ⟨a, b, c, rfl⟩
theorem list4 {l : List Value} (h : l.length = 4) : ∃ a b c d, l = [a, b, c, d] := match l, h with | [a, b, c, d], _ => ⟨a, b, c, d, rfl⟩
def sizeStr (s : Str) : Nat := s.size + 1
def sizeInt (_ : Int) : Nat := 1
def sizeFact (f : PFact) : Nat := 1 + sizeStr f.name + sizeL sizeStr f.args
def sizeTerm (f : PTerm) : Nat := 2 + sizeStr f.name
def sizeAtom (f : PAtom) : Nat := 2 + sizeStr f.name + sizeL sizeTerm f.terms
def sizeRule (f : PRule) : Nat := 1 + sizeAtom f.head + sizeL sizeAtom f.body
def sizeBind (f : PBind) : Nat := 1 + sizeStr f.var + sizeStr f.name

theorem openStr : Opens Tryz.prog 9 1 RStr sizeStr where
  cells := by kernel_rfl
  pos := by omega
  one _ := by simp only [sizeStr]; omega
  opn h := by
    obtain ⟨s, rfl, rfl, -⟩ := DataW.trod_string Tryz.underlying9 h
    refine ⟨s, rfl, ?_⟩
    have : s.data.toList.length = s.size := by rw [Array.length_toList]; rfl
    simp only [sizeStr, Rows.uptoBulk]; omega
theorem openInt : Opens Tryz.prog 3 1 RInt sizeInt where
  cells := by kernel_rfl
  pos := by omega
  one _ := by simp [sizeInt]
  opn h := by
    obtain ⟨s, rfl, rfl, -⟩ := DataW.trod_int Tryz.underlying3 h
    exact ⟨s, rfl, by simp [sizeInt, Rows.uptoBulk]⟩
theorem openFact : Opens Tryz.prog 44 2 RFact sizeFact where
  cells := by kernel_rfl
  pos := by omega
  one _ := by simp only [sizeFact]; omega
  opn {H enc w n cs x} h := by
    obtain ⟨y0, y1, n, rfl, hl, h0, h1⟩ := trod_struct2 Tryz.underlying44 h
    rw [show Tryz.prog.cellsOf 44 = 2 by kernel_rfl] at hl
    obtain ⟨c0, c1, rfl⟩ := list2 hl
    rw [show Tryz.prog.cellsOf 9 = 1 by kernel_rfl] at h0
    rw [show Tryz.prog.cellsOf 42 = 1 by kernel_rfl] at h1
    obtain ⟨s, e0, b0⟩ := openStr.opn h0
    obtain ⟨v, l, e1, hr, b1⟩ := openStr.slice Tryz.underlying42 h1
    obtain rfl : c0 = .string s := by simpa [RStr] using e0
    obtain rfl : c1 = v := by simpa using e1
    exact ⟨⟨s, l⟩, ⟨_, rfl, hr⟩, by simp only [sizeFact, Rows.uptoBulk, Rows.uptoBulkAll]; omega⟩
theorem openTerm : Opens Tryz.prog 152 2 RTerm sizeTerm where
  cells := by kernel_rfl
  pos := by omega
  one _ := by simp only [sizeTerm]; omega
  opn {H enc w n cs x} h := by
    obtain ⟨y0, y1, n, rfl, hl, h0, h1⟩ := trod_struct2 Tryz.underlying152 h
    rw [show Tryz.prog.cellsOf 152 = 2 by kernel_rfl] at hl
    obtain ⟨c0, c1, rfl⟩ := list2 hl
    rw [show Tryz.prog.cellsOf 4 = 1 by kernel_rfl] at h0
    rw [show Tryz.prog.cellsOf 9 = 1 by kernel_rfl] at h1
    obtain ⟨b, e0, rfl⟩ := DataW.trod_bool Tryz.underlying4 h0
    obtain ⟨s, e1, b1⟩ := openStr.opn h1
    obtain rfl : c0 = .bool b := by simpa using e0
    obtain rfl : c1 = .string s := by simpa [RStr] using e1
    exact ⟨⟨b, s⟩, rfl, by simp only [sizeTerm, Rows.uptoBulk, Rows.uptoBulkAll]; omega⟩
theorem openAtom : Opens Tryz.prog 66 3 RAtom sizeAtom where
  cells := by kernel_rfl
  pos := by omega
  one _ := by simp only [sizeAtom]; omega
  opn {H enc w n cs x} h := by
    obtain ⟨y0, y1, y2, n, rfl, hl, h0, h1, h2⟩ := trod_struct3 Tryz.underlying66 h
    rw [show Tryz.prog.cellsOf 66 = 3 by kernel_rfl] at hl
    obtain ⟨c0, c1, c2, rfl⟩ := list3 hl
    rw [show Tryz.prog.cellsOf 4 = 1 by kernel_rfl] at h0
    rw [show Tryz.prog.cellsOf 9 = 1 by kernel_rfl] at h1
    rw [show Tryz.prog.cellsOf 64 = 1 by kernel_rfl] at h2
    obtain ⟨b, e0, rfl⟩ := DataW.trod_bool Tryz.underlying4 h0
    obtain ⟨s, e1, b1⟩ := openStr.opn h1
    obtain ⟨v, l, e2, hr, b2⟩ := openTerm.slice Tryz.underlying64 h2
    obtain rfl : c0 = .bool b := by simpa using e0
    obtain rfl : c1 = .string s := by simpa [RStr] using e1
    obtain rfl : c2 = v := by simpa using e2
    exact ⟨⟨b, s, l⟩, ⟨_, rfl, hr⟩, by simp only [sizeAtom, Rows.uptoBulk, Rows.uptoBulkAll]; omega⟩
theorem openRule : Opens Tryz.prog 68 4 RRule sizeRule where
  cells := by kernel_rfl
  pos := by omega
  one _ := by simp only [sizeRule]; omega
  opn {H enc w n cs x} h := by
    obtain ⟨y0, y1, n, rfl, hl, h0, h1⟩ := trod_struct2 Tryz.underlying68 h
    rw [show Tryz.prog.cellsOf 68 = 4 by kernel_rfl] at hl
    obtain ⟨c0, c1, c2, c3, rfl⟩ := list4 hl
    rw [show Tryz.prog.cellsOf 66 = 3 by kernel_rfl] at h0
    rw [show Tryz.prog.cellsOf 53 = 1 by kernel_rfl] at h1
    obtain ⟨a, ⟨tv, e0, hr0⟩, b0⟩ := openAtom.opn h0
    obtain ⟨v, l, e1, hr, b1⟩ := openAtom.slice Tryz.underlying53 h1
    obtain ⟨rfl, rfl, rfl⟩ : c0 = .bool a.neg ∧ c1 = .string a.name ∧ c2 = tv := by simpa using e0
    obtain rfl : c3 = v := by simpa using e1
    exact ⟨⟨a, l⟩, ⟨_, _, rfl, hr0, hr⟩, by simp only [sizeRule, Rows.uptoBulk, Rows.uptoBulkAll]; omega⟩
theorem openBind : Opens Tryz.prog 146 2 RBind sizeBind where
  cells := by kernel_rfl
  pos := by omega
  one _ := by simp only [sizeBind]; omega
  opn {H enc w n cs x} h := by
    obtain ⟨y0, y1, n, rfl, hl, h0, h1⟩ := trod_struct2 Tryz.underlying146 h
    rw [show Tryz.prog.cellsOf 146 = 2 by kernel_rfl] at hl
    obtain ⟨c0, c1, rfl⟩ := list2 hl
    rw [show Tryz.prog.cellsOf 9 = 1 by kernel_rfl] at h0 h1
    obtain ⟨s, e0, b0⟩ := openStr.opn h0
    obtain ⟨s', e1, b1⟩ := openStr.opn h1
    obtain rfl : c0 = .string s := by simpa [RStr] using e0
    obtain rfl : c1 = .string s' := by simpa [RStr] using e1
    exact ⟨⟨s, s'⟩, rfl, by simp only [sizeBind, Rows.uptoBulk, Rows.uptoBulkAll]; omega⟩

/-! ### The row's end -/
theorem trodAll_carry {H : Type} {enc : TypeId × Value → H} {P : Program} (hl : laidOutB P = true) {W W' : World} (hb : Below W.heap.size W W') {sp : Nat → Bool} :
    ∀ {ts : List TypeId} {vs : List Value} {ds : List (DataW H)} {ps : List MemPlace}, ts.all (fun t => P.readableRec t && decide (t < P.types.size)) = true → (∀ x ∈ ps, x.block < W.heap.size) → (∀ x ∈ ps, sp x.block = true) →
      DataW.TrodAll enc P W 0 (fun _ => true) true ts vs ds ps → DataW.TrodAll enc P W' 0 sp true ts vs ds ps
  | [], _, _, _, _, _, _, h => by
    obtain ⟨rfl, rfl, rfl⟩ := trodAll_nil h
    exact trodAll_mk0
  | t :: ts, _, _, _, ht, hlt, hsp, h => by
    obtain ⟨v, vs1, d, ds1, a, b, rfl, rfl, rfl, h1, h2⟩ := trodAll_cons h
    simp only [List.all_cons, Bool.and_eq_true, decide_eq_true_eq] at ht
    exact ⟨a, b, WideElems.Trod_stays hl ht.1.1 ht.1.2 h1 (fun x hx => hb.same (hlt x (by simp [hx]))) (fun x hx => hsp x (by simp [hx])),
      trodAll_carry hl hb (by simpa using ht.2) (fun x hx => hlt x (by simp [hx])) (fun x hx => hsp x (by simp [hx])) h2, rfl⟩

/-- A law's end: it has answered true; nothing below the heap's old size has turned. -/
theorem law_post {H : Type} {enc : TypeId × Value → H} {P : Program} {f : Func} {s : ChangeSpec} {fresh handsOn again : Bool} {W W' : World} {args : Array Value} {ds gs : List (DataW H)} {before : List MemPlace} {tb : TypeId}
    (hW : DataW.Whole enc P f.params.toList s.vars false W args.toList ds gs before) (hv : s.vars = []) (hfn : s.fn H ds = { results := [.lit (.bool true)], args := ds }) (hrt : f.resultTypes = #[tb]) (htb : P.underlying tb = some .bool)
    (hl : laidOutB P = true) (hread : f.params.toList.all (fun t => P.readableRec t && decide (t < P.types.size)) = true) (hb : Below W.heap.size W W') : s.post enc P f false fresh handsOn again W args (.bool true) W' := by
  have hlt := hW.lt
  have hold : ∀ p ∈ before, (fun b => decide (b < W.heap.size)) p.block = true := fun p hp => by simpa using hlt p hp
  have hW' := hW
  obtain ⟨p, q, hA, hV, rfl, hz, hn⟩ := hW
  rw [hv] at hV
  obtain ⟨rfl, rfl⟩ := trodVars_none hV
  have hds : ds ++ ([] : List (DataW H)) = ds := List.append_nil _
  have hargs : ∀ sp : Nat → Bool, (∀ x ∈ p, sp x.block = true) → DataW.TrodAll enc P W' 0 sp true f.params.toList args.toList (s.fn H (ds ++ [])).args p := fun sp hsp => by
    rw [hds, hfn]
    exact trodAll_carry hl hb hread (fun x hx => hlt x (by simp [hx])) hsp hA
  have hres : ∀ (b : Nat) (sp : Nat → Bool) (hd : Bool), DataW.TrodAll enc P W' b sp hd f.resultTypes.toList ((Value.bool true).resultList f.resultTypes.size) (s.fn H (ds ++ [])).results [] := fun b sp hd => by
    rw [hds, hfn, hrt]
    exact trodAll_cons_mk (shut_bool htb _) trodAll_mk0
  have hvars : ∀ sp : Nat → Bool, DataW.TrodVars enc P W' sp s.vars (s.fn H (ds ++ [])).vars [] := fun sp => by
    rw [hds, hfn, hv]; rfl
  refine ⟨ds, [], p ++ [], [], p, [], hW', hres _ _ _, hargs _ (fun x hx => hold x (by simp [hx])), hvars _, World.keptBut_mono (fun x hx => ⟨hx, Or.inr (by simpa using hx)⟩) (hb.frame (· ∈ p ++ [])), fun _ => ?_⟩
  refine ⟨ok_one hrt rfl (okWide_bool_mk htb _), _, _, ([] ++ p) ++ [], ⟨[] ++ p, [], trodAll_append (hargs _ (fun _ _ => rfl)) (hres _ _ _), hvars _, rfl, ?_, ?_⟩, ?_⟩
  · intro b off hp
    have hb' : b < W.heap.size := hlt (.cell b off) (by simpa using hp)
    rw [hb.frozen (p := ⟨b, off, none⟩) hb']
    exact hz b off (by simpa using hp)
  · intro ha; cases ha
  · intro x hx _
    simpa using hx
end Go.Proofs.YtiaehkpimepbgaaGreat

/-
  PLAIN: rules of little bulk are small.
-/
namespace Go.Proofs.YtiaehkpimepbgaaGreat

theorem atom_small {a : PAtom} : a.name.size ≤ sizeAtom a ∧ a.terms.length ≤ sizeAtom a ∧ ∀ t ∈ a.terms, t.name.size ≤ sizeAtom a := by
  have h2 := sizeL_le (size := sizeTerm) openTerm.one a.terms
  refine ⟨by simp only [sizeAtom, sizeStr]; omega, by simp only [sizeAtom]; omega, fun t ht => ?_⟩
  have h1 := sizeL_mem (size := sizeTerm) ht
  have h3 : t.name.size ≤ sizeTerm t := by simp only [sizeTerm, sizeStr]; omega
  simp only [sizeAtom]; omega
theorem rules_small {p : List PRule} (h : sizeL sizeRule p ≤ 1048576) : p.length ≤ 1048576 ∧ (∀ r ∈ p, RuleSmall r) ∧ ∀ r ∈ p, NameSmall r := by
  have l := sizeL_le (size := sizeRule) openRule.one p
  have hr : ∀ r ∈ p, sizeAtom r.head ≤ 1048576 ∧ sizeL sizeAtom r.body ≤ 1048576 := fun r hr => by
    have h1 := sizeL_mem (size := sizeRule) hr
    simp only [sizeRule] at h1
    constructor <;> omega
  have hb : ∀ r ∈ p, ∀ a ∈ r.body, sizeAtom a ≤ 1048576 := fun r h1 a ha => by
    have h2 := sizeL_mem (size := sizeAtom) ha
    have h3 := (hr r h1).2
    omega
  refine ⟨by omega, fun r h1 => ?_, fun r h1 => ?_⟩
  · have h2 := (hr r h1).1
    have h3 := sizeL_le (size := sizeAtom) openAtom.one r.body
    have h4 := (hr r h1).2
    obtain ⟨g1, g2, g3⟩ := atom_small (a := r.head)
    refine ⟨by omega, fun t ht => by have := g3 t ht; omega, by omega, fun a ha => ?_, fun a ha t ht => ?_⟩
    · have := hb r h1 a ha
      have := (atom_small (a := a)).2.1
      omega
    · have := hb r h1 a ha
      have := (atom_small (a := a)).2.2 t ht
      omega
  · have h2 := (hr r h1).1
    have := (atom_small (a := r.head)).1
    refine ⟨by omega, fun a ha => ?_⟩
    have := hb r h1 a ha
    have := (atom_small (a := a)).1
    omega
end Go.Proofs.YtiaehkpimepbgaaGreat

/-
  WHAT THE LAWS OF CHAPTER 5 CALL, its answers being known.
-/
namespace Go.Proofs.YtiaehkpimepbgaaGreat
open Go.RowKit Go.ChangeShapes Go.WideShapes Go.Deep

/-- naive.All, read. -/
theorem naiveReads {S S3 : Nat → Prop} (p : List PRule) (v fv : Value) (st : List Int) (q : Int × Int) (l : List PFact) (w : World) (hS : StrataIs p st q) (h : RdRules S w v p) (hf : RdFacts S3 w fv l)
    (n1 : p.length ≤ 1048576) (n2 : ∀ r ∈ p, RuleSmall r) (n3 : ∀ r ∈ p, NameSmall r) (n4 : l.length ≤ 1048576) (n5 : ∀ x ∈ l, x.args.length ≤ 1048576) :
    Calls Tryz.prog 54 #[v, fv] w fun e w' => (∃ a c, e = .returned (.tuple #[.slice a (naiveP st q.1 p l).1.length c, .int .i64 (naiveP st q.1 p l).2]) ∧ RdFacts (fun _ => True) w' (.slice a (naiveP st q.1 p l).1.length c) (naiveP st q.1 p l).1) ∧ Below w.heap.size w w' :=
  naiveKnown rfl hS rfl h hf n1 n2 n3 n4 n5
/-- fact.Less, read. -/
theorem lessReads {S T : Nat → Prop} {va vb : Value} {l m : List PFact} {w : World} (h : RdFacts S w va l) (hm : RdFacts T w vb m) (hs : Rising m) (n1 : l.length ≤ 1048576) (n2 : ∀ x ∈ l, x.args.length ≤ 1048576) (n3 : m.length ≤ 1048576) (n4 : ∀ x ∈ m, x.args.length ≤ 1048576) :
    Calls Tryz.prog 19 #[va, vb] w fun e w' => (∃ a c, e = .returned (.slice a (lessF l m).length c) ∧ RdFacts (fun _ => True) w' (.slice a (lessF l m).length c) (lessF l m)) ∧ Below w.heap.size w w' :=
  (lessCalls va vb l m w h hm hs (by omega) (fun x hx => by have := n2 x hx; omega) (by omega) (fun x hx => by have := n4 x hx; omega)).mono fun e w' ⟨⟨v', he, ho⟩, hb⟩ => by
    have h' := (ho.read RFact.steady).more RFact.steady (S' := fun _ => True) (fun _ _ _ => trivial)
    obtain ⟨a, c, rfl, -, -, -⟩ := id h'.form
    exact ⟨⟨a, c, he, h'⟩, hb⟩
/-- A rule of a program, where it lies. -/
theorem RdRules.pick {S : Nat → Prop} {w : World} {a : Option Addr} {n cap : Nat} {l : List PRule} (h : RdRules S w (.slice a n cap) l) {i : Nat} {x : PRule} (hx : l[i]? = some x) :
    ∃ b o ta tc ba bc, a = some ⟨b, o, none⟩ ∧ RuleAt S w b (o + i * 4) x (.slice ta x.head.terms.length tc) (.slice ba x.body.length bc) := by
  obtain ⟨b1, o1, tv, bv, rfl, -, hb1, d0, d1, d2, d3, htv, hbv⟩ := RdRules.at h hx
  obtain ⟨ta, tc, rfl, -, -, -⟩ := id htv.form
  obtain ⟨ba, bc, rfl, -, -, -⟩ := id hbv.form
  exact ⟨b1, o1, ta, tc, ba, bc, rfl, hb1, d0, d1, d2, d3, htv, hbv⟩
theorem rule_small {r : PRule} (h : sizeRule r ≤ 1048576) : RuleSmall r := by
  simp only [sizeRule] at h
  have h3 := sizeL_le (size := sizeAtom) openAtom.one r.body
  obtain ⟨g1, g2, g3⟩ := atom_small (a := r.head)
  have hb : ∀ a ∈ r.body, sizeAtom a ≤ 1048576 := fun a ha => by have h2 := sizeL_mem (size := sizeAtom) ha; omega
  exact ⟨by omega, fun t ht => by have := g3 t ht; omega, by omega, fun a ha => by have := hb a ha; have := (atom_small (a := a)).2.1; omega, fun a ha t ht => by have := hb a ha; have := (atom_small (a := a)).2.2 t ht; omega⟩
end Go.Proofs.YtiaehkpimepbgaaGreat

/-
  THE WALK OF proof.Check.
-/
namespace Go.Proofs.YtiaehkpimepbgaaGreat
open Go.RowKit

/-- Rows of an ordinary size, wherever in a proof. -/
def smallN : Nat → PProof → Prop
  | 0, _ => True
  | n + 1, x => x.fact.args.length ≤ 1048576 ∧ x.kids.length ≤ 1048576 ∧ ∀ k ∈ x.kids, smallN n k
/-- Rules with which nothing is wrong are small. -/
theorem rules_terms {p : List PRule} (h : ∀ r ∈ p, ruleBad r = 0) : ∀ r ∈ p, r.head.terms.length ≤ 4 ∧ r.body.length ≤ 5 ∧ ∀ a ∈ r.body, a.terms.length ≤ 4 := fun r hr => by
  obtain ⟨h1, -, h3, -⟩ := ruleBad_zero (h r hr)
  exact ⟨(atomBad_zero h1).2.1, body_atoms h3, fun a ha => body_terms h3 ha⟩
end Go.Proofs.YtiaehkpimepbgaaGreat

/-
  PLAIN: how a proof is found (chapter 7).
-/
namespace Go.Proofs.YtiaehkpimepbgaaGreat

/-- A term, an atom, a body, its variables being what they stand for. -/
def subT (b : Binds) (t : PTerm) : PTerm := if t.var then (match getB t.name b with
  | some n => ⟨false, n⟩
  | none => t) else t
def subA (b : Binds) (a : PAtom) : PAtom := ⟨a.neg, a.name, a.terms.map (subT b)⟩
def subBody (b : Binds) (l : List PAtom) : List PAtom := l.map (subA b)
/-- What a rule's body is made of, by binds. -/
def kidsOf (body : List PAtom) (b : Binds) : List PFact := body.filterMap fun a => if a.neg then none else fillP a b
def ageOf (age : Str → Option Int) (f : PFact) : Int := (age (keyP f)).getD 0
def olderP (age : Str → Option Int) (f k : PFact) : Bool := decide (ageOf age k < ageOf age f)
/-- (*finder).rule. -/
def ruleG (age : Str → Option Int) (M : List PFact) (r : PRule) (f : PFact) : Option (List PFact) := match meetP r.head f [] with
  | none => none
  | some s => if (allP (subBody s r.body) M).2 ≠ 0 then none else ((allP (subBody s r.body) M).1.find? fun b => (kidsOf (subBody s r.body) b).all (olderP age f)).map (kidsOf (subBody s r.body))
def pickRule (age : Str → Option Int) (M : List PFact) (f : PFact) : Nat → List PRule → Option (Nat × List PFact)
  | _, [] => none
  | i, r :: p => match ruleG age M r f with
    | some ks => some (i, ks)
    | none => pickRule age M f (i + 1) p
def kidsAcc (F : Nat → PFact → Option PProof × Nat) : List PProof → Nat → List PFact → Option (List PProof) × Nat
  | xs, s, [] => (some xs, s)
  | xs, s, k :: l => match F s k with
    | (none, s') => (none, s')
    | (some x, s') => kidsAcc F (xs ++ [x]) s' l
/-- (*finder).find: n: how much deeper it may go; s: how many were looked for. -/
def findN (p : List PRule) (told M : List PFact) (age : Str → Option Int) : Nat → Nat → PFact → Nat → Option PProof × Nat
  | 0, s, _, _ => (none, s)
  | n + 1, s, f, d => if 400 < s + 1 ∨ 60 < d then (none, s + 1) else if memF f told then (some (.mk f (-1) []), s + 1) else match pickRule age M f 0 p with
    | none => (none, s + 1)
    | some (i, ks) => match kidsAcc (fun s k => findN p told M age n s k (d + 1)) [] (s + 1) ks with
      | (none, s') => (none, s')
      | (some xs, s') => (some (.mk f i xs), s')
end Go.Proofs.YtiaehkpimepbgaaGreat
