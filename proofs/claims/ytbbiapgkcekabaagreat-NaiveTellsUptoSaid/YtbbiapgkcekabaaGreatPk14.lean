/-
  THE TEXTS SynW5, Known, LitF, Alive5, Entry, RulesIn, NaiveM, one behind the other.
-/
import Derived.Test.YtbbiapgkcekabaaGreatPk1
import Derived.Test.YtbbiapgkcekabaaGreatPk3
import Derived.Test.YtbbiapgkcekabaaGreatPk6
import Derived.Test.YtbbiapgkcekabaaGreatPk10
import Derived.Test.YtbbiapgkcekabaaGreatPk11
import Derived.Test.YtbbiapgkcekabaaGreatPk12
import Derived.Test.YtbbiapgkcekabaaGreatPk13
import Derived.Defers
import Derived.Recover
import Derived.Test.YtbbiapgkcekabaaGreatRows
import Derived.ProofKit
import Derived.OpenShut
import Derived.JoinedCond
import Derived.Carry
import Derived.Deep.Strs
import Derived.Deep.Slices
/-
  THE WALKS OF syntax.guard, Parse, Body: what is thrown is caught.
-/
namespace Go.Proofs.YtbbiapgkcekabaaGreat
open Go.RowKit

set_option maxRecDepth 100000 in
set_option maxHeartbeats 2000000 in
theorem guardCatch (F : Nat) (a b e0 : Int) (k : Nat) (w : World) (hF : Blk w F 27 #[.int .i64 a, .int .i64 b]) :
    CallsD Tryz.prog 92 #[.pointer (some ⟨F, 0, none⟩)] (.panicking (oopsV e0 k)) w fun e' u' w' => e' = .returned (.tuple #[]) ∧
      u' = .panicking [{ v := .iface 144 (.agg #[.int .i64 e0, .int .i64 (k : Int)]), recovered := true }] ∧ Blk w' F 27 #[.int .i64 e0, .int .i64 (k : Int)] ∧ But F w w' := by
  have HA := Lib.hid (hF.alloc (.cells #[.int .i64 e0, .int .i64 (k : Int)] 144))
  have c0 : (w.alloc (.cells #[.int .i64 e0, .int .i64 (k : Int)] 144)).cell? ⟨F, 0, none⟩ = some (.int .i64 a) := HA.out.cell 0
  have c1 : (w.alloc (.cells #[.int .i64 e0, .int .i64 (k : Int)] 144)).cell? ⟨F, 1, none⟩ = some (.int .i64 b) := HA.out.cell 1
  have f0 := HA.out.frozen 0
  have f1 := HA.out.frozen 1
  clear hF
  unfold oopsV
  refine callsD_of_wpS Tryz.func92 rfl fun c₀ cs hu => ?_
  apply wpS_seq
  apply wpS_region
  simp [wpOpsS, go_sem, recoverD, hu, Tryz.ntmps92, Exit.thenS]
  have hta : ∀ w : World, (Instr.typeAssert (.iface 144 (.agg #[.int .i64 e0, .int .i64 (k : Int)])) 20 144 true).run Tryz.prog w = .ok (.tuple #[.agg #[.int .i64 e0, .int .i64 (k : Int)], .bool true]) w := fun _ => by kernel_rfl
  refine wpS_of_wp ?_
  change Code.wp _ _ _ { tmps := #[.pointer (some ⟨F, 0, none⟩), undef, undef, undef, undef, .iface 144 (.agg #[.int .i64 e0, .int .i64 (k : Int)]), undef, undef, undef, undef, undef, undef, undef, undef, undef], defers := [] } _
  go_wp2
  simp [bodyPostS, results, Tryz.results92]
  exact ⟨(HA.out.set_ 0 (.int .i64 e0)).set_ 1 (.int .i64 (k : Int)), (((But.refl F w).alloc _).setCell (.inl rfl) _).setCell (.inl rfl) _⟩

set_option maxRecDepth 100000 in
set_option maxHeartbeats 2000000 in
theorem guardIdle (F : Nat) (w : World) :
    CallsD Tryz.prog 92 #[.pointer (some ⟨F, 0, none⟩)] .returning w fun e' u' w' => e' = .returned (.tuple #[]) ∧ u' = .returning ∧ w' = w := by
  refine callsD_of_wpS Tryz.func92 rfl fun c₀ cs hu => ?_
  apply wpS_seq
  apply wpS_region
  simp [wpOpsS, go_sem, recoverD, hu, Tryz.ntmps92, Exit.thenS]
  refine wpS_of_wp ?_
  change Code.wp _ _ _ { tmps := #[.pointer (some ⟨F, 0, none⟩), undef, undef, undef, undef, .nilIface, undef, undef, undef, undef, undef, undef, undef, undef, undef], defers := [] } _
  go_wp2
  cases c₀
  simp_all [bodyPostS, results, Tryz.results92]

theorem parse1 (F O : Nat) (a b : Int) (v : Value) (w : World) (hF : Blk w F 27 #[.int .i64 a, .int .i64 b]) (hO : Blk w O 23 #[v]) :
    CallsD Tryz.prog 91 #[.pointer (some ⟨F, 0, none⟩), .pointer (some ⟨O, 0, none⟩)] .returning w fun e' u' w' => u' = .returning ∧ e' = .returned (.tuple #[]) ∧ w' = (if a = 0 then w else w.setCell ⟨O, 0, none⟩ (.slice none 0 0)) := by
  have c0 : w.cell? ⟨F, 0, none⟩ = some (.int .i64 a) := hF.cell 0
  have d0 : w.cell? ⟨O, 0, none⟩ = some v := hO.cell 0
  have f0 := hO.frozen 0
  clear hF hO
  by_cases ha : a = 0
  · subst ha
    rw [if_pos rfl]
    go_enter_d Tryz.func91, Tryz.ntmps91
    go_wp2
    go_end0
    exact ⟨rfl, rfl⟩
  · rw [if_neg ha]
    have h1 : (a != 0) = true := by simpa using ha
    go_enter_d Tryz.func91, Tryz.ntmps91
    go_wp2
    go_end0
    exact ⟨rfl, rfl⟩

/-! ### What is wrong is no nothing -/
def Got.bad {α : Type} : Got α → Prop
  | .ok _ => True
  | .error (e, _) => e ≠ 0
theorem wordF_bad (r : Bytes) : (wordF r).bad := by
  unfold wordF
  split
  · show (2 : Int) ≠ 0; decide
  · split
    · show (7 : Int) ≠ 0; decide
    · trivial
theorem mustF_bad (sign r : Bytes) : (mustF sign r).bad := by
  unfold mustF
  split
  · trivial
  · show (2 : Int) ≠ 0; decide
theorem termsF_bad : ∀ (n : Nat) (acc : List PTerm) (r : Bytes), (termsF n acc r).bad
  | 0, _, _ => by show (5 : Int) ≠ 0; decide
  | n + 1, acc, r => by
    have hw := wordF_bad r
    unfold termsF
    split
    · rename_i e h; rw [h] at hw; exact hw
    · split
      · exact termsF_bad n _ _
      · rename_i w r1 h _
        have hm := mustF_bad [41] (eatF [44] r1)
        split
        · rename_i e h2; rw [h2] at hm; exact hm
        · trivial
theorem atomF_bad (no : Bool) (r : Bytes) : (atomF no r).bad := by
  have hw := wordF_bad (behindNot no r)
  unfold atomF
  split
  · rename_i e h; rw [h] at hw; exact hw
  · split
    · show (7 : Int) ≠ 0; decide
    · split
      · rename_i w r2 h _ _
        have ht := termsF_bad 4 [] (eatF [40] r2)
        split
        · rename_i e h2; rw [h2] at ht; exact ht
        · trivial
      · trivial
theorem bodyF_bad' : ∀ (n : Nat) (acc : List PAtom) (r : Bytes), (bodyF n acc r).bad
  | 0, _, _ => by show (5 : Int) ≠ 0; decide
  | n + 1, acc, r => by
    have hw := atomF_bad true r
    unfold bodyF
    split
    · rename_i e h; rw [h] at hw; exact hw
    · split
      · exact bodyF_bad' n _ _
      · trivial
theorem tailF_bad (r : Bytes) : (tailF r).bad := by
  unfold tailF
  split
  · exact bodyF_bad' _ _ _
  · trivial
theorem ruleF_bad (r : Bytes) : (ruleF r).bad := by
  have hh := atomF_bad false r
  unfold ruleF headF
  split
  · rename_i e h; rw [h] at hh; exact hh
  · rename_i a r1 h
    have ht := tailF_bad r1
    split
    · rename_i e h2; rw [h2] at ht; exact ht
    · rename_i b r3 h2
      have hm := mustF_bad [46] r3
      split
      · rename_i e h3; rw [h3] at hm; exact hm
      · trivial
theorem progF_bad : ∀ (n : Nat) (acc : List PRule) (r : Bytes), (progF n acc r).bad
  | 0, acc, r => by
    unfold progF
    split
    · trivial
    · show (5 : Int) ≠ 0; decide
  | n + 1, acc, r => by
    unfold progF
    split
    · trivial
    · have hr := ruleF_bad (blankF false r)
      split
      · rename_i e h; rw [h] at hr; exact hr
      · exact progF_bad n _ _
theorem progF_suffix : ∀ (n : Nat) (acc : List PRule) (r : Bytes), (progF n acc r).left <:+ r
  | 0, acc, r => by
    unfold progF
    split
    · exact List.nil_suffix
    · exact blankF_suffix _ _
  | n + 1, acc, r => by
    unfold progF
    split
    · exact List.nil_suffix
    · have hr := ruleF_suffix (blankF false r)
      split
      · rename_i e h; rw [h] at hr; exact List.IsSuffix.trans hr (blankF_suffix _ _)
      · rename_i x r1 h
        rw [h] at hr
        exact (progF_suffix n _ _).trans (List.IsSuffix.trans (l₂ := blankF false r) hr (blankF_suffix _ _))

/-! ### Parse -/
theorem rest_zero (s : Str) : rest s 0 = s.data.toList := rfl
theorem parseF_long {s : Str} (h : 3000 < s.size) : parseF s = ([], 4, 0) := by unfold parseF; rw [if_pos h]
theorem parseF_ok {s : Str} (h : ¬ 3000 < s.size) {l : List PRule} {r : Bytes} (k : progF 16 [] (rest s 0) = .ok (l, r)) : parseF s = (l, 0, 0) := by
  unfold parseF; rw [if_neg h, ← rest_zero, k]
theorem parseF_error {s : Str} (h : ¬ 3000 < s.size) {e : Int} {r : Bytes} (k : progF 16 [] (rest s 0) = .error (e, r)) : parseF s = ([], e, ((posF s r : Nat) : Int)) := by
  have hs := progF_suffix 16 [] (rest s 0)
  rw [k] at hs
  have hs' : r <:+ bytesOf s := hs
  unfold parseF; rw [if_neg h, ← rest_zero, k, posF_int s hs']

def ParsePost (s : Str) (w : World) (e : Ending) (w' : World) : Prop :=
  (∃ v, e = .returned (.tuple #[v, .agg #[.int .i64 (parseF s).2.1, .int .i64 (parseF s).2.2]]) ∧ RdRules (New w) w' v (parseF s).1) ∧ Below w.heap.size w w'

/-- Behind the deferred calls. -/
def doorDefers (F O : Nat) (g : Nat) : List Deferred := [{ target := .fn (.func 92) #[], args := #[.pointer (some ⟨F, 0, none⟩)] }, { target := .fn (.func g) #[.pointer (some ⟨F, 0, none⟩), .pointer (some ⟨O, 0, none⟩)], args := #[] }]

set_option maxRecDepth 100000 in
set_option maxHeartbeats 2000000 in
theorem parseDoorOk {s : Str} {w w5 : World} {a : Act} {F O : Nat} {l : List PRule} {v : Value} (hd : a.defers = doorDefers F O 91) (h2 : a.tmps.getD 2 undef = .pointer (some ⟨O, 0, none⟩)) (h3 : a.tmps.getD 3 undef = .pointer (some ⟨F, 0, none⟩))
    (hF : Blk w5 F 27 #[.int .i64 0, .int .i64 0]) (hO : Blk w5 O 23 #[v]) (hb : Below w.heap.size w w5) (hE : parseF s = (l, 0, 0)) (hv : RdRules (New w) w5 v l) :
    bodyPostD Tryz.prog Tryz.f65 (ParsePost s w) .ret a w5 := by
  have c0 : w5.cell? ⟨O, 0, none⟩ = some v := hO.cell 0
  have d0 : w5.cell? ⟨F, 0, none⟩ = some (.int .i64 0) := hF.cell 0
  have d1 : w5.cell? ⟨F, 1, none⟩ = some (.int .i64 0) := hF.cell 1
  show Leaves _ _ a.tmps (ParsePost s w) a.defers .returning w5
  rw [hd]
  unfold doorDefers
  refine leaves_cons (f := 92) (args := #[.pointer (some ⟨F, 0, none⟩)]) (by simp) (by simp [go_sem]) ?_
  refine (guardIdle F _).mono ?_
  rintro e u' w'' ⟨rfl, rfl, rfl⟩
  refine leaves_cons (f := 91) (args := #[.pointer (some ⟨F, 0, none⟩), .pointer (some ⟨O, 0, none⟩)]) (by simp [settle]) (by simp [go_sem]) ?_
  refine (parse1 F O 0 0 v _ hF hO).mono ?_
  rintro e u' w'' ⟨rfl, rfl, rfl⟩
  simp only
  show ∃ v', (results Tryz.f65 a.tmps).run Tryz.prog w'' = .ok v' w'' ∧ ParsePost s w (.returned v') w''
  refine ⟨.tuple #[v, .agg #[.int .i64 0, .int .i64 0]], ?_, ⟨v, ?_, ?_⟩, hb⟩
  · have h2' : a.tmps[2]?.getD undef = .pointer (some ⟨O, 0, none⟩) := by simpa [Array.getD_eq_getD_getElem?] using h2
    have h3' : a.tmps[3]?.getD undef = .pointer (some ⟨F, 0, none⟩) := by simpa [Array.getD_eq_getD_getElem?] using h3
    simp [results, Tryz.results65, h2', h3', c0, d0, d1, go_sem]
  · rw [hE]
  · rw [hE]; exact hv

set_option maxRecDepth 100000 in
set_option maxHeartbeats 2000000 in
theorem parseDoorBad {s : Str} {w w5 : World} {a : Act} {F O : Nat} {er : Int} {p : Nat} {v : Value} (hd : a.defers = doorDefers F O 91) (h2 : a.tmps.getD 2 undef = .pointer (some ⟨O, 0, none⟩)) (h3 : a.tmps.getD 3 undef = .pointer (some ⟨F, 0, none⟩))
    (hF : Blk w5 F 27 #[.int .i64 0, .int .i64 0]) (hO : Blk w5 O 23 #[v]) (hOF : O ≠ F) (hwO : w.heap.size ≤ O) (hwF : w.heap.size ≤ F) (hb : Below w.heap.size w w5) (hE : parseF s = ([], er, (p : Int))) (hn : er ≠ 0) :
    bodyPostD Tryz.prog Tryz.f65 (ParsePost s w) (.panic (oopsV er p)) a w5 := by
  show Leaves _ _ a.tmps (ParsePost s w) a.defers (.panicking (oopsV er p)) w5
  rw [hd]
  unfold doorDefers
  refine leaves_cons (f := 92) (args := #[.pointer (some ⟨F, 0, none⟩)]) (by simp) (by simp [go_sem]) ?_
  refine (guardCatch F 0 0 er p _ hF).mono ?_
  rintro e u' w6 ⟨rfl, rfl, hF6, hb6⟩
  have hO6 := hO.but hb6 hOF
  refine leaves_cons (f := 91) (args := #[.pointer (some ⟨F, 0, none⟩), .pointer (some ⟨O, 0, none⟩)]) (by simp [settle]) (by simp [go_sem]) ?_
  refine (parse1 F O er p v _ hF6 hO6).mono ?_
  rintro e u' w'' ⟨rfl, rfl, rfl⟩
  rw [if_neg hn]
  have hF7 := hF6.far (p := ⟨O, 0, none⟩) (fun e => hOF e.symm) (.slice none 0 0)
  have hO7 : Blk (w6.setCell ⟨O, 0, none⟩ (.slice none 0 0)) O 23 #[.slice none 0 0] := hO6.set_ 0 (.slice none 0 0)
  have hb7 : Below w.heap.size w (w6.setCell ⟨O, 0, none⟩ (.slice none 0 0)) := (hb.grown hb6 hb.size (fun q hq => by have := Option.some.inj hq; omega)).setCell hwO _
  generalize w6.setCell ⟨O, 0, none⟩ (.slice none 0 0) = w7 at *
  have c0 : w7.cell? ⟨O, 0, none⟩ = some (.slice none 0 0) := hO7.cell 0
  have d0 : w7.cell? ⟨F, 0, none⟩ = some (.int .i64 er) := hF7.cell 0
  have d1 : w7.cell? ⟨F, 1, none⟩ = some (.int .i64 (p : Int)) := hF7.cell 1
  show ∃ v', (results Tryz.f65 a.tmps).run Tryz.prog w7 = .ok v' w7 ∧ ParsePost s w (.returned v') w7
  refine ⟨.tuple #[.slice none 0 0, .agg #[.int .i64 er, .int .i64 (p : Int)]], ?_, ⟨.slice none 0 0, ?_, ?_⟩, hb7⟩
  · have h2' : a.tmps[2]?.getD undef = .pointer (some ⟨O, 0, none⟩) := by simpa [Array.getD_eq_getD_getElem?] using h2
    have h3' : a.tmps[3]?.getD undef = .pointer (some ⟨F, 0, none⟩) := by simpa [Array.getD_eq_getD_getElem?] using h3
    simp [results, Tryz.results65, h2', h3', c0, d0, d1, go_sem]
  · rw [hE]
  · rw [hE]; exact RdSlice.nothing (Nat.zero_le _) (fun _ => rfl)

/-- What is known where the parser throws. -/
def Thrown (F O g : Nat) (er : Int) (p : Nat) (T : World → Prop) : Exit → Act → World → Prop
  | .panic c, a, w => c = oopsV er p ∧ a.defers = doorDefers F O g ∧ a.tmps.getD 2 undef = .pointer (some ⟨O, 0, none⟩) ∧ a.tmps.getD 3 undef = .pointer (some ⟨F, 0, none⟩) ∧ T w
  | _, _, _ => False
theorem Thrown.put {F O g : Nat} {er : Int} {p : Nat} {T : World → Prop} {d : Nat} {v : Value} (h2 : d ≠ 2) (h3 : d ≠ 3) : ∀ c a w, Thrown F O g er p T (.panic c) (a.put (some d) v) w → Thrown F O g er p T (.panic c) a w := by
  rintro c a w ⟨k1, k2, k3, k4, k5⟩
  refine ⟨k1, k2, ?_, ?_, k5⟩
  · simpa [Act.put, Array.getD_eq_getD_getElem?, Array.getElem?_setIfInBounds, h2] using k3
  · simpa [Act.put, Array.getD_eq_getD_getElem?, Array.getElem?_setIfInBounds, h3] using k4

set_option maxRecDepth 100000 in
set_option maxHeartbeats 4000000 in
theorem parseCalls (s : Str) (w : World) (hs : s.size ≤ 1048576) : Calls Tryz.prog 65 #[.string s] w (ParsePost s w) := by
  have hmf : ∀ (fn : Fn) (first cap : Array Value) (w : World), (Instr.makeFunc fn first cap).run Tryz.prog w = .ok (.func fn first cap) w := fun _ _ _ _ => rfl
  by_cases h3 : 3000 < s.size
  · have i1 : (3000 : Int) < (s.size : Int) := by omega
    have HE := Lib.hid (parseF_long h3)
    go_enter_defers Tryz.func65, Tryz.ntmps65
    go_wp2
    simp [Leaves, results, Tryz.results65, go_sem, bodyPostD]
    unfold ParsePost
    rw [HE.out]
    exact ⟨⟨_, rfl, RdSlice.nothing (Nat.zero_le _) (fun _ => rfl)⟩, (((Below.refl _ _).alloc (Nat.le_refl _) _).alloc (by simp) _)⟩
  · have i1 : ¬ (3000 : Int) < (s.size : Int) := by omega
    have HO0 := Lib.hid (show Blk ((w.alloc (.cells #[.slice none 0 0] 23)).alloc (.cells #[.int .i64 0, .int .i64 0] 27)) w.heap.size 23 #[.slice none 0 0] from (Blk.new w _ _).alloc _)
    have HF0 := Lib.hid (show Blk ((w.alloc (.cells #[.slice none 0 0] 23)).alloc (.cells #[.int .i64 0, .int .i64 0] 27)) (w.heap.size + 1) 27 #[.int .i64 0, .int .i64 0] from heap_new_at (by simp))
    have HB0 := Lib.hid (show Below w.heap.size w ((w.alloc (.cells #[.slice none 0 0] 23)).alloc (.cells #[.int .i64 0, .int .i64 0] 27)) from ((Below.refl _ _).alloc (Nat.le_refl _) _).alloc (by simp) _)
    have hz0 : ((w.alloc (.cells #[.slice none 0 0] 23)).alloc (.cells #[.int .i64 0, .int .i64 0] 27)).heap.size = w.heap.size + 2 := by simp
    rcases hg : progF 16 [] (rest s 0) with ⟨er, r'⟩ | ⟨l, r⟩
    · have HE := Lib.hid (parseF_error h3 hg)
      have HNZ := Lib.hid (show er ≠ 0 by have := progF_bad 16 [] (rest s 0); rw [hg] at this; exact this)
      have HGG := Lib.hid hg
      clear hg
      go_enter_defers Tryz.func65, Tryz.ntmps65
      go_wp2
      generalize (w.alloc (.cells #[.slice none 0 0] 23)).alloc (.cells #[.int .i64 0, .int .i64 0] 27) = w0 at *
      have HZ0 := Lib.hid hz0
      clear hz0
      have f0 : w0.cell? ⟨w.heap.size + 1, 0, none⟩ = some (.int .i64 0) := HF0.out.cell 0
      have f1 : w0.cell? ⟨w.heap.size + 1, 1, none⟩ = some (.int .i64 0) := HF0.out.cell 1
      have g0 := World.new_ne w0 ⟨w.heap.size + 1, 0, none⟩ f0
      have g1 := World.new_ne w0 ⟨w.heap.size + 1, 1, none⟩ f1
      have HPS := Lib.hid (show Ps w0.heap.size s 0 ((w0.alloc (.cells #[.string s, .int .i64 0] 126)).drew) from ⟨heap_alloc_new w0 _, Nat.zero_le _⟩)
      refine Code.wp_mono (Q := Thrown (w.heap.size + 1) w.heap.size 91 er (posF s r') (fun w5 => But w0.heap.size ((w0.alloc (.cells #[.string s, .int .i64 0] 126)).drew) w5)) ?_ ?_
      · rintro (_ | _ | _ | _ | c | _) a5 w5 h5
        all_goals first | exact h5.elim | skip
        obtain ⟨rfl, k2, k3, k4, hb5⟩ := h5
        have hF5 := (show Blk ((w0.alloc (.cells #[.string s, .int .i64 0] 126)).drew) (w.heap.size + 1) 27 #[.int .i64 0, .int .i64 0] from HF0.out.alloc _).but hb5 (by have := HZ0.out; omega)
        have hO5 := (show Blk ((w0.alloc (.cells #[.string s, .int .i64 0] 126)).drew) w.heap.size 23 #[.slice none 0 0] from HO0.out.alloc _).but hb5 (by have := HZ0.out; omega)
        refine parseDoorBad k2 k3 k4 hF5 hO5 (by omega) (Nat.le_refl _) (by omega) ?_ HE.out HNZ.out
        exact ((HB0.out.alloc HB0.out.size _).drew).grown hb5 (by simp; have := HZ0.out; omega) (fun q hq => by have := Option.some.inj hq; have := HZ0.out; omega)
      refine wp_region_held_drew (S := fun w' => w'.cell? ⟨w.heap.size + 1, 0, none⟩ = some (.int .i64 0) ∧ w'.cell? ⟨w.heap.size + 1, 1, none⟩ = some (.int .i64 0)) (by kernel_rfl) ?_ (fun hHeld => ?_)
      · exact ⟨f0, f1⟩
      refine wpAnyH_take (i := 0) (oi := ⟨some 9, _, _, _, _, _⟩) (v := ?_) rfl (by kernel_rfl) (by kernel_rfl) (by kernel_rfl) (Thrown.put (by decide) (by decide)) (Or.inl ⟨by rfl, ?_⟩) (by assumption) ?_
      rotate_left
      · (intro w' hSw; (try dsimp only at hSw); go_simp; try with_reducible rfl)
      try simp only [Act.put, List.setIfInBounds_toArray, List.set_cons_zero, List.set_cons_succ]
      refine wpAnyH_take (i := 1) (oi := ⟨some 10, _, _, _, _, _⟩) (v := ?_) rfl (by kernel_rfl) (by kernel_rfl) (by kernel_rfl) (Thrown.put (by decide) (by decide)) (Or.inl ⟨by rfl, ?_⟩) (by assumption) ?_
      rotate_left
      · (intro w' hSw; (try dsimp only at hSw); go_simp; try with_reducible rfl)
      try simp only [Act.put, List.setIfInBounds_toArray, List.set_cons_zero, List.set_cons_succ]
      refine wpAnyH_take (i := 4) (oi := ⟨some 13, _, _, _, _, _⟩) (v := ?_) rfl (by kernel_rfl) (by kernel_rfl) (by kernel_rfl) (Thrown.put (by decide) (by decide)) (Or.inl ⟨by rfl, ?_⟩) (by assumption) ?_
      rotate_left
      · (intro w' hSw; (try dsimp only at hSw); go_simp; try with_reducible rfl)
      try simp only [Act.put, List.setIfInBounds_toArray, List.set_cons_zero, List.set_cons_succ]
      refine wpAnyH_ready (rs := [2]) (by kernel_rfl) (by simp) ?_
      refine AllReadyH.cons (o := ⟨some 11, _, _, _, _, _⟩) rfl (fun K hK => ?_) AllReadyH.nil
      go_simp
      refine hK.out _ _ ?_ (fun hHeld => ?_)
      · exact ⟨(HF0.out.alloc _).cell 0, (HF0.out.alloc _).cell 1⟩
      clear hK K
      try simp only [Act.put, List.setIfInBounds_toArray, List.set_cons_zero, List.set_cons_succ]
      refine wpAnyH_ready (rs := [3]) (by kernel_rfl) (by simp) ?_
      refine AllReadyH.cons (o := ⟨some 12, _, _, _, _, _⟩) rfl (fun K hK => ?_) AllReadyH.nil
      go_simp
      go_at_call 93
      refine (programCalls w0.heap.size s 0 _ hs HPS.out).mono ?_
      rintro e w5 h5
      obtain ⟨hb5, rfl⟩ := h5.error HGG.out
      exact ⟨rfl, rfl, rfl, rfl, hb5⟩
    · have HE := Lib.hid (parseF_ok h3 hg)
      have HGG := Lib.hid hg
      clear hg
      go_enter_defers Tryz.func65, Tryz.ntmps65
      go_wp2
      generalize (w.alloc (.cells #[.slice none 0 0] 23)).alloc (.cells #[.int .i64 0, .int .i64 0] 27) = w0 at *
      have HZ0 := Lib.hid hz0
      clear hz0
      have f0 : w0.cell? ⟨w.heap.size + 1, 0, none⟩ = some (.int .i64 0) := HF0.out.cell 0
      have f1 : w0.cell? ⟨w.heap.size + 1, 1, none⟩ = some (.int .i64 0) := HF0.out.cell 1
      have g0 := World.new_ne w0 ⟨w.heap.size + 1, 0, none⟩ f0
      have g1 := World.new_ne w0 ⟨w.heap.size + 1, 1, none⟩ f1
      have HPS := Lib.hid (show Ps w0.heap.size s 0 ((w0.alloc (.cells #[.string s, .int .i64 0] 126)).drew) from ⟨heap_alloc_new w0 _, Nat.zero_le _⟩)
      go_region_held3 (fun w' => w'.cell? ⟨w.heap.size + 1, 0, none⟩ = some (.int .i64 0) ∧ w'.cell? ⟨w.heap.size + 1, 1, none⟩ = some (.int .i64 0))
        (first | (exact ⟨((HF6.out.set_ 0 (.int .i64 0)).set_ 1 (.int .i64 0)).cell 0, ((HF6.out.set_ 0 (.int .i64 0)).set_ 1 (.int .i64 0)).cell 1⟩) | (exact ⟨HF6.out.cell 0, HF6.out.cell 1⟩) | (exact ⟨HF5.out.cell 0, HF5.out.cell 1⟩) | go_keep)
        (first | (go_at_call 93; refine (programCalls w0.heap.size s 0 _ hs HPS.out).mono ?_; rintro e w5 h5; obtain ⟨hb5, v5, rfl, hv5, -⟩ := h5.ok HGG.out; have hv5' : RdRules (New ((w0.alloc (.cells #[.string s, .int .i64 0] 126)).drew)) w5 v5 l := hv5; obtain ⟨va, vc, rfl, -, -, -⟩ := id hv5'.form; have HF5 := Lib.hid ((show Blk ((w0.alloc (.cells #[.string s, .int .i64 0] 126)).drew) (w.heap.size + 1) 27 #[.int .i64 0, .int .i64 0] from HF0.out.alloc _).but hb5 (by have := HZ0.out; omega)); have HO5 := Lib.hid ((show Blk ((w0.alloc (.cells #[.string s, .int .i64 0] 126)).drew) w.heap.size 23 #[.slice none 0 0] from HO0.out.alloc _).but hb5 (by have := HZ0.out; omega)); have HB5 := Lib.hid (((HB0.out.alloc HB0.out.size _).drew).grown hb5 (by simp; have := HZ0.out; omega) (fun q hq => by have := Option.some.inj hq; have := HZ0.out; omega)); have HV5 := Lib.hid hv5'; have d0 : w5.cell? ⟨w.heap.size, 0, none⟩ = some (.slice none 0 0) := HO5.out.cell 0; have d1 := HO5.out.frozen 0; have HF6 := Lib.hid (HF5.out.far (p := ⟨w.heap.size, 0, none⟩) (show w.heap.size + 1 ≠ w.heap.size by omega) (.slice va l.length vc)); have x0 := HF6.out.frozen 0; have x1 := HF6.out.frozen 1; clear h5 hb5 hv5))
      go_wp2
      have HO6 : Blk (w5.setCell ⟨w.heap.size, 0, none⟩ (.slice va l.length vc)) w.heap.size 23 #[.slice va l.length vc] := HO5.out.set_ 0 (.slice va l.length vc)
      have hNO : ¬ New ((w0.alloc (.cells #[.string s, .int .i64 0] 126)).drew) w.heap.size := fun h => by
        have h' : (w0.alloc (.cells #[.string s, .int .i64 0] 126)).heap.size ≤ w.heap.size := h
        simp at h'; have := HZ0.out; omega
      have hNF : ¬ New ((w0.alloc (.cells #[.string s, .int .i64 0] 126)).drew) (w.heap.size + 1) := fun h => by
        have h' : (w0.alloc (.cells #[.string s, .int .i64 0] 126)).heap.size ≤ w.heap.size + 1 := h
        simp at h'; have := HZ0.out; omega
      refine parseDoorOk (F := w.heap.size + 1) (O := w.heap.size) rfl rfl rfl ((HF6.out.set_ 0 (.int .i64 0)).set_ 1 (.int .i64 0)) ((HO6.far (p := ⟨w.heap.size + 1, 0, none⟩) (show w.heap.size ≠ w.heap.size + 1 by omega) _).far (p := ⟨w.heap.size + 1, 1, none⟩) (show w.heap.size ≠ w.heap.size + 1 by omega) _) (((HB5.out.setCell (Nat.le_refl _) _).setCell (Nat.le_succ _) _).setCell (Nat.le_succ _) _) HE.out ?_
      refine (((HV5.out.agree RRule.steady (Agree.setCell (p := ⟨w.heap.size, 0, none⟩) hNO _)).agree RRule.steady (Agree.setCell (p := ⟨w.heap.size + 1, 0, none⟩) hNF _)).agree RRule.steady (Agree.setCell (p := ⟨w.heap.size + 1, 1, none⟩) hNF _)).more RRule.steady (fun b hb _ => ?_)
      have hb' : (w0.alloc (.cells #[.string s, .int .i64 0] 126)).heap.size ≤ b := hb
      show w.heap.size ≤ b
      simp at hb'; have := HZ0.out; omega

end Go.Proofs.YtbbiapgkcekabaaGreat

/-
  THE WALKS OF syntax.Parse AND check.Strata, WHAT THEY ANSWER BEING KNOWN.
-/
namespace Go.Proofs.YtbbiapgkcekabaaGreat
open Go.RowKit

theorem parseKnown {s : Str} {p : List PRule} {n : Nat} (hn : p.length = n) (hs : s.size ≤ 1048576) (h : parseF s = (p, 0, 0)) (w : World) :
    Calls Tryz.prog 65 #[.string s] w fun e w' => (∃ a c, e = .returned (.tuple #[.slice a n c, .agg #[.int .i64 0, .int .i64 0]]) ∧ RdRules (New w) w' (.slice a n c) p) ∧ Below w.heap.size w w' := by
  refine (parseCalls s w hs).mono fun e w' ⟨⟨v, he, hr⟩, hb⟩ => ⟨?_, hb⟩
  rw [h] at he hr
  obtain ⟨a, c, rfl, -, -, -⟩ := id hr.form
  subst hn
  exact ⟨a, c, he, hr⟩
theorem strataKnown {S : Nat → Prop} {p : List PRule} {v : Value} {w : World} {l : List Int} {x y : Int} {n : Nat} (hn : l.length = n) (hk : StrataIs p l (x, y)) (h : RdRules S w v p) (n1 : p.length ≤ 1048576) (n2 : ∀ r ∈ p, RuleSmall r) (n3 : ∀ r ∈ p, NameSmall r) :
    Calls Tryz.prog 53 #[v] w fun e w' => (∃ a c, e = .returned (.tuple #[.slice a n c, .agg #[.int .i64 x, .int .i64 y]]) ∧ RdInts (New w) w' (.slice a n c) l) ∧ Below w.heap.size w w' := by
  refine (strataCalls p v w h n1 n2 n3).mono fun e w' ⟨hb, v', l', q, he, hr, hs⟩ => ⟨?_, hb⟩
  obtain ⟨rfl, rfl⟩ := hs.unique hk
  obtain ⟨a, c, rfl, -, -, -⟩ := id hr.form
  subst hn
  exact ⟨a, c, he, hr⟩
def ruleSmallB (x : PRule) : Bool := decide (x.head.terms.length ≤ 1048576) && x.head.terms.all (fun t => decide (t.name.size ≤ 1048576)) && decide (x.body.length ≤ 1048576) && x.body.all (fun a => decide (a.terms.length ≤ 1048576) && a.terms.all (fun t => decide (t.name.size ≤ 1048576)))
theorem ruleSmall_of {x : PRule} (h : ruleSmallB x = true) : RuleSmall x := by
  simp only [ruleSmallB, Bool.and_eq_true, List.all_eq_true, decide_eq_true_eq] at h
  exact ⟨h.1.1.1, h.1.1.2, h.1.2, fun a ha => (h.2 a ha).1, fun a ha => (h.2 a ha).2⟩
def nameSmallB (x : PRule) : Bool := decide (x.head.name.size ≤ 1048576) && x.body.all (fun a => decide (a.name.size ≤ 1048576))
theorem nameSmall_of {x : PRule} (h : nameSmallB x = true) : NameSmall x := by
  simp only [nameSmallB, Bool.and_eq_true, List.all_eq_true, decide_eq_true_eq] at h
  exact ⟨h.1, h.2⟩
end Go.Proofs.YtbbiapgkcekabaaGreat

/-
  TEXTS AND FACTS THAT ARE LAID WHOLE.
-/
namespace Go.Proofs.YtbbiapgkcekabaaGreat
open Go.RowKit

theorem Blk.at_ {w : World} {t : TypeId} {cs : Array Value} {n : Nat} (h : w.heap.size = n) : Blk (w.alloc (.cells cs t)) n t cs := heap_new_at h
theorem RdStrs.lit {w : World} {b : Nat} {t : TypeId} {l : List Str} {n : Nat} (hn : l.length = n) (hm : n ≤ maxLen) (h : Blk w b t (l.map Value.string).toArray) : RdStrs (fun _ => True) w (.slice (some ⟨b, 0, none⟩) n n) l := by
  subst hn
  refine ⟨_, _, rfl, Nat.le_refl _, hm, (fun h => by cases h), fun i x hx => ⟨b, 0, [.string x], rfl, trivial, h.lt, rfl, fun j u hu => ?_, rfl⟩⟩
  rcases j with _ | j
  · obtain rfl := Option.some.inj hu
    rw [h.cell]
    simp [hx]
  · simp at hu
theorem RdFacts.lit {w : World} {b : Nat} {t : TypeId} {l : List PFact} (avs : List Value) {n : Nat} (hn : l.length = n) (hm : n ≤ maxLen) (hl : avs.length = n) (h : Blk w b t (List.zipWith (fun (f : PFact) v => [Value.string f.name, v]) l avs).flatten.toArray)
    (ha : ∀ (i : Nat) (f : PFact) (v : Value), l[i]? = some f → avs[i]? = some v → RdStrs (fun _ => True) w v f.args) : RdFacts (fun _ => True) w (.slice (some ⟨b, 0, none⟩) n n) l := by
  subst hn
  refine ⟨_, _, rfl, Nat.le_refl _, hm, (fun h => by cases h), fun i x hx => ?_⟩
  have hi := (List.getElem?_eq_some_iff.1 hx).1
  obtain ⟨v, hv⟩ : ∃ v, avs[i]? = some v := ⟨_, List.getElem?_eq_getElem (by omega)⟩
  refine ⟨b, 0, [.string x.name, v], rfl, trivial, h.lt, rfl, fun j u hu => ?_, v, rfl, ha i x v hx hv⟩
  have hz : (List.zipWith (fun (f : PFact) v => [Value.string f.name, v]) l avs)[i]? = some [.string x.name, v] := by
    rw [List.getElem?_zipWith, hx, hv]
  have hg := flatten_get (k := 2) _ (fun cs hcs => by
    obtain ⟨i, hi⟩ := List.mem_iff_getElem?.1 hcs
    rw [List.getElem?_zipWith] at hi
    split at hi
    · obtain rfl := Option.some.inj hi; rfl
    · cases hi) i _ j u hz hu
  rw [h.cell, List.getElem?_toArray, Nat.zero_add]
  exact hg
end Go.Proofs.YtbbiapgkcekabaaGreat

/-
  THE WALK OF corolaw5.alive: true.
-/
namespace Go.Proofs.YtbbiapgkcekabaaGreat
open Go.RowKit

def xt : Str := ⟨#[116]⟩
def xe : Str := ⟨#[101]⟩
def xn : Str := ⟨#[110]⟩
def xv : Str := ⟨#[118]⟩
def xa : Str := ⟨#[97]⟩
def xb : Str := ⟨#[98]⟩
def xc : Str := ⟨#[99]⟩
def xX : Str := ⟨#[88]⟩
def xY : Str := ⟨#[89]⟩
def xZ : Str := ⟨#[90]⟩
def a5Text : Str := ⟨([116, 40, 88, 44, 89, 41, 32, 58, 45, 32, 101, 40, 88, 44, 89, 41, 46, 32, 116, 40, 88, 44, 90, 41, 32, 58, 45, 32, 116, 40, 88, 44, 89].append [41, 44, 32, 101, 40, 89, 44, 90, 41, 46, 32, 110, 40, 88, 41, 32, 58, 45, 32, 118, 40, 88, 41, 44, 32, 33, 116, 40, 97, 44, 88, 41, 46]).toArray⟩
def a5Prog : List PRule := [⟨⟨false, xt, [⟨true, xX⟩, ⟨true, xY⟩]⟩, [⟨false, xe, [⟨true, xX⟩, ⟨true, xY⟩]⟩]⟩,
  ⟨⟨false, xt, [⟨true, xX⟩, ⟨true, xZ⟩]⟩, [⟨false, xt, [⟨true, xX⟩, ⟨true, xY⟩]⟩, ⟨false, xe, [⟨true, xY⟩, ⟨true, xZ⟩]⟩]⟩,
  ⟨⟨false, xn, [⟨true, xX⟩]⟩, [⟨false, xv, [⟨true, xX⟩]⟩, ⟨true, xt, [⟨false, xa⟩, ⟨true, xX⟩]⟩]⟩]
def a5Facts : List PFact := [⟨xe, [xa, xb]⟩, ⟨xe, [xb, xc]⟩, ⟨xv, [xa]⟩, ⟨xv, [xc]⟩]
def a5All : List PFact := [⟨xe, [xa, xb]⟩, ⟨xe, [xb, xc]⟩, ⟨xn, [xa]⟩, ⟨xt, [xa, xb]⟩, ⟨xt, [xa, xc]⟩, ⟨xt, [xb, xc]⟩, ⟨xv, [xa]⟩, ⟨xv, [xc]⟩]
theorem parse_a5 : parseF a5Text = (a5Prog, 0, 0) := by decide +kernel
theorem of_a5 : ofF a5Facts = a5Facts := by decide +kernel
theorem naive_a5 : naiveP [0, 0, 1] 0 a5Prog a5Facts = (a5All, 0) := by decide +kernel
theorem wrong_a5 : wrongP a5Prog = (0, 0) := by decide +kernel
theorem mem_a5 : memF ⟨xn, [xa]⟩ a5All = true := by decide +kernel
theorem small_a5 : ∀ r ∈ a5Prog, RuleSmall r := fun r hr => ruleSmall_of (List.all_eq_true.1 (show a5Prog.all ruleSmallB = true by decide +kernel) r hr)
theorem names_a5 : ∀ r ∈ a5Prog, NameSmall r := fun r hr => nameSmall_of (List.all_eq_true.1 (show a5Prog.all nameSmallB = true by decide +kernel) r hr)
theorem rising_a5 : Rising a5All := by unfold Rising; decide +kernel

/-- A way to lay heads, as a list; the least one, told by counting. -/
def solB (p : List PRule) (M : Str → Nat) : Bool := p.all fun r => r.body.all fun a => decide (M a.name + dl p a ≤ M r.head.name)
theorem sol_of {p : List PRule} {M : Str → Nat} (h0 : ∀ s, s ∉ headsOf p → M s = 0) (h : solB p M = true) : Sol p M :=
  ⟨h0, fun r hr a ha => of_decide_eq_true (List.all_eq_true.1 (List.all_eq_true.1 h r hr) a ha)⟩
theorem least_a5 : Least a5Prog (fun s => if s = xn then 1 else 0) := by
  refine ⟨sol_of (fun s hs => ?_) (by decide +kernel), fun M hM s => ?_⟩
  · show (if s = xn then 1 else 0) = 0
    rw [if_neg]
    rintro rfl
    exact hs (by decide +kernel)
  · show (if s = xn then 1 else 0) ≤ M s
    split
    · rename_i e
      subst e
      have h := hM.up ⟨⟨false, xn, [⟨true, xX⟩]⟩, [⟨false, xv, [⟨true, xX⟩]⟩, ⟨true, xt, [⟨false, xa⟩, ⟨true, xX⟩]⟩]⟩ (by simp [a5Prog]) ⟨true, xt, [⟨false, xa⟩, ⟨true, xX⟩]⟩ (by simp)
      rw [show dl a5Prog ⟨true, xt, [⟨false, xa⟩, ⟨true, xX⟩]⟩ = 1 by decide +kernel] at h
      exact Nat.le_trans (Nat.le_add_left _ _) h
    · exact Nat.zero_le _
theorem strata_a5 : StrataIs a5Prog [0, 0, 1] (0, 0) := .inr ⟨by rw [wrong_a5], .inl ⟨_, least_a5, by decide +kernel, rfl⟩⟩

/-- naive.All, what it answers being known. -/
theorem naiveKnown {S S3 : Nat → Prop} {p : List PRule} {v fv : Value} {st : List Int} {q : Int × Int} {l r : List PFact} {e0 : Int} {n : Nat} {w : World} (hn : r.length = n) (hS : StrataIs p st q) (hr : naiveP st q.1 p l = (r, e0)) (h : RdRules S w v p) (hf : RdFacts S3 w fv l)
    (n1 : p.length ≤ 1048576) (n2 : ∀ r ∈ p, RuleSmall r) (n3 : ∀ r ∈ p, NameSmall r) (n4 : l.length ≤ 1048576) (n5 : ∀ x ∈ l, x.args.length ≤ 1048576) :
    Calls Tryz.prog 17 #[v, fv] w fun e w' => (∃ a c, e = .returned (.tuple #[.slice a n c, .int .i64 e0]) ∧ RdFacts (fun _ => True) w' (.slice a n c) r) ∧ Below w.heap.size w w' := by
  subst hn
  refine (naiveCalls p v fv st q l w hS h hf n1 n2 n3 n4 n5).mono fun e w' ⟨hb, v', he, ho⟩ => ⟨?_, hb⟩
  rw [hr] at he ho
  have h' := (ho.read RFact.steady).more RFact.steady (S' := fun _ => True) (fun _ _ _ => trivial)
  obtain ⟨a, c, rfl, -, -, -⟩ := id h'.form
  exact ⟨a, c, he, h'⟩
/-- fact.Of, likewise. -/
theorem ofKnown {S : Nat → Prop} {v : Value} {l r : List PFact} {n : Nat} {w : World} (hn : r.length = n) (hr : ofF l = r) (h : RdFacts S w v l) (n1 : l.length ≤ 1073741824) (n2 : ∀ x ∈ l, x.args.length ≤ 1073741824) :
    Calls Tryz.prog 37 #[v] w fun e w' => (∃ a c, e = .returned (.slice a n c) ∧ RdFacts (fun _ => True) w' (.slice a n c) r) ∧ Below w.heap.size w w' := by
  subst hn
  refine (ofCalls v l w h n1 n2).mono fun e w' ⟨⟨v', he, ho⟩, hb⟩ => ⟨?_, hb⟩
  rw [hr] at ho
  have h' := (ho.read RFact.steady).more RFact.steady (S' := fun _ => True) (fun _ _ _ => trivial)
  obtain ⟨a, c, rfl, -, -, -⟩ := id h'.form
  exact ⟨a, c, he, h'⟩

set_option maxRecDepth 100000 in
set_option maxHeartbeats 4000000 in
theorem alive5Calls (w : World) : Calls Tryz.prog 36 #[] w fun e w' => e = .returned (.bool true) ∧ Below w.heap.size w w' := by
  have T1 := Lib.hid True.intro
  go_enter Tryz.func36, Tryz.ntmps36
  go_wp2_with (go_at_call 65; clear T1; refine (parseKnown (s := a5Text) (n := 3) (by rfl) (by decide) parse_a5 _).mono ?_; rintro e w1 ⟨⟨a1, c1, rfl, hr1⟩, hb1⟩; have HR1 := Lib.hid hr1; have HB1 := Lib.hid hb1; clear hr1 hb1)
  have HR2 := Lib.hid (HR1.out.up (w' := (((((w1.alloc (.cells #[.int .i64 0, .int .i64 0] 27)).alloc (.cells #[.string xa, .string xb] 9)).alloc (.cells #[.string xb, .string xc] 9)).alloc (.cells #[.string xa] 9)).alloc (.cells #[.string xc] 9)).alloc (.cells #[.string xe, .slice (some ⟨w1.heap.size + 1, 0, none⟩) 2 2, .string xe, .slice (some ⟨w1.heap.size + 1 + 1, 0, none⟩) 2 2, .string xv, .slice (some ⟨w1.heap.size + 1 + 1 + 1, 0, none⟩) 1 1, .string xv, .slice (some ⟨w1.heap.size + 1 + 1 + 1 + 1, 0, none⟩) 1 1] 61))
    ((((((Below.refl _ _).alloc (Nat.le_refl _) _).alloc (by simp) _).alloc (by simp; omega) _).alloc (by simp; omega) _).alloc (by simp; omega) _ |>.alloc (by simp; omega) _))
  have HB2 := Lib.hid (show Below w.heap.size w ((((((w1.alloc (.cells #[.int .i64 0, .int .i64 0] 27)).alloc (.cells #[.string xa, .string xb] 9)).alloc (.cells #[.string xb, .string xc] 9)).alloc (.cells #[.string xa] 9)).alloc (.cells #[.string xc] 9)).alloc (.cells #[.string xe, .slice (some ⟨w1.heap.size + 1, 0, none⟩) 2 2, .string xe, .slice (some ⟨w1.heap.size + 1 + 1, 0, none⟩) 2 2, .string xv, .slice (some ⟨w1.heap.size + 1 + 1 + 1, 0, none⟩) 1 1, .string xv, .slice (some ⟨w1.heap.size + 1 + 1 + 1 + 1, 0, none⟩) 1 1] 61)) by
    have := HB1.out.size
    exact ((((((HB1.out.alloc this _).alloc (by simp; omega) _).alloc (by simp; omega) _).alloc (by simp; omega) _).alloc (by simp; omega) _).alloc (by simp; omega) _))
  have HF2 : Hid (RdFacts (fun _ => True) ((((((w1.alloc (.cells #[.int .i64 0, .int .i64 0] 27)).alloc (.cells #[.string xa, .string xb] 9)).alloc (.cells #[.string xb, .string xc] 9)).alloc (.cells #[.string xa] 9)).alloc (.cells #[.string xc] 9)).alloc (.cells #[.string xe, .slice (some ⟨w1.heap.size + 1, 0, none⟩) 2 2, .string xe, .slice (some ⟨w1.heap.size + 1 + 1, 0, none⟩) 2 2, .string xv, .slice (some ⟨w1.heap.size + 1 + 1 + 1, 0, none⟩) 1 1, .string xv, .slice (some ⟨w1.heap.size + 1 + 1 + 1 + 1, 0, none⟩) 1 1] 61)) (.slice (some ⟨w1.heap.size + 1 + 1 + 1 + 1 + 1, 0, none⟩) 4 4) a5Facts) :=
    Lib.hid (RdFacts.lit [.slice (some ⟨w1.heap.size + 1, 0, none⟩) 2 2, .slice (some ⟨w1.heap.size + 1 + 1, 0, none⟩) 2 2, .slice (some ⟨w1.heap.size + 1 + 1 + 1, 0, none⟩) 1 1, .slice (some ⟨w1.heap.size + 1 + 1 + 1 + 1, 0, none⟩) 1 1] rfl (by simp [maxLen]) rfl (Blk.at_ (by simp)) fun i f v hf hv => by
      rcases i with _ | _ | _ | _ | i
      · obtain rfl := Option.some.inj hf
        obtain rfl := Option.some.inj hv
        exact RdStrs.lit rfl (by simp [maxLen]) (((((Blk.at_ (t := 9) (by simp)).alloc _).alloc _).alloc _).alloc _)
      · obtain rfl := Option.some.inj hf
        obtain rfl := Option.some.inj hv
        exact RdStrs.lit rfl (by simp [maxLen]) ((((Blk.at_ (t := 9) (by simp)).alloc _).alloc _).alloc _)
      · obtain rfl := Option.some.inj hf
        obtain rfl := Option.some.inj hv
        exact RdStrs.lit rfl (by simp [maxLen]) (((Blk.at_ (t := 9) (by simp)).alloc _).alloc _)
      · obtain rfl := Option.some.inj hf
        obtain rfl := Option.some.inj hv
        exact RdStrs.lit rfl (by simp [maxLen]) ((Blk.at_ (t := 9) (by simp)).alloc _)
      · simp [a5Facts] at hf)
  have hal : ∀ x ∈ a5Facts, x.args.length ≤ 1048576 := fun x hx => of_decide_eq_true (List.all_eq_true.1 (show a5Facts.all (fun a => decide (a.args.length ≤ 1048576)) = true by decide +kernel) x hx)
  have hal2 : ∀ x ∈ a5All, x.args.length ≤ 1048576 := fun x hx => of_decide_eq_true (List.all_eq_true.1 (show a5All.all (fun a => decide (a.args.length ≤ 1048576)) = true by decide +kernel) x hx)
  have HAL := Lib.hid hal
  have HAL2 := Lib.hid hal2
  clear hal hal2 HR1 HB1
  refine (ofKnown (r := a5Facts) (n := 4) rfl of_a5 HF2.out (by decide) (fun x hx => Nat.le_trans (HAL.out x hx) (by decide))).mono ?_
  rintro e w3 ⟨⟨a3, c3, rfl, hr3⟩, hb3⟩
  have HF3 := Lib.hid hr3
  have HR3 := Lib.hid (HR2.out.up hb3)
  have HB3 := Lib.hid (HB2.out.trans (hb3.mono (Below.size HB2.out)))
  clear hr3 hb3 HF2 HR2 HB2
  go_wp2_with (first
    | (go_at_call 21; refine (countCalls _ [0, 1] _ HI5.out (by decide) (by decide)).mono ?_; rintro e w6 ⟨rfl, rfl⟩)
    | (go_at_call 43; refine (inFact _ a5All ⟨xn, [xa]⟩ _ _ (HF4.out.agree RFact.steady ((Agree.refl _ _).alloc _)) (RdStrs.lit (l := [xa]) rfl (by simp [maxLen]) (Blk.at_ (t := 9) rfl)) rising_a5 (by decide) (fun x hx => Nat.le_trans (HAL2.out x hx) (by decide))).mono ?_; rw [mem_a5]; rintro e w5 ⟨rfl, hf5⟩; have HB5 := Lib.hid ((HB4.out.alloc (Below.size HB4.out) (.cells #[.string ⟨#[97]⟩] 9)).trans (hf5.below.mono (Nat.le_trans (Below.size HB4.out) (by simp)))); have HI5 := Lib.hid (RdInts.block (S := fun _ => True) (w := w5.alloc (.cells #[.int .i64 0, .int .i64 1] 3)) (l := [0, 1]) (n := 2) rfl (heap_new_at rfl) trivial (by simp [maxLen])); clear hf5)
    | (go_at_call 17; refine (naiveKnown (r := a5All) (n := 8) rfl strata_a5 naive_a5 HR3.out HF3.out (by decide) small_a5 names_a5 (by decide) HAL.out).mono ?_; rintro e w4 ⟨⟨a4, c4, rfl, hr4⟩, hb4⟩; have HF4 := Lib.hid hr4; have HB4 := Lib.hid (HB3.out.trans (hb4.mono (Below.size HB3.out))); clear hr4 hb4))
  go_ret
  exact ⟨rfl, HB5.out.alloc (Below.size HB5.out) _⟩
end Go.Proofs.YtbbiapgkcekabaaGreat

/-
  THE ENTRY: from the row's reading of an argument to 'RdSlice': 'Opens'; and the row's end: what was below the heap's size is as it was.
-/
namespace Go.Proofs.YtbbiapgkcekabaaGreat
open Go.RowKit Go.ChangeShapes Go.WideShapes Go.Deep

theorem bulk_append {H : Type} (l r : List (DataW H)) : Rows.uptoBulkAll (l ++ r) = Rows.uptoBulkAll l + Rows.uptoBulkAll r := by
  induction l with
  | nil => simp [Rows.uptoBulkAll]
  | cons x l ih => simp only [List.cons_append, Rows.uptoBulkAll, ih]; omega

theorem cell_spot {w : World} {a : Addr} {v : Value} (h : w.cell? a = some v) : a.spot = none ∧ a.block < w.heap.size := by
  unfold World.cell? at h
  split at h
  · rename_i c t f hc
    refine ⟨?_, (Array.getElem?_eq_some_iff.1 hc).1⟩
    cases hs : a.spot with
    | none => rfl
    | some s => rw [hs] at h; simp at h
  · cases h

/-- How much a list of values is. -/
def sizeL {α : Type} (size : α → Nat) (l : List α) : Nat := 1 + (l.map size).sum
theorem sizeL_le {α : Type} {size : α → Nat} (hp : ∀ x, 1 ≤ size x) (l : List α) : l.length + 1 ≤ sizeL size l := by
  unfold sizeL
  induction l with
  | nil => simp
  | cons x l ih => have := hp x; simp only [List.map_cons, List.sum_cons, List.length_cons]; omega
theorem sizeL_mem {α : Type} {size : α → Nat} {l : List α} {x : α} (h : x ∈ l) : size x ≤ sizeL size l := by
  unfold sizeL
  induction l with
  | nil => cases h
  | cons y l ih =>
    simp only [List.map_cons, List.sum_cons]
    rcases List.mem_cons.1 h with rfl | h
    · omega
    · have := ih h; omega

/-- What the row's reading of a type gives. -/
structure Opens {α : Type} (P : Program) (t : TypeId) (k : Nat) (R : Reader α) (size : α → Nat) : Prop where
  cells : P.cellsOf t = k
  pos : 0 < k
  one : ∀ x, 1 ≤ size x
  opn : ∀ {H : Type} {enc : TypeId × Value → H} {w : World} {n : Nat} {cs : List Value} {x : DataW H × List MemPlace}, DataW.trod enc P w 0 (fun _ => true) true n t cs = some x → ∃ y, R (fun _ => True) w cs y ∧ size y ≤ Rows.uptoBulk x.1

theorem Opens.slice {α : Type} {P : Program} {t e : TypeId} {k : Nat} {R : Reader α} {size : α → Nat} (h : Opens P e k R size) (ht : P.underlying t = some (.slice e)) {H : Type} {enc : TypeId × Value → H} {w : World} {n : Nat} {cs : List Value} {x : DataW H × List MemPlace}
    (hx : DataW.trod enc P w 0 (fun _ => true) true n t cs = some x) : ∃ v l, cs = [v] ∧ RdSlice k R (fun _ => True) w v l ∧ sizeL size l ≤ Rows.uptoBulk x.1 := by
  rcases open_slice ht hx with ⟨rfl, rfl⟩ | ⟨a, len, cap, m, n', D, Pl, rfl, -, hl, hm, hmm, rfl, hi⟩
  · exact ⟨_, [], rfl, ⟨none, 0, rfl, Nat.le_refl _, Nat.zero_le _, fun _ => rfl, fun i x hx => by simp at hx⟩, by simp [sizeL, Rows.uptoBulk]⟩
  · simp only [if_true] at hmm
    subst hmm
    have main : ∀ j, j ≤ len → ∃ l : List α, l.length = j ∧ (∀ i y, l[i]? = some y → ∃ cs', w.cells? 0 (a.add (i * P.cellsOf e)) (P.cellsOf e) = some cs' ∧ R (fun _ => True) w cs' y) ∧ (l.map size).sum ≤ Rows.uptoBulkAll ((List.range j).map D) := by
      intro j
      induction j with
      | zero => exact fun _ => ⟨[], rfl, fun i y hy => by simp at hy, by simp⟩
      | succ j ih =>
        intro hj
        obtain ⟨l, h1, h2, h3⟩ := ih (by omega)
        obtain ⟨cs', g1, g2⟩ := hi j (by omega)
        obtain ⟨y, r1, r2⟩ := h.opn g2
        refine ⟨l ++ [y], by simp [h1], fun i z hz => ?_, ?_⟩
        · by_cases hij : i < j
          · rw [List.getElem?_append_left (by omega)] at hz; exact h2 i z hz
          · rw [List.getElem?_append_right (by omega)] at hz
            have : i - l.length = 0 := by
              have := (List.getElem?_eq_some_iff.1 hz).1
              simp at this; omega
            rw [this] at hz
            obtain rfl : y = z := by simpa using hz
            obtain rfl : i = j := by omega
            exact ⟨cs', g1, r1⟩
        · rw [List.range_succ, List.map_append (f := D), bulk_append, List.map_append, List.sum_append]
          simp [Rows.uptoBulkAll]
          simp at r2
          omega
    obtain ⟨l, h1, h2, h3⟩ := main len (Nat.le_refl _)
    refine ⟨_, l, rfl, ⟨some a, m, by rw [h1], by omega, hm, (fun e => by cases e), fun i y hy => ?_⟩, by simp only [sizeL, Rows.uptoBulk]; omega⟩
    obtain ⟨cs', g1, g2⟩ := h2 i y hy
    obtain ⟨-, hlen, hget⟩ := World.cells?_some g1
    rw [h.cells] at hlen hget
    have hk := h.pos
    obtain ⟨b, off, spot⟩ := a
    have hspot : spot = none ∧ b < w.heap.size := by
      obtain ⟨y0, hy0⟩ : ∃ y0, l[0]? = some y0 := ⟨_, List.getElem?_eq_getElem (by have := (List.getElem?_eq_some_iff.1 hy).1; omega)⟩
      obtain ⟨cs0, g3, -⟩ := h2 0 y0 hy0
      obtain ⟨-, hlen0, hget0⟩ := World.cells?_some g3
      rw [h.cells] at hlen0 hget0
      have h0 := hget0 0 hk
      rw [List.getElem?_eq_getElem (by omega)] at h0
      have := cell_spot h0
      simpa [Addr.add] using this
    obtain ⟨rfl, hb⟩ := hspot
    refine ⟨b, off, cs', rfl, trivial, hb, hlen, fun j u hu => ?_, g2⟩
    · have hj : j < k := by rw [← hlen]; exact (List.getElem?_eq_some_iff.1 hu).1
      have := hget j hj
      rw [hu] at this
      have hadd : ((⟨b, off, none⟩ : Addr).add (i * k)).add j = ⟨b, off + i * k + j, none⟩ := by
        unfold Addr.add
        split
        · split
          · simp_all
          · simp_all
        · split <;> simp_all <;> omega
      rwa [hadd] at this

/-- A struct that is an argument. -/
theorem Opens.arg {α : Type} {P : Program} {t : TypeId} {k : Nat} {R : Reader α} {size : α → Nat} (h : Opens P t k R size) {fs : Array Field} (ht : P.underlying t = some (.struct fs)) {H : Type} {enc : TypeId × Value → H} {W : World} {r : Reach} {b : Nat} {v : Value} {d : DataW H} {p : List MemPlace}
    (hv : Value.okWide P W r b t v) (hd : DataW.Trod enc P W 0 (fun _ => true) true t v d p) : ∃ x cs, v = .agg cs ∧ R (fun _ => True) W cs.toList x ∧ size x ≤ Rows.uptoBulk d := by
  obtain ⟨cs, rfl, -⟩ := okWide_struct ht hv
  obtain ⟨n, hn⟩ := hd
  obtain ⟨x, hr, hb⟩ := h.opn hn
  exact ⟨x, cs, rfl, hr, hb⟩
/-- A slice that is an argument. -/
theorem Opens.sliceArg {α : Type} {P : Program} {t e : TypeId} {k : Nat} {R : Reader α} {size : α → Nat} (h : Opens P e k R size) (ht : P.underlying t = some (.slice e)) {H : Type} {enc : TypeId × Value → H} {W : World} {r : Reach} {b : Nat} {v : Value} {d : DataW H} {p : List MemPlace}
    (hv : Value.okWide P W r b t v) (hd : DataW.Trod enc P W 0 (fun _ => true) true t v d p) : ∃ l, RdSlice k R (fun _ => True) W v l ∧ sizeL size l ≤ Rows.uptoBulk d := by
  obtain ⟨a, len, cap, rfl⟩ := okWide_slice ht hv
  obtain ⟨n, hn⟩ := hd
  obtain ⟨v', l, e1, hr, hb⟩ := h.slice ht hn
  have e2 : [Value.slice a len cap] = [v'] := e1
  obtain rfl : Value.slice a len cap = v' := by simpa using e2
  exact ⟨l, hr, hb⟩

theorem Opens.factArg {P : Program} {t : TypeId} {size : PFact → Nat} (h : Opens P t 2 RFact size) {fs : Array Field} (ht : P.underlying t = some (.struct fs)) {H : Type} {enc : TypeId × Value → H} {W : World} {r : Reach} {b : Nat} {v : Value} {d : DataW H} {p : List MemPlace}
    (hv : Value.okWide P W r b t v) (hd : DataW.Trod enc P W 0 (fun _ => true) true t v d p) : ∃ (f : PFact) (av : Value), v = .agg #[.string f.name, av] ∧ RdStrs (fun _ => True) W av f.args ∧ size f ≤ Rows.uptoBulk d := by
  obtain ⟨f, cs, rfl, ⟨av, e, hr⟩, hb⟩ := h.arg ht hv hd
  exact ⟨f, av, by rw [← Array.toArray_toList (xs := cs), e], hr, hb⟩

theorem Opens.strArg {P : Program} {t : TypeId} (h : Opens P t 1 RStr (fun s => s.size + 1)) (ht : P.underlying t = some .string) {H : Type} {enc : TypeId × Value → H} {W : World} {r : Reach} {b : Nat} {v : Value} {d : DataW H} {p : List MemPlace}
    (hv : Value.okWide P W r b t v) (hd : DataW.Trod enc P W 0 (fun _ => true) true t v d p) : ∃ s : Str, v = .string s ∧ s.size + 1 ≤ Rows.uptoBulk d := by
  obtain ⟨s, rfl⟩ := okWide_string ht hv
  obtain ⟨n, hn⟩ := hd
  obtain ⟨y, e, hb⟩ := h.opn hn
  have e' : [Value.string s] = [.string y] := e
  obtain rfl : s = y := by simpa using e'
  exact ⟨_, rfl, hb⟩
theorem Opens.intArg {P : Program} {t : TypeId} (h : Opens P t 1 RInt (fun _ => 1)) (ht : P.underlying t = some (.int .i64)) {H : Type} {enc : TypeId × Value → H} {W : World} {r : Reach} {b : Nat} {v : Value} {d : DataW H} {p : List MemPlace}
    (hv : Value.okWide P W r b t v) (hd : DataW.Trod enc P W 0 (fun _ => true) true t v d p) : ∃ n : Int, v = .int .i64 n ∧ 1 ≤ Rows.uptoBulk d := by
  obtain ⟨s, rfl⟩ := okWide_int ht hv
  obtain ⟨n, hn⟩ := hd
  obtain ⟨y, e, hb⟩ := h.opn hn
  exact ⟨_, rfl, hb⟩

theorem list2 {l : List Value} (h : l.length = 2) : ∃ a b, l = [a, b] := match l, h with | [a, b], _ => ⟨a, b, rfl⟩
theorem list3 {l : List Value} (h : l.length = 3) : ∃ a b c, l = [a, b, c] := match l, h with | [a, b, c], _ => ⟨a, b, c, rfl⟩
theorem list4 {l : List Value} (h : l.length = 4) : ∃ a b c d, l = [a, b, c, d] := match l, h with | [a, b, c, d], _ => ⟨a, b, c, d, rfl⟩
def sizeStr (s : Str) : Nat := s.size + 1
def sizeInt (_ : Int) : Nat := 1
def sizeFact (f : PFact) : Nat := 1 + sizeStr f.name + sizeL sizeStr f.args
def sizeTerm (f : PTerm) : Nat := 2 + sizeStr f.name
def sizeAtom (f : PAtom) : Nat := 2 + sizeStr f.name + sizeL sizeTerm f.terms
def sizeRule (f : PRule) : Nat := 1 + sizeAtom f.head + sizeL sizeAtom f.body
def sizeBind (f : PBind) : Nat := 1 + sizeStr f.var + sizeStr f.name

theorem openStr : Opens Tryz.prog 9 1 RStr sizeStr where
  cells := by kernel_rfl
  pos := by omega
  one _ := by simp only [sizeStr]; omega
  opn h := by
    obtain ⟨s, rfl, rfl, -⟩ := DataW.trod_string Tryz.underlying9 h
    refine ⟨s, rfl, ?_⟩
    have : s.data.toList.length = s.size := by rw [Array.length_toList]; rfl
    simp only [sizeStr, Rows.uptoBulk]; omega
theorem openInt : Opens Tryz.prog 3 1 RInt sizeInt where
  cells := by kernel_rfl
  pos := by omega
  one _ := by simp [sizeInt]
  opn h := by
    obtain ⟨s, rfl, rfl, -⟩ := DataW.trod_int Tryz.underlying3 h
    exact ⟨s, rfl, by simp [sizeInt, Rows.uptoBulk]⟩
theorem openFact : Opens Tryz.prog 61 2 RFact sizeFact where
  cells := by kernel_rfl
  pos := by omega
  one _ := by simp only [sizeFact]; omega
  opn {H enc w n cs x} h := by
    obtain ⟨y0, y1, n, rfl, hl, h0, h1⟩ := trod_struct2 Tryz.underlying61 h
    rw [show Tryz.prog.cellsOf 61 = 2 by kernel_rfl] at hl
    obtain ⟨c0, c1, rfl⟩ := list2 hl
    rw [show Tryz.prog.cellsOf 9 = 1 by kernel_rfl] at h0
    rw [show Tryz.prog.cellsOf 59 = 1 by kernel_rfl] at h1
    obtain ⟨s, e0, b0⟩ := openStr.opn h0
    obtain ⟨v, l, e1, hr, b1⟩ := openStr.slice Tryz.underlying59 h1
    obtain rfl : c0 = .string s := by simpa [RStr] using e0
    obtain rfl : c1 = v := by simpa using e1
    exact ⟨⟨s, l⟩, ⟨_, rfl, hr⟩, by simp only [sizeFact, Rows.uptoBulk, Rows.uptoBulkAll]; omega⟩
theorem openTerm : Opens Tryz.prog 104 2 RTerm sizeTerm where
  cells := by kernel_rfl
  pos := by omega
  one _ := by simp only [sizeTerm]; omega
  opn {H enc w n cs x} h := by
    obtain ⟨y0, y1, n, rfl, hl, h0, h1⟩ := trod_struct2 Tryz.underlying104 h
    rw [show Tryz.prog.cellsOf 104 = 2 by kernel_rfl] at hl
    obtain ⟨c0, c1, rfl⟩ := list2 hl
    rw [show Tryz.prog.cellsOf 4 = 1 by kernel_rfl] at h0
    rw [show Tryz.prog.cellsOf 9 = 1 by kernel_rfl] at h1
    obtain ⟨b, e0, rfl⟩ := DataW.trod_bool Tryz.underlying4 h0
    obtain ⟨s, e1, b1⟩ := openStr.opn h1
    obtain rfl : c0 = .bool b := by simpa using e0
    obtain rfl : c1 = .string s := by simpa [RStr] using e1
    exact ⟨⟨b, s⟩, rfl, by simp only [sizeTerm, Rows.uptoBulk, Rows.uptoBulkAll]; omega⟩
theorem openAtom : Opens Tryz.prog 40 3 RAtom sizeAtom where
  cells := by kernel_rfl
  pos := by omega
  one _ := by simp only [sizeAtom]; omega
  opn {H enc w n cs x} h := by
    obtain ⟨y0, y1, y2, n, rfl, hl, h0, h1, h2⟩ := trod_struct3 Tryz.underlying40 h
    rw [show Tryz.prog.cellsOf 40 = 3 by kernel_rfl] at hl
    obtain ⟨c0, c1, c2, rfl⟩ := list3 hl
    rw [show Tryz.prog.cellsOf 4 = 1 by kernel_rfl] at h0
    rw [show Tryz.prog.cellsOf 9 = 1 by kernel_rfl] at h1
    rw [show Tryz.prog.cellsOf 38 = 1 by kernel_rfl] at h2
    obtain ⟨b, e0, rfl⟩ := DataW.trod_bool Tryz.underlying4 h0
    obtain ⟨s, e1, b1⟩ := openStr.opn h1
    obtain ⟨v, l, e2, hr, b2⟩ := openTerm.slice Tryz.underlying38 h2
    obtain rfl : c0 = .bool b := by simpa using e0
    obtain rfl : c1 = .string s := by simpa [RStr] using e1
    obtain rfl : c2 = v := by simpa using e2
    exact ⟨⟨b, s, l⟩, ⟨_, rfl, hr⟩, by simp only [sizeAtom, Rows.uptoBulk, Rows.uptoBulkAll]; omega⟩
theorem openRule : Opens Tryz.prog 43 4 RRule sizeRule where
  cells := by kernel_rfl
  pos := by omega
  one _ := by simp only [sizeRule]; omega
  opn {H enc w n cs x} h := by
    obtain ⟨y0, y1, n, rfl, hl, h0, h1⟩ := trod_struct2 Tryz.underlying43 h
    rw [show Tryz.prog.cellsOf 43 = 4 by kernel_rfl] at hl
    obtain ⟨c0, c1, c2, c3, rfl⟩ := list4 hl
    rw [show Tryz.prog.cellsOf 40 = 3 by kernel_rfl] at h0
    rw [show Tryz.prog.cellsOf 41 = 1 by kernel_rfl] at h1
    obtain ⟨a, ⟨tv, e0, hr0⟩, b0⟩ := openAtom.opn h0
    obtain ⟨v, l, e1, hr, b1⟩ := openAtom.slice Tryz.underlying41 h1
    obtain ⟨rfl, rfl, rfl⟩ : c0 = .bool a.neg ∧ c1 = .string a.name ∧ c2 = tv := by simpa using e0
    obtain rfl : c3 = v := by simpa using e1
    exact ⟨⟨a, l⟩, ⟨_, _, rfl, hr0, hr⟩, by simp only [sizeRule, Rows.uptoBulk, Rows.uptoBulkAll]; omega⟩
theorem openBind : Opens Tryz.prog 139 2 RBind sizeBind where
  cells := by kernel_rfl
  pos := by omega
  one _ := by simp only [sizeBind]; omega
  opn {H enc w n cs x} h := by
    obtain ⟨y0, y1, n, rfl, hl, h0, h1⟩ := trod_struct2 Tryz.underlying139 h
    rw [show Tryz.prog.cellsOf 139 = 2 by kernel_rfl] at hl
    obtain ⟨c0, c1, rfl⟩ := list2 hl
    rw [show Tryz.prog.cellsOf 9 = 1 by kernel_rfl] at h0 h1
    obtain ⟨s, e0, b0⟩ := openStr.opn h0
    obtain ⟨s', e1, b1⟩ := openStr.opn h1
    obtain rfl : c0 = .string s := by simpa [RStr] using e0
    obtain rfl : c1 = .string s' := by simpa [RStr] using e1
    exact ⟨⟨s, s'⟩, rfl, by simp only [sizeBind, Rows.uptoBulk, Rows.uptoBulkAll]; omega⟩

/-! ### The row's end -/
theorem trodAll_carry {H : Type} {enc : TypeId × Value → H} {P : Program} (hl : laidOutB P = true) {W W' : World} (hb : Below W.heap.size W W') {sp : Nat → Bool} :
    ∀ {ts : List TypeId} {vs : List Value} {ds : List (DataW H)} {ps : List MemPlace}, ts.all (fun t => P.readableRec t && decide (t < P.types.size)) = true → (∀ x ∈ ps, x.block < W.heap.size) → (∀ x ∈ ps, sp x.block = true) →
      DataW.TrodAll enc P W 0 (fun _ => true) true ts vs ds ps → DataW.TrodAll enc P W' 0 sp true ts vs ds ps
  | [], _, _, _, _, _, _, h => by
    obtain ⟨rfl, rfl, rfl⟩ := trodAll_nil h
    exact trodAll_mk0
  | t :: ts, _, _, _, ht, hlt, hsp, h => by
    obtain ⟨v, vs1, d, ds1, a, b, rfl, rfl, rfl, h1, h2⟩ := trodAll_cons h
    simp only [List.all_cons, Bool.and_eq_true, decide_eq_true_eq] at ht
    exact ⟨a, b, WideElems.Trod_stays hl ht.1.1 ht.1.2 h1 (fun x hx => hb.same (hlt x (by simp [hx]))) (fun x hx => hsp x (by simp [hx])),
      trodAll_carry hl hb (by simpa using ht.2) (fun x hx => hlt x (by simp [hx])) (fun x hx => hsp x (by simp [hx])) h2, rfl⟩

/-- A law's end: it has answered true; nothing below the heap's old size has turned. -/
theorem law_post {H : Type} {enc : TypeId × Value → H} {P : Program} {f : Func} {s : ChangeSpec} {fresh handsOn again : Bool} {W W' : World} {args : Array Value} {ds gs : List (DataW H)} {before : List MemPlace} {tb : TypeId}
    (hW : DataW.Whole enc P f.params.toList s.vars false W args.toList ds gs before) (hv : s.vars = []) (hfn : s.fn H ds = { results := [.lit (.bool true)], args := ds }) (hrt : f.resultTypes = #[tb]) (htb : P.underlying tb = some .bool)
    (hl : laidOutB P = true) (hread : f.params.toList.all (fun t => P.readableRec t && decide (t < P.types.size)) = true) (hb : Below W.heap.size W W') : s.post enc P f false fresh handsOn again W args (.bool true) W' := by
  have hlt := hW.lt
  have hold : ∀ p ∈ before, (fun b => decide (b < W.heap.size)) p.block = true := fun p hp => by simpa using hlt p hp
  have hW' := hW
  obtain ⟨p, q, hA, hV, rfl, hz, hn⟩ := hW
  rw [hv] at hV
  obtain ⟨rfl, rfl⟩ := trodVars_none hV
  have hds : ds ++ ([] : List (DataW H)) = ds := List.append_nil _
  have hargs : ∀ sp : Nat → Bool, (∀ x ∈ p, sp x.block = true) → DataW.TrodAll enc P W' 0 sp true f.params.toList args.toList (s.fn H (ds ++ [])).args p := fun sp hsp => by
    rw [hds, hfn]
    exact trodAll_carry hl hb hread (fun x hx => hlt x (by simp [hx])) hsp hA
  have hres : ∀ (b : Nat) (sp : Nat → Bool) (hd : Bool), DataW.TrodAll enc P W' b sp hd f.resultTypes.toList ((Value.bool true).resultList f.resultTypes.size) (s.fn H (ds ++ [])).results [] := fun b sp hd => by
    rw [hds, hfn, hrt]
    exact trodAll_cons_mk (shut_bool htb _) trodAll_mk0
  have hvars : ∀ sp : Nat → Bool, DataW.TrodVars enc P W' sp s.vars (s.fn H (ds ++ [])).vars [] := fun sp => by
    rw [hds, hfn, hv]; rfl
  refine ⟨ds, [], p ++ [], [], p, [], hW', hres _ _ _, hargs _ (fun x hx => hold x (by simp [hx])), hvars _, World.keptBut_mono (fun x hx => ⟨hx, Or.inr (by simpa using hx)⟩) (hb.frame (· ∈ p ++ [])), fun _ => ?_⟩
  refine ⟨ok_one hrt rfl (okWide_bool_mk htb _), _, _, ([] ++ p) ++ [], ⟨[] ++ p, [], trodAll_append (hargs _ (fun _ _ => rfl)) (hres _ _ _), hvars _, rfl, ?_, ?_⟩, ?_⟩
  · intro b off hp
    have hb' : b < W.heap.size := hlt (.cell b off) (by simpa using hp)
    rw [hb.frozen (p := ⟨b, off, none⟩) hb']
    exact hz b off (by simpa using hp)
  · intro ha; cases ha
  · intro x hx _
    simpa using hx
end Go.Proofs.YtbbiapgkcekabaaGreat

/-
  PLAIN: rules of little bulk are small.
-/
namespace Go.Proofs.YtbbiapgkcekabaaGreat

theorem atom_small {a : PAtom} : a.name.size ≤ sizeAtom a ∧ a.terms.length ≤ sizeAtom a ∧ ∀ t ∈ a.terms, t.name.size ≤ sizeAtom a := by
  have h2 := sizeL_le (size := sizeTerm) openTerm.one a.terms
  refine ⟨by simp only [sizeAtom, sizeStr]; omega, by simp only [sizeAtom]; omega, fun t ht => ?_⟩
  have h1 := sizeL_mem (size := sizeTerm) ht
  have h3 : t.name.size ≤ sizeTerm t := by simp only [sizeTerm, sizeStr]; omega
  simp only [sizeAtom]; omega
theorem rules_small {p : List PRule} (h : sizeL sizeRule p ≤ 1048576) : p.length ≤ 1048576 ∧ (∀ r ∈ p, RuleSmall r) ∧ ∀ r ∈ p, NameSmall r := by
  have l := sizeL_le (size := sizeRule) openRule.one p
  have hr : ∀ r ∈ p, sizeAtom r.head ≤ 1048576 ∧ sizeL sizeAtom r.body ≤ 1048576 := fun r hr => by
    have h1 := sizeL_mem (size := sizeRule) hr
    simp only [sizeRule] at h1
    constructor <;> omega
  have hb : ∀ r ∈ p, ∀ a ∈ r.body, sizeAtom a ≤ 1048576 := fun r h1 a ha => by
    have h2 := sizeL_mem (size := sizeAtom) ha
    have h3 := (hr r h1).2
    omega
  refine ⟨by omega, fun r h1 => ?_, fun r h1 => ?_⟩
  · have h2 := (hr r h1).1
    have h3 := sizeL_le (size := sizeAtom) openAtom.one r.body
    have h4 := (hr r h1).2
    obtain ⟨g1, g2, g3⟩ := atom_small (a := r.head)
    refine ⟨by omega, fun t ht => by have := g3 t ht; omega, by omega, fun a ha => ?_, fun a ha t ht => ?_⟩
    · have := hb r h1 a ha
      have := (atom_small (a := a)).2.1
      omega
    · have := hb r h1 a ha
      have := (atom_small (a := a)).2.2 t ht
      omega
  · have h2 := (hr r h1).1
    have := (atom_small (a := r.head)).1
    refine ⟨by omega, fun a ha => ?_⟩
    have := hb r h1 a ha
    have := (atom_small (a := a)).1
    omega
end Go.Proofs.YtbbiapgkcekabaaGreat

/-
  PLAIN: of a program that asks for nothing not to be so: what follows is the least that is closed; told what follows, nothing more follows.
-/
namespace Go.Proofs.YtbbiapgkcekabaaGreat

def Plain (p : List PRule) : Prop := ∀ r ∈ p, ∀ a ∈ r.body, a.neg = false
theorem Derives.up {r : PRule} {O M : List PFact} {x : PFact} (hn : ∀ a ∈ r.body, a.neg = false) (h : Derives r O x) (hp : ∀ f ∈ O, f ∈ M) : Derives r M x :=
  h.grow hp fun a ha e => absurd (hn a ha) (by rw [e]; decide)

theorem fix_under {p : List (PRule × Int)} {n : Int} {N : List PFact} (hc : ∀ r s, (r, s) ∈ p → (∀ a ∈ r.body, a.neg = false) ∧ ∀ x, Derives r N x → x ∈ N) : ∀ {k : Nat} {out : List PFact}, Rising out → out.length ≤ 200 → (∀ x ∈ out, x ∈ N) → (fixP p n k out).2 = 0 → ∀ x ∈ (fixP p n k out).1, x ∈ N
  | 0, out, _, _, ho, _ => ho
  | k + 1, out, hr, hl, ho, h => by
    rw [fixP] at h ⊢
    by_cases he : (onceP n out p out).2 = 0
    case neg => rw [if_pos he] at h; exact absurd h he
    rw [if_neg (by simpa using he)] at h ⊢
    have hR := once_round he hr hl
    by_cases hle : (onceP n out p out).1.length = out.length
    · rw [if_pos hle]; exact ho
    · rw [if_neg hle] at h ⊢
      refine fix_under hc (k := k) hR.rise hR.len (fun x hx => ?_) h
      rcases (hR.mem x).1 hx with h1 | ⟨r, s, h1, h2, h3⟩
      · exact ho x h1
      · obtain ⟨g1, g2⟩ := hc r s h1
        exact g2 x (Derives.up g1 ((mem_heads (hR.ok r s h1 h2) x).1 h3) ho)
theorem fix_set {p : List (PRule × Int)} {n : Int} : ∀ {k : Nat} {out : List PFact}, Rising out → out.length ≤ 200 → (fixP p n k out).2 = 0 → Rising (fixP p n k out).1 ∧ (fixP p n k out).1.length ≤ 200
  | 0, out, h1, h2, _ => ⟨h1, h2⟩
  | k + 1, out, hr, hl, h => by
    rw [fixP] at h ⊢
    by_cases he : (onceP n out p out).2 = 0
    case neg => rw [if_pos he] at h; exact absurd h he
    rw [if_neg (by simpa using he)] at h ⊢
    have hR := once_round he hr hl
    by_cases hle : (onceP n out p out).1.length = out.length
    · rw [if_pos hle]; exact ⟨hr, hl⟩
    · rw [if_neg hle] at h ⊢
      exact fix_set hR.rise hR.len h
theorem run_under {p : List (PRule × Int)} {N : List PFact} (hc : ∀ r s, (r, s) ∈ p → (∀ a ∈ r.body, a.neg = false) ∧ ∀ x, Derives r N x → x ∈ N) : ∀ {k : Nat} {i : Int} {out : List PFact}, Rising out → out.length ≤ 200 → (∀ x ∈ out, x ∈ N) → (runP p k i out).2 = 0 → ∀ x ∈ (runP p k i out).1, x ∈ N
  | 0, i, out, _, _, ho, _ => ho
  | k + 1, i, out, hr, hl, ho, h => by
    obtain ⟨h1, h2⟩ := run_step h
    rw [h2] at h ⊢
    obtain ⟨h3, h4⟩ := fix_set hr hl h1
    exact run_under hc (k := k) h3 h4 (fix_under hc hr hl ho h1) h
/-- What follows is the least. -/
theorem naive_least {p : List PRule} (hp : Plain p) {l N : List PFact} {st : List Int} {q : Int × Int} (hs : StrataIs p st q) (h : (naiveP st q.1 p l).2 = 0) (hl : ∀ x ∈ l, x ∈ N) (hN : ∀ r ∈ p, ∀ x, Derives r N x → x ∈ N) : ∀ x ∈ (naiveP st q.1 p l).1, x ∈ N := by
  obtain ⟨h1, h2, h3⟩ := naive_zero h
  obtain ⟨hR, hW, L, hL, rfl⟩ := strata_zero hs h1
  obtain ⟨g1, g2, g3⟩ := setF_set (factsBad_set h2)
  rw [h3] at h ⊢
  rw [zip_withL] at h ⊢
  exact run_under (fun r s hm => ⟨hp r (mem_withL.1 hm).1, hN r (mem_withL.1 hm).1⟩) g2 g1 hl h

theorem once_closed {n : Int} {M : List PFact} (hM : Good M) {p : List (PRule × Int)} (hR : ∀ r s, (r, s) ∈ p → ruleBad r = 0 ∧ ∀ x, Derives r M x → x ∈ M) : onceP n M p M = (M, 0) ∨ onceP n M p M = ([], 4) := by
  have hb : ∀ r s, (r, s) ∈ p → bodyBad r.body = 0 := fun r s h => (ruleBad_zero (hR r s h).1).2.2.1
  have hr : ∀ x, ReachF n M p M x → (onceP n M p M).2 ≠ 4 → x ∈ M := fun x hx h4 => by
    rcases hx with h | ⟨r, s, h1, h2, h3⟩
    · exact h
    · by_cases he : (headsP r M).2 = 0
      · exact (hR r s h1).2 x ((mem_heads he x).1 h3)
      · rw [(heads_err he).1] at h3
        simp at h3
  rcases once_cases (n := n) (out := M) (by rw [hM.set]) hb with h | ⟨h, -⟩ | ⟨h, h5⟩
  · left
    have hRd := once_round h hM.rise hM.len
    refine Prod.ext (rising_ext hRd.rise hM.rise fun x => ⟨fun hx => hr x ((hRd.mem x).1 hx) (by rw [h]; decide), fun hx => (hRd.mem x).2 (.inl hx)⟩) h
  · exact .inr h
  · have h6 := h5 M hM.rise fun x hx => hr x hx (by rw [h]; decide)
    have := hM.len
    omega
theorem fix_closed {n : Int} {M : List PFact} (hM : Good M) {p : List (PRule × Int)} (hR : ∀ r s, (r, s) ∈ p → ruleBad r = 0 ∧ ∀ x, Derives r M x → x ∈ M) : ∀ k, fixP p n k M = (M, 0) ∨ fixP p n k M = ([], 4)
  | 0 => .inl rfl
  | k + 1 => by
    rw [fixP]
    rcases once_closed (n := n) hM hR with h | h <;> rw [h]
    · rw [if_neg (by simp), if_pos rfl]; exact .inl rfl
    · exact .inr rfl
theorem run_closed {M : List PFact} (hM : Good M) {p : List (PRule × Int)} (hR : ∀ r s, (r, s) ∈ p → ruleBad r = 0 ∧ ∀ x, Derives r M x → x ∈ M) : ∀ k i, runP p k i M = (M, 0) ∨ runP p k i M = ([], 4)
  | 0, _ => .inl rfl
  | k + 1, i => by
    rw [runP]
    rcases fix_closed (n := i) hM hR 201 with h | h <;> rw [h]
    · rw [if_neg (by simp)]; exact run_closed hM hR k (i + 1)
    · exact .inr rfl
/-- Told what follows, nothing more follows. -/
theorem naive_again {p : List PRule} {l : List PFact} {st : List Int} {q : Int × Int} (hs : StrataIs p st q) (h : (naiveP st q.1 p l).2 = 0) :
    naiveP st q.1 p (naiveP st q.1 p l).1 = ((naiveP st q.1 p l).1, 0) ∨ naiveP st q.1 p (naiveP st q.1 p l).1 = ([], 4) := by
  obtain ⟨hF, -, hR⟩ := naive_follows hs h
  obtain ⟨h1, h2, -⟩ := naive_zero h
  obtain ⟨-, hW, L, hL, e⟩ := strata_zero hs h1
  have hA := (wrongP_iff.1 hW).2.2
  generalize (naiveP st q.1 p l).1 = M at *
  have hfit := hF.fit hA h2
  unfold naiveP
  rw [if_neg (by simpa using h1), if_neg (by simpa using hfit), e, zip_withL]
  exact run_closed ⟨hF.rise, hF.len, hF.good⟩ (fun r s hm => ⟨hR r (mem_withL.1 hm).1, hF.closed r (mem_withL.1 hm).1⟩) _ _
end Go.Proofs.YtbbiapgkcekabaaGreat
