/-
  THE WALKS OF syntax.guard, Parse, Body: what is thrown is caught.
-/
import Derived.Test.YtobbjapmdpkogaaSynW4
import Derived.Defers
import Derived.Recover
namespace Go.Proofs.Ytobbjapmdpkogaa
open Go.RowKit

set_option maxRecDepth 100000 in
set_option maxHeartbeats 2000000 in
theorem guardCatch (F : Nat) (a b e0 : Int) (k : Nat) (w : World) (hF : Blk w F 26 #[.int .i64 a, .int .i64 b]) :
    CallsD Try.prog 41 #[.pointer (some ⟨F, 0, none⟩)] (.panicking (oopsV e0 k)) w fun e' u' w' => e' = .returned (.tuple #[]) ∧
      u' = .panicking [{ v := .iface 97 (.agg #[.int .i64 e0, .int .i64 (k : Int)]), recovered := true }] ∧ Blk w' F 26 #[.int .i64 e0, .int .i64 (k : Int)] ∧ But F w w' := by
  have HA := Lib.hid (hF.alloc (.cells #[.int .i64 e0, .int .i64 (k : Int)] 97))
  have c0 : (w.alloc (.cells #[.int .i64 e0, .int .i64 (k : Int)] 97)).cell? ⟨F, 0, none⟩ = some (.int .i64 a) := HA.out.cell 0
  have c1 : (w.alloc (.cells #[.int .i64 e0, .int .i64 (k : Int)] 97)).cell? ⟨F, 1, none⟩ = some (.int .i64 b) := HA.out.cell 1
  have f0 := HA.out.frozen 0
  have f1 := HA.out.frozen 1
  clear hF
  unfold oopsV
  refine callsD_of_wpS Try.func41 rfl fun c₀ cs hu => ?_
  apply wpS_seq
  apply wpS_region
  simp [wpOpsS, go_sem, recoverD, hu, Try.ntmps41, Exit.thenS]
  have hta : ∀ w : World, (Instr.typeAssert (.iface 97 (.agg #[.int .i64 e0, .int .i64 (k : Int)])) 20 97 true).run Try.prog w = .ok (.tuple #[.agg #[.int .i64 e0, .int .i64 (k : Int)], .bool true]) w := fun _ => by kernel_rfl
  refine wpS_of_wp ?_
  change Code.wp _ _ _ { tmps := #[.pointer (some ⟨F, 0, none⟩), undef, undef, undef, undef, .iface 97 (.agg #[.int .i64 e0, .int .i64 (k : Int)]), undef, undef, undef, undef, undef, undef, undef, undef, undef], defers := [] } _
  go_wp2
  simp [bodyPostS, results, Try.results41]
  exact ⟨(HA.out.set_ 0 (.int .i64 e0)).set_ 1 (.int .i64 (k : Int)), (((But.refl F w).alloc _).setCell (.inl rfl) _).setCell (.inl rfl) _⟩

set_option maxRecDepth 100000 in
set_option maxHeartbeats 2000000 in
theorem guardIdle (F : Nat) (w : World) :
    CallsD Try.prog 41 #[.pointer (some ⟨F, 0, none⟩)] .returning w fun e' u' w' => e' = .returned (.tuple #[]) ∧ u' = .returning ∧ w' = w := by
  refine callsD_of_wpS Try.func41 rfl fun c₀ cs hu => ?_
  apply wpS_seq
  apply wpS_region
  simp [wpOpsS, go_sem, recoverD, hu, Try.ntmps41, Exit.thenS]
  refine wpS_of_wp ?_
  change Code.wp _ _ _ { tmps := #[.pointer (some ⟨F, 0, none⟩), undef, undef, undef, undef, .nilIface, undef, undef, undef, undef, undef, undef, undef, undef, undef], defers := [] } _
  go_wp2
  cases c₀
  simp_all [bodyPostS, results, Try.results41]

theorem parse1 (F O : Nat) (a b : Int) (v : Value) (w : World) (hF : Blk w F 26 #[.int .i64 a, .int .i64 b]) (hO : Blk w O 23 #[v]) :
    CallsD Try.prog 40 #[.pointer (some ⟨F, 0, none⟩), .pointer (some ⟨O, 0, none⟩)] .returning w fun e' u' w' => u' = .returning ∧ e' = .returned (.tuple #[]) ∧ w' = (if a = 0 then w else w.setCell ⟨O, 0, none⟩ (.slice none 0 0)) := by
  have c0 : w.cell? ⟨F, 0, none⟩ = some (.int .i64 a) := hF.cell 0
  have d0 : w.cell? ⟨O, 0, none⟩ = some v := hO.cell 0
  have f0 := hO.frozen 0
  clear hF hO
  by_cases ha : a = 0
  · subst ha
    rw [if_pos rfl]
    go_enter_d Try.func40, Try.ntmps40
    go_wp2
    go_end0
    exact ⟨rfl, rfl⟩
  · rw [if_neg ha]
    have h1 : (a != 0) = true := by simpa using ha
    go_enter_d Try.func40, Try.ntmps40
    go_wp2
    go_end0
    exact ⟨rfl, rfl⟩

/-! ### What is wrong is no nothing -/
def Got.bad {α : Type} : Got α → Prop
  | .ok _ => True
  | .error (e, _) => e ≠ 0
theorem wordF_bad (r : Bytes) : (wordF r).bad := by
  unfold wordF
  split
  · show (2 : Int) ≠ 0; decide
  · split
    · show (7 : Int) ≠ 0; decide
    · trivial
theorem mustF_bad (sign r : Bytes) : (mustF sign r).bad := by
  unfold mustF
  split
  · trivial
  · show (2 : Int) ≠ 0; decide
theorem termsF_bad : ∀ (n : Nat) (acc : List PTerm) (r : Bytes), (termsF n acc r).bad
  | 0, _, _ => by show (5 : Int) ≠ 0; decide
  | n + 1, acc, r => by
    have hw := wordF_bad r
    unfold termsF
    split
    · rename_i e h; rw [h] at hw; exact hw
    · split
      · exact termsF_bad n _ _
      · rename_i w r1 h _
        have hm := mustF_bad [41] (eatF [44] r1)
        split
        · rename_i e h2; rw [h2] at hm; exact hm
        · trivial
theorem atomF_bad (no : Bool) (r : Bytes) : (atomF no r).bad := by
  have hw := wordF_bad (behindNot no r)
  unfold atomF
  split
  · rename_i e h; rw [h] at hw; exact hw
  · split
    · show (7 : Int) ≠ 0; decide
    · split
      · rename_i w r2 h _ _
        have ht := termsF_bad 4 [] (eatF [40] r2)
        split
        · rename_i e h2; rw [h2] at ht; exact ht
        · trivial
      · trivial
theorem bodyF_bad' : ∀ (n : Nat) (acc : List PAtom) (r : Bytes), (bodyF n acc r).bad
  | 0, _, _ => by show (5 : Int) ≠ 0; decide
  | n + 1, acc, r => by
    have hw := atomF_bad true r
    unfold bodyF
    split
    · rename_i e h; rw [h] at hw; exact hw
    · split
      · exact bodyF_bad' n _ _
      · trivial
theorem tailF_bad (r : Bytes) : (tailF r).bad := by
  unfold tailF
  split
  · exact bodyF_bad' _ _ _
  · trivial
theorem ruleF_bad (r : Bytes) : (ruleF r).bad := by
  have hh := atomF_bad false r
  unfold ruleF headF
  split
  · rename_i e h; rw [h] at hh; exact hh
  · rename_i a r1 h
    have ht := tailF_bad r1
    split
    · rename_i e h2; rw [h2] at ht; exact ht
    · rename_i b r3 h2
      have hm := mustF_bad [46] r3
      split
      · rename_i e h3; rw [h3] at hm; exact hm
      · trivial
theorem progF_bad : ∀ (n : Nat) (acc : List PRule) (r : Bytes), (progF n acc r).bad
  | 0, acc, r => by
    unfold progF
    split
    · trivial
    · show (5 : Int) ≠ 0; decide
  | n + 1, acc, r => by
    unfold progF
    split
    · trivial
    · have hr := ruleF_bad (blankF false r)
      split
      · rename_i e h; rw [h] at hr; exact hr
      · exact progF_bad n _ _
theorem progF_suffix : ∀ (n : Nat) (acc : List PRule) (r : Bytes), (progF n acc r).left <:+ r
  | 0, acc, r => by
    unfold progF
    split
    · exact List.nil_suffix
    · exact blankF_suffix _ _
  | n + 1, acc, r => by
    unfold progF
    split
    · exact List.nil_suffix
    · have hr := ruleF_suffix (blankF false r)
      split
      · rename_i e h; rw [h] at hr; exact List.IsSuffix.trans hr (blankF_suffix _ _)
      · rename_i x r1 h
        rw [h] at hr
        exact (progF_suffix n _ _).trans (List.IsSuffix.trans (l₂ := blankF false r) hr (blankF_suffix _ _))

/-! ### Parse -/
theorem rest_zero (s : Str) : rest s 0 = s.data.toList := rfl
theorem parseF_long {s : Str} (h : 3000 < s.size) : parseF s = ([], 4, 0) := by unfold parseF; rw [if_pos h]
theorem parseF_ok {s : Str} (h : ¬ 3000 < s.size) {l : List PRule} {r : Bytes} (k : progF 16 [] (rest s 0) = .ok (l, r)) : parseF s = (l, 0, 0) := by
  unfold parseF; rw [if_neg h, ← rest_zero, k]
theorem parseF_error {s : Str} (h : ¬ 3000 < s.size) {e : Int} {r : Bytes} (k : progF 16 [] (rest s 0) = .error (e, r)) : parseF s = ([], e, ((posF s r : Nat) : Int)) := by
  have hs := progF_suffix 16 [] (rest s 0)
  rw [k] at hs
  have hs' : r <:+ bytesOf s := hs
  unfold parseF; rw [if_neg h, ← rest_zero, k, posF_int s hs']

def ParsePost (s : Str) (w : World) (e : Ending) (w' : World) : Prop :=
  (∃ v, e = .returned (.tuple #[v, .agg #[.int .i64 (parseF s).2.1, .int .i64 (parseF s).2.2]]) ∧ RdRules (New w) w' v (parseF s).1) ∧ Below w.heap.size w w'

/-- Behind the deferred calls. -/
def doorDefers (F O : Nat) (g : Nat) : List Deferred := [{ target := .fn (.func 41) #[], args := #[.pointer (some ⟨F, 0, none⟩)] }, { target := .fn (.func g) #[.pointer (some ⟨F, 0, none⟩), .pointer (some ⟨O, 0, none⟩)], args := #[] }]

set_option maxRecDepth 100000 in
set_option maxHeartbeats 2000000 in
theorem parseDoorOk {s : Str} {w w5 : World} {a : Act} {F O : Nat} {l : List PRule} {v : Value} (hd : a.defers = doorDefers F O 40) (h2 : a.tmps.getD 2 undef = .pointer (some ⟨O, 0, none⟩)) (h3 : a.tmps.getD 3 undef = .pointer (some ⟨F, 0, none⟩))
    (hF : Blk w5 F 26 #[.int .i64 0, .int .i64 0]) (hO : Blk w5 O 23 #[v]) (hb : Below w.heap.size w w5) (hE : parseF s = (l, 0, 0)) (hv : RdRules (New w) w5 v l) :
    bodyPostD Try.prog Try.f18 (ParsePost s w) .ret a w5 := by
  have c0 : w5.cell? ⟨O, 0, none⟩ = some v := hO.cell 0
  have d0 : w5.cell? ⟨F, 0, none⟩ = some (.int .i64 0) := hF.cell 0
  have d1 : w5.cell? ⟨F, 1, none⟩ = some (.int .i64 0) := hF.cell 1
  show Leaves _ _ a.tmps (ParsePost s w) a.defers .returning w5
  rw [hd]
  unfold doorDefers
  refine leaves_cons (f := 41) (args := #[.pointer (some ⟨F, 0, none⟩)]) (by simp) (by simp [go_sem]) ?_
  refine (guardIdle F _).mono ?_
  rintro e u' w'' ⟨rfl, rfl, rfl⟩
  refine leaves_cons (f := 40) (args := #[.pointer (some ⟨F, 0, none⟩), .pointer (some ⟨O, 0, none⟩)]) (by simp [settle]) (by simp [go_sem]) ?_
  refine (parse1 F O 0 0 v _ hF hO).mono ?_
  rintro e u' w'' ⟨rfl, rfl, rfl⟩
  simp only [if_true]
  show ∃ v', (results Try.f18 a.tmps).run Try.prog w'' = .ok v' w'' ∧ ParsePost s w (.returned v') w''
  refine ⟨.tuple #[v, .agg #[.int .i64 0, .int .i64 0]], ?_, ⟨v, ?_, ?_⟩, hb⟩
  · have h2' : a.tmps[2]?.getD undef = .pointer (some ⟨O, 0, none⟩) := by simpa [Array.getD_eq_getD_getElem?] using h2
    have h3' : a.tmps[3]?.getD undef = .pointer (some ⟨F, 0, none⟩) := by simpa [Array.getD_eq_getD_getElem?] using h3
    simp [results, Try.results18, h2', h3', c0, d0, d1, go_sem]
  · rw [hE]
  · rw [hE]; exact hv

set_option maxRecDepth 100000 in
set_option maxHeartbeats 2000000 in
theorem parseDoorBad {s : Str} {w w5 : World} {a : Act} {F O : Nat} {er : Int} {p : Nat} {v : Value} (hd : a.defers = doorDefers F O 40) (h2 : a.tmps.getD 2 undef = .pointer (some ⟨O, 0, none⟩)) (h3 : a.tmps.getD 3 undef = .pointer (some ⟨F, 0, none⟩))
    (hF : Blk w5 F 26 #[.int .i64 0, .int .i64 0]) (hO : Blk w5 O 23 #[v]) (hOF : O ≠ F) (hwO : w.heap.size ≤ O) (hwF : w.heap.size ≤ F) (hb : Below w.heap.size w w5) (hE : parseF s = ([], er, (p : Int))) (hn : er ≠ 0) :
    bodyPostD Try.prog Try.f18 (ParsePost s w) (.panic (oopsV er p)) a w5 := by
  show Leaves _ _ a.tmps (ParsePost s w) a.defers (.panicking (oopsV er p)) w5
  rw [hd]
  unfold doorDefers
  refine leaves_cons (f := 41) (args := #[.pointer (some ⟨F, 0, none⟩)]) (by simp) (by simp [go_sem]) ?_
  refine (guardCatch F 0 0 er p _ hF).mono ?_
  rintro e u' w6 ⟨rfl, rfl, hF6, hb6⟩
  have hO6 := hO.but hb6 hOF
  refine leaves_cons (f := 40) (args := #[.pointer (some ⟨F, 0, none⟩), .pointer (some ⟨O, 0, none⟩)]) (by simp [settle]) (by simp [go_sem]) ?_
  refine (parse1 F O er p v _ hF6 hO6).mono ?_
  rintro e u' w'' ⟨rfl, rfl, rfl⟩
  rw [if_neg hn]
  have hF7 := hF6.far (p := ⟨O, 0, none⟩) (fun e => hOF e.symm) (.slice none 0 0)
  have hO7 : Blk (w6.setCell ⟨O, 0, none⟩ (.slice none 0 0)) O 23 #[.slice none 0 0] := hO6.set_ 0 (.slice none 0 0)
  have hb7 : Below w.heap.size w (w6.setCell ⟨O, 0, none⟩ (.slice none 0 0)) := (hb.grown hb6 hb.size (fun q hq => by have := Option.some.inj hq; omega)).setCell hwO _
  generalize w6.setCell ⟨O, 0, none⟩ (.slice none 0 0) = w7 at *
  have c0 : w7.cell? ⟨O, 0, none⟩ = some (.slice none 0 0) := hO7.cell 0
  have d0 : w7.cell? ⟨F, 0, none⟩ = some (.int .i64 er) := hF7.cell 0
  have d1 : w7.cell? ⟨F, 1, none⟩ = some (.int .i64 (p : Int)) := hF7.cell 1
  show ∃ v', (results Try.f18 a.tmps).run Try.prog w7 = .ok v' w7 ∧ ParsePost s w (.returned v') w7
  refine ⟨.tuple #[.slice none 0 0, .agg #[.int .i64 er, .int .i64 (p : Int)]], ?_, ⟨.slice none 0 0, ?_, ?_⟩, hb7⟩
  · have h2' : a.tmps[2]?.getD undef = .pointer (some ⟨O, 0, none⟩) := by simpa [Array.getD_eq_getD_getElem?] using h2
    have h3' : a.tmps[3]?.getD undef = .pointer (some ⟨F, 0, none⟩) := by simpa [Array.getD_eq_getD_getElem?] using h3
    simp [results, Try.results18, h2', h3', c0, d0, d1, go_sem]
  · rw [hE]
  · rw [hE]; exact RdSlice.nothing (Nat.zero_le _) (fun _ => rfl)

/-- What is known where the parser throws. -/
def Thrown (F O g : Nat) (er : Int) (p : Nat) (T : World → Prop) : Exit → Act → World → Prop
  | .panic c, a, w => c = oopsV er p ∧ a.defers = doorDefers F O g ∧ a.tmps.getD 2 undef = .pointer (some ⟨O, 0, none⟩) ∧ a.tmps.getD 3 undef = .pointer (some ⟨F, 0, none⟩) ∧ T w
  | _, _, _ => False
theorem Thrown.put {F O g : Nat} {er : Int} {p : Nat} {T : World → Prop} {d : Nat} {v : Value} (h2 : d ≠ 2) (h3 : d ≠ 3) : ∀ c a w, Thrown F O g er p T (.panic c) (a.put (some d) v) w → Thrown F O g er p T (.panic c) a w := by
  rintro c a w ⟨k1, k2, k3, k4, k5⟩
  refine ⟨k1, k2, ?_, ?_, k5⟩
  · simpa [Act.put, Array.getD_eq_getD_getElem?, Array.getElem?_setIfInBounds, h2] using k3
  · simpa [Act.put, Array.getD_eq_getD_getElem?, Array.getElem?_setIfInBounds, h3] using k4

set_option maxRecDepth 100000 in
set_option maxHeartbeats 4000000 in
theorem parseCalls (s : Str) (w : World) (hs : s.size ≤ 1048576) : Calls Try.prog 18 #[.string s] w (ParsePost s w) := by
  have hmf : ∀ (fn : Fn) (first cap : Array Value) (w : World), (Instr.makeFunc fn first cap).run Try.prog w = .ok (.func fn first cap) w := fun _ _ _ _ => rfl
  by_cases h3 : 3000 < s.size
  · have i1 : (3000 : Int) < (s.size : Int) := by omega
    have HE := Lib.hid (parseF_long h3)
    go_enter_defers Try.func18, Try.ntmps18
    go_wp2
    simp [Leaves, settle, results, Try.results18, go_sem, bodyPostD]
    unfold ParsePost
    rw [HE.out]
    exact ⟨⟨_, rfl, RdSlice.nothing (Nat.zero_le _) (fun _ => rfl)⟩, (((Below.refl _ _).alloc (Nat.le_refl _) _).alloc (by simp) _)⟩
  · have i1 : ¬ (3000 : Int) < (s.size : Int) := by omega
    have HO0 := Lib.hid (show Blk ((w.alloc (.cells #[.slice none 0 0] 23)).alloc (.cells #[.int .i64 0, .int .i64 0] 26)) w.heap.size 23 #[.slice none 0 0] from (Blk.new w _ _).alloc _)
    have HF0 := Lib.hid (show Blk ((w.alloc (.cells #[.slice none 0 0] 23)).alloc (.cells #[.int .i64 0, .int .i64 0] 26)) (w.heap.size + 1) 26 #[.int .i64 0, .int .i64 0] from heap_new_at (by simp))
    have HB0 := Lib.hid (show Below w.heap.size w ((w.alloc (.cells #[.slice none 0 0] 23)).alloc (.cells #[.int .i64 0, .int .i64 0] 26)) from ((Below.refl _ _).alloc (Nat.le_refl _) _).alloc (by simp) _)
    have hz0 : ((w.alloc (.cells #[.slice none 0 0] 23)).alloc (.cells #[.int .i64 0, .int .i64 0] 26)).heap.size = w.heap.size + 2 := by simp
    rcases hg : progF 16 [] (rest s 0) with ⟨er, r'⟩ | ⟨l, r⟩
    · have HE := Lib.hid (parseF_error h3 hg)
      have HNZ := Lib.hid (show er ≠ 0 by have := progF_bad 16 [] (rest s 0); rw [hg] at this; exact this)
      have HGG := Lib.hid hg
      clear hg
      go_enter_defers Try.func18, Try.ntmps18
      go_wp2
      generalize (w.alloc (.cells #[.slice none 0 0] 23)).alloc (.cells #[.int .i64 0, .int .i64 0] 26) = w0 at *
      have HZ0 := Lib.hid hz0
      clear hz0
      have f0 : w0.cell? ⟨w.heap.size + 1, 0, none⟩ = some (.int .i64 0) := HF0.out.cell 0
      have f1 : w0.cell? ⟨w.heap.size + 1, 1, none⟩ = some (.int .i64 0) := HF0.out.cell 1
      have g0 := World.new_ne w0 ⟨w.heap.size + 1, 0, none⟩ f0
      have g1 := World.new_ne w0 ⟨w.heap.size + 1, 1, none⟩ f1
      have HPS := Lib.hid (show Ps w0.heap.size s 0 ((w0.alloc (.cells #[.string s, .int .i64 0] 75)).drew) from ⟨heap_alloc_new w0 _, Nat.zero_le _⟩)
      refine Code.wp_mono (Q := Thrown (w.heap.size + 1) w.heap.size 40 er (posF s r') (fun w5 => But w0.heap.size ((w0.alloc (.cells #[.string s, .int .i64 0] 75)).drew) w5)) ?_ ?_
      · rintro (_ | _ | _ | _ | c | _) a5 w5 h5
        all_goals first | exact h5.elim | skip
        obtain ⟨rfl, k2, k3, k4, hb5⟩ := h5
        have hF5 := (show Blk ((w0.alloc (.cells #[.string s, .int .i64 0] 75)).drew) (w.heap.size + 1) 26 #[.int .i64 0, .int .i64 0] from HF0.out.alloc _).but hb5 (by have := HZ0.out; omega)
        have hO5 := (show Blk ((w0.alloc (.cells #[.string s, .int .i64 0] 75)).drew) w.heap.size 23 #[.slice none 0 0] from HO0.out.alloc _).but hb5 (by have := HZ0.out; omega)
        refine parseDoorBad k2 k3 k4 hF5 hO5 (by omega) (Nat.le_refl _) (by omega) ?_ HE.out HNZ.out
        exact ((HB0.out.alloc HB0.out.size _).drew).grown hb5 (by simp; have := HZ0.out; omega) (fun q hq => by have := Option.some.inj hq; have := HZ0.out; omega)
      refine wp_region_held_drew (S := fun w' => w'.cell? ⟨w.heap.size + 1, 0, none⟩ = some (.int .i64 0) ∧ w'.cell? ⟨w.heap.size + 1, 1, none⟩ = some (.int .i64 0)) (by kernel_rfl) ?_ (fun hHeld => ?_)
      · exact ⟨f0, f1⟩
      refine wpAnyH_take (i := 0) (oi := ⟨some 9, _, _, _, _, _⟩) (v := ?_) rfl (by kernel_rfl) (by kernel_rfl) (by kernel_rfl) (Thrown.put (by decide) (by decide)) (Or.inl ⟨by rfl, ?_⟩) (by assumption) ?_
      rotate_left
      · (intro w' hSw; (try dsimp only at hSw); go_simp; try with_reducible rfl)
      try simp only [Act.put, List.setIfInBounds_toArray, List.set_cons_zero, List.set_cons_succ]
      refine wpAnyH_take (i := 1) (oi := ⟨some 10, _, _, _, _, _⟩) (v := ?_) rfl (by kernel_rfl) (by kernel_rfl) (by kernel_rfl) (Thrown.put (by decide) (by decide)) (Or.inl ⟨by rfl, ?_⟩) (by assumption) ?_
      rotate_left
      · (intro w' hSw; (try dsimp only at hSw); go_simp; try with_reducible rfl)
      try simp only [Act.put, List.setIfInBounds_toArray, List.set_cons_zero, List.set_cons_succ]
      refine wpAnyH_take (i := 4) (oi := ⟨some 13, _, _, _, _, _⟩) (v := ?_) rfl (by kernel_rfl) (by kernel_rfl) (by kernel_rfl) (Thrown.put (by decide) (by decide)) (Or.inl ⟨by rfl, ?_⟩) (by assumption) ?_
      rotate_left
      · (intro w' hSw; (try dsimp only at hSw); go_simp; try with_reducible rfl)
      try simp only [Act.put, List.setIfInBounds_toArray, List.set_cons_zero, List.set_cons_succ]
      refine wpAnyH_ready (rs := [2]) (by kernel_rfl) (by simp) ?_
      refine AllReadyH.cons (o := ⟨some 11, _, _, _, _, _⟩) rfl (fun K hK => ?_) AllReadyH.nil
      go_simp
      refine hK.out _ _ ?_ (fun hHeld => ?_)
      · exact ⟨(HF0.out.alloc _).cell 0, (HF0.out.alloc _).cell 1⟩
      clear hK K
      try simp only [Act.put, List.setIfInBounds_toArray, List.set_cons_zero, List.set_cons_succ]
      refine wpAnyH_ready (rs := [3]) (by kernel_rfl) (by simp) ?_
      refine AllReadyH.cons (o := ⟨some 12, _, _, _, _, _⟩) rfl (fun K hK => ?_) AllReadyH.nil
      go_simp
      go_at_call 42
      refine (programCalls w0.heap.size s 0 _ hs HPS.out).mono ?_
      rintro e w5 h5
      obtain ⟨hb5, rfl⟩ := h5.error HGG.out
      exact ⟨rfl, rfl, rfl, rfl, hb5⟩
    · have HE := Lib.hid (parseF_ok h3 hg)
      have HGG := Lib.hid hg
      clear hg
      go_enter_defers Try.func18, Try.ntmps18
      go_wp2
      generalize (w.alloc (.cells #[.slice none 0 0] 23)).alloc (.cells #[.int .i64 0, .int .i64 0] 26) = w0 at *
      have HZ0 := Lib.hid hz0
      clear hz0
      have f0 : w0.cell? ⟨w.heap.size + 1, 0, none⟩ = some (.int .i64 0) := HF0.out.cell 0
      have f1 : w0.cell? ⟨w.heap.size + 1, 1, none⟩ = some (.int .i64 0) := HF0.out.cell 1
      have g0 := World.new_ne w0 ⟨w.heap.size + 1, 0, none⟩ f0
      have g1 := World.new_ne w0 ⟨w.heap.size + 1, 1, none⟩ f1
      have HPS := Lib.hid (show Ps w0.heap.size s 0 ((w0.alloc (.cells #[.string s, .int .i64 0] 75)).drew) from ⟨heap_alloc_new w0 _, Nat.zero_le _⟩)
      go_region_held3 (fun w' => w'.cell? ⟨w.heap.size + 1, 0, none⟩ = some (.int .i64 0) ∧ w'.cell? ⟨w.heap.size + 1, 1, none⟩ = some (.int .i64 0))
        (first | (exact ⟨((HF6.out.set_ 0 (.int .i64 0)).set_ 1 (.int .i64 0)).cell 0, ((HF6.out.set_ 0 (.int .i64 0)).set_ 1 (.int .i64 0)).cell 1⟩) | (exact ⟨HF6.out.cell 0, HF6.out.cell 1⟩) | (exact ⟨HF5.out.cell 0, HF5.out.cell 1⟩) | go_keep)
        (first | (go_at_call 42; refine (programCalls w0.heap.size s 0 _ hs HPS.out).mono ?_; rintro e w5 h5; obtain ⟨hb5, v5, rfl, hv5, -⟩ := h5.ok HGG.out; have hv5' : RdRules (New ((w0.alloc (.cells #[.string s, .int .i64 0] 75)).drew)) w5 v5 l := hv5; obtain ⟨va, vc, rfl, -, -, -⟩ := id hv5'.form; have HF5 := Lib.hid ((show Blk ((w0.alloc (.cells #[.string s, .int .i64 0] 75)).drew) (w.heap.size + 1) 26 #[.int .i64 0, .int .i64 0] from HF0.out.alloc _).but hb5 (by have := HZ0.out; omega)); have HO5 := Lib.hid ((show Blk ((w0.alloc (.cells #[.string s, .int .i64 0] 75)).drew) w.heap.size 23 #[.slice none 0 0] from HO0.out.alloc _).but hb5 (by have := HZ0.out; omega)); have HB5 := Lib.hid (((HB0.out.alloc HB0.out.size _).drew).grown hb5 (by simp; have := HZ0.out; omega) (fun q hq => by have := Option.some.inj hq; have := HZ0.out; omega)); have HV5 := Lib.hid hv5'; have d0 : w5.cell? ⟨w.heap.size, 0, none⟩ = some (.slice none 0 0) := HO5.out.cell 0; have d1 := HO5.out.frozen 0; have HF6 := Lib.hid (HF5.out.far (p := ⟨w.heap.size, 0, none⟩) (show w.heap.size + 1 ≠ w.heap.size by omega) (.slice va l.length vc)); have x0 := HF6.out.frozen 0; have x1 := HF6.out.frozen 1; clear h5 hb5 hv5))
      go_wp2
      have HO6 : Blk (w5.setCell ⟨w.heap.size, 0, none⟩ (.slice va l.length vc)) w.heap.size 23 #[.slice va l.length vc] := HO5.out.set_ 0 (.slice va l.length vc)
      have hNO : ¬ New ((w0.alloc (.cells #[.string s, .int .i64 0] 75)).drew) w.heap.size := fun h => by
        have h' : (w0.alloc (.cells #[.string s, .int .i64 0] 75)).heap.size ≤ w.heap.size := h
        simp at h'; have := HZ0.out; omega
      have hNF : ¬ New ((w0.alloc (.cells #[.string s, .int .i64 0] 75)).drew) (w.heap.size + 1) := fun h => by
        have h' : (w0.alloc (.cells #[.string s, .int .i64 0] 75)).heap.size ≤ w.heap.size + 1 := h
        simp at h'; have := HZ0.out; omega
      refine parseDoorOk (F := w.heap.size + 1) (O := w.heap.size) rfl rfl rfl ((HF6.out.set_ 0 (.int .i64 0)).set_ 1 (.int .i64 0)) ((HO6.far (p := ⟨w.heap.size + 1, 0, none⟩) (show w.heap.size ≠ w.heap.size + 1 by omega) _).far (p := ⟨w.heap.size + 1, 1, none⟩) (show w.heap.size ≠ w.heap.size + 1 by omega) _) (((HB5.out.setCell (Nat.le_refl _) _).setCell (Nat.le_succ _) _).setCell (Nat.le_succ _) _) HE.out ?_
      refine (((HV5.out.agree RRule.steady (Agree.setCell (p := ⟨w.heap.size, 0, none⟩) hNO _)).agree RRule.steady (Agree.setCell (p := ⟨w.heap.size + 1, 0, none⟩) hNF _)).agree RRule.steady (Agree.setCell (p := ⟨w.heap.size + 1, 1, none⟩) hNF _)).more RRule.steady (fun b hb _ => ?_)
      have hb' : (w0.alloc (.cells #[.string s, .int .i64 0] 75)).heap.size ≤ b := hb
      show w.heap.size ≤ b
      simp at hb'; have := HZ0.out; omega
end Go.Proofs.Ytobbjapmdpkogaa
