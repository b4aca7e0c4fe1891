/-
  THE WALK OF syntax.Body: what is thrown is caught.
-/
import Derived.Test.YtmnpneandkiblaaSynW5
namespace Go.Proofs.Ytmnpneandkiblaa
open Go.RowKit

set_option maxRecDepth 100000 in
set_option maxHeartbeats 2000000 in
theorem body1 (F O : Nat) (a b : Int) (v : Value) (w : World) (hF : Blk w F 60 #[.int .i64 a, .int .i64 b]) (hO : Blk w O 22 #[v]) :
    CallsD Try.prog 56 #[.pointer (some ⟨F, 0, none⟩), .pointer (some ⟨O, 0, none⟩)] .returning w fun e' u' w' => u' = .returning ∧ e' = .returned (.tuple #[]) ∧ w' = (if a = 0 then w else w.setCell ⟨O, 0, none⟩ (.slice none 0 0)) := by
  have c0 : w.cell? ⟨F, 0, none⟩ = some (.int .i64 a) := hF.cell 0
  have d0 : w.cell? ⟨O, 0, none⟩ = some v := hO.cell 0
  have f0 := hO.frozen 0
  clear hF hO
  by_cases ha : a = 0
  · subst ha
    rw [if_pos rfl]
    go_enter_d Try.func56, Try.ntmps56
    go_wp2
    go_end0
    exact ⟨rfl, rfl⟩
  · rw [if_neg ha]
    have h1 : (a != 0) = true := by simpa using ha
    go_enter_d Try.func56, Try.ntmps56
    go_wp2
    go_end0
    exact ⟨rfl, rfl⟩

def BodyPost (s : Str) (w : World) (e : Ending) (w' : World) : Prop :=
  (∃ v, e = .returned (.tuple #[v, .agg #[.int .i64 (parseBodyF s).2.1, .int .i64 (parseBodyF s).2.2]]) ∧ RdAtoms (New w) w' v (parseBodyF s).1) ∧ Below w.heap.size w w'

set_option maxRecDepth 100000 in
set_option maxHeartbeats 2000000 in
theorem bodyDoorOk {s : Str} {w w5 : World} {a : Act} {F O : Nat} {l : List PAtom} {v : Value} (hd : a.defers = doorDefers F O 56) (h2 : a.tmps.getD 2 undef = .pointer (some ⟨O, 0, none⟩)) (h3 : a.tmps.getD 3 undef = .pointer (some ⟨F, 0, none⟩))
    (hF : Blk w5 F 60 #[.int .i64 0, .int .i64 0]) (hO : Blk w5 O 22 #[v]) (hb : Below w.heap.size w w5) (hE : parseBodyF s = (l, 0, 0)) (hv : RdAtoms (New w) w5 v l) :
    bodyPostD Try.prog Try.f34 (BodyPost s w) .ret a w5 := by
  have c0 : w5.cell? ⟨O, 0, none⟩ = some v := hO.cell 0
  have d0 : w5.cell? ⟨F, 0, none⟩ = some (.int .i64 0) := hF.cell 0
  have d1 : w5.cell? ⟨F, 1, none⟩ = some (.int .i64 0) := hF.cell 1
  show Leaves _ _ a.tmps (BodyPost s w) a.defers .returning w5
  rw [hd]
  unfold doorDefers
  refine leaves_cons (f := 57) (args := #[.pointer (some ⟨F, 0, none⟩)]) (by simp) (by simp [go_sem]) ?_
  refine (guardIdle F _).mono ?_
  rintro e u' w'' ⟨rfl, rfl, rfl⟩
  refine leaves_cons (f := 56) (args := #[.pointer (some ⟨F, 0, none⟩), .pointer (some ⟨O, 0, none⟩)]) (by simp [settle]) (by simp [go_sem]) ?_
  refine (body1 F O 0 0 v _ hF hO).mono ?_
  rintro e u' w'' ⟨rfl, rfl, rfl⟩
  simp only [if_true]
  show ∃ v', (results Try.f34 a.tmps).run Try.prog w'' = .ok v' w'' ∧ BodyPost s w (.returned v') w''
  refine ⟨.tuple #[v, .agg #[.int .i64 0, .int .i64 0]], ?_, ⟨v, ?_, ?_⟩, hb⟩
  · have h2' : a.tmps[2]?.getD undef = .pointer (some ⟨O, 0, none⟩) := by simpa [Array.getD_eq_getD_getElem?] using h2
    have h3' : a.tmps[3]?.getD undef = .pointer (some ⟨F, 0, none⟩) := by simpa [Array.getD_eq_getD_getElem?] using h3
    simp [results, Try.results34, h2', h3', c0, d0, d1, go_sem]
  · rw [hE]
  · rw [hE]; exact hv

set_option maxRecDepth 100000 in
set_option maxHeartbeats 2000000 in
theorem bodyDoorBad {s : Str} {w w5 : World} {a : Act} {F O : Nat} {er : Int} {p : Nat} {v : Value} (hd : a.defers = doorDefers F O 56) (h2 : a.tmps.getD 2 undef = .pointer (some ⟨O, 0, none⟩)) (h3 : a.tmps.getD 3 undef = .pointer (some ⟨F, 0, none⟩))
    (hF : Blk w5 F 60 #[.int .i64 0, .int .i64 0]) (hO : Blk w5 O 22 #[v]) (hOF : O ≠ F) (hwO : w.heap.size ≤ O) (hwF : w.heap.size ≤ F) (hb : Below w.heap.size w w5) (hE : parseBodyF s = ([], er, (p : Int))) (hn : er ≠ 0) :
    bodyPostD Try.prog Try.f34 (BodyPost s w) (.panic (oopsV er p)) a w5 := by
  show Leaves _ _ a.tmps (BodyPost s w) a.defers (.panicking (oopsV er p)) w5
  rw [hd]
  unfold doorDefers
  refine leaves_cons (f := 57) (args := #[.pointer (some ⟨F, 0, none⟩)]) (by simp) (by simp [go_sem]) ?_
  refine (guardCatch F 0 0 er p _ hF).mono ?_
  rintro e u' w6 ⟨rfl, rfl, hF6, hb6⟩
  have hO6 := hO.but hb6 hOF
  refine leaves_cons (f := 56) (args := #[.pointer (some ⟨F, 0, none⟩), .pointer (some ⟨O, 0, none⟩)]) (by simp [settle]) (by simp [go_sem]) ?_
  refine (body1 F O er p v _ hF6 hO6).mono ?_
  rintro e u' w'' ⟨rfl, rfl, rfl⟩
  rw [if_neg hn]
  have hF7 := hF6.far (p := ⟨O, 0, none⟩) (fun e => hOF e.symm) (.slice none 0 0)
  have hO7 : Blk (w6.setCell ⟨O, 0, none⟩ (.slice none 0 0)) O 22 #[.slice none 0 0] := hO6.set_ 0 (.slice none 0 0)
  have hb7 : Below w.heap.size w (w6.setCell ⟨O, 0, none⟩ (.slice none 0 0)) := (hb.grown hb6 hb.size (fun q hq => by have := Option.some.inj hq; omega)).setCell hwO _
  generalize w6.setCell ⟨O, 0, none⟩ (.slice none 0 0) = w7 at *
  have c0 : w7.cell? ⟨O, 0, none⟩ = some (.slice none 0 0) := hO7.cell 0
  have d0 : w7.cell? ⟨F, 0, none⟩ = some (.int .i64 er) := hF7.cell 0
  have d1 : w7.cell? ⟨F, 1, none⟩ = some (.int .i64 (p : Int)) := hF7.cell 1
  show ∃ v', (results Try.f34 a.tmps).run Try.prog w7 = .ok v' w7 ∧ BodyPost s w (.returned v') w7
  refine ⟨.tuple #[.slice none 0 0, .agg #[.int .i64 er, .int .i64 (p : Int)]], ?_, ⟨.slice none 0 0, ?_, ?_⟩, hb7⟩
  · have h2' : a.tmps[2]?.getD undef = .pointer (some ⟨O, 0, none⟩) := by simpa [Array.getD_eq_getD_getElem?] using h2
    have h3' : a.tmps[3]?.getD undef = .pointer (some ⟨F, 0, none⟩) := by simpa [Array.getD_eq_getD_getElem?] using h3
    simp [results, Try.results34, h2', h3', c0, d0, d1, go_sem]
  · rw [hE]
  · rw [hE]; exact RdSlice.nothing (Nat.zero_le _) (fun _ => rfl)


theorem bodyAllF_blank {r r1 : Bytes} {l : List PAtom} (h : bodyF 5 [] r = .ok (l, r1)) : bodyAllF r = if blankF false r1 = [] then .ok (l, []) else .error (2, blankF false r1) := by unfold bodyAllF; rw [h]
theorem parseBodyF_long {s : Str} (h : 3000 < s.size) : parseBodyF s = ([], 4, 0) := by unfold parseBodyF; rw [if_pos h]
theorem parseBodyF_ok {s : Str} (h : ¬ 3000 < s.size) {l : List PAtom} {r1 : Bytes} (k : bodyF 5 [] (rest s 0) = .ok (l, r1)) (hb : blankF false r1 = []) : parseBodyF s = (l, 0, 0) := by
  unfold parseBodyF; rw [if_neg h, ← rest_zero, bodyAllF_blank k, if_pos hb]
theorem parseBodyF_more {s : Str} (h : ¬ 3000 < s.size) {l : List PAtom} {r1 : Bytes} (k : bodyF 5 [] (rest s 0) = .ok (l, r1)) (hb : blankF false r1 ≠ []) : parseBodyF s = ([], 2, ((posF s (blankF false r1) : Nat) : Int)) := by
  have hs : blankF false r1 <:+ bytesOf s := by
    have := bodyF_suffix 5 [] (rest s 0)
    rw [k] at this
    exact (blankF_suffix _ _).trans (List.IsSuffix.trans this (rest_suffix s 0))
  unfold parseBodyF; rw [if_neg h, ← rest_zero, bodyAllF_blank k, if_neg hb, posF_int s hs]
theorem parseBodyF_error {s : Str} (h : ¬ 3000 < s.size) {e : Int} {r : Bytes} (k : bodyF 5 [] (rest s 0) = .error (e, r)) : parseBodyF s = ([], e, ((posF s r : Nat) : Int)) := by
  have hs : r <:+ bytesOf s := by
    have := bodyF_suffix 5 [] (rest s 0)
    rw [k] at this
    exact List.IsSuffix.trans this (rest_suffix s 0)
  have hb : bodyAllF (rest s 0) = .error (e, r) := by unfold bodyAllF; rw [k]
  unfold parseBodyF; rw [if_neg h, ← rest_zero, hb, posF_int s hs]

set_option maxRecDepth 100000 in
set_option maxHeartbeats 4000000 in
theorem bodyTextCalls (s : Str) (w : World) (hs : s.size ≤ 1048576) : Calls Try.prog 34 #[.string s] w (BodyPost s w) := by
  have hmf : ∀ (fn : Fn) (first cap : Array Value) (w : World), (Instr.makeFunc fn first cap).run Try.prog w = .ok (.func fn first cap) w := fun _ _ _ _ => rfl
  by_cases h3 : 3000 < s.size
  · have i1 : (3000 : Int) < (s.size : Int) := by omega
    have HE := Lib.hid (parseBodyF_long h3)
    go_enter_defers Try.func34, Try.ntmps34
    go_wp2
    simp [Leaves, settle, results, Try.results34, go_sem, bodyPostD]
    unfold BodyPost
    rw [HE.out]
    exact ⟨⟨_, rfl, RdSlice.nothing (Nat.zero_le _) (fun _ => rfl)⟩, (((Below.refl _ _).alloc (Nat.le_refl _) _).alloc (by simp) _)⟩
  · have i1 : ¬ (3000 : Int) < (s.size : Int) := by omega
    have HO0 := Lib.hid (show Blk ((w.alloc (.cells #[.slice none 0 0] 22)).alloc (.cells #[.int .i64 0, .int .i64 0] 60)) w.heap.size 22 #[.slice none 0 0] from (Blk.new w _ _).alloc _)
    have HF0 := Lib.hid (show Blk ((w.alloc (.cells #[.slice none 0 0] 22)).alloc (.cells #[.int .i64 0, .int .i64 0] 60)) (w.heap.size + 1) 60 #[.int .i64 0, .int .i64 0] from heap_new_at (by simp))
    have HB0 := Lib.hid (show Below w.heap.size w ((w.alloc (.cells #[.slice none 0 0] 22)).alloc (.cells #[.int .i64 0, .int .i64 0] 60)) from ((Below.refl _ _).alloc (Nat.le_refl _) _).alloc (by simp) _)
    have hz0 : ((w.alloc (.cells #[.slice none 0 0] 22)).alloc (.cells #[.int .i64 0, .int .i64 0] 60)).heap.size = w.heap.size + 2 := by simp
    generalize hw0 : (w.alloc (.cells #[.slice none 0 0] 22)).alloc (.cells #[.int .i64 0, .int .i64 0] 60) = w0 at *
    have HZ0 := Lib.hid hz0
    have HPS := Lib.hid (show Ps w0.heap.size s 0 (w0.alloc (.cells #[.string s, .int .i64 0] 98)) from ⟨heap_alloc_new w0 _, Nat.zero_le _⟩)
    have HFA := Lib.hid (show Blk (w0.alloc (.cells #[.string s, .int .i64 0] 98)) (w.heap.size + 1) 60 #[.int .i64 0, .int .i64 0] from HF0.out.alloc _)
    have HOA := Lib.hid (show Blk (w0.alloc (.cells #[.string s, .int .i64 0] 98)) w.heap.size 22 #[.slice none 0 0] from HO0.out.alloc _)
    have HBA := Lib.hid (HB0.out.alloc HB0.out.size (.cells #[.string s, .int .i64 0] 98))
    rcases hg : bodyF 5 [] (rest s 0) with ⟨er, r'⟩ | ⟨l, r⟩
    · have HE := Lib.hid (parseBodyF_error h3 hg)
      have HNZ := Lib.hid (show er ≠ 0 by have := bodyF_bad' 5 [] (rest s 0); rw [hg] at this; exact this)
      have HGG := Lib.hid hg
      clear hg hz0
      go_enter_defers Try.func34, Try.ntmps34
      go_wp2_with (go_at_call 58; refine (bodyCalls w0.heap.size s 0 _ hs HPS.out).mono ?_; rintro e w5 h5; obtain ⟨hb5, rfl⟩ := h5.error HGG.out)
      have hF5 := HFA.out.but hb5 (by have := HZ0.out; omega)
      have hO5 := HOA.out.but hb5 (by have := HZ0.out; omega)
      refine bodyDoorBad rfl rfl rfl hF5 hO5 (by omega) (Nat.le_refl _) (by omega) ?_ HE.out HNZ.out
      exact HBA.out.grown hb5 (by simp; have := HZ0.out; omega) (fun q hq => by have := Option.some.inj hq; have := HZ0.out; omega)
    · have hr1 := bodyF_posF hg
      have HGG := Lib.hid hg
      have hpr := posF_le s r
      have hNO : ¬ New (w0.alloc (.cells #[.string s, .int .i64 0] 98)) w.heap.size := fun h => by
        have h' : (w0.alloc (.cells #[.string s, .int .i64 0] 98)).heap.size ≤ w.heap.size := h
        simp at h'; omega
      have hNF : ¬ New (w0.alloc (.cells #[.string s, .int .i64 0] 98)) (w.heap.size + 1) := fun h => by
        have h' : (w0.alloc (.cells #[.string s, .int .i64 0] 98)).heap.size ≤ w.heap.size + 1 := h
        simp at h'; omega
      have hNP : ¬ New (w0.alloc (.cells #[.string s, .int .i64 0] 98)) w0.heap.size := fun h => by
        have h' : (w0.alloc (.cells #[.string s, .int .i64 0] 98)).heap.size ≤ w0.heap.size := h
        have h2 : (w0.alloc (.cells #[.string s, .int .i64 0] 98)).heap.size = w0.heap.size + 1 := by simp
        omega
      have HNN := Lib.hid (And.intro hNO (And.intro hNF hNP))
      obtain ⟨n1, hn1⟩ : ∃ n1, posF s (blankF false r) = n1 := ⟨_, rfl⟩
      have hn1s : n1 ≤ s.size := by rw [← hn1]; exact posF_le s _
      have HRB := Lib.hid hr1
      have HN1 := Lib.hid hn1
      have KB := Lib.hid (fun (W : World) (hW : Ps w0.heap.size s (posF s r) W) => show Calls Try.prog 59 #[.pointer (some ⟨w0.heap.size, 0, none⟩)] W fun e w' => e = .returned (.tuple #[]) ∧ Ps w0.heap.size s n1 w' ∧ But w0.heap.size W w' from by
        have := blankCalls w0.heap.size s (posF s r) W (by omega) hW
        rw [HRB.out, HN1.out] at this
        exact this)
      by_cases hbl : blankF false r = []
      · have HE := Lib.hid (parseBodyF_ok h3 hg hbl)
        have hend : n1 = s.size := by
          rw [← hn1, hbl]
          unfold posF
          simp
        have i2 : ¬ ((n1 : Int) < (s.size : Int)) := by omega
        clear hg hz0 hr1 hbl hend hn1 hNO hNF hNP
        go_enter_defers Try.func34, Try.ntmps34
        go_wp2_with (first
          | (go_at_call 59; refine (KB.out _ HP6.out).mono ?_; rintro e w7 ⟨rfl, hp7, hb7⟩; have HP7 := Lib.hid hp7; have HF7 := Lib.hid (HF6.out.but hb7 (by have := HZ0.out; omega)); have HO7 := Lib.hid (HO6.out.but hb7 (by have := HZ0.out; omega)); have HV7 := Lib.hid (HV6.out.agree RAtom.steady (But.agree hb7 HNN.out.2.2)); have HB7 := Lib.hid (HB6.out.grown hb7 HB6.out.size (fun q hq => by have := Option.some.inj hq; have := HZ0.out; omega)); have p1 := hp7.c1; clear hp7 hb7)
          | (go_at_call 58; refine (bodyCalls w0.heap.size s 0 _ hs HPS.out).mono ?_; rintro e w5 h5; obtain ⟨hb5, v5, rfl, hv5, hp5⟩ := h5.ok HGG.out; have hv5' : RdAtoms (New (w0.alloc (.cells #[.string s, .int .i64 0] 98))) w5 v5 l := hv5; obtain ⟨va, vc, rfl, -, -, -⟩ := id hv5'.form; have HF5 := Lib.hid (HFA.out.but hb5 (by have := HZ0.out; omega)); have HO5 := Lib.hid (HOA.out.but hb5 (by have := HZ0.out; omega)); have HV5 := Lib.hid hv5'; have HP5 := Lib.hid hp5; have HB5 := Lib.hid (HBA.out.grown hb5 (by simp; have := HZ0.out; omega) (fun q hq => by have := Option.some.inj hq; have := HZ0.out; omega)); clear hv5 hv5' hp5 hb5; have o0 := HO5.out.cell 0; have of0 := HO5.out.frozen 0; have HP6 := Lib.hid (HP5.out.far (p := ⟨w.heap.size, 0, none⟩) (by have := HZ0.out; show w0.heap.size ≠ w.heap.size; omega) (.slice va l.length vc)); have HF6 := Lib.hid (HF5.out.far (p := ⟨w.heap.size, 0, none⟩) (show w.heap.size + 1 ≠ w.heap.size by omega) (.slice va l.length vc)); have HO6 : Hid (Blk (w5.setCell ⟨w.heap.size, 0, none⟩ (.slice va l.length vc)) w.heap.size 22 #[.slice va l.length vc]) := Lib.hid (HO5.out.set_ 0 (.slice va l.length vc)); have HV6 := Lib.hid (HV5.out.agree RAtom.steady (Agree.setCell (p := ⟨w.heap.size, 0, none⟩) HNN.out.1 (.slice va l.length vc))); have HB6 := Lib.hid (HB5.out.setCell (p := ⟨w.heap.size, 0, none⟩) (Nat.le_refl _) (.slice va l.length vc))))
        have o7 := HO7.out.cell 0; have f70 := HF7.out.cell 0; have f71 := HF7.out.cell 1
        have u7 := HO7.out.frozen 0; have g70 := HF7.out.frozen 0; have g71 := HF7.out.frozen 1
        simp only [List.getElem?_toArray, List.getElem?_cons_zero, List.getElem?_cons_succ] at o7 f70 f71
        go_region_law (fail)
        all_goals
          go_wp2
          refine bodyDoorOk (F := w.heap.size + 1) (O := w.heap.size) (l := l) (v := .slice va l.length vc) rfl rfl rfl (((HF7.out.far (p := ⟨w.heap.size, 0, none⟩) (show w.heap.size + 1 ≠ w.heap.size by omega) _).set_ 0 (.int .i64 0)).set_ 1 (.int .i64 0)).drew ((((HO7.out.set_ 0 (.slice va l.length vc)).far (p := ⟨w.heap.size + 1, 0, none⟩) (show w.heap.size ≠ w.heap.size + 1 by omega) _).far (p := ⟨w.heap.size + 1, 1, none⟩) (show w.heap.size ≠ w.heap.size + 1 by omega) _).drew) ((((HB7.out.setCell (Nat.le_refl _) _).setCell (Nat.le_succ _) _).setCell (Nat.le_succ _) _).drew) HE.out ?_
          refine ((((HV7.out.agree RAtom.steady (Agree.setCell (p := ⟨w.heap.size, 0, none⟩) HNN.out.1 _)).agree RAtom.steady (Agree.setCell (p := ⟨w.heap.size + 1, 0, none⟩) HNN.out.2.1 _)).agree RAtom.steady (Agree.setCell (p := ⟨w.heap.size + 1, 1, none⟩) HNN.out.2.1 _)).agree RAtom.steady (Agree.refl _ _).drew).more RAtom.steady (fun b hb _ => ?_)
          have hb' : (w0.alloc (.cells #[.string s, .int .i64 0] 98)).heap.size ≤ b := hb
          show w.heap.size ≤ b
          simp at hb'; have := HZ0.out; omega
      · have HE := Lib.hid (show parseBodyF s = ([], 2, (n1 : Int)) by rw [parseBodyF_more h3 hg hbl, hn1])
        have hend : n1 < s.size := by
          rw [← hn1]
          unfold posF
          have h1 : 0 < (blankF false r).length := List.length_pos_iff.2 hbl
          have h2 := (blankF_suffix false r).length_le
          have h4 : r.length ≤ (rest s 0).length := by
            have := bodyF_suffix 5 [] (rest s 0)
            rw [hg] at this
            exact List.IsSuffix.length_le this
          rw [rest_length] at h4
          omega
        have i2 : ((n1 : Int) < (s.size : Int)) := by omega
        clear hg hz0 hr1 hbl hend hn1 hNO hNF hNP
        go_enter_defers Try.func34, Try.ntmps34
        go_wp2_with (first
          | (go_at_call 60; refine (failCalls w0.heap.size s n1 2 _ HP7.out).mono ?_; rintro e w8 ⟨rfl, rfl⟩)
          | (go_at_call 59; refine (KB.out _ HP6.out).mono ?_; rintro e w7 ⟨rfl, hp7, hb7⟩; have HP7 := Lib.hid hp7; have HF7 := Lib.hid (HF6.out.but hb7 (by have := HZ0.out; omega)); have HO7 := Lib.hid (HO6.out.but hb7 (by have := HZ0.out; omega)); have HV7 := Lib.hid (HV6.out.agree RAtom.steady (But.agree hb7 HNN.out.2.2)); have HB7 := Lib.hid (HB6.out.grown hb7 HB6.out.size (fun q hq => by have := Option.some.inj hq; have := HZ0.out; omega)); have p1 := hp7.c1; clear hp7 hb7)
          | (go_at_call 58; refine (bodyCalls w0.heap.size s 0 _ hs HPS.out).mono ?_; rintro e w5 h5; obtain ⟨hb5, v5, rfl, hv5, hp5⟩ := h5.ok HGG.out; have hv5' : RdAtoms (New (w0.alloc (.cells #[.string s, .int .i64 0] 98))) w5 v5 l := hv5; obtain ⟨va, vc, rfl, -, -, -⟩ := id hv5'.form; have HF5 := Lib.hid (HFA.out.but hb5 (by have := HZ0.out; omega)); have HO5 := Lib.hid (HOA.out.but hb5 (by have := HZ0.out; omega)); have HV5 := Lib.hid hv5'; have HP5 := Lib.hid hp5; have HB5 := Lib.hid (HBA.out.grown hb5 (by simp; have := HZ0.out; omega) (fun q hq => by have := Option.some.inj hq; have := HZ0.out; omega)); clear hv5 hv5' hp5 hb5; have o0 := HO5.out.cell 0; have of0 := HO5.out.frozen 0; have HP6 := Lib.hid (HP5.out.far (p := ⟨w.heap.size, 0, none⟩) (by have := HZ0.out; show w0.heap.size ≠ w.heap.size; omega) (.slice va l.length vc)); have HF6 := Lib.hid (HF5.out.far (p := ⟨w.heap.size, 0, none⟩) (show w.heap.size + 1 ≠ w.heap.size by omega) (.slice va l.length vc)); have HO6 : Hid (Blk (w5.setCell ⟨w.heap.size, 0, none⟩ (.slice va l.length vc)) w.heap.size 22 #[.slice va l.length vc]) := Lib.hid (HO5.out.set_ 0 (.slice va l.length vc)); have HV6 := Lib.hid (HV5.out.agree RAtom.steady (Agree.setCell (p := ⟨w.heap.size, 0, none⟩) HNN.out.1 (.slice va l.length vc))); have HB6 := Lib.hid (HB5.out.setCell (p := ⟨w.heap.size, 0, none⟩) (Nat.le_refl _) (.slice va l.length vc))))
        refine bodyDoorBad rfl rfl rfl HF7.out HO7.out (by omega) (Nat.le_refl _) (by omega) HB7.out HE.out (by decide)
end Go.Proofs.Ytmnpneandkiblaa
