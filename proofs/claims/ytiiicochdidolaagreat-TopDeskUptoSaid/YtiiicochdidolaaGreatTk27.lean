/-
  THE TEXTS DeskD2, SynW6, DeskD3, DeskD4, one behind the other.
-/
import Derived.Test.YtiiicochdidolaaGreatTk9
import Derived.Test.YtiiicochdidolaaGreatTk10
import Derived.Test.YtiiicochdidolaaGreatTk14
import Derived.Test.YtiiicochdidolaaGreatTk15
import Derived.Test.YtiiicochdidolaaGreatTk23
import Derived.Test.YtiiicochdidolaaGreatTk26
namespace Go.Proofs.YtiiicochdidolaaGreat
open Go.RowKit
attribute [local go_sem ↓] Go.wp_at_zero Go.wp_at_succ
set_option maxRecDepth 100000 in
set_option maxHeartbeats 4000000 in
theorem deskSet (D : Nat) (d : PDesk) (r : PRun) (er : Int) (xv yv : Value) (w : World) {T : Nat → Prop} (hTD : ¬ T D) (_hTn : ∀ q,w.heap.size ≤ q → T q) (h : Dk T D d w) (hk : RdFacts T w xv r.known) (hn : RdFacts T w yv r.new) :
    Calls Tryz.prog 46 #[.pointer (some ⟨D,0,none⟩),.agg #[xv,yv,.int .i64 r.stratum,.int .i64 r.rounds,.bool r.done],.int .i64 er] w (DoPost T D (setD d (r,er)) w) := by
  obtain ⟨tv,rv,kv,nv,sv,hd⟩ := h.split
  obtain ⟨xa,xc,rfl,-,-,-⟩ := id hk.form
  obtain ⟨ya,yc,rfl,-,-,-⟩ := id hn.form
  have hDw := hd.lt
  obtain ⟨W0,hW0⟩ : ∃ W0 : World,(w.alloc (.cells #[.slice xa r.known.length xc,.slice ya r.new.length yc,.int .i64 r.stratum,.int .i64 r.rounds,.bool r.done] 28)).alloc (.cells #[.int .i64 0,.int .i64 0,.int .i64 0,.slice none 0 0,.string ⟨#[]⟩,.slice none 0 0,.int .i64 0,.slice none 0 0] 46) = W0 := ⟨_,rfl⟩
  have HD0 := Lib.hid (show DkAt (fun q => T q ∧ q ≠ w.heap.size + 1) D d tv rv kv nv sv W0 by subst hW0;exact ((hd.more (S' := fun q => T q ∧ q ≠ w.heap.size + 1) fun q hq _ => ⟨hq.2,by omega⟩).alloc _).alloc _)
  have HB0 := Lib.hid (show But D w W0 by subst hW0;exact ((But.refl D w).alloc _).alloc _)
  have HF0 := Lib.hid (show Blk W0 w.heap.size 28 #[.slice xa r.known.length xc,.slice ya r.new.length yc,.int .i64 r.stratum,.int .i64 r.rounds,.bool r.done] by subst hW0;exact (Blk.new w _ _).alloc _)
  have HA0 := Lib.hid (show Blk W0 (w.heap.size + 1) 46 #[.int .i64 0,.int .i64 0,.int .i64 0,.slice none 0 0,.string ⟨#[]⟩,.slice none 0 0,.int .i64 0,.slice none 0 0] by subst hW0;exact heap_new_at (by simp))
  have HK0 := Lib.hid (show RdFacts (fun q => T q ∧ q ≠ w.heap.size + 1) W0 (.slice xa r.known.length xc) r.known by subst hW0;exact (((hk.more RFact.steady (S' := fun q => T q ∧ q ≠ w.heap.size + 1) fun q hq hl => ⟨hq,by omega⟩).agree RFact.steady ((Agree.refl _ _).alloc _)).agree RFact.steady ((Agree.refl _ _).alloc _)))
  have HN0 := Lib.hid (show RdFacts (fun q => T q ∧ q ≠ w.heap.size + 1) W0 (.slice ya r.new.length yc) r.new by subst hW0;exact (((hn.more RFact.steady (S' := fun q => T q ∧ q ≠ w.heap.size + 1) fun q hq hl => ⟨hq,by omega⟩).agree RFact.steady ((Agree.refl _ _).alloc _)).agree RFact.steady ((Agree.refl _ _).alloc _)))
  have HTP := Lib.hid (show setD d (r,er) = if er ≠ 0 then (d,ansE er 0) else ({ d with running := true,run := r },ansN r.known.length) from rfl)
  generalize setD d (r,er) = TP at *
  have c0 := HA0.out.cell 0;have c1 := HA0.out.cell 1;have c2 := HA0.out.cell 2;have c3 := HA0.out.cell 3;have c4 := HA0.out.cell 4;have c5 := HA0.out.cell 5;have c6 := HA0.out.cell 6;have c7 := HA0.out.cell 7;have f0 := HA0.out.frozen 0;have f1 := HA0.out.frozen 1;have f2 := HA0.out.frozen 2;have f3 := HA0.out.frozen 3;have f4 := HA0.out.frozen 4;have f5 := HA0.out.frozen 5;have f6 := HA0.out.frozen 6;have f7 := HA0.out.frozen 7;simp only [List.getElem?_toArray,List.getElem?_cons_zero,List.getElem?_cons_succ] at c0 c1 c2 c3 c4 c5 c6 c7
  have hA0 := HA0.out.lt
  by_cases her : er = 0
  rotate_left
  · have HE := Lib.hid (show TP = (d,ansE er 0) by rw [HTP.out,if_pos her])
    have hb : (er != 0) = true := by simpa using her
    clear HTP her
    go_enter Tryz.func46,Tryz.ntmps46
    go_wp2
    refine bodyPost_ret (v := .agg #[.int .i64 er,.int .i64 0,.int .i64 0,.slice none 0 0,.string ⟨#[]⟩,.slice none 0 0,.int .i64 0,.slice none 0 0]) (by simp [results,Tryz.results46,go_sem,c0,c1,c2,c3,c4,c5,c6,c7]) rfl (DoPost.plain HE.out ((HD0.out.set8 (fun h => h.2 rfl) (by omega) _ _ _ _ _ _ _ _).dk (fun q hq => hq.1)) (but_set8 HB0.out (Nat.le_succ _) _ _ _ _ _ _ _ _))
  subst her
  have HE := Lib.hid (show TP = ({ d with running := true,run := r },ansN r.known.length) by rw [HTP.out,if_neg (by decide)])
  clear HTP
  have k0 := HF0.out.cell 0;have k1 := HF0.out.cell 1;have k2 := HF0.out.cell 2;have k3 := HF0.out.cell 3;have k4 := HF0.out.cell 4;simp only [List.getElem?_toArray,List.getElem?_cons_zero,List.getElem?_cons_succ] at k0 k1 k2 k3 k4
  have t2 := HD0.out.blk.cell 2;have t3 := HD0.out.blk.cell 3;have t4 := HD0.out.blk.cell 4;have t5 := HD0.out.blk.cell 5;have t6 := HD0.out.blk.cell 6;have t7 := HD0.out.blk.cell 7
  have s2 := HD0.out.blk.frozen 2;have s3 := HD0.out.blk.frozen 3;have s4 := HD0.out.blk.frozen 4;have s5 := HD0.out.blk.frozen 5;have s6 := HD0.out.blk.frozen 6;have s7 := HD0.out.blk.frozen 7
  simp only [List.getElem?_toArray,List.getElem?_cons_zero,List.getElem?_cons_succ] at t2 t3 t4 t5 t6 t7
  have hne1 : D ≠ w.heap.size := by omega
  have hne2 : w.heap.size ≠ D := by omega
  have hne4 : w.heap.size + 1 ≠ D := by omega
  go_enter Tryz.func46,Tryz.ntmps46
  go_wp2
  go_region_law (fail)
  all_goals
    have HD3 := Lib.hid ((HD0.out.setRun (fun h => hTD h.1) true HK0.out HN0.out).drew)
    have HB3 := Lib.hid (((((((HB0.out.setCell (p := ⟨D,2,none⟩) (.inl rfl) (.bool true)).setCell (p := ⟨D,3,none⟩) (.inl rfl) (.slice xa r.known.length xc)).setCell (p := ⟨D,4,none⟩) (.inl rfl) (.slice ya r.new.length yc)).setCell (p := ⟨D,5,none⟩) (.inl rfl) (.int .i64 r.stratum)).setCell (p := ⟨D,6,none⟩) (.inl rfl) (.int .i64 r.rounds)).setCell (p := ⟨D,7,none⟩) (.inl rfl) (.bool r.done)).drew)
    have HA3 := Lib.hid (((((((HA0.out.far (p := ⟨D,2,none⟩) hne4 (.bool true)).far (p := ⟨D,3,none⟩) hne4 (.slice xa r.known.length xc)).far (p := ⟨D,4,none⟩) hne4 (.slice ya r.new.length yc)).far (p := ⟨D,5,none⟩) hne4 (.int .i64 r.stratum)).far (p := ⟨D,6,none⟩) hne4 (.int .i64 r.rounds)).far (p := ⟨D,7,none⟩) hne4 (.bool r.done)).drew)
    have HF3 := Lib.hid (((((((HF0.out.far (p := ⟨D,2,none⟩) hne2 (.bool true)).far (p := ⟨D,3,none⟩) hne2 (.slice xa r.known.length xc)).far (p := ⟨D,4,none⟩) hne2 (.slice ya r.new.length yc)).far (p := ⟨D,5,none⟩) hne2 (.int .i64 r.stratum)).far (p := ⟨D,6,none⟩) hne2 (.int .i64 r.rounds)).far (p := ⟨D,7,none⟩) hne2 (.bool r.done)).drew)
    clear t2 t3 t4 t5 t6 t7 s2 s3 s4 s5 s6 s7 HD0 HB0 HA0 HF0 HK0 HN0 hW0 c0 c1 c2 c3 c4 c5 c6 c7 f0 f1 f2 f3 f4 f5 f6 f7 k0 k1 k2 k3 k4
    generalize ((((((W0.setCell ⟨D,2,none⟩ (.bool true)).setCell ⟨D,3,none⟩ (.slice xa r.known.length xc)).setCell ⟨D,4,none⟩ (.slice ya r.new.length yc)).setCell ⟨D,5,none⟩ (.int .i64 r.stratum)).setCell ⟨D,6,none⟩ (.int .i64 r.rounds)).setCell ⟨D,7,none⟩ (.bool r.done)).drew = W3 at *
    have k0 := HF3.out.cell 0
    simp only [List.getElem?_toArray,List.getElem?_cons_zero] at k0
    have c0 := HA3.out.cell 0;have c1 := HA3.out.cell 1;have c2 := HA3.out.cell 2;have c3 := HA3.out.cell 3;have c4 := HA3.out.cell 4;have c5 := HA3.out.cell 5;have c6 := HA3.out.cell 6;have c7 := HA3.out.cell 7;have f0 := HA3.out.frozen 0;have f1 := HA3.out.frozen 1;have f2 := HA3.out.frozen 2;have f3 := HA3.out.frozen 3;have f4 := HA3.out.frozen 4;have f5 := HA3.out.frozen 5;have f6 := HA3.out.frozen 6;have f7 := HA3.out.frozen 7;simp only [List.getElem?_toArray,List.getElem?_cons_zero,List.getElem?_cons_succ] at c0 c1 c2 c3 c4 c5 c6 c7
    go_wp2
    refine bodyPost_ret (v := .agg #[.int .i64 0,.int .i64 0,.int .i64 r.known.length,.slice none 0 0,.string ⟨#[]⟩,.slice none 0 0,.int .i64 0,.slice none 0 0]) (by simp [results,Tryz.results46,go_sem,c0,c1,c2,c3,c4,c5,c6,c7]) rfl (DoPost.plain HE.out ((HD3.out.set8 (fun h => h.2 rfl) (by omega) _ _ _ _ _ _ _ _).dk (fun q hq => hq.1)) (but_set8 HB3.out (Nat.le_succ _) _ _ _ _ _ _ _ _))
end Go.Proofs.YtiiicochdidolaaGreat
namespace Go.Proofs.YtiiicochdidolaaGreat
open Go.RowKit
set_option maxRecDepth 100000 in
set_option maxHeartbeats 2000000 in
theorem body1 (F O : Nat) (a b : Int) (v : Value) (w : World) (hF : Blk w F 49 #[.int .i64 a,.int .i64 b]) (hO : Blk w O 47 #[v]) :
    CallsD Tryz.prog 22 #[.pointer (some ⟨F,0,none⟩),.pointer (some ⟨O,0,none⟩)] .returning w fun e' u' w' => u' = .returning ∧ e' = .returned (.tuple #[]) ∧ w' = (if a = 0 then w else w.setCell ⟨O,0,none⟩ (.slice none 0 0)) := by
  have c0 : w.cell? ⟨F,0,none⟩ = some (.int .i64 a) := hF.cell 0
  have d0 : w.cell? ⟨O,0,none⟩ = some v := hO.cell 0
  have f0 := hO.frozen 0
  clear hF hO
  by_cases ha : a = 0
  · subst ha
    rw [if_pos rfl]
    go_enter_d Tryz.func22,Tryz.ntmps22
    go_wp2
    go_end0
    exact ⟨rfl,rfl⟩
  · rw [if_neg ha]
    have h1 : (a != 0) = true := by simpa using ha
    go_enter_d Tryz.func22,Tryz.ntmps22
    go_wp2
    go_end0
    exact ⟨rfl,rfl⟩
def BodyPost (s : Str) (w : World) (e : Ending) (w' : World) : Prop :=
  (∃ v,e = .returned (.tuple #[v,.agg #[.int .i64 (parseBodyF s).2.1,.int .i64 (parseBodyF s).2.2]]) ∧ RdAtoms (New w) w' v (parseBodyF s).1) ∧ Below w.heap.size w w'
set_option maxRecDepth 100000 in
set_option maxHeartbeats 2000000 in
theorem bodyDoorOk {s : Str} {w w5 : World} {a : Act} {F O : Nat} {l : List PAtom} {v : Value} (hd : a.defers = doorDefers F O 22) (h2 : a.tmps.getD 2 undef = .pointer (some ⟨O,0,none⟩)) (h3 : a.tmps.getD 3 undef = .pointer (some ⟨F,0,none⟩))
    (hF : Blk w5 F 49 #[.int .i64 0,.int .i64 0]) (hO : Blk w5 O 47 #[v]) (hb : Below w.heap.size w w5) (hE : parseBodyF s = (l,0,0)) (hv : RdAtoms (New w) w5 v l) :
    bodyPostD Tryz.prog Tryz.f9 (BodyPost s w) .ret a w5 := by
  have c0 : w5.cell? ⟨O,0,none⟩ = some v := hO.cell 0
  have d0 : w5.cell? ⟨F,0,none⟩ = some (.int .i64 0) := hF.cell 0
  have d1 : w5.cell? ⟨F,1,none⟩ = some (.int .i64 0) := hF.cell 1
  show Leaves _ _ a.tmps (BodyPost s w) a.defers .returning w5
  rw [hd]
  unfold doorDefers
  refine leaves_cons (f := 23) (args := #[.pointer (some ⟨F,0,none⟩)]) (by simp) (by simp [go_sem]) ?_
  refine (guardIdle F _).mono ?_
  rintro e u' w'' ⟨rfl,rfl,rfl⟩
  refine leaves_cons (f := 22) (args := #[.pointer (some ⟨F,0,none⟩),.pointer (some ⟨O,0,none⟩)]) (by simp [settle]) (by simp [go_sem]) ?_
  refine (body1 F O 0 0 v _ hF hO).mono ?_
  rintro e u' w'' ⟨rfl,rfl,rfl⟩
  dsimp only
  show ∃ v',(results Tryz.f9 a.tmps).run Tryz.prog w'' = .ok v' w'' ∧ BodyPost s w (.returned v') w''
  refine ⟨.tuple #[v,.agg #[.int .i64 0,.int .i64 0]],?_,⟨v,?_,?_⟩,hb⟩
  · have h2' : a.tmps[2]?.getD undef = .pointer (some ⟨O,0,none⟩) := by simpa [Array.getD_eq_getD_getElem?] using h2
    have h3' : a.tmps[3]?.getD undef = .pointer (some ⟨F,0,none⟩) := by simpa [Array.getD_eq_getD_getElem?] using h3
    simp [results,Tryz.results9,h2',h3',c0,d0,d1,go_sem]
  · rw [hE]
  · rw [hE];exact hv
set_option maxRecDepth 100000 in
set_option maxHeartbeats 2000000 in
theorem bodyDoorBad {s : Str} {w w5 : World} {a : Act} {F O : Nat} {er : Int} {p : Nat} {v : Value} (hd : a.defers = doorDefers F O 22) (h2 : a.tmps.getD 2 undef = .pointer (some ⟨O,0,none⟩)) (h3 : a.tmps.getD 3 undef = .pointer (some ⟨F,0,none⟩))
    (hF : Blk w5 F 49 #[.int .i64 0,.int .i64 0]) (hO : Blk w5 O 47 #[v]) (hOF : O ≠ F) (hwO : w.heap.size ≤ O) (hwF : w.heap.size ≤ F) (hb : Below w.heap.size w w5) (hE : parseBodyF s = ([],er,(p : Int))) (hn : er ≠ 0) :
    bodyPostD Tryz.prog Tryz.f9 (BodyPost s w) (.panic (oopsV er p)) a w5 := by
  show Leaves _ _ a.tmps (BodyPost s w) a.defers (.panicking (oopsV er p)) w5
  rw [hd]
  unfold doorDefers
  refine leaves_cons (f := 23) (args := #[.pointer (some ⟨F,0,none⟩)]) (by simp) (by simp [go_sem]) ?_
  refine (guardCatch F 0 0 er p _ hF).mono ?_
  rintro e u' w6 ⟨rfl,rfl,hF6,hb6⟩
  have hO6 := hO.but hb6 hOF
  refine leaves_cons (f := 22) (args := #[.pointer (some ⟨F,0,none⟩),.pointer (some ⟨O,0,none⟩)]) (by simp [settle]) (by simp [go_sem]) ?_
  refine (body1 F O er p v _ hF6 hO6).mono ?_
  rintro e u' w'' ⟨rfl,rfl,rfl⟩
  rw [if_neg hn]
  have hF7 := hF6.far (p := ⟨O,0,none⟩) (fun e => hOF e.symm) (.slice none 0 0)
  have hO7 : Blk (w6.setCell ⟨O,0,none⟩ (.slice none 0 0)) O 47 #[.slice none 0 0] := hO6.set_ 0 (.slice none 0 0)
  have hb7 : Below w.heap.size w (w6.setCell ⟨O,0,none⟩ (.slice none 0 0)) := (hb.grown hb6 hb.size (fun q hq => by have := Option.some.inj hq;omega)).setCell hwO _
  generalize w6.setCell ⟨O,0,none⟩ (.slice none 0 0) = w7 at *
  have c0 : w7.cell? ⟨O,0,none⟩ = some (.slice none 0 0) := hO7.cell 0
  have d0 : w7.cell? ⟨F,0,none⟩ = some (.int .i64 er) := hF7.cell 0
  have d1 : w7.cell? ⟨F,1,none⟩ = some (.int .i64 (p : Int)) := hF7.cell 1
  show ∃ v',(results Tryz.f9 a.tmps).run Tryz.prog w7 = .ok v' w7 ∧ BodyPost s w (.returned v') w7
  refine ⟨.tuple #[.slice none 0 0,.agg #[.int .i64 er,.int .i64 (p : Int)]],?_,⟨.slice none 0 0,?_,?_⟩,hb7⟩
  · have h2' : a.tmps[2]?.getD undef = .pointer (some ⟨O,0,none⟩) := by simpa [Array.getD_eq_getD_getElem?] using h2
    have h3' : a.tmps[3]?.getD undef = .pointer (some ⟨F,0,none⟩) := by simpa [Array.getD_eq_getD_getElem?] using h3
    simp [results,Tryz.results9,h2',h3',c0,d0,d1,go_sem]
  · rw [hE]
  · rw [hE];exact RdSlice.nothing (Nat.zero_le _) (fun _ => rfl)
theorem bodyAllF_blank {r r1 : Bytes} {l : List PAtom} (h : bodyF 5 [] r = .ok (l,r1)) : bodyAllF r = if blankF false r1 = [] then .ok (l,[]) else .error (2,blankF false r1) := by unfold bodyAllF;rw [h]
theorem parseBodyF_long {s : Str} (h : 3000 < s.size) : parseBodyF s = ([],4,0) := by unfold parseBodyF;rw [if_pos h]
theorem parseBodyF_ok {s : Str} (h : ¬ 3000 < s.size) {l : List PAtom} {r1 : Bytes} (k : bodyF 5 [] (rest s 0) = .ok (l,r1)) (hb : blankF false r1 = []) : parseBodyF s = (l,0,0) := by
  unfold parseBodyF;rw [if_neg h,← rest_zero,bodyAllF_blank k,if_pos hb]
theorem parseBodyF_more {s : Str} (h : ¬ 3000 < s.size) {l : List PAtom} {r1 : Bytes} (k : bodyF 5 [] (rest s 0) = .ok (l,r1)) (hb : blankF false r1 ≠ []) : parseBodyF s = ([],2,((posF s (blankF false r1) : Nat) : Int)) := by
  have hs : blankF false r1 <:+ bytesOf s := by
    have := bodyF_suffix 5 [] (rest s 0)
    rw [k] at this
    exact (blankF_suffix _ _).trans (List.IsSuffix.trans this (rest_suffix s 0))
  unfold parseBodyF;rw [if_neg h,← rest_zero,bodyAllF_blank k,if_neg hb,posF_int s hs]
theorem parseBodyF_error {s : Str} (h : ¬ 3000 < s.size) {e : Int} {r : Bytes} (k : bodyF 5 [] (rest s 0) = .error (e,r)) : parseBodyF s = ([],e,((posF s r : Nat) : Int)) := by
  have hs : r <:+ bytesOf s := by
    have := bodyF_suffix 5 [] (rest s 0)
    rw [k] at this
    exact List.IsSuffix.trans this (rest_suffix s 0)
  have hb : bodyAllF (rest s 0) = .error (e,r) := by unfold bodyAllF;rw [k]
  unfold parseBodyF;rw [if_neg h,← rest_zero,hb,posF_int s hs]
set_option maxRecDepth 100000 in
set_option maxHeartbeats 4000000 in
theorem bodyTextCalls (s : Str) (w : World) (hs : s.size ≤ 1048576) : Calls Tryz.prog 9 #[.string s] w (BodyPost s w) := by
  have hmf : ∀ (fn : Fn) (first cap : Array Value) (w : World),(Instr.makeFunc fn first cap).run Tryz.prog w = .ok (.func fn first cap) w := fun _ _ _ _ => rfl
  by_cases h3 : 3000 < s.size
  · have i1 : (3000 : Int) < (s.size : Int) := by omega
    have HE := Lib.hid (parseBodyF_long h3)
    go_enter_defers Tryz.func9,Tryz.ntmps9
    go_wp2
    simp [Leaves,results,Tryz.results9,go_sem,bodyPostD]
    unfold BodyPost
    rw [HE.out]
    exact ⟨⟨_,rfl,RdSlice.nothing (Nat.zero_le _) (fun _ => rfl)⟩,(((Below.refl _ _).alloc (Nat.le_refl _) _).alloc (by simp) _)⟩
  · have i1 : ¬ (3000 : Int) < (s.size : Int) := by omega
    have HO0 := Lib.hid (show Blk ((w.alloc (.cells #[.slice none 0 0] 47)).alloc (.cells #[.int .i64 0,.int .i64 0] 49)) w.heap.size 47 #[.slice none 0 0] from (Blk.new w _ _).alloc _)
    have HF0 := Lib.hid (show Blk ((w.alloc (.cells #[.slice none 0 0] 47)).alloc (.cells #[.int .i64 0,.int .i64 0] 49)) (w.heap.size + 1) 49 #[.int .i64 0,.int .i64 0] from heap_new_at (by simp))
    have HB0 := Lib.hid (show Below w.heap.size w ((w.alloc (.cells #[.slice none 0 0] 47)).alloc (.cells #[.int .i64 0,.int .i64 0] 49)) from ((Below.refl _ _).alloc (Nat.le_refl _) _).alloc (by simp) _)
    have hz0 : ((w.alloc (.cells #[.slice none 0 0] 47)).alloc (.cells #[.int .i64 0,.int .i64 0] 49)).heap.size = w.heap.size + 2 := by simp
    generalize hw0 : (w.alloc (.cells #[.slice none 0 0] 47)).alloc (.cells #[.int .i64 0,.int .i64 0] 49) = w0 at *
    have HZ0 := Lib.hid hz0
    have HPS := Lib.hid (show Ps w0.heap.size s 0 (w0.alloc (.cells #[.string s,.int .i64 0] 87)) from ⟨heap_alloc_new w0 _,Nat.zero_le _⟩)
    have HFA := Lib.hid (show Blk (w0.alloc (.cells #[.string s,.int .i64 0] 87)) (w.heap.size + 1) 49 #[.int .i64 0,.int .i64 0] from HF0.out.alloc _)
    have HOA := Lib.hid (show Blk (w0.alloc (.cells #[.string s,.int .i64 0] 87)) w.heap.size 47 #[.slice none 0 0] from HO0.out.alloc _)
    have HBA := Lib.hid (HB0.out.alloc HB0.out.size (.cells #[.string s,.int .i64 0] 87))
    rcases hg : bodyF 5 [] (rest s 0) with ⟨er,r'⟩ | ⟨l,r⟩
    · have HE := Lib.hid (parseBodyF_error h3 hg)
      have HNZ := Lib.hid (show er ≠ 0 by have := bodyF_bad' 5 [] (rest s 0);rw [hg] at this;exact this)
      have HGG := Lib.hid hg
      clear hg hz0
      go_enter_defers Tryz.func9,Tryz.ntmps9
      go_wp2_with (go_at_call 24;refine (bodyCalls w0.heap.size s 0 _ hs HPS.out).mono ?_;rintro e w5 h5;obtain ⟨hb5,rfl⟩ := h5.error HGG.out)
      have hF5 := HFA.out.but hb5 (by have := HZ0.out;omega)
      have hO5 := HOA.out.but hb5 (by have := HZ0.out;omega)
      refine bodyDoorBad rfl rfl rfl hF5 hO5 (by omega) (Nat.le_refl _) (by omega) ?_ HE.out HNZ.out
      exact HBA.out.grown hb5 (by simp;have := HZ0.out;omega) (fun q hq => by have := Option.some.inj hq;have := HZ0.out;omega)
    · have hr1 := bodyF_posF hg
      have HGG := Lib.hid hg
      have hpr := posF_le s r
      have hNO : ¬ New (w0.alloc (.cells #[.string s,.int .i64 0] 87)) w.heap.size := fun h => by
        have h' : (w0.alloc (.cells #[.string s,.int .i64 0] 87)).heap.size ≤ w.heap.size := h
        simp at h';omega
      have hNF : ¬ New (w0.alloc (.cells #[.string s,.int .i64 0] 87)) (w.heap.size + 1) := fun h => by
        have h' : (w0.alloc (.cells #[.string s,.int .i64 0] 87)).heap.size ≤ w.heap.size + 1 := h
        simp at h';omega
      have hNP : ¬ New (w0.alloc (.cells #[.string s,.int .i64 0] 87)) w0.heap.size := fun h => by
        have h' : (w0.alloc (.cells #[.string s,.int .i64 0] 87)).heap.size ≤ w0.heap.size := h
        have h2 : (w0.alloc (.cells #[.string s,.int .i64 0] 87)).heap.size = w0.heap.size + 1 := by simp
        omega
      have HNN := Lib.hid (And.intro hNO (And.intro hNF hNP))
      obtain ⟨n1,hn1⟩ : ∃ n1,posF s (blankF false r) = n1 := ⟨_,rfl⟩
      have hn1s : n1 ≤ s.size := by rw [← hn1];exact posF_le s _
      have HRB := Lib.hid hr1
      have HN1 := Lib.hid hn1
      have KB := Lib.hid (fun (W : World) (hW : Ps w0.heap.size s (posF s r) W) => show Calls Tryz.prog 25 #[.pointer (some ⟨w0.heap.size,0,none⟩)] W fun e w' => e = .returned (.tuple #[]) ∧ Ps w0.heap.size s n1 w' ∧ But w0.heap.size W w' from by
        have := blankCalls w0.heap.size s (posF s r) W (by omega) hW
        rw [HRB.out,HN1.out] at this
        exact this)
      by_cases hbl : blankF false r = []
      · have HE := Lib.hid (parseBodyF_ok h3 hg hbl)
        have hend : n1 = s.size := by
          rw [← hn1,hbl]
          unfold posF
          simp
        have i2 : ¬ ((n1 : Int) < (s.size : Int)) := by omega
        clear hg hz0 hr1 hbl hend hn1 hNO hNF hNP
        go_enter_defers Tryz.func9,Tryz.ntmps9
        go_wp2_with (first
          | (go_at_call 25;refine (KB.out _ HP6.out).mono ?_;rintro e w7 ⟨rfl,hp7,hb7⟩;have HP7 := Lib.hid hp7;have HF7 := Lib.hid (HF6.out.but hb7 (by have := HZ0.out;omega));have HO7 := Lib.hid (HO6.out.but hb7 (by have := HZ0.out;omega));have HV7 := Lib.hid (HV6.out.agree RAtom.steady (But.agree hb7 HNN.out.2.2));have HB7 := Lib.hid (HB6.out.grown hb7 HB6.out.size (fun q hq => by have := Option.some.inj hq;have := HZ0.out;omega));have p1 := hp7.c1;clear hp7 hb7)
          | (go_at_call 24;refine (bodyCalls w0.heap.size s 0 _ hs HPS.out).mono ?_;rintro e w5 h5;obtain ⟨hb5,v5,rfl,hv5,hp5⟩ := h5.ok HGG.out;have hv5' : RdAtoms (New (w0.alloc (.cells #[.string s,.int .i64 0] 87))) w5 v5 l := hv5;obtain ⟨va,vc,rfl,-,-,-⟩ := id hv5'.form;have HF5 := Lib.hid (HFA.out.but hb5 (by have := HZ0.out;omega));have HO5 := Lib.hid (HOA.out.but hb5 (by have := HZ0.out;omega));have HV5 := Lib.hid hv5';have HP5 := Lib.hid hp5;have HB5 := Lib.hid (HBA.out.grown hb5 (by simp;have := HZ0.out;omega) (fun q hq => by have := Option.some.inj hq;have := HZ0.out;omega));clear hv5 hv5' hp5 hb5;have o0 := HO5.out.cell 0;have of0 := HO5.out.frozen 0;have HP6 := Lib.hid (HP5.out.far (p := ⟨w.heap.size,0,none⟩) (by have := HZ0.out;show w0.heap.size ≠ w.heap.size;omega) (.slice va l.length vc));have HF6 := Lib.hid (HF5.out.far (p := ⟨w.heap.size,0,none⟩) (show w.heap.size + 1 ≠ w.heap.size by omega) (.slice va l.length vc));have HO6 : Hid (Blk (w5.setCell ⟨w.heap.size,0,none⟩ (.slice va l.length vc)) w.heap.size 47 #[.slice va l.length vc]) := Lib.hid (HO5.out.set_ 0 (.slice va l.length vc));have HV6 := Lib.hid (HV5.out.agree RAtom.steady (Agree.setCell (p := ⟨w.heap.size,0,none⟩) HNN.out.1 (.slice va l.length vc)));have HB6 := Lib.hid (HB5.out.setCell (p := ⟨w.heap.size,0,none⟩) (Nat.le_refl _) (.slice va l.length vc))))
        have o7 := HO7.out.cell 0;have f70 := HF7.out.cell 0;have f71 := HF7.out.cell 1
        have u7 := HO7.out.frozen 0;have g70 := HF7.out.frozen 0;have g71 := HF7.out.frozen 1
        simp only [List.getElem?_toArray,List.getElem?_cons_zero,List.getElem?_cons_succ] at o7 f70 f71
        go_region_law (fail)
        all_goals
          go_wp2
          refine bodyDoorOk (F := w.heap.size + 1) (O := w.heap.size) (l := l) (v := .slice va l.length vc) rfl rfl rfl (((HF7.out.far (p := ⟨w.heap.size,0,none⟩) (show w.heap.size + 1 ≠ w.heap.size by omega) _).set_ 0 (.int .i64 0)).set_ 1 (.int .i64 0)).drew ((((HO7.out.set_ 0 (.slice va l.length vc)).far (p := ⟨w.heap.size + 1,0,none⟩) (show w.heap.size ≠ w.heap.size + 1 by omega) _).far (p := ⟨w.heap.size + 1,1,none⟩) (show w.heap.size ≠ w.heap.size + 1 by omega) _).drew) ((((HB7.out.setCell (Nat.le_refl _) _).setCell (Nat.le_succ _) _).setCell (Nat.le_succ _) _).drew) HE.out ?_
          refine ((((HV7.out.agree RAtom.steady (Agree.setCell (p := ⟨w.heap.size,0,none⟩) HNN.out.1 _)).agree RAtom.steady (Agree.setCell (p := ⟨w.heap.size + 1,0,none⟩) HNN.out.2.1 _)).agree RAtom.steady (Agree.setCell (p := ⟨w.heap.size + 1,1,none⟩) HNN.out.2.1 _)).agree RAtom.steady (Agree.refl _ _).drew).more RAtom.steady (fun b hb _ => ?_)
          have hb' : (w0.alloc (.cells #[.string s,.int .i64 0] 87)).heap.size ≤ b := hb
          show w.heap.size ≤ b
          simp at hb';have := HZ0.out;omega
      · have HE := Lib.hid (show parseBodyF s = ([],2,(n1 : Int)) by rw [parseBodyF_more h3 hg hbl,hn1])
        have hend : n1 < s.size := by
          rw [← hn1]
          unfold posF
          have h1 : 0 < (blankF false r).length := List.length_pos_iff.2 hbl
          have h2 := (blankF_suffix false r).length_le
          have h4 : r.length ≤ (rest s 0).length := by
            have := bodyF_suffix 5 [] (rest s 0)
            rw [hg] at this
            exact List.IsSuffix.length_le this
          rw [rest_length] at h4
          omega
        have i2 : ((n1 : Int) < (s.size : Int)) := by omega
        clear hg hz0 hr1 hbl hend hn1 hNO hNF hNP
        go_enter_defers Tryz.func9,Tryz.ntmps9
        go_wp2_with (first
          | (go_at_call 26;refine (failCalls w0.heap.size s n1 2 _ HP7.out).mono ?_;rintro e w8 ⟨rfl,rfl⟩)
          | (go_at_call 25;refine (KB.out _ HP6.out).mono ?_;rintro e w7 ⟨rfl,hp7,hb7⟩;have HP7 := Lib.hid hp7;have HF7 := Lib.hid (HF6.out.but hb7 (by have := HZ0.out;omega));have HO7 := Lib.hid (HO6.out.but hb7 (by have := HZ0.out;omega));have HV7 := Lib.hid (HV6.out.agree RAtom.steady (But.agree hb7 HNN.out.2.2));have HB7 := Lib.hid (HB6.out.grown hb7 HB6.out.size (fun q hq => by have := Option.some.inj hq;have := HZ0.out;omega));have p1 := hp7.c1;clear hp7 hb7)
          | (go_at_call 24;refine (bodyCalls w0.heap.size s 0 _ hs HPS.out).mono ?_;rintro e w5 h5;obtain ⟨hb5,v5,rfl,hv5,hp5⟩ := h5.ok HGG.out;have hv5' : RdAtoms (New (w0.alloc (.cells #[.string s,.int .i64 0] 87))) w5 v5 l := hv5;obtain ⟨va,vc,rfl,-,-,-⟩ := id hv5'.form;have HF5 := Lib.hid (HFA.out.but hb5 (by have := HZ0.out;omega));have HO5 := Lib.hid (HOA.out.but hb5 (by have := HZ0.out;omega));have HV5 := Lib.hid hv5';have HP5 := Lib.hid hp5;have HB5 := Lib.hid (HBA.out.grown hb5 (by simp;have := HZ0.out;omega) (fun q hq => by have := Option.some.inj hq;have := HZ0.out;omega));clear hv5 hv5' hp5 hb5;have o0 := HO5.out.cell 0;have of0 := HO5.out.frozen 0;have HP6 := Lib.hid (HP5.out.far (p := ⟨w.heap.size,0,none⟩) (by have := HZ0.out;show w0.heap.size ≠ w.heap.size;omega) (.slice va l.length vc));have HF6 := Lib.hid (HF5.out.far (p := ⟨w.heap.size,0,none⟩) (show w.heap.size + 1 ≠ w.heap.size by omega) (.slice va l.length vc));have HO6 : Hid (Blk (w5.setCell ⟨w.heap.size,0,none⟩ (.slice va l.length vc)) w.heap.size 47 #[.slice va l.length vc]) := Lib.hid (HO5.out.set_ 0 (.slice va l.length vc));have HV6 := Lib.hid (HV5.out.agree RAtom.steady (Agree.setCell (p := ⟨w.heap.size,0,none⟩) HNN.out.1 (.slice va l.length vc)));have HB6 := Lib.hid (HB5.out.setCell (p := ⟨w.heap.size,0,none⟩) (Nat.le_refl _) (.slice va l.length vc))))
        refine bodyDoorBad rfl rfl rfl HF7.out HO7.out (by omega) (Nat.le_refl _) (by omega) HB7.out HE.out (by decide)
end Go.Proofs.YtiiicochdidolaaGreat
namespace Go.Proofs.YtiiicochdidolaaGreat
open Go.RowKit
theorem DkAt.setRules {S : Nat → Prop} {D : Nat} {d : PDesk} {tv rv kv nv sv xv : Value} {w : World} {p : List PRule} (h : DkAt S D d tv rv kv nv sv w) (hD : ¬ S D) (hp : RdRules S w xv p) :
    DkAt S D ⟨d.told,p,false,zeroRun,none⟩ tv xv (.slice none 0 0) (.slice none 0 0) (.slice none 0 0) ((((((((w.setCell ⟨D,1,none⟩ xv).setCell ⟨D,2,none⟩ (.bool false)).setCell ⟨D,3,none⟩ (.slice none 0 0)).setCell ⟨D,4,none⟩ (.slice none 0 0)).setCell ⟨D,5,none⟩ (.int .i64 0)).setCell ⟨D,6,none⟩ (.int .i64 0)).setCell ⟨D,7,none⟩ (.bool false)).setCell ⟨D,8,none⟩ (.slice none 0 0)) := by
  have ha : Agree S w ((((((((w.setCell ⟨D,1,none⟩ xv).setCell ⟨D,2,none⟩ (.bool false)).setCell ⟨D,3,none⟩ (.slice none 0 0)).setCell ⟨D,4,none⟩ (.slice none 0 0)).setCell ⟨D,5,none⟩ (.int .i64 0)).setCell ⟨D,6,none⟩ (.int .i64 0)).setCell ⟨D,7,none⟩ (.bool false)).setCell ⟨D,8,none⟩ (.slice none 0 0)) :=
    (by iterate 7 (refine Agree.trans ?_ (Agree.setCell hD _))
        exact Agree.setCell hD _)
  have b1 : Blk (w.setCell ⟨D,1,none⟩ xv) D 80 #[tv,xv,.bool d.running,kv,nv,.int .i64 d.run.stratum,.int .i64 d.run.rounds,.bool d.run.done,sv] := h.blk.set_ 1 _
  have b2 : Blk ((w.setCell ⟨D,1,none⟩ xv).setCell ⟨D,2,none⟩ (.bool false)) D 80 #[tv,xv,.bool false,kv,nv,.int .i64 d.run.stratum,.int .i64 d.run.rounds,.bool d.run.done,sv] := b1.set_ 2 _
  have b3 : Blk (((w.setCell ⟨D,1,none⟩ xv).setCell ⟨D,2,none⟩ (.bool false)).setCell ⟨D,3,none⟩ (.slice none 0 0)) D 80 #[tv,xv,.bool false,.slice none 0 0,nv,.int .i64 d.run.stratum,.int .i64 d.run.rounds,.bool d.run.done,sv] := b2.set_ 3 _
  have b4 : Blk ((((w.setCell ⟨D,1,none⟩ xv).setCell ⟨D,2,none⟩ (.bool false)).setCell ⟨D,3,none⟩ (.slice none 0 0)).setCell ⟨D,4,none⟩ (.slice none 0 0)) D 80 #[tv,xv,.bool false,.slice none 0 0,.slice none 0 0,.int .i64 d.run.stratum,.int .i64 d.run.rounds,.bool d.run.done,sv] := b3.set_ 4 _
  have b5 : Blk (((((w.setCell ⟨D,1,none⟩ xv).setCell ⟨D,2,none⟩ (.bool false)).setCell ⟨D,3,none⟩ (.slice none 0 0)).setCell ⟨D,4,none⟩ (.slice none 0 0)).setCell ⟨D,5,none⟩ (.int .i64 0)) D 80 #[tv,xv,.bool false,.slice none 0 0,.slice none 0 0,.int .i64 0,.int .i64 d.run.rounds,.bool d.run.done,sv] := b4.set_ 5 _
  have b6 : Blk ((((((w.setCell ⟨D,1,none⟩ xv).setCell ⟨D,2,none⟩ (.bool false)).setCell ⟨D,3,none⟩ (.slice none 0 0)).setCell ⟨D,4,none⟩ (.slice none 0 0)).setCell ⟨D,5,none⟩ (.int .i64 0)).setCell ⟨D,6,none⟩ (.int .i64 0)) D 80 #[tv,xv,.bool false,.slice none 0 0,.slice none 0 0,.int .i64 0,.int .i64 0,.bool d.run.done,sv] := b5.set_ 6 _
  have b7 : Blk (((((((w.setCell ⟨D,1,none⟩ xv).setCell ⟨D,2,none⟩ (.bool false)).setCell ⟨D,3,none⟩ (.slice none 0 0)).setCell ⟨D,4,none⟩ (.slice none 0 0)).setCell ⟨D,5,none⟩ (.int .i64 0)).setCell ⟨D,6,none⟩ (.int .i64 0)).setCell ⟨D,7,none⟩ (.bool false)) D 80 #[tv,xv,.bool false,.slice none 0 0,.slice none 0 0,.int .i64 0,.int .i64 0,.bool false,sv] := b6.set_ 7 _
  have b8 : Blk ((((((((w.setCell ⟨D,1,none⟩ xv).setCell ⟨D,2,none⟩ (.bool false)).setCell ⟨D,3,none⟩ (.slice none 0 0)).setCell ⟨D,4,none⟩ (.slice none 0 0)).setCell ⟨D,5,none⟩ (.int .i64 0)).setCell ⟨D,6,none⟩ (.int .i64 0)).setCell ⟨D,7,none⟩ (.bool false)).setCell ⟨D,8,none⟩ (.slice none 0 0)) D 80 #[tv,xv,.bool false,.slice none 0 0,.slice none 0 0,.int .i64 0,.int .i64 0,.bool false,.slice none 0 0] := b7.set_ 8 _
  exact ⟨b8,h.told.agree ha,hp.agree ha,RdFacts.nil,RdFacts.nil,rfl⟩
attribute [local go_sem ↓] Go.wp_at_zero Go.wp_at_succ
set_option maxRecDepth 100000 in
set_option maxHeartbeats 4000000 in
theorem deskRules {sp : StrataFn} (hsp : ∀ p,StrataIs p (sp p).1 (sp p).2) (D : Nat) (d : PDesk) (s : Str) (w : World) {T : Nat → Prop} (hTD : ¬ T D) (hTn : ∀ q,w.heap.size ≤ q → T q) (h : Dk T D d w) (hs : s.size ≤ 1048576) :
    Calls Tryz.prog 45 #[.pointer (some ⟨D,0,none⟩),.string s] w (DoPost T D (rulesP sp d s) w) := by
  obtain ⟨tv,rv,kv,nv,sv,hd⟩ := h.split
  obtain ⟨rn_,rf_⟩ := parse_ok s
  have hDw := hd.lt
  obtain ⟨W0,hW0⟩ : ∃ W0 : World,w.alloc (.cells #[.int .i64 0,.int .i64 0,.int .i64 0,.slice none 0 0,.string ⟨#[]⟩,.slice none 0 0,.int .i64 0,.slice none 0 0] 46) = W0 := ⟨_,rfl⟩
  have HD0 := Lib.hid (show DkAt (fun q => T q ∧ q ≠ w.heap.size) D d tv rv kv nv sv W0 by subst hW0;exact (hd.more (S' := fun q => T q ∧ q ≠ w.heap.size) fun q hq _ => ⟨hq.2,by omega⟩).alloc _)
  have HB0 := Lib.hid (show But D w W0 by subst hW0;exact (But.refl D w).alloc _)
  have HA0 := Lib.hid (show Blk W0 w.heap.size 46 #[.int .i64 0,.int .i64 0,.int .i64 0,.slice none 0 0,.string ⟨#[]⟩,.slice none 0 0,.int .i64 0,.slice none 0 0] by subst hW0;exact Blk.new w _ _)
  have KP := Lib.hid (show Calls Tryz.prog 37 #[.string s] W0 (ParsePost s W0) from parseCalls s W0 hs)
  have HTP := Lib.hid (show rulesP sp d s = if (parseF s).2.1 ≠ 0 then (d,ansE (parseF s).2.1 (parseF s).2.2) else if (sp (parseF s).1).2.1 ≠ 0 then (d,ansE (sp (parseF s).1).2.1 (sp (parseF s).1).2.2) else (⟨d.told,(parseF s).1,false,zeroRun,none⟩,ansN (parseF s).1.length) from rfl)
  have hss := hsp (parseF s).1
  have hA0 := HA0.out.lt
  unfold ParsePost at KP
  generalize rulesP sp d s = TP at *
  generalize parseF s = ps at *
  obtain ⟨p,e1,a1⟩ := ps
  generalize sp p = st at *
  obtain ⟨st,q1,q2⟩ := st
  dsimp only at *
  have KS := Lib.hid (fun W (v : Value) (h : RdRules (fun q => T q ∧ q ≠ w.heap.size) W v p) => strataTold hss h (by omega) (fun r hr => ruleOk_small (rf_ r hr)) (fun r hr => ruleOk_names (rf_ r hr)))
  clear hss rf_
  by_cases he1 : e1 = 0
  rotate_left
  · have HE := Lib.hid (show TP = (d,ansE e1 a1) by rw [HTP.out,if_pos he1])
    have hb : (e1 != 0) = true := by simpa using he1
    clear HTP he1 KS
    go_enter Tryz.func45,Tryz.ntmps45
    go_wp2_with (go_at_call 37;refine (KP.out).mono ?_;rintro e w1 ⟨⟨v,rfl,hr1⟩,hb1⟩;obtain ⟨va,vc,rfl,-,-,-⟩ := id hr1.form;have HD2 := Lib.hid ((HD0.out.below hb1).alloc (.cells #[.int .i64 e1,.int .i64 a1] 49));have HB2 := Lib.hid ((HB0.out.below hb1).alloc (.cells #[.int .i64 e1,.int .i64 a1] 49));have HA2 := Lib.hid ((HA0.out.below hb1 HA0.out.lt).alloc (.cells #[.int .i64 e1,.int .i64 a1] 49));have HF2 := Lib.hid (Blk.new w1 49 #[.int .i64 e1,.int .i64 a1]);have c0 := HA2.out.cell 0;have c1 := HA2.out.cell 1;have c2 := HA2.out.cell 2;have c3 := HA2.out.cell 3;have c4 := HA2.out.cell 4;have c5 := HA2.out.cell 5;have c6 := HA2.out.cell 6;have c7 := HA2.out.cell 7;have f0 := HA2.out.frozen 0;have f1 := HA2.out.frozen 1;have f2 := HA2.out.frozen 2;have f3 := HA2.out.frozen 3;have f4 := HA2.out.frozen 4;have f5 := HA2.out.frozen 5;have f6 := HA2.out.frozen 6;have f7 := HA2.out.frozen 7;simp only [List.getElem?_toArray,List.getElem?_cons_zero,List.getElem?_cons_succ] at c0 c1 c2 c3 c4 c5 c6 c7;have k0 := HF2.out.cell 0;have k1 := HF2.out.cell 1;simp only [List.getElem?_toArray,List.getElem?_cons_zero,List.getElem?_cons_succ] at k0 k1;clear hb1 hr1)
    refine bodyPost_ret (v := .agg #[.int .i64 e1,.int .i64 a1,.int .i64 0,.slice none 0 0,.string ⟨#[]⟩,.slice none 0 0,.int .i64 0,.slice none 0 0]) (by simp [results,Tryz.results45,go_sem,c0,c1,c2,c3,c4,c5,c6,c7]) rfl (DoPost.plain HE.out ((HD2.out.set8 (fun h => h.2 rfl) (by omega) _ _ _ _ _ _ _ _).dk (fun q hq => hq.1)) (but_set8 HB2.out (Nat.le_refl _) _ _ _ _ _ _ _ _))
  subst he1
  have HR1 := Lib.hid (fun (h : q1 ≠ 0) => show TP = (d,ansE q1 q2) by rw [HTP.out,if_neg (by decide),if_pos h])
  have HR2 := Lib.hid (fun (h : q1 = 0) => show TP = (⟨d.told,p,false,zeroRun,none⟩,ansN p.length) by rw [HTP.out,if_neg (by decide),if_neg (by simpa using h)])
  clear HTP
  by_cases hq : q1 = 0
  rotate_left
  · have HE := Lib.hid (HR1.out hq)
    have hb : (q1 != 0) = true := by simpa using hq
    clear HR1 HR2 hq
    go_enter Tryz.func45,Tryz.ntmps45
    go_wp2_with (first
      | (go_at_call 74;have hh := HD2.out;clear hh;refine (KS.out _ _ HV2.out).mono ?_;rintro e w3 ⟨hb3,a3,c3,rfl,hr3⟩;have HD4 := Lib.hid ((HD2.out.below hb3).alloc (.cells #[.int .i64 q1,.int .i64 q2] 49));have HB4 := Lib.hid ((HB2.out.below hb3).alloc (.cells #[.int .i64 q1,.int .i64 q2] 49));have HA4 := Lib.hid ((HA2.out.below hb3 HA2.out.lt).alloc (.cells #[.int .i64 q1,.int .i64 q2] 49));have HF4 := Lib.hid (Blk.new w3 49 #[.int .i64 q1,.int .i64 q2]);have c0 := HA4.out.cell 0;have c1 := HA4.out.cell 1;have c2 := HA4.out.cell 2;have c3 := HA4.out.cell 3;have c4 := HA4.out.cell 4;have c5 := HA4.out.cell 5;have c6 := HA4.out.cell 6;have c7 := HA4.out.cell 7;have f0 := HA4.out.frozen 0;have f1 := HA4.out.frozen 1;have f2 := HA4.out.frozen 2;have f3 := HA4.out.frozen 3;have f4 := HA4.out.frozen 4;have f5 := HA4.out.frozen 5;have f6 := HA4.out.frozen 6;have f7 := HA4.out.frozen 7;simp only [List.getElem?_toArray,List.getElem?_cons_zero,List.getElem?_cons_succ] at c0 c1 c2 c3 c4 c5 c6 c7;have m0 := HF4.out.cell 0;have m1 := HF4.out.cell 1;simp only [List.getElem?_toArray,List.getElem?_cons_zero,List.getElem?_cons_succ] at m0 m1;clear hb3 hr3)
      | (go_at_call 37;refine (KP.out).mono ?_;rintro e w1 ⟨⟨v,rfl,hr1⟩,hb1⟩;obtain ⟨va,vc,rfl,-,-,-⟩ := id hr1.form;have HD2 := Lib.hid ((HD0.out.below hb1).alloc (.cells #[.int .i64 0,.int .i64 a1] 49));have HB2 := Lib.hid ((HB0.out.below hb1).alloc (.cells #[.int .i64 0,.int .i64 a1] 49));have HA2 := Lib.hid ((HA0.out.below hb1 HA0.out.lt).alloc (.cells #[.int .i64 0,.int .i64 a1] 49));have HF2 := Lib.hid (Blk.new w1 49 #[.int .i64 0,.int .i64 a1]);have HV2 := Lib.hid (RdRules.agree (RdSlice.more RRule.steady (S' := fun q => T q ∧ q ≠ w.heap.size) (fun q hq _ => by have h1 : W0.heap.size ≤ q := hq;have h2 := HD0.out.lt;exact ⟨hTn q (by omega),by omega⟩) hr1) ((Agree.refl _ _).alloc (.cells #[.int .i64 0,.int .i64 a1] 49)));have k0 := HF2.out.cell 0;have k1 := HF2.out.cell 1;simp only [List.getElem?_toArray,List.getElem?_cons_zero,List.getElem?_cons_succ] at k0 k1;clear hb1 hr1))
    refine bodyPost_ret (v := .agg #[.int .i64 q1,.int .i64 q2,.int .i64 0,.slice none 0 0,.string ⟨#[]⟩,.slice none 0 0,.int .i64 0,.slice none 0 0]) (by simp [results,Tryz.results45,go_sem,c0,c1,c2,c3,c4,c5,c6,c7]) rfl (DoPost.plain HE.out ((HD4.out.set8 (fun h => h.2 rfl) (by omega) _ _ _ _ _ _ _ _).dk (fun q hq => hq.1)) (but_set8 HB4.out (Nat.le_refl _) _ _ _ _ _ _ _ _))
  subst hq
  have HE := Lib.hid (HR2.out rfl)
  clear HR1 HR2
  go_enter Tryz.func45,Tryz.ntmps45
  go_wp2_with (first
    | (go_at_call 74;have hh := HD2.out;clear hh;refine (KS.out _ _ HV2.out).mono ?_;rintro e w3 ⟨hb3,a3,c3,rfl,hr3⟩;have HV4 := Lib.hid (RdRules.agree (RdRules.agree HV2.out (Below.agree hb3)) ((Agree.refl _ _).alloc (.cells #[.int .i64 0,.int .i64 q2] 49)));have HD4 := Lib.hid ((HD2.out.below hb3).alloc (.cells #[.int .i64 0,.int .i64 q2] 49));have HB4 := Lib.hid ((HB2.out.below hb3).alloc (.cells #[.int .i64 0,.int .i64 q2] 49));have HA4 := Lib.hid ((HA2.out.below hb3 HA2.out.lt).alloc (.cells #[.int .i64 0,.int .i64 q2] 49));have HF4 := Lib.hid (Blk.new w3 49 #[.int .i64 0,.int .i64 q2]);have c0 := HA4.out.cell 0;have c1 := HA4.out.cell 1;have c2 := HA4.out.cell 2;have c3 := HA4.out.cell 3;have c4 := HA4.out.cell 4;have c5 := HA4.out.cell 5;have c6 := HA4.out.cell 6;have c7 := HA4.out.cell 7;have f0 := HA4.out.frozen 0;have f1 := HA4.out.frozen 1;have f2 := HA4.out.frozen 2;have f3 := HA4.out.frozen 3;have f4 := HA4.out.frozen 4;have f5 := HA4.out.frozen 5;have f6 := HA4.out.frozen 6;have f7 := HA4.out.frozen 7;simp only [List.getElem?_toArray,List.getElem?_cons_zero,List.getElem?_cons_succ] at c0 c1 c2 c3 c4 c5 c6 c7;have m0 := HF4.out.cell 0;have m1 := HF4.out.cell 1;simp only [List.getElem?_toArray,List.getElem?_cons_zero,List.getElem?_cons_succ] at m0 m1;have t1 := HD4.out.blk.cell 1;have s1 := HD4.out.blk.frozen 1;have t2 := HD4.out.blk.cell 2;have s2 := HD4.out.blk.frozen 2;have t3 := HD4.out.blk.cell 3;have s3 := HD4.out.blk.frozen 3;have t4 := HD4.out.blk.cell 4;have s4 := HD4.out.blk.frozen 4;have t5 := HD4.out.blk.cell 5;have s5 := HD4.out.blk.frozen 5;have t6 := HD4.out.blk.cell 6;have s6 := HD4.out.blk.frozen 6;have t7 := HD4.out.blk.cell 7;have s7 := HD4.out.blk.frozen 7;have t8 := HD4.out.blk.cell 8;have s8 := HD4.out.blk.frozen 8;simp only [List.getElem?_toArray,List.getElem?_cons_zero,List.getElem?_cons_succ] at t1 t2 t3 t4 t5 t6 t7 t8;clear hb3 hr3)
    | (go_at_call 37;refine (KP.out).mono ?_;rintro e w1 ⟨⟨v,rfl,hr1⟩,hb1⟩;obtain ⟨va,vc,rfl,-,-,-⟩ := id hr1.form;have HD2 := Lib.hid ((HD0.out.below hb1).alloc (.cells #[.int .i64 0,.int .i64 a1] 49));have HB2 := Lib.hid ((HB0.out.below hb1).alloc (.cells #[.int .i64 0,.int .i64 a1] 49));have HA2 := Lib.hid ((HA0.out.below hb1 HA0.out.lt).alloc (.cells #[.int .i64 0,.int .i64 a1] 49));have HF2 := Lib.hid (Blk.new w1 49 #[.int .i64 0,.int .i64 a1]);have HV2 := Lib.hid (RdRules.agree (RdSlice.more RRule.steady (S' := fun q => T q ∧ q ≠ w.heap.size) (fun q hq _ => by have h1 : W0.heap.size ≤ q := hq;have h2 := HD0.out.lt;exact ⟨hTn q (by omega),by omega⟩) hr1) ((Agree.refl _ _).alloc (.cells #[.int .i64 0,.int .i64 a1] 49)));have k0 := HF2.out.cell 0;have k1 := HF2.out.cell 1;simp only [List.getElem?_toArray,List.getElem?_cons_zero,List.getElem?_cons_succ] at k0 k1;clear hb1 hr1))
  have HD5 := Lib.hid (HD4.out.setRules (fun h => hTD h.1) HV4.out)
  have HB5 := Lib.hid ((((((((HB4.out.setCell (p := ⟨D,1,none⟩) (.inl rfl) (.slice va p.length vc)).setCell (p := ⟨D,2,none⟩) (.inl rfl) (.bool false)).setCell (p := ⟨D,3,none⟩) (.inl rfl) (.slice none 0 0)).setCell (p := ⟨D,4,none⟩) (.inl rfl) (.slice none 0 0)).setCell (p := ⟨D,5,none⟩) (.inl rfl) (.int .i64 0)).setCell (p := ⟨D,6,none⟩) (.inl rfl) (.int .i64 0)).setCell (p := ⟨D,7,none⟩) (.inl rfl) (.bool false)).setCell (p := ⟨D,8,none⟩) (.inl rfl) (.slice none 0 0))
  refine bodyPost_ret (v := .agg #[.int .i64 0,.int .i64 0,.int .i64 p.length,.slice none 0 0,.string ⟨#[]⟩,.slice none 0 0,.int .i64 0,.slice none 0 0]) (by simp [results,Tryz.results45,go_sem,c0,c1,c2,c3,c4,c5,c6,c7]) rfl (DoPost.plain HE.out ((HD5.out.set8 (fun h => h.2 rfl) (by omega) _ _ _ _ _ _ _ _).dk (fun q hq => hq.1)) (but_set8 HB5.out (Nat.le_refl _) _ _ _ _ _ _ _ _))
end Go.Proofs.YtiiicochdidolaaGreat
namespace Go.Proofs.YtiiicochdidolaaGreat
open Go.RowKit
attribute [local go_sem ↓] Go.wp_at_zero Go.wp_at_succ
set_option maxRecDepth 100000 in
set_option maxHeartbeats 4000000 in
theorem deskAsk (D : Nat) (d : PDesk) (s : Str) (w : World) {T : Nat → Prop} (_hTD : ¬ T D) (hTn : ∀ q,w.heap.size ≤ q → T q) (h : Dk T D d w) (hs : s.size ≤ 1048576) (hk1 : d.run.known.length ≤ 1048576) (hk2 : ∀ x ∈ d.run.known,x.args.length ≤ 1048576) :
    Calls Tryz.prog 48 #[.pointer (some ⟨D,0,none⟩),.string s] w (DoPost T D (d,askP d s) w) := by
  obtain ⟨tv,rv,kv,nv,sv,hd⟩ := h.split
  obtain ⟨rn_,rf_⟩ := body_ok s
  obtain ⟨ka,kc,rfl,-,-,-⟩ := id hd.known.form
  have hDw := hd.lt
  obtain ⟨W0,hW0⟩ : ∃ W0 : World,w.alloc (.cells #[.int .i64 0,.int .i64 0,.int .i64 0,.slice none 0 0,.string ⟨#[]⟩,.slice none 0 0,.int .i64 0,.slice none 0 0] 46) = W0 := ⟨_,rfl⟩
  have HD0 := Lib.hid (show DkAt (fun q => T q ∧ q ≠ w.heap.size) D d tv rv (.slice ka d.run.known.length kc) nv sv W0 by subst hW0;exact (hd.more (S' := fun q => T q ∧ q ≠ w.heap.size) fun q hq _ => ⟨hq.2,by omega⟩).alloc _)
  have HB0 := Lib.hid (show But D w W0 by subst hW0;exact (But.refl D w).alloc _)
  have HA0 := Lib.hid (show Blk W0 w.heap.size 46 #[.int .i64 0,.int .i64 0,.int .i64 0,.slice none 0 0,.string ⟨#[]⟩,.slice none 0 0,.int .i64 0,.slice none 0 0] by subst hW0;exact Blk.new w _ _)
  have KP := Lib.hid (show Calls Tryz.prog 9 #[.string s] W0 (BodyPost s W0) from bodyTextCalls s W0 hs)
  have HTP := Lib.hid (show askP d s = if (parseBodyF s).2.1 ≠ 0 then ansE (parseBodyF s).2.1 (parseBodyF s).2.2 else if (d.running && d.run.done) = false then ansE 11 0
    else if (allP (parseBodyF s).1 d.run.known).2 ≠ 0 then ansE (allP (parseBodyF s).1 d.run.known).2 0 else ⟨0,0,(allP (parseBodyF s).1 d.run.known).1.length,(allP (parseBodyF s).1 d.run.known).1,zeroPf⟩ from rfl)
  have hA0 := HA0.out.lt
  unfold BodyPost at KP
  generalize askP d s = TP at *
  generalize parseBodyF s = ps at *
  obtain ⟨p,e1,a1⟩ := ps
  dsimp only at *
  have KA := Lib.hid (fun W (v : Value) (hv : RdAtoms (fun q => T q ∧ q ≠ w.heap.size) W v p) (hk : RdFacts (fun q => T q ∧ q ≠ w.heap.size) W (.slice ka d.run.known.length kc) d.run.known) => allReads v p (.slice ka d.run.known.length kc) d.run.known W hv hk (by omega) (fun a ha => by have := (rf_ a ha).many;omega) (fun a ha t ht => by have := name12 ((rf_ a ha).terms t ht).1;omega) hk1 hk2)
  generalize allP p d.run.known = ax at *
  obtain ⟨ls,e2⟩ := ax
  dsimp only at *
  clear rf_ rn_ hk2
  by_cases he1 : e1 = 0
  rotate_left
  · have HE := Lib.hid (show (d,TP) = (d,ansE e1 a1) by rw [HTP.out,if_pos he1])
    have hb : (e1 != 0) = true := by simpa using he1
    clear HTP he1 KA
    go_enter Tryz.func48,Tryz.ntmps48
    go_wp2_with (go_at_call 9;refine (KP.out).mono ?_;rintro e w1 ⟨⟨v,rfl,hr1⟩,hb1⟩;obtain ⟨va,vc,rfl,-,-,-⟩ := id hr1.form;have HD2 := Lib.hid ((HD0.out.below hb1).alloc (.cells #[.int .i64 e1,.int .i64 a1] 49));have HB2 := Lib.hid ((HB0.out.below hb1).alloc (.cells #[.int .i64 e1,.int .i64 a1] 49));have HA2 := Lib.hid ((HA0.out.below hb1 HA0.out.lt).alloc (.cells #[.int .i64 e1,.int .i64 a1] 49));have HF2 := Lib.hid (Blk.new w1 49 #[.int .i64 e1,.int .i64 a1]);have c0 := HA2.out.cell 0;have c1 := HA2.out.cell 1;have c2 := HA2.out.cell 2;have c3 := HA2.out.cell 3;have c4 := HA2.out.cell 4;have c5 := HA2.out.cell 5;have c6 := HA2.out.cell 6;have c7 := HA2.out.cell 7;have f0 := HA2.out.frozen 0;have f1 := HA2.out.frozen 1;have f2 := HA2.out.frozen 2;have f3 := HA2.out.frozen 3;have f4 := HA2.out.frozen 4;have f5 := HA2.out.frozen 5;have f6 := HA2.out.frozen 6;have f7 := HA2.out.frozen 7;simp only [List.getElem?_toArray,List.getElem?_cons_zero,List.getElem?_cons_succ] at c0 c1 c2 c3 c4 c5 c6 c7;have k0 := HF2.out.cell 0;have k1 := HF2.out.cell 1;simp only [List.getElem?_toArray,List.getElem?_cons_zero,List.getElem?_cons_succ] at k0 k1;clear hb1 hr1)
    refine bodyPost_ret (v := .agg #[.int .i64 e1,.int .i64 a1,.int .i64 0,.slice none 0 0,.string ⟨#[]⟩,.slice none 0 0,.int .i64 0,.slice none 0 0]) (by simp [results,Tryz.results48,go_sem,c0,c1,c2,c3,c4,c5,c6,c7]) rfl (DoPost.plain HE.out ((HD2.out.set8 (fun h => h.2 rfl) (by omega) _ _ _ _ _ _ _ _).dk (fun q hq => hq.1)) (but_set8 HB2.out (Nat.le_refl _) _ _ _ _ _ _ _ _))
  subst he1
  have hcs : (d.running = false) ∨ (d.running = true ∧ d.run.done = false) ∨ (d.running = true ∧ d.run.done = true) := by
    cases d.running <;> cases d.run.done <;> simp
  rcases hcs with h1 | ⟨h1,h2⟩ | ⟨h1,h2⟩
  · have HE := Lib.hid (show (d,TP) = (d,ansE 11 0) by rw [HTP.out,if_neg (by decide),if_pos (by rw [h1];rfl)])
    clear HTP KA
    go_enter Tryz.func48,Tryz.ntmps48
    go_wp2_with (go_at_call 9;refine (KP.out).mono ?_;rintro e w1 ⟨⟨v,rfl,hr1⟩,hb1⟩;obtain ⟨va,vc,rfl,-,-,-⟩ := id hr1.form;have HD2 := Lib.hid ((HD0.out.below hb1).alloc (.cells #[.int .i64 0,.int .i64 a1] 49));have HB2 := Lib.hid ((HB0.out.below hb1).alloc (.cells #[.int .i64 0,.int .i64 a1] 49));have HA2 := Lib.hid ((HA0.out.below hb1 HA0.out.lt).alloc (.cells #[.int .i64 0,.int .i64 a1] 49));have HF2 := Lib.hid (Blk.new w1 49 #[.int .i64 0,.int .i64 a1]);have HV2 := Lib.hid (RdSlice.agree RAtom.steady ((Agree.refl _ _).alloc (.cells #[.int .i64 0,.int .i64 a1] 49)) (RdSlice.more RAtom.steady (S' := fun q => T q ∧ q ≠ w.heap.size) (fun q hq _ => by have h1 : W0.heap.size ≤ q := hq;have h2 := HD0.out.lt;exact ⟨hTn q (by omega),by omega⟩) hr1));have c0 := HA2.out.cell 0;have c1 := HA2.out.cell 1;have c2 := HA2.out.cell 2;have c3 := HA2.out.cell 3;have c4 := HA2.out.cell 4;have c5 := HA2.out.cell 5;have c6 := HA2.out.cell 6;have c7 := HA2.out.cell 7;have f0 := HA2.out.frozen 0;have f1 := HA2.out.frozen 1;have f2 := HA2.out.frozen 2;have f3 := HA2.out.frozen 3;have f4 := HA2.out.frozen 4;have f5 := HA2.out.frozen 5;have f6 := HA2.out.frozen 6;have f7 := HA2.out.frozen 7;simp only [List.getElem?_toArray,List.getElem?_cons_zero,List.getElem?_cons_succ] at c0 c1 c2 c3 c4 c5 c6 c7;have k0 := HF2.out.cell 0;have k1 := HF2.out.cell 1;simp only [List.getElem?_toArray,List.getElem?_cons_zero,List.getElem?_cons_succ] at k0 k1;have t2 := HD2.out.blk.cell 2;have t3 := HD2.out.blk.cell 3;have t7 := HD2.out.blk.cell 7;simp only [List.getElem?_toArray,List.getElem?_cons_zero,List.getElem?_cons_succ,h1] at t2 t3 t7;clear hb1 hr1)
    refine bodyPost_ret (v := .agg #[.int .i64 11,.int .i64 0,.int .i64 0,.slice none 0 0,.string ⟨#[]⟩,.slice none 0 0,.int .i64 0,.slice none 0 0]) (by simp [results,Tryz.results48,go_sem,c0,c1,c2,c3,c4,c5,c6,c7]) rfl (DoPost.plain HE.out ((HD2.out.set8 (fun h => h.2 rfl) (by omega) _ _ _ _ _ _ _ _).dk (fun q hq => hq.1)) (but_set8 HB2.out (Nat.le_refl _) _ _ _ _ _ _ _ _))
  · have HE := Lib.hid (show (d,TP) = (d,ansE 11 0) by rw [HTP.out,if_neg (by decide),if_pos (by rw [h1,h2];rfl)])
    clear HTP KA
    go_enter Tryz.func48,Tryz.ntmps48
    go_wp2_with (go_at_call 9;refine (KP.out).mono ?_;rintro e w1 ⟨⟨v,rfl,hr1⟩,hb1⟩;obtain ⟨va,vc,rfl,-,-,-⟩ := id hr1.form;have HD2 := Lib.hid ((HD0.out.below hb1).alloc (.cells #[.int .i64 0,.int .i64 a1] 49));have HB2 := Lib.hid ((HB0.out.below hb1).alloc (.cells #[.int .i64 0,.int .i64 a1] 49));have HA2 := Lib.hid ((HA0.out.below hb1 HA0.out.lt).alloc (.cells #[.int .i64 0,.int .i64 a1] 49));have HF2 := Lib.hid (Blk.new w1 49 #[.int .i64 0,.int .i64 a1]);have HV2 := Lib.hid (RdSlice.agree RAtom.steady ((Agree.refl _ _).alloc (.cells #[.int .i64 0,.int .i64 a1] 49)) (RdSlice.more RAtom.steady (S' := fun q => T q ∧ q ≠ w.heap.size) (fun q hq _ => by have h1 : W0.heap.size ≤ q := hq;have h2 := HD0.out.lt;exact ⟨hTn q (by omega),by omega⟩) hr1));have c0 := HA2.out.cell 0;have c1 := HA2.out.cell 1;have c2 := HA2.out.cell 2;have c3 := HA2.out.cell 3;have c4 := HA2.out.cell 4;have c5 := HA2.out.cell 5;have c6 := HA2.out.cell 6;have c7 := HA2.out.cell 7;have f0 := HA2.out.frozen 0;have f1 := HA2.out.frozen 1;have f2 := HA2.out.frozen 2;have f3 := HA2.out.frozen 3;have f4 := HA2.out.frozen 4;have f5 := HA2.out.frozen 5;have f6 := HA2.out.frozen 6;have f7 := HA2.out.frozen 7;simp only [List.getElem?_toArray,List.getElem?_cons_zero,List.getElem?_cons_succ] at c0 c1 c2 c3 c4 c5 c6 c7;have k0 := HF2.out.cell 0;have k1 := HF2.out.cell 1;simp only [List.getElem?_toArray,List.getElem?_cons_zero,List.getElem?_cons_succ] at k0 k1;have t2 := HD2.out.blk.cell 2;have t3 := HD2.out.blk.cell 3;have t7 := HD2.out.blk.cell 7;simp only [List.getElem?_toArray,List.getElem?_cons_zero,List.getElem?_cons_succ,h1,h2] at t2 t3 t7;clear hb1 hr1)
    refine bodyPost_ret (v := .agg #[.int .i64 11,.int .i64 0,.int .i64 0,.slice none 0 0,.string ⟨#[]⟩,.slice none 0 0,.int .i64 0,.slice none 0 0]) (by simp [results,Tryz.results48,go_sem,c0,c1,c2,c3,c4,c5,c6,c7]) rfl (DoPost.plain HE.out ((HD2.out.set8 (fun h => h.2 rfl) (by omega) _ _ _ _ _ _ _ _).dk (fun q hq => hq.1)) (but_set8 HB2.out (Nat.le_refl _) _ _ _ _ _ _ _ _))
  have HTP2 := Lib.hid (show TP = if e2 ≠ 0 then ansE e2 0 else ⟨0,0,ls.length,ls,zeroPf⟩ by rw [HTP.out,if_neg (by decide),if_neg (by rw [h1,h2];decide)])
  clear HTP
  by_cases he2 : e2 = 0
  rotate_left
  · have HE := Lib.hid (show (d,TP) = (d,ansE e2 0) by rw [HTP2.out,if_pos he2])
    have hb : (e2 != 0) = true := by simpa using he2
    clear HTP2 he2
    go_enter Tryz.func48,Tryz.ntmps48
    go_wp2_with (first
      | (go_at_call 10;have hh := HD2.out;clear hh;refine (KA.out _ _ HV2.out HD2.out.known).mono ?_;rintro e w3 ⟨⟨a3,z3,rfl,hr3⟩,hb3⟩;have HD4 := Lib.hid (HD2.out.below hb3);have HB4 := Lib.hid (HB2.out.below hb3);have HA4 := Lib.hid (HA2.out.below hb3 HA2.out.lt);have c0 := HA4.out.cell 0;have c1 := HA4.out.cell 1;have c2 := HA4.out.cell 2;have c3 := HA4.out.cell 3;have c4 := HA4.out.cell 4;have c5 := HA4.out.cell 5;have c6 := HA4.out.cell 6;have c7 := HA4.out.cell 7;have f0 := HA4.out.frozen 0;have f1 := HA4.out.frozen 1;have f2 := HA4.out.frozen 2;have f3 := HA4.out.frozen 3;have f4 := HA4.out.frozen 4;have f5 := HA4.out.frozen 5;have f6 := HA4.out.frozen 6;have f7 := HA4.out.frozen 7;simp only [List.getElem?_toArray,List.getElem?_cons_zero,List.getElem?_cons_succ] at c0 c1 c2 c3 c4 c5 c6 c7;clear hb3 hr3)
      | (go_at_call 9;refine (KP.out).mono ?_;rintro e w1 ⟨⟨v,rfl,hr1⟩,hb1⟩;obtain ⟨va,vc,rfl,-,-,-⟩ := id hr1.form;have HD2 := Lib.hid ((HD0.out.below hb1).alloc (.cells #[.int .i64 0,.int .i64 a1] 49));have HB2 := Lib.hid ((HB0.out.below hb1).alloc (.cells #[.int .i64 0,.int .i64 a1] 49));have HA2 := Lib.hid ((HA0.out.below hb1 HA0.out.lt).alloc (.cells #[.int .i64 0,.int .i64 a1] 49));have HF2 := Lib.hid (Blk.new w1 49 #[.int .i64 0,.int .i64 a1]);have HV2 := Lib.hid (RdSlice.agree RAtom.steady ((Agree.refl _ _).alloc (.cells #[.int .i64 0,.int .i64 a1] 49)) (RdSlice.more RAtom.steady (S' := fun q => T q ∧ q ≠ w.heap.size) (fun q hq _ => by have h1 : W0.heap.size ≤ q := hq;have h2 := HD0.out.lt;exact ⟨hTn q (by omega),by omega⟩) hr1));have c0 := HA2.out.cell 0;have c1 := HA2.out.cell 1;have c2 := HA2.out.cell 2;have c3 := HA2.out.cell 3;have c4 := HA2.out.cell 4;have c5 := HA2.out.cell 5;have c6 := HA2.out.cell 6;have c7 := HA2.out.cell 7;have f0 := HA2.out.frozen 0;have f1 := HA2.out.frozen 1;have f2 := HA2.out.frozen 2;have f3 := HA2.out.frozen 3;have f4 := HA2.out.frozen 4;have f5 := HA2.out.frozen 5;have f6 := HA2.out.frozen 6;have f7 := HA2.out.frozen 7;simp only [List.getElem?_toArray,List.getElem?_cons_zero,List.getElem?_cons_succ] at c0 c1 c2 c3 c4 c5 c6 c7;have k0 := HF2.out.cell 0;have k1 := HF2.out.cell 1;simp only [List.getElem?_toArray,List.getElem?_cons_zero,List.getElem?_cons_succ] at k0 k1;have t2 := HD2.out.blk.cell 2;have t3 := HD2.out.blk.cell 3;have t7 := HD2.out.blk.cell 7;simp only [List.getElem?_toArray,List.getElem?_cons_zero,List.getElem?_cons_succ,h1,h2] at t2 t3 t7;clear hb1 hr1))
    refine bodyPost_ret (v := .agg #[.int .i64 e2,.int .i64 0,.int .i64 0,.slice none 0 0,.string ⟨#[]⟩,.slice none 0 0,.int .i64 0,.slice none 0 0]) (by simp [results,Tryz.results48,go_sem,c0,c1,c2,c3,c4,c5,c6,c7]) rfl (DoPost.plain HE.out ((HD4.out.set8 (fun h => h.2 rfl) (by omega) _ _ _ _ _ _ _ _).dk (fun q hq => hq.1)) (but_set8 HB4.out (Nat.le_refl _) _ _ _ _ _ _ _ _))
  subst he2
  have HE := Lib.hid (show TP = ⟨0,0,ls.length,ls,zeroPf⟩ by rw [HTP2.out,if_neg (by decide)])
  clear HTP2
  go_enter Tryz.func48,Tryz.ntmps48
  go_wp2_with (first
    | (go_at_call 10;have hh := HD2.out;clear hh;refine (KA.out _ _ HV2.out HD2.out.known).mono ?_;rintro e w3 ⟨⟨a3,z3,rfl,hr3⟩,hb3⟩;have HD4 := Lib.hid (HD2.out.below hb3);have HB4 := Lib.hid (HB2.out.below hb3);have HA4 := Lib.hid (HA2.out.below hb3 HA2.out.lt);have HR4 := Lib.hid hr3;have c0 := HA4.out.cell 0;have c1 := HA4.out.cell 1;have c2 := HA4.out.cell 2;have c3 := HA4.out.cell 3;have c4 := HA4.out.cell 4;have c5 := HA4.out.cell 5;have c6 := HA4.out.cell 6;have c7 := HA4.out.cell 7;have f0 := HA4.out.frozen 0;have f1 := HA4.out.frozen 1;have f2 := HA4.out.frozen 2;have f3 := HA4.out.frozen 3;have f4 := HA4.out.frozen 4;have f5 := HA4.out.frozen 5;have f6 := HA4.out.frozen 6;have f7 := HA4.out.frozen 7;simp only [List.getElem?_toArray,List.getElem?_cons_zero,List.getElem?_cons_succ] at c0 c1 c2 c3 c4 c5 c6 c7;clear hb3 hr3)
    | (go_at_call 9;refine (KP.out).mono ?_;rintro e w1 ⟨⟨v,rfl,hr1⟩,hb1⟩;obtain ⟨va,vc,rfl,-,-,-⟩ := id hr1.form;have HD2 := Lib.hid ((HD0.out.below hb1).alloc (.cells #[.int .i64 0,.int .i64 a1] 49));have HB2 := Lib.hid ((HB0.out.below hb1).alloc (.cells #[.int .i64 0,.int .i64 a1] 49));have HA2 := Lib.hid ((HA0.out.below hb1 HA0.out.lt).alloc (.cells #[.int .i64 0,.int .i64 a1] 49));have HF2 := Lib.hid (Blk.new w1 49 #[.int .i64 0,.int .i64 a1]);have HV2 := Lib.hid (RdSlice.agree RAtom.steady ((Agree.refl _ _).alloc (.cells #[.int .i64 0,.int .i64 a1] 49)) (RdSlice.more RAtom.steady (S' := fun q => T q ∧ q ≠ w.heap.size) (fun q hq _ => by have h1 : W0.heap.size ≤ q := hq;have h2 := HD0.out.lt;exact ⟨hTn q (by omega),by omega⟩) hr1));have c0 := HA2.out.cell 0;have c1 := HA2.out.cell 1;have c2 := HA2.out.cell 2;have c3 := HA2.out.cell 3;have c4 := HA2.out.cell 4;have c5 := HA2.out.cell 5;have c6 := HA2.out.cell 6;have c7 := HA2.out.cell 7;have f0 := HA2.out.frozen 0;have f1 := HA2.out.frozen 1;have f2 := HA2.out.frozen 2;have f3 := HA2.out.frozen 3;have f4 := HA2.out.frozen 4;have f5 := HA2.out.frozen 5;have f6 := HA2.out.frozen 6;have f7 := HA2.out.frozen 7;simp only [List.getElem?_toArray,List.getElem?_cons_zero,List.getElem?_cons_succ] at c0 c1 c2 c3 c4 c5 c6 c7;have k0 := HF2.out.cell 0;have k1 := HF2.out.cell 1;simp only [List.getElem?_toArray,List.getElem?_cons_zero,List.getElem?_cons_succ] at k0 k1;have t2 := HD2.out.blk.cell 2;have t3 := HD2.out.blk.cell 3;have t7 := HD2.out.blk.cell 7;simp only [List.getElem?_toArray,List.getElem?_cons_zero,List.getElem?_cons_succ,h1,h2] at t2 t3 t7;clear hb1 hr1))
  have hs2 := HA2.out.lt
  refine bodyPost_ret (v := .agg #[.int .i64 0,.int .i64 0,.int .i64 ls.length,.slice a3 ls.length z3,.string ⟨#[]⟩,.slice none 0 0,.int .i64 0,.slice none 0 0]) (by simp [results,Tryz.results48,go_sem,c0,c1,c2,c3,c4,c5,c6,c7]) rfl ?_
  refine ⟨(HD4.out.set8 (fun h => h.2 rfl) (by omega) _ _ _ _ _ _ _ _).dk (fun q hq => hq.1),but_set8 HB4.out (Nat.le_refl _) _ _ _ _ _ _ _ _,a3,z3,⟨#[]⟩,none,0,0,0,none,0,0,?_,?_⟩
  · rw [HE.out]
  · rw [HE.out];exact (RdSlice.agree RBinds.steady (agree_set8 (S := fun q => q ≠ w.heap.size ∧ w.heap.size ≤ q) (by omega) _ _ _ _ _ _ _ _) (RdSlice.more RBinds.steady (fun q hq _ => by omega) HR4.out)).more RBinds.steady (fun q hq _ => hq.2)
end Go.Proofs.YtiiicochdidolaaGreat
