/-
  THE ENTRY OF A RUN: from the row's reading of an argument of type api.Run to RunRd.
-/
import Derived.Test.YtiaehkpimepbgaaGreatPk17
import Derived.Test.YtiaehkpimepbgaaGreatPk22
namespace Go.Proofs.YtiaehkpimepbgaaGreat
open Go.RowKit Go.ChangeShapes Go.WideShapes Go.Deep

theorem trod_struct5 {H : Type} {enc : TypeId × Value → H} {P : Program} {w : World} {base : Nat} {spare : Nat → Bool} {held : Bool} {t : TypeId} {f0 f1 f2 f3 f4 : Field} {fuel : Nat} {cs : List Value} {x : DataW H × List MemPlace} (ht : P.underlying t = some (.struct #[f0, f1, f2, f3, f4])) (h : DataW.trod enc P w base spare held fuel t cs = some x) :
    ∃ y0 y1 y2 y3 y4 n, x = (.agg [y0.1, y1.1, y2.1, y3.1, y4.1], y0.2 ++ (y1.2 ++ (y2.2 ++ (y3.2 ++ y4.2)))) ∧ cs.length = P.cellsOf t ∧ DataW.trod enc P w base spare held n f0.type ((cs.drop f0.offset).take (P.cellsOf f0.type)) = some y0 ∧
      DataW.trod enc P w base spare held n f1.type ((cs.drop f1.offset).take (P.cellsOf f1.type)) = some y1 ∧ DataW.trod enc P w base spare held n f2.type ((cs.drop f2.offset).take (P.cellsOf f2.type)) = some y2 ∧
      DataW.trod enc P w base spare held n f3.type ((cs.drop f3.offset).take (P.cellsOf f3.type)) = some y3 ∧ DataW.trod enc P w base spare held n f4.type ((cs.drop f4.offset).take (P.cellsOf f4.type)) = some y4 := by
  obtain ⟨xs, n, _, rfl, hl, hlen, hf⟩ := DataW.trod_struct ht h
  match xs, hlen with
  | [y0, y1, y2, y3, y4], _ => exact ⟨y0, y1, y2, y3, y4, n, by simp, hl, by simpa using hf 0 f0 rfl, by simpa using hf 1 f1 rfl, by simpa using hf 2 f2 rfl, by simpa using hf 3 f3 rfl, by simpa using hf 4 f4 rfl⟩
theorem list5 {l : List Value} (h : l.length = 5) : ∃ a b c d e, l = [a, b, c, d, e] := match l, h with | [a, b, c, d, e], _ => ⟨a, b, c, d, e, rfl⟩
def sizeRun (r : PRun) : Nat := 1 + sizeL sizeFact r.known + sizeL sizeFact r.new
def RRun : Reader PRun := fun S w cs r => ∃ kv nv, cs = [kv, nv, .int .i64 r.stratum, .int .i64 r.rounds, .bool r.done] ∧ RdFacts S w kv r.known ∧ RdFacts S w nv r.new
theorem openRun : Opens Tryz.prog 26 5 RRun sizeRun where
  cells := by kernel_rfl
  pos := by omega
  one _ := by simp only [sizeRun]; omega
  opn {H enc w n cs x} h := by
    obtain ⟨y0, y1, y2, y3, y4, n, rfl, hl, h0, h1, h2, h3, h4⟩ := trod_struct5 Tryz.underlying26 h
    rw [show Tryz.prog.cellsOf 26 = 5 by kernel_rfl] at hl
    obtain ⟨c0, c1, c2, c3, c4, rfl⟩ := list5 hl
    rw [show Tryz.prog.cellsOf 24 = 1 by kernel_rfl] at h0 h1
    rw [show Tryz.prog.cellsOf 3 = 1 by kernel_rfl] at h2 h3
    rw [show Tryz.prog.cellsOf 4 = 1 by kernel_rfl] at h4
    obtain ⟨v0, l0, e0, r0, b0⟩ := openFact.slice Tryz.underlying24 h0
    obtain ⟨v1, l1, e1, r1, b1⟩ := openFact.slice Tryz.underlying24 h1
    obtain ⟨s, e2, b2⟩ := openInt.opn h2
    obtain ⟨x, e3, b3⟩ := openInt.opn h3
    obtain ⟨d, e4, rfl⟩ := DataW.trod_bool Tryz.underlying4 h4
    obtain rfl : c0 = v0 := by simpa using e0
    obtain rfl : c1 = v1 := by simpa using e1
    obtain rfl : c2 = .int .i64 s := by simpa [RInt] using e2
    obtain rfl : c3 = .int .i64 x := by simpa [RInt] using e3
    obtain rfl : c4 = .bool d := by simpa using e4
    exact ⟨⟨l0, l1, s, x, d⟩, ⟨_, _, rfl, r0, r1⟩, by simp only [sizeRun, Rows.uptoBulk, Rows.uptoBulkAll]; omega⟩
theorem Opens.runArg {P : Program} {t : TypeId} {size : PRun → Nat} (h : Opens P t 5 RRun size) {fs : Array Field} (ht : P.underlying t = some (.struct fs)) {H : Type} {enc : TypeId × Value → H} {W : World} {r : Reach} {b : Nat} {v : Value} {d : DataW H} {p : List MemPlace}
    (hv : Value.okWide P W r b t v) (hd : DataW.Trod enc P W 0 (fun _ => true) true t v d p) : ∃ (x : PRun) (kv nv : Value), v = .agg #[kv, nv, .int .i64 x.stratum, .int .i64 x.rounds, .bool x.done] ∧ RunRd W x kv nv ∧ size x ≤ Rows.uptoBulk d := by
  obtain ⟨f, cs, rfl, ⟨kv, nv, e, h1, h2⟩, hb⟩ := h.arg ht hv hd
  exact ⟨f, kv, nv, by rw [← Array.toArray_toList (xs := cs), e], ⟨h1, h2⟩, hb⟩
end Go.Proofs.YtiaehkpimepbgaaGreat
