/-
  strings.Join AND strings.Builder AT THIS PROGRAM; syntax.Atom WALKED.
-/
import Derived.Test.YtobbjapmdpkogaaStrLay
import Derived.Test.YtobbjapmdpkogaaSynA
import Derived.Test.YtobbjapmdpkogaaCheckW1
namespace Go.Proofs.Ytobbjapmdpkogaa
open Go.RowKit

theorem extra156 : Builder.Extra Try.prog Try.lays156_ren where
  sizeBuilder := by kernel_rfl
  liesBuilder := by kernel_rfl
  t5 := Try.underlying5
  a5 := Try.isAgg5
  z5 := Try.sizeOf5
  v5 := Try.zeroValue5
  infoByte := by kernel_rfl
  cellsByte := by kernel_rfl
  sizeByte := by kernel_rfl
  neB5 := by decide
theorem extra166 : Builder.Extra Try.prog Try.lays166_ren where
  sizeBuilder := by kernel_rfl
  liesBuilder := by kernel_rfl
  t5 := Try.underlying5
  a5 := Try.isAgg5
  z5 := Try.sizeOf5
  v5 := Try.zeroValue5
  infoByte := by kernel_rfl
  cellsByte := by kernel_rfl
  sizeByte := by kernel_rfl
  neB5 := by decide
theorem extra169 : Builder.Extra Try.prog Try.lays169_ren where
  sizeBuilder := by kernel_rfl
  liesBuilder := by kernel_rfl
  t5 := Try.underlying5
  a5 := Try.isAgg5
  z5 := Try.sizeOf5
  v5 := Try.zeroValue5
  infoByte := by kernel_rfl
  cellsByte := by kernel_rfl
  sizeByte := by kernel_rfl
  neB5 := by decide

theorem joinStr (bk o c : Nat) (xs : List ByteArray) (sep : ByteArray) (w : World) (hcells : ∀ (j : Nat) x, xs[j]? = some x → w.cell? ⟨bk, o + j, none⟩ = some (.string x)) (hbk : bk < w.heap.size) (hN : xs.length ≤ 140737488355328) (hcap : xs.length ≤ c) (hlen : (Lib.join (xs.map (·.data.toList)) sep.data.toList).length ≤ 140737488355328) :
    Calls Try.prog 59 #[.slice (some ⟨bk, o, none⟩) xs.length c, .string sep] w fun e w' => e = .returned (.string ⟨(Lib.join (xs.map (·.data.toList)) sep.data.toList).toArray⟩) ∧ Below w.heap.size w w' :=
  Any.strings_Join Try.lays156 extra156 bk o c xs sep w hcells hbk hN hcap hlen
theorem writeB (B b : Nat) (bs : List Value) (s : ByteArray) (w : World) (h : Lib.IsBuilderF 88 5 B b bs w) (hlen : bs.length + s.size ≤ 140737488355328) (hBw : B ≤ w.heap.size) :
    Calls Try.prog 53 #[.pointer (some ⟨b, 0, none⟩), .string s] w fun e w' => e = .returned (.tuple #[.int .i64 s.size, .nilIface]) ∧ (Lib.BuilderAtF 88 5 B b (.pointer (some ⟨b, 0, none⟩)) (bs ++ Lib.strCells s) w' ∧ Below B w w' ∧ Lib.OthersKept 5 (some b) w w') :=
  Any.Builder_WriteString_k Try.lays166 extra166 B b bs s w h hlen hBw
theorem stringB (B b : Nat) (l : List UInt8) (w : World) (h : Lib.IsBuilderF 88 5 B b (Lib.byteCells l) w) (hBw : B ≤ w.heap.size) :
    Calls Try.prog 54 #[.pointer (some ⟨b, 0, none⟩)] w fun e w' => e = .returned (.string ⟨l.toArray⟩) ∧ (Lib.IsBuilderF 88 5 B b (Lib.byteCells l) w' ∧ Below B w w' ∧ Lib.OthersKept 5 (some b) w w') :=
  Any.Builder_String_any_k Try.lays169 extra169 B b l w h hBw

theorem namesB_join : ∀ l : List PTerm, namesB l = Lib.join (l.map fun t => t.name.data.toList) [44]
  | [] => rfl
  | [t] => by rw [List.map_cons, List.map_nil, Lib.join_one]; simp [namesB]
  | t :: u :: l => by
    have ih := namesB_join (u :: l)
    rw [List.map_cons, Lib.join_cons, List.map_cons]
    rw [List.map_cons, Lib.join_cons] at ih
    show t.name.data.toList ++ 44 :: namesB (u :: l) = _
    rw [ih]
    simp [Lib.joinTail]
theorem namesB_length : ∀ l : List PTerm, (∀ t ∈ l, t.name.size ≤ 1048576) → (namesB l).length ≤ l.length * 1048577
  | [], _ => by simp [namesB]
  | [t], h => by
    have := h t (by simp)
    simp only [namesB, List.length_append, Array.length_toList, List.length_nil, List.length_cons]
    have e : t.name.data.size = t.name.size := rfl
    omega
  | t :: u :: l, h => by
    have := h t (by simp)
    have ih := namesB_length (u :: l) (fun x hx => h x (by simp [hx]))
    show (t.name.data.toList ++ 44 :: namesB (u :: l)).length ≤ _
    simp only [List.length_append, Array.length_toList, List.length_cons] at ih ⊢
    have e : t.name.data.size = t.name.size := rfl
    omega
theorem strOf_app (a b : Str) : a ++ b = strOf (a.data.toList ++ b.data.toList) := by
  cases a; cases b
  simp [strOf]
  rfl
end Go.Proofs.Ytobbjapmdpkogaa
