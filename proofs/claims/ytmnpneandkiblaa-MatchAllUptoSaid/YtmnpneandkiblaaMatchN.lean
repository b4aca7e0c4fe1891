/-
  ROWS IN A ROW: a slice of lists of binds, each in a row of its own, all apart.
-/
import Derived.Test.YtmnpneandkiblaaOwn
import Derived.Test.YtmnpneandkiblaaMatchL
namespace Go.Proofs.Ytmnpneandkiblaa
open Go.RowKit

theorem RBind.one {S : Nat → Prop} {w : World} {cs : List Value} {x : PBind} (h : RBind S w cs x) : ∀ u ∈ cs, u.oneCell' = true := by
  have h' : cs = [.string x.var, .string x.name] := h
  subst h'; simp [Value.oneCell']
theorem RBinds.one {S : Nat → Prop} {w : World} {cs : List Value} {x : Binds} (h : RBinds S w cs x) : ∀ u ∈ cs, u.oneCell' = true := by
  obtain ⟨v, rfl, hr⟩ := h
  obtain ⟨a, c, rfl, -⟩ := hr.form
  simp [Value.oneCell']
theorem rowBinds : RowT Try.prog 24 34 2 := RowT.mk' (b := 32) (z := .agg #[.string ⟨#[]⟩, .string ⟨#[]⟩]) Try.underlying24 (by kernel_rfl) (by omega) rfl (by omega)
theorem rowBindss : RowT Try.prog 25 24 1 := RowT.mk' (b := 24) (z := .slice none 0 0) Try.underlying25 (by kernel_rfl) (by omega) rfl (by omega)

/-- A list of binds, and the slice that holds it. -/
abbrev VB := Value × Binds
def RPair : Reader VB := fun _ _ cs z => cs = [z.1] ∧ z.1.oneCell' = true
theorem RPair.steady : Steady RPair := ⟨fun _ h => h, fun _ h => h⟩
theorem RPair.one {S : Nat → Prop} {w : World} {cs : List Value} {x : VB} (h : RPair S w cs x) : ∀ u ∈ cs, u.oneCell' = true := by
  obtain ⟨rfl, h⟩ := h
  simpa using h
abbrev OB (B : Nat) (w : World) (v : Value) (l : Binds) : Prop := Owned 2 RBind B 34 (fun _ => False) w v l
abbrev OV (B : Nat) (w : World) (v : Value) (zs : List VB) : Prop := Owned 1 RPair B 24 (fun _ => False) w v zs

structure Nest (B : Nat) (w : World) (v : Value) (zs : List VB) : Prop where
  outer : OV B w v zs
  inner : ∀ z ∈ zs, OB B w z.1 z.2
  apart : zs.Pairwise fun y z => ∀ b, y.1.ownBlock = some b → z.1.ownBlock ≠ some b
  off : ∀ z ∈ zs, ∀ b, z.1.ownBlock = some b → v.ownBlock ≠ some b

theorem Owned.kept {α : Type} {k : Nat} {R : Reader α} (hR : Steady R) {B : Nat} {e : TypeId} {w w' : World} {v : Value} {l : List α} (h : Owned k R B e (fun _ => False) w v l) {row : Option Nat} (hg : w.grownBy w' row) (hne : ∀ q, v.ownBlock = some q → row ≠ some q) : Owned k R B e (fun _ => False) w' v l :=
  h.keep hR ⟨hg.size, fun b hb _ => hb.elim⟩ fun g hg' => hg.block g (h.row_lt hg').2 (fun e => hne g hg' e.symm)

section
variable {B : Nat} {w w' : World} {v v' : Value} {zs : List VB}
theorem Nest.nil : Nest B w (.slice none 0 0) [] := ⟨Owned.nil, by simp, List.Pairwise.nil, by simp⟩
theorem Nest.below (h : Nest B w v zs) (hb : Below w.heap.size w w') : Nest B w' v zs :=
  ⟨h.outer.below RPair.steady hb, fun z hz => (h.inner z hz).below RBind.steady hb, h.apart, h.off⟩
theorem Nest.alloc (h : Nest B w v zs) (o : Obj) : Nest B (w.alloc o) v zs := h.below ((Below.refl _ _).alloc (Nat.le_refl _) o)
theorem Nest.row_lt (h : Nest B w v zs) {g : Nat} (hg : v.ownBlock = some g) : B ≤ g ∧ g < w.heap.size := h.outer.row_lt hg
theorem Nest.inner_lt (h : Nest B w v zs) {z : VB} (hz : z ∈ zs) {g : Nat} (hg : z.1.ownBlock = some g) : B ≤ g ∧ g < w.heap.size := (h.inner z hz).row_lt hg
/-- Behind what turns none of its rows. -/
theorem Nest.kept (h : Nest B w v zs) {row : Option Nat} (hg : w.grownBy w' row) (hr : ∀ q, row = some q → q < B) : Nest B w' v zs :=
  ⟨h.outer.kept RPair.steady hg (fun q hq e => by have := (h.row_lt hq).1; have := hr q e; omega), fun z hz => (h.inner z hz).kept RBind.steady hg (fun q hq e => by have := (h.inner_lt hz hq).1; have := hr q e; omega), h.apart, h.off⟩
/-- Behind an append to the outer row. -/
theorem Nest.snoc (h : Nest B w v zs) {z : VB} (hz : OB B w z.1 z.2) (ha : ∀ y ∈ zs, ∀ b, y.1.ownBlock = some b → z.1.ownBlock ≠ some b) (hv : ∀ b, z.1.ownBlock = some b → v.ownBlock ≠ some b)
    (ho : OV B w' v' (zs ++ [z])) (hg : w.grownBy w' v.ownBlock) (hat : v'.ownBlock = v.ownBlock ∨ v'.ownBlock = some w.heap.size) : Nest B w' v' (zs ++ [z]) := by
  refine ⟨ho, fun y hy => ?_, ?_, fun y hy b hb => ?_⟩
  · rcases List.mem_append.1 hy with hy | hy
    · exact (h.inner y hy).kept RBind.steady hg (fun q hq e => h.off y hy q hq e)
    · obtain rfl := List.mem_singleton.1 hy
      exact hz.kept RBind.steady hg (fun q hq e => hv q hq e)
  · refine List.pairwise_append.2 ⟨h.apart, List.pairwise_singleton _ _, fun y hy y' hy' => ?_⟩
    obtain rfl := List.mem_singleton.1 hy'
    exact ha y hy
  · have hlt : b < w.heap.size := by
      rcases List.mem_append.1 hy with hy | hy
      · exact (h.inner_lt hy hb).2
      · obtain rfl := List.mem_singleton.1 hy
        exact (hz.row_lt hb).2
    have hvb : v.ownBlock ≠ some b := by
      rcases List.mem_append.1 hy with hy | hy
      · exact h.off y hy b hb
      · obtain rfl := List.mem_singleton.1 hy
        exact hv b hb
    rcases hat with hat | hat
    · rw [hat]; exact hvb
    · rw [hat]; intro e; injection e with e; omega
/-- Behind what turns the outer row alone, and strikes some. -/
theorem Nest.filter (h : Nest B w v zs) (p : VB → Bool) (ho : OV B w' v' (zs.filter p)) (hg : w.grownBy w' v.ownBlock) (hv : v'.ownBlock = v.ownBlock) : Nest B w' v' (zs.filter p) :=
  ⟨ho, fun z hz => (h.inner z (List.mem_filter.1 hz).1).kept RBind.steady hg (fun q hq e => h.off z (List.mem_filter.1 hz).1 q hq e), h.apart.filter _, fun z hz b hb => by rw [hv]; exact h.off z (List.mem_filter.1 hz).1 b hb⟩
/-- Behind what turns one inner row alone. -/
theorem Nest.turn {us bs : List VB} {z : VB} {l : Binds} (h : Nest B w v (us ++ z :: bs)) (hz : OB B w' z.1 l) (ho : OV B w v (us ++ (z.1, l) :: bs)) (hg : w.grownBy w' z.1.ownBlock) : Nest B w' v (us ++ (z.1, l) :: bs) := by
  have hmem : z ∈ us ++ z :: bs := by simp
  obtain ⟨p1, p2, p3⟩ := List.pairwise_append.1 h.apart
  obtain ⟨p4, p5⟩ := List.pairwise_cons.1 p2
  refine ⟨ho.kept RPair.steady hg (fun q hq e => h.off z hmem q e hq), fun y hy => ?_, ?_, fun y hy b hb => ?_⟩
  · rcases List.mem_append.1 hy with hy | hy
    · exact (h.inner y (by simp [hy])).kept RBind.steady hg (fun q hq e => p3 y hy z (by simp) q hq e)
    · rcases List.mem_cons.1 hy with rfl | hy
      · exact hz
      · exact (h.inner y (by simp [hy])).kept RBind.steady hg (fun q hq e => p4 y hy q e hq)
  · refine List.pairwise_append.2 ⟨p1, List.pairwise_cons.2 ⟨p4, p5⟩, fun y hy y' hy' => ?_⟩
    rcases List.mem_cons.1 hy' with rfl | hy'
    · exact p3 y hy z (by simp)
    · exact p3 y hy y' (by simp [hy'])
  · rcases List.mem_append.1 hy with hy | hy
    · exact h.off y (by simp [hy]) b hb
    · rcases List.mem_cons.1 hy with rfl | hy
      · exact h.off z hmem b hb
      · exact h.off y (by simp [hy]) b hb
/-- The lists of a row of pairs may be told anew. -/
theorem OV.tell {ys : List VB} (h : OV B w v zs) (hl : ys.map (·.1) = zs.map (·.1)) : OV B w v ys := by
  obtain ⟨css, h1, h2, h3, h4⟩ := h
  have hlen : ys.length = zs.length := by have := congrArg List.length hl; simpa using this
  refine ⟨css, by omega, h2, by rw [hlen]; exact h3, fun i cs x hc hx => ?_⟩
  have hi := (List.getElem?_eq_some_iff.1 hx).1
  obtain ⟨y, hy⟩ : ∃ y, zs[i]? = some y := ⟨_, List.getElem?_eq_getElem (by omega)⟩
  have he : x.1 = y.1 := by
    have h5 : (ys.map (·.1))[i]? = some x.1 := by rw [List.getElem?_map, hx]; rfl
    have h6 : (zs.map (·.1))[i]? = some y.1 := by rw [List.getElem?_map, hy]; rfl
    rw [hl, h6] at h5
    exact (Option.some.inj h5).symm
  have := h4 i cs y hc hy
  unfold RPair at *
  rw [he]; exact this
/-- What one owns reads, of one's own block alone. -/
theorem OB.read {x : Value} {l : Binds} (h : OB B w x l) : RdBinds (fun b => x.ownBlock = some b) w x l := by
  have h' := h
  obtain ⟨css, h1, h2, ho, h3⟩ := h
  rcases ho.2 with ⟨rfl, h0⟩ | ⟨g, cap, cur, rfl, hb, hgg, hnc, hcm, hcs, htake⟩
  · refine ⟨none, 0, by rw [h0], by omega, Nat.zero_le _, fun _ => rfl, fun i x hx => ?_⟩
    have := (List.getElem?_eq_some_iff.1 hx).1
    omega
  · refine ⟨some ⟨g, 0, none⟩, cap, rfl, hnc, hcm, (fun h => by cases h), fun i x hx => ?_⟩
    have hi := (List.getElem?_eq_some_iff.1 hx).1
    obtain ⟨cs, hcss⟩ : ∃ cs, css[i]? = some cs := ⟨_, List.getElem?_eq_getElem (by omega)⟩
    refine ⟨g, 0, cs, rfl, rfl, (Array.getElem?_eq_some_iff.1 hgg).1, h2 cs (List.mem_of_getElem? hcss), fun j u hu => ?_, h3 i cs x hcss hx⟩
    have := ho.cells (g := g) rfl (i * 2 + j) u (flatten_get css h2 i cs j u hcss hu)
    have hadd : (⟨g, 0, none⟩ : Addr).add (i * 2 + j) = ⟨g, 0 + i * 2 + j, none⟩ := by unfold Addr.add; split <;> simp_all
    rwa [hadd] at this
theorem OB.slice {x : Value} {l : Binds} (h : OB B w x l) : x.oneCell' = true := by
  obtain ⟨a, c, rfl, -⟩ := (OB.read h).form
  simp [Value.oneCell']
theorem Nest.reads (h : Nest B w v zs) : Owned 1 RBinds B 24 (fun b => B ≤ b) w v (zs.map (·.2)) := by
  obtain ⟨css, h1, h2, h3, h4⟩ := h.outer
  refine ⟨css, by simpa using h1, h2, by rw [List.length_map]; exact h3, fun i cs x hc hx => ?_⟩
  rw [List.getElem?_map] at hx
  cases hz : zs[i]? with
  | none => rw [hz] at hx; cases hx
  | some z =>
    rw [hz] at hx
    obtain rfl : z.2 = x := by simpa using hx
    have hm := List.mem_of_getElem? hz
    obtain ⟨rfl, -⟩ := h4 i cs z hc hz
    exact ⟨z.1, rfl, (OB.read (h.inner z hm)).more RBind.steady (fun b hb _ => ⟨(h.inner_lt hm hb).1, fun e => h.off z hm b hb e.symm⟩)⟩
end
end Go.Proofs.Ytmnpneandkiblaa
