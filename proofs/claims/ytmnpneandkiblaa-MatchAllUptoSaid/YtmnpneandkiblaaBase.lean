/-
  HOW THE PROGRAM'S DATA LIE IN MEMORY: 'RdSlice k R S w v l': the slice value v reads, in world w and in blocks of S alone, as the list l of elements of k cells; and what keeps a reading.
-/
import Derived.Test.YtmnpneandkiblaaPure
import Derived.Test.YtmnpneandkiblaaProg
import Derived.WalkKit
import Derived.WalkLawsBesides
import Derived.WalkSpells
import Derived.Outline
import Derived.Lib.Hide
import Derived.Deep.RegionHeld3
import Derived.Deep.AppendLies
import Derived.Deep.DrawnRows
import Derived.Deep.LoopGhost
import Derived.Laws.Pointers
import Derived.Sort.Grow
namespace Go.Proofs.Ytmnpneandkiblaa
open Go.RowKit

/-- A reading of an element's cells. -/
abbrev Reader (α : Type) := (Nat → Prop) → World → List Value → α → Prop

def RdSlice {α : Type} (k : Nat) (R : Reader α) (S : Nat → Prop) (w : World) (v : Value) (l : List α) : Prop :=
  ∃ a cap, v = .slice a l.length cap ∧ l.length ≤ cap ∧ cap ≤ maxLen ∧ (a = none → cap = 0) ∧
    ∀ i x, l[i]? = some x → ∃ b off cs, a = some ⟨b, off, none⟩ ∧ S b ∧ b < w.heap.size ∧ cs.length = k ∧
      (∀ j u, cs[j]? = some u → w.cell? ⟨b, off + i * k + j, none⟩ = some u) ∧ R S w cs x

/-- w' holds what w held in the blocks of S. -/
def Agree (S : Nat → Prop) (w w' : World) : Prop := w.heap.size ≤ w'.heap.size ∧ ∀ b, S b → b < w.heap.size → w'.heap[b]? = w.heap[b]?

/-- A reader that hangs on its blocks alone, and may be told of more blocks. -/
structure Steady {α : Type} (R : Reader α) : Prop where
  agree : ∀ {S w w' cs x}, Agree S w w' → R S w cs x → R S w' cs x
  more : ∀ {S S' : Nat → Prop} {w cs x}, (∀ b, S b → b < w.heap.size → S' b) → R S w cs x → R S' w cs x

theorem Agree.cell {S : Nat → Prop} {w w' : World} (h : Agree S w w') {b : Nat} (hS : S b) (hb : b < w.heap.size) (off : Nat) : w'.cell? ⟨b, off, none⟩ = w.cell? ⟨b, off, none⟩ :=
  World.cell?_of_block (h.2 b hS hb)

theorem RdSlice.agree {α : Type} {k : Nat} {R : Reader α} (hR : Steady R) {S : Nat → Prop} {w w' : World} {v : Value} {l : List α} (h : Agree S w w') (r : RdSlice k R S w v l) : RdSlice k R S w' v l := by
  obtain ⟨a, cap, hv, h1, h2, h0, h3⟩ := r
  refine ⟨a, cap, hv, h1, h2, h0, fun i x hx => ?_⟩
  obtain ⟨b, off, cs, ha, hS, hb, hk, hc, hr⟩ := h3 i x hx
  exact ⟨b, off, cs, ha, hS, Nat.lt_of_lt_of_le hb h.1, hk, fun j u hu => (h.cell hS hb _).trans (hc j u hu), hR.agree h hr⟩

theorem RdSlice.more {α : Type} {k : Nat} {R : Reader α} (hR : Steady R) {S S' : Nat → Prop} {w : World} {v : Value} {l : List α} (h : ∀ b, S b → b < w.heap.size → S' b) (r : RdSlice k R S w v l) : RdSlice k R S' w v l := by
  obtain ⟨a, cap, hv, h1, h2, h0, h3⟩ := r
  refine ⟨a, cap, hv, h1, h2, h0, fun i x hx => ?_⟩
  obtain ⟨b, off, cs, ha, hS, hb, hk, hc, hr⟩ := h3 i x hx
  exact ⟨b, off, cs, ha, h b hS hb, hb, hk, hc, hR.more h hr⟩

theorem Steady.slice {α : Type} {k : Nat} {R : Reader α} (hR : Steady R) {f : List Value → Value} : Steady (α := List α) (fun S w cs l => RdSlice k R S w (f cs) l) :=
  ⟨fun h r => r.agree hR h, fun h r => r.more hR h⟩

def RStr : Reader Str := fun _ _ cs s => cs = [.string s]
theorem RStr.steady : Steady RStr := ⟨fun _ h => h, fun _ h => h⟩
abbrev RdStrs := RdSlice 1 RStr
def RInt : Reader Int := fun _ _ cs n => cs = [.int .i64 n]
theorem RInt.steady : Steady RInt := ⟨fun _ h => h, fun _ h => h⟩
abbrev RdInts := RdSlice 1 RInt
def RFact : Reader PFact := fun S w cs f => ∃ av, cs = [.string f.name, av] ∧ RdStrs S w av f.args
theorem RFact.steady : Steady RFact :=
  ⟨fun h ⟨av, hc, r⟩ => ⟨av, hc, r.agree RStr.steady h⟩, fun h ⟨av, hc, r⟩ => ⟨av, hc, r.more RStr.steady h⟩⟩
abbrev RdFacts := RdSlice 2 RFact
def RTerm : Reader PTerm := fun _ _ cs t => cs = [.bool t.var, .string t.name]
theorem RTerm.steady : Steady RTerm := ⟨fun _ h => h, fun _ h => h⟩
abbrev RdTerms := RdSlice 2 RTerm
def RAtom : Reader PAtom := fun S w cs a => ∃ tv, cs = [.bool a.neg, .string a.name, tv] ∧ RdTerms S w tv a.terms
theorem RAtom.steady : Steady RAtom :=
  ⟨fun h ⟨av, hc, r⟩ => ⟨av, hc, r.agree RTerm.steady h⟩, fun h ⟨av, hc, r⟩ => ⟨av, hc, r.more RTerm.steady h⟩⟩
abbrev RdAtoms := RdSlice 3 RAtom
def RRule : Reader PRule := fun S w cs r => ∃ tv bv, cs = [.bool r.head.neg, .string r.head.name, tv, bv] ∧ RdTerms S w tv r.head.terms ∧ RdAtoms S w bv r.body
theorem RRule.steady : Steady RRule :=
  ⟨fun h ⟨tv, bv, hc, r, q⟩ => ⟨tv, bv, hc, r.agree RTerm.steady h, q.agree RAtom.steady h⟩, fun h ⟨tv, bv, hc, r, q⟩ => ⟨tv, bv, hc, r.more RTerm.steady h, q.more RAtom.steady h⟩⟩
abbrev RdRules := RdSlice 4 RRule
def RBind : Reader PBind := fun _ _ cs b => cs = [.string b.var, .string b.name]
theorem RBind.steady : Steady RBind := ⟨fun _ h => h, fun _ h => h⟩
abbrev RdBinds := RdSlice 2 RBind
def RBinds : Reader (List PBind) := fun S w cs l => ∃ v, cs = [v] ∧ RdBinds S w v l
theorem RBinds.steady : Steady RBinds :=
  ⟨fun h ⟨av, hc, r⟩ => ⟨av, hc, r.agree RBind.steady h⟩, fun h ⟨av, hc, r⟩ => ⟨av, hc, r.more RBind.steady h⟩⟩
abbrev RdBindss := RdSlice 1 RBinds

/-- Element i's cells. -/
theorem RdStrs.at {S : Nat → Prop} {w : World} {a : Option Addr} {n cap : Nat} {l : List Str} (h : RdStrs S w (.slice a n cap) l) {i : Nat} {x : Str} (hx : l[i]? = some x) :
    ∃ b off, a = some ⟨b, off, none⟩ ∧ S b ∧ b < w.heap.size ∧ w.cell? ⟨b, off + i, none⟩ = some (.string x) := by
  obtain ⟨a', cap', hv, _, _, _, h3⟩ := h
  obtain ⟨b, off, cs, ha, hS, hb, hk, hc, hr⟩ := h3 i x hx
  injection hv with e1 e2 e3
  subst e1
  have hr' : cs = [.string x] := hr
  subst hr'
  refine ⟨b, off, ha, hS, hb, ?_⟩
  have := hc 0 (.string x) rfl
  simpa using this

theorem RdInts.at {S : Nat → Prop} {w : World} {a : Option Addr} {n cap : Nat} {l : List Int} (h : RdInts S w (.slice a n cap) l) {i : Nat} {x : Int} (hx : l[i]? = some x) :
    ∃ b off, a = some ⟨b, off, none⟩ ∧ S b ∧ b < w.heap.size ∧ w.cell? ⟨b, off + i, none⟩ = some (.int .i64 x) := by
  obtain ⟨a', cap', hv, _, _, _, h3⟩ := h
  obtain ⟨b, off, cs, ha, hS, hb, hk, hc, hr⟩ := h3 i x hx
  injection hv with e1 e2 e3
  subst e1
  have hr' : cs = [.int .i64 x] := hr
  subst hr'
  refine ⟨b, off, ha, hS, hb, ?_⟩
  have := hc 0 (.int .i64 x) rfl
  simpa using this

theorem RdFacts.at {S : Nat → Prop} {w : World} {a : Option Addr} {n cap : Nat} {l : List PFact} (h : RdFacts S w (.slice a n cap) l) {i : Nat} {x : PFact} (hx : l[i]? = some x) :
    ∃ b off av, a = some ⟨b, off, none⟩ ∧ S b ∧ b < w.heap.size ∧ w.cell? ⟨b, off + i * 2, none⟩ = some (.string x.name) ∧ w.cell? ⟨b, off + i * 2 + 1, none⟩ = some av ∧ RdStrs S w av x.args := by
  obtain ⟨a', cap', hv, _, _, _, h3⟩ := h
  obtain ⟨b, off, cs, ha, hS, hb, hk, hc, av, hr, hq⟩ := h3 i x hx
  injection hv with e1 e2 e3
  subst e1
  subst hr
  refine ⟨b, off, av, ha, hS, hb, ?_, ?_, hq⟩
  · simpa using hc 0 _ rfl
  · simpa using hc 1 _ rfl

theorem RdSlice.form {α : Type} {k : Nat} {R : Reader α} {S : Nat → Prop} {w : World} {v : Value} {l : List α} (h : RdSlice k R S w v l) : ∃ a cap, v = .slice a l.length cap ∧ l.length ≤ cap ∧ cap ≤ maxLen ∧ (a = none → cap = 0) :=
  let ⟨a, cap, hv, h1, h2, h0, _⟩ := h; ⟨a, cap, hv, h1, h2, h0⟩

/-- A block of one's own that holds ints, as a slice over it. -/
theorem RdInts.block {S : Nat → Prop} {w : World} {b : Nat} {t : TypeId} {fr : Nat × Nat} {l : List Int} {n : Nat} (hl : l.length = n) (h : w.heap[b]? = some (.cells (l.map (Value.int .i64)).toArray t fr)) (hS : S b) (hm : n ≤ maxLen) :
    RdInts S w (.slice (some ⟨b, 0, none⟩) n n) l := by
  subst hl
  refine ⟨_, _, rfl, Nat.le_refl _, hm, (fun h => by cases h), fun i x hx => ⟨b, 0, [.int .i64 x], rfl, hS, (Array.getElem?_eq_some_iff.1 h).1, rfl, ?_, rfl⟩⟩
  intro j u hu
  match j, hu with
  | 0, hu =>
    have hu' : Value.int .i64 x = u := by simpa using hu
    subst hu'
    simp [World.cell?, h, hx]

theorem ret_int {k : IntKind} {a b : Int} (h : a = b) : Ending.returned (.int k a) = .returned (.int k b) := by rw [h]
theorem ret_bool {a b : Bool} (h : a = b) : Ending.returned (.bool a) = .returned (.bool b) := by rw [h]

theorem heap_new_at {w : World} {o : Obj} {n : Nat} (h : w.heap.size = n) : (w.alloc o).heap[n]? = some o := by subst h; exact heap_alloc_new w o

/-- Nothing but new blocks and draws. -/
def Fresh (w w' : World) : Prop := ∃ q os, w' = Sort.grow (w.drewN q) os
theorem Fresh.refl (w : World) : Fresh w w := ⟨0, #[], by simp [Sort.grow, World.drewN]⟩
theorem Fresh.alloc {w w' : World} (h : Fresh w w') (o : Obj) : Fresh w (w'.alloc o) := by
  obtain ⟨q, os, rfl⟩ := h
  exact ⟨q, os ++ #[o], by rw [Sort.alloc_eq_grow, Sort.grow_grow]⟩
theorem Fresh.drew {w w' : World} (h : Fresh w w') : Fresh w w'.drew := by
  obtain ⟨q, os, rfl⟩ := h
  exact ⟨q + 1, os, rfl⟩
theorem Fresh.trans {a b c : World} (h : Fresh a b) (k : Fresh b c) : Fresh a c := by
  obtain ⟨q, os, rfl⟩ := h
  obtain ⟨q', os', rfl⟩ := k
  exact ⟨q + q', os ++ os', by simp [Sort.grow, World.drewN, Nat.add_assoc]⟩
theorem Fresh.below {w w' : World} (h : Fresh w w') : Below w.heap.size w w' := by
  obtain ⟨q, os, rfl⟩ := h
  exact ⟨rfl, rfl, rfl, by simp [Sort.grow, World.drewN], fun k hk => by simp [Sort.grow, World.drewN, Array.getElem?_append, hk]⟩

theorem Below.agree' {B : Nat} {w w' : World} (h : Below B w w') : Agree (fun b => b < B) w w' := ⟨h.size, fun b hb _ => h.block b hb⟩
theorem Below.agree {S : Nat → Prop} {w w' : World} (h : Below w.heap.size w w') : Agree S w w' := ⟨h.size, fun b _ hb => h.block b hb⟩
theorem Agree.alloc {S : Nat → Prop} {w w' : World} (h : Agree S w w') (o : Obj) : Agree S w (w'.alloc o) :=
  ⟨Nat.le_trans h.1 (by simp), fun b hb hlt => (Below.heap_alloc _ _ _ (Nat.lt_of_lt_of_le hlt h.1)).trans (h.2 b hb hlt)⟩
theorem Agree.refl (S : Nat → Prop) (w : World) : Agree S w w := ⟨Nat.le_refl _, fun _ _ _ => rfl⟩
theorem Agree.trans {S : Nat → Prop} {a b c : World} (h : Agree S a b) (k : Agree S b c) : Agree S a c :=
  ⟨Nat.le_trans h.1 k.1, fun i hi hlt => (k.2 i hi (Nat.lt_of_lt_of_le hlt h.1)).trans (h.2 i hi hlt)⟩

theorem cell_below {B : Nat} {w w' : World} (h : Below B w w') {c : Nat} (hc : c < B) (off : Nat) : w'.cell? ⟨c, off, none⟩ = w.cell? ⟨c, off, none⟩ := h.cell (p := ⟨c, off, none⟩) hc
end Go.Proofs.Ytmnpneandkiblaa
