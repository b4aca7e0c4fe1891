/-
  THE TEXTS Pure, Base, MapW, EnvM, NamesP, Named, one behind the other.
-/
import Derived.Laws.Strings
import Derived.Test.YthieomebngiabaaProg
import Derived.WalkKit
import Derived.WalkLawsBesides
import Derived.WalkSpells
import Derived.Outline
import Derived.Lib.Hide
import Derived.Deep.RegionHeld3
import Derived.Deep.AppendLies
import Derived.Deep.DrawnRows
import Derived.Deep.LoopGhost
import Derived.Laws.Pointers
import Derived.Sort.Grow
import Derived.Maps.OwnSet
import Derived.Maps.OwnOps
import Derived.Maps.RangeWalk
import Derived.Maps.StringElems
namespace Go.Proofs.Ythieomebngiabaa
abbrev Str := ByteArray
structure PFact where
  name : Str
  args : List Str
  deriving DecidableEq
instance : Inhabited PFact := ⟨⟨ByteArray.empty, []⟩⟩
structure PTerm where
  var : Bool
  name : Str
  deriving DecidableEq
instance : Inhabited PTerm := ⟨⟨false, ByteArray.empty⟩⟩
structure PAtom where
  neg : Bool
  name : Str
  terms : List PTerm
  deriving DecidableEq
instance : Inhabited PAtom := ⟨⟨false, ByteArray.empty, []⟩⟩
structure PRule where
  head : PAtom
  body : List PAtom
  deriving DecidableEq
instance : Inhabited PRule := ⟨⟨default, []⟩⟩
structure PBind where
  var : Str
  name : Str
  deriving DecidableEq
instance : Inhabited PBind := ⟨⟨ByteArray.empty, ByteArray.empty⟩⟩
theorem bytesLess_irrefl : ∀ l : List UInt8, Op.bytesLess l l = false
  | [] => rfl
  | a :: x => by simp [Op.bytesLess, bytesLess_irrefl x]
theorem bytesLess_tri : ∀ a b : List UInt8, Op.bytesLess a b = false → Op.bytesLess b a = false → a = b
  | [], [], _, _ => rfl
  | [], _ :: _, h, _ => by simp [Op.bytesLess] at h
  | _ :: _, [], _, h => by simp [Op.bytesLess] at h
  | a :: x, b :: y, h, k => by
    simp only [Op.bytesLess, Bool.or_eq_false_iff, decide_eq_false_iff_not, Bool.and_eq_false_iff, beq_eq_false_iff_ne] at h k
    have e : a = b := UInt8.le_antisymm (UInt8.not_lt.1 k.1) (UInt8.not_lt.1 h.1)
    subst e
    have := bytesLess_tri x y (by simpa using h.2) (by simpa using k.2)
    rw [this]
theorem bytesLess_asymm : ∀ a b : List UInt8, Op.bytesLess a b = true → Op.bytesLess b a = false
  | [], [], h => by simp [Op.bytesLess] at h
  | [], _ :: _, _ => rfl
  | _ :: _, [], h => by simp [Op.bytesLess] at h
  | a :: x, b :: y, h => by
    simp only [Op.bytesLess, Bool.or_eq_true, decide_eq_true_eq, Bool.and_eq_true, beq_iff_eq] at h
    rcases h with h | ⟨rfl, h⟩
    · have h1 : ¬ b < a := fun h' => absurd (UInt8.lt_trans h h') (UInt8.lt_irrefl _)
      have h2 : b ≠ a := fun e => by subst e; exact UInt8.lt_irrefl _ h
      simp [Op.bytesLess, h1, h2]
    · simp [Op.bytesLess, bytesLess_asymm x y h]
theorem bytesLess_trans : ∀ a b c : List UInt8, Op.bytesLess a b = true → Op.bytesLess b c = true → Op.bytesLess a c = true
  | _, [], _, h, _ => by cases ‹List UInt8› <;> simp [Op.bytesLess] at h
  | _, _ :: _, [], _, h => by simp [Op.bytesLess] at h
  | [], _ :: _, _ :: _, _, _ => rfl
  | a :: x, b :: y, c :: z, h, k => by
    simp only [Op.bytesLess, Bool.or_eq_true, decide_eq_true_eq, Bool.and_eq_true, beq_iff_eq] at h k ⊢
    rcases h with h | ⟨rfl, h⟩ <;> rcases k with k | ⟨rfl, k⟩
    · exact .inl (UInt8.lt_trans h k)
    · exact .inl h
    · exact .inl k
    · exact .inr ⟨rfl, bytesLess_trans x y z h k⟩
theorem baList (a : ByteArray) : a.toList = a.data.toList := by
  exact ByteArray.toList_eq a
theorem toList_inj {a b : ByteArray} (h : a.toList = b.toList) : a = b := by
  rw [baList, baList] at h
  cases a; cases b
  simpa [Array.toList_inj] using h
def strLt (a b : Str) : Bool := Op.bytesLess a.toList b.toList
theorem strLt_irrefl (a : Str) : strLt a a = false := bytesLess_irrefl _
theorem strLt_asymm {a b : Str} (h : strLt a b = true) : strLt b a = false := bytesLess_asymm _ _ h
theorem strLt_trans {a b c : Str} (h : strLt a b = true) (k : strLt b c = true) : strLt a c = true := bytesLess_trans _ _ _ h k
theorem strLt_tri {a b : Str} (h : strLt a b = false) (k : strLt b a = false) : a = b := toList_inj (bytesLess_tri _ _ h k)
def memS (x : Str) : List Str → Bool
  | [] => false
  | y :: l => decide (x = y) || memS x l
theorem memS_iff (x : Str) : ∀ l, memS x l = true ↔ x ∈ l
  | [] => by simp [memS]
  | y :: l => by simp [memS, memS_iff x l]
def cmpStr (a b : Str) : Int := if strLt a b then -1 else if strLt b a then 1 else 0
def cmpInt (a b : Int) : Int := if a < b then -1 else if b < a then 1 else 0
def cmpStrs : List Str → List Str → Int
  | [], [] => 0
  | [], _ :: _ => -1
  | _ :: _, [] => 1
  | a :: x, b :: y => if cmpStr a b ≠ 0 then cmpStr a b else cmpStrs x y
def orInt : List Int → Int
  | [] => 0
  | a :: l => if a ≠ 0 then a else orInt l
def cmpFact (f g : PFact) : Int := orInt [cmpStr f.name g.name, cmpInt f.args.length g.args.length, cmpStrs f.args g.args]
end Go.Proofs.Ythieomebngiabaa
namespace Go.Proofs.Ythieomebngiabaa
open Go.RowKit
abbrev Reader (α : Type) := (Nat → Prop) → World → List Value → α → Prop
def RdSlice {α : Type} (k : Nat) (R : Reader α) (S : Nat → Prop) (w : World) (v : Value) (l : List α) : Prop :=
  ∃ a cap, v = .slice a l.length cap ∧ l.length ≤ cap ∧ cap ≤ maxLen ∧ (a = none → cap = 0) ∧
    ∀ i x, l[i]? = some x → ∃ b off cs, a = some ⟨b, off, none⟩ ∧ S b ∧ b < w.heap.size ∧ cs.length = k ∧
      (∀ j u, cs[j]? = some u → w.cell? ⟨b, off + i * k + j, none⟩ = some u) ∧ R S w cs x
def Agree (S : Nat → Prop) (w w' : World) : Prop := w.heap.size ≤ w'.heap.size ∧ ∀ b, S b → b < w.heap.size → w'.heap[b]? = w.heap[b]?
structure Steady {α : Type} (R : Reader α) : Prop where
  agree : ∀ {S w w' cs x}, Agree S w w' → R S w cs x → R S w' cs x
  more : ∀ {S S' : Nat → Prop} {w cs x}, (∀ b, S b → b < w.heap.size → S' b) → R S w cs x → R S' w cs x
theorem Agree.cell {S : Nat → Prop} {w w' : World} (h : Agree S w w') {b : Nat} (hS : S b) (hb : b < w.heap.size) (off : Nat) : w'.cell? ⟨b, off, none⟩ = w.cell? ⟨b, off, none⟩ :=
  World.cell?_of_block (h.2 b hS hb)
theorem RdSlice.agree {α : Type} {k : Nat} {R : Reader α} (hR : Steady R) {S : Nat → Prop} {w w' : World} {v : Value} {l : List α} (h : Agree S w w') (r : RdSlice k R S w v l) : RdSlice k R S w' v l := by
  obtain ⟨a, cap, hv, h1, h2, h0, h3⟩ := r
  refine ⟨a, cap, hv, h1, h2, h0, fun i x hx => ?_⟩
  obtain ⟨b, off, cs, ha, hS, hb, hk, hc, hr⟩ := h3 i x hx
  exact ⟨b, off, cs, ha, hS, Nat.lt_of_lt_of_le hb h.1, hk, fun j u hu => (h.cell hS hb _).trans (hc j u hu), hR.agree h hr⟩
theorem RdSlice.more {α : Type} {k : Nat} {R : Reader α} (hR : Steady R) {S S' : Nat → Prop} {w : World} {v : Value} {l : List α} (h : ∀ b, S b → b < w.heap.size → S' b) (r : RdSlice k R S w v l) : RdSlice k R S' w v l := by
  obtain ⟨a, cap, hv, h1, h2, h0, h3⟩ := r
  refine ⟨a, cap, hv, h1, h2, h0, fun i x hx => ?_⟩
  obtain ⟨b, off, cs, ha, hS, hb, hk, hc, hr⟩ := h3 i x hx
  exact ⟨b, off, cs, ha, h b hS hb, hb, hk, hc, hR.more h hr⟩
theorem Steady.slice {α : Type} {k : Nat} {R : Reader α} (hR : Steady R) {f : List Value → Value} : Steady (α := List α) (fun S w cs l => RdSlice k R S w (f cs) l) :=
  ⟨fun h r => r.agree hR h, fun h r => r.more hR h⟩
def RStr : Reader Str := fun _ _ cs s => cs = [.string s]
theorem RStr.steady : Steady RStr := ⟨fun _ h => h, fun _ h => h⟩
abbrev RdStrs := RdSlice 1 RStr
def RInt : Reader Int := fun _ _ cs n => cs = [.int .i64 n]
theorem RInt.steady : Steady RInt := ⟨fun _ h => h, fun _ h => h⟩
abbrev RdInts := RdSlice 1 RInt
def RFact : Reader PFact := fun S w cs f => ∃ av, cs = [.string f.name, av] ∧ RdStrs S w av f.args
theorem RFact.steady : Steady RFact :=
  ⟨fun h ⟨av, hc, r⟩ => ⟨av, hc, r.agree RStr.steady h⟩, fun h ⟨av, hc, r⟩ => ⟨av, hc, r.more RStr.steady h⟩⟩
abbrev RdFacts := RdSlice 2 RFact
def RTerm : Reader PTerm := fun _ _ cs t => cs = [.bool t.var, .string t.name]
theorem RTerm.steady : Steady RTerm := ⟨fun _ h => h, fun _ h => h⟩
abbrev RdTerms := RdSlice 2 RTerm
def RAtom : Reader PAtom := fun S w cs a => ∃ tv, cs = [.bool a.neg, .string a.name, tv] ∧ RdTerms S w tv a.terms
theorem RAtom.steady : Steady RAtom :=
  ⟨fun h ⟨av, hc, r⟩ => ⟨av, hc, r.agree RTerm.steady h⟩, fun h ⟨av, hc, r⟩ => ⟨av, hc, r.more RTerm.steady h⟩⟩
abbrev RdAtoms := RdSlice 3 RAtom
def RRule : Reader PRule := fun S w cs r => ∃ tv bv, cs = [.bool r.head.neg, .string r.head.name, tv, bv] ∧ RdTerms S w tv r.head.terms ∧ RdAtoms S w bv r.body
theorem RRule.steady : Steady RRule :=
  ⟨fun h ⟨tv, bv, hc, r, q⟩ => ⟨tv, bv, hc, r.agree RTerm.steady h, q.agree RAtom.steady h⟩, fun h ⟨tv, bv, hc, r, q⟩ => ⟨tv, bv, hc, r.more RTerm.steady h, q.more RAtom.steady h⟩⟩
abbrev RdRules := RdSlice 4 RRule
def RBind : Reader PBind := fun _ _ cs b => cs = [.string b.var, .string b.name]
theorem RBind.steady : Steady RBind := ⟨fun _ h => h, fun _ h => h⟩
abbrev RdBinds := RdSlice 2 RBind
def RBinds : Reader (List PBind) := fun S w cs l => ∃ v, cs = [v] ∧ RdBinds S w v l
theorem RBinds.steady : Steady RBinds :=
  ⟨fun h ⟨av, hc, r⟩ => ⟨av, hc, r.agree RBind.steady h⟩, fun h ⟨av, hc, r⟩ => ⟨av, hc, r.more RBind.steady h⟩⟩
abbrev RdBindss := RdSlice 1 RBinds
theorem RdStrs.at {S : Nat → Prop} {w : World} {a : Option Addr} {n cap : Nat} {l : List Str} (h : RdStrs S w (.slice a n cap) l) {i : Nat} {x : Str} (hx : l[i]? = some x) :
    ∃ b off, a = some ⟨b, off, none⟩ ∧ S b ∧ b < w.heap.size ∧ w.cell? ⟨b, off + i, none⟩ = some (.string x) := by
  obtain ⟨a', cap', hv, _, _, _, h3⟩ := h
  obtain ⟨b, off, cs, ha, hS, hb, hk, hc, hr⟩ := h3 i x hx
  injection hv with e1 e2 e3
  subst e1
  have hr' : cs = [.string x] := hr
  subst hr'
  refine ⟨b, off, ha, hS, hb, ?_⟩
  have := hc 0 (.string x) rfl
  simpa using this
theorem RdInts.at {S : Nat → Prop} {w : World} {a : Option Addr} {n cap : Nat} {l : List Int} (h : RdInts S w (.slice a n cap) l) {i : Nat} {x : Int} (hx : l[i]? = some x) :
    ∃ b off, a = some ⟨b, off, none⟩ ∧ S b ∧ b < w.heap.size ∧ w.cell? ⟨b, off + i, none⟩ = some (.int .i64 x) := by
  obtain ⟨a', cap', hv, _, _, _, h3⟩ := h
  obtain ⟨b, off, cs, ha, hS, hb, hk, hc, hr⟩ := h3 i x hx
  injection hv with e1 e2 e3
  subst e1
  have hr' : cs = [.int .i64 x] := hr
  subst hr'
  refine ⟨b, off, ha, hS, hb, ?_⟩
  have := hc 0 (.int .i64 x) rfl
  simpa using this
theorem RdFacts.at {S : Nat → Prop} {w : World} {a : Option Addr} {n cap : Nat} {l : List PFact} (h : RdFacts S w (.slice a n cap) l) {i : Nat} {x : PFact} (hx : l[i]? = some x) :
    ∃ b off av, a = some ⟨b, off, none⟩ ∧ S b ∧ b < w.heap.size ∧ w.cell? ⟨b, off + i * 2, none⟩ = some (.string x.name) ∧ w.cell? ⟨b, off + i * 2 + 1, none⟩ = some av ∧ RdStrs S w av x.args := by
  obtain ⟨a', cap', hv, _, _, _, h3⟩ := h
  obtain ⟨b, off, cs, ha, hS, hb, hk, hc, av, hr, hq⟩ := h3 i x hx
  injection hv with e1 e2 e3
  subst e1
  subst hr
  refine ⟨b, off, av, ha, hS, hb, ?_, ?_, hq⟩
  · simpa using hc 0 _ rfl
  · simpa using hc 1 _ rfl
theorem RdSlice.form {α : Type} {k : Nat} {R : Reader α} {S : Nat → Prop} {w : World} {v : Value} {l : List α} (h : RdSlice k R S w v l) : ∃ a cap, v = .slice a l.length cap ∧ l.length ≤ cap ∧ cap ≤ maxLen ∧ (a = none → cap = 0) :=
  let ⟨a, cap, hv, h1, h2, h0, _⟩ := h; ⟨a, cap, hv, h1, h2, h0⟩
theorem RdInts.block {S : Nat → Prop} {w : World} {b : Nat} {t : TypeId} {fr : Nat × Nat} {l : List Int} {n : Nat} (hl : l.length = n) (h : w.heap[b]? = some (.cells (l.map (Value.int .i64)).toArray t fr)) (hS : S b) (hm : n ≤ maxLen) :
    RdInts S w (.slice (some ⟨b, 0, none⟩) n n) l := by
  subst hl
  refine ⟨_, _, rfl, Nat.le_refl _, hm, (fun h => by cases h), fun i x hx => ⟨b, 0, [.int .i64 x], rfl, hS, (Array.getElem?_eq_some_iff.1 h).1, rfl, ?_, rfl⟩⟩
  intro j u hu
  match j, hu with
  | 0, hu =>
    have hu' : Value.int .i64 x = u := by simpa using hu
    subst hu'
    simp [World.cell?, h, hx]
theorem ret_int {k : IntKind} {a b : Int} (h : a = b) : Ending.returned (.int k a) = .returned (.int k b) := by rw [h]
theorem ret_bool {a b : Bool} (h : a = b) : Ending.returned (.bool a) = .returned (.bool b) := by rw [h]
theorem heap_new_at {w : World} {o : Obj} {n : Nat} (h : w.heap.size = n) : (w.alloc o).heap[n]? = some o := by subst h; exact heap_alloc_new w o
def Fresh (w w' : World) : Prop := ∃ q os, w' = Sort.grow (w.drewN q) os
theorem Fresh.refl (w : World) : Fresh w w := ⟨0, #[], by simp [Sort.grow, World.drewN]⟩
theorem Fresh.alloc {w w' : World} (h : Fresh w w') (o : Obj) : Fresh w (w'.alloc o) := by
  obtain ⟨q, os, rfl⟩ := h
  exact ⟨q, os ++ #[o], by rw [Sort.alloc_eq_grow, Sort.grow_grow]⟩
theorem Fresh.drew {w w' : World} (h : Fresh w w') : Fresh w w'.drew := by
  obtain ⟨q, os, rfl⟩ := h
  exact ⟨q + 1, os, rfl⟩
theorem Fresh.trans {a b c : World} (h : Fresh a b) (k : Fresh b c) : Fresh a c := by
  obtain ⟨q, os, rfl⟩ := h
  obtain ⟨q', os', rfl⟩ := k
  exact ⟨q + q', os ++ os', by simp [Sort.grow, World.drewN, Nat.add_assoc]⟩
theorem Fresh.below {w w' : World} (h : Fresh w w') : Below w.heap.size w w' := by
  obtain ⟨q, os, rfl⟩ := h
  exact ⟨rfl, rfl, rfl, by simp [Sort.grow, World.drewN], fun k hk => by simp [Sort.grow, World.drewN, Array.getElem?_append, hk]⟩
theorem Below.agree' {B : Nat} {w w' : World} (h : Below B w w') : Agree (fun b => b < B) w w' := ⟨h.size, fun b hb _ => h.block b hb⟩
theorem Below.agree {S : Nat → Prop} {w w' : World} (h : Below w.heap.size w w') : Agree S w w' := ⟨h.size, fun b _ hb => h.block b hb⟩
theorem Agree.alloc {S : Nat → Prop} {w w' : World} (h : Agree S w w') (o : Obj) : Agree S w (w'.alloc o) :=
  ⟨Nat.le_trans h.1 (by simp), fun b hb hlt => (Below.heap_alloc _ _ _ (Nat.lt_of_lt_of_le hlt h.1)).trans (h.2 b hb hlt)⟩
theorem Agree.refl (S : Nat → Prop) (w : World) : Agree S w w := ⟨Nat.le_refl _, fun _ _ _ => rfl⟩
theorem Agree.trans {S : Nat → Prop} {a b c : World} (h : Agree S a b) (k : Agree S b c) : Agree S a c :=
  ⟨Nat.le_trans h.1 k.1, fun i hi hlt => (k.2 i hi (Nat.lt_of_lt_of_le hlt h.1)).trans (h.2 i hi hlt)⟩
theorem cell_below {B : Nat} {w w' : World} (h : Below B w w') {c : Nat} (hc : c < B) (off : Nat) : w'.cell? ⟨c, off, none⟩ = w.cell? ⟨c, off, none⟩ := h.cell (p := ⟨c, off, none⟩) hc
end Go.Proofs.Ythieomebngiabaa
namespace Go.Proofs.Ythieomebngiabaa
open Go.RowKit Go.Maps
theorem lawStr : Keyed Try.prog 9 := string_keyed Try.underlying9
theorem zeroBool (w : World) : (zeroValue 4).run Try.prog w = .ok (.bool false) w := by kernel_rfl
def keyL (s : Str) : Lit := .string s.data.toList
theorem keyStr {s : Str} (h : s.size ≤ maxLen) : keyOf Try.prog 9 (.string s) = some (keyL s) := WideMaps.keyOf_string_mk Try.underlying9 h
theorem keyL_inj {s t : Str} (h : keyL s = keyL t) : s = t := by
  unfold keyL at h
  injection h with h
  cases s; cases t
  simpa [Array.toList_inj] using h
def MapI (w : World) (b n : Nat) (f : Str → Option Int) : Prop :=
  ∃ D : DataW Unit, w.ownsMap Try.prog 9 (plainElem Try.prog 3) b n D ∧ ∀ s, s.size ≤ maxLen → Maps.has D (keyL s) = (f s).isSome ∧ D.atKey (keyL s) (.lit (.int .i64 0)) = .lit (.int .i64 ((f s).getD 0))
section
variable {w w' : World} {b n : Nat} {f : Str → Option Int}
theorem MapI.lt (h : MapI w b n f) : b < w.heap.size := let ⟨_, h1, _⟩ := h; h1.lt
theorem MapI.kept {row : Option Nat} (h : MapI w b n f) (hg : w.grownBy w' row) (hne : some b ≠ row) : MapI w' b n f := let ⟨D, h1, h2⟩ := h; ⟨D, h1.kept hg hne, h2⟩
theorem MapI.below {B : Nat} (h : MapI w b n f) (hb : Below B w w') (hB : b < B) : MapI w' b n f := by
  obtain ⟨D, ⟨es, clock, h1, h2⟩, h3⟩ := h
  exact ⟨D, ⟨es, clock, (hb.block b hB).trans h1, h2⟩, h3⟩
theorem MapI.alloc (h : MapI w b n f) (o : Obj) : MapI (w.alloc o) b n f := h.kept (World.grownBy_alloc w o none) (by simp)
theorem MapI.drew (h : MapI w b n f) : MapI w.drew b n f := let ⟨D, h1, h2⟩ := h; ⟨D, h1.drew, h2⟩
theorem MapI.drewN (h : MapI w b n f) (k : Nat) : MapI (w.drewN k) b n f := h
theorem MapI.setCell (h : MapI w b n f) {a : Addr} (ha : b ≠ a.block) (u : Value) : MapI (w.setCell a u) b n f := let ⟨D, h1, h2⟩ := h; ⟨D, h1.setCell ha u, h2⟩
theorem MapI.made (w : World) : MapI (w.alloc (.map #[] 0)) w.heap.size 0 (fun _ => none) := ⟨.map [], World.ownsMap_made _ _ _ _, fun _ _ => ⟨rfl, rfl⟩⟩
end
def onceS (ks : List Str) : List Str := ks.foldl (fun acc x => if memS x acc then acc else acc ++ [x]) []
theorem any_key (s : Str) : ∀ ks : List Str, (ks.map keyL).any (fun y => y.sameKey (keyL s)) = memS s ks
  | [] => rfl
  | k :: ks => by
    rw [List.map_cons, List.any_cons, any_key s ks, memS]
    congr 1
    by_cases e : s = k
    · subst e
      rw [decide_eq_true rfl]
      simp [keyL, Lit.sameKey]
    · rw [decide_eq_false e]
      cases h : (keyL k).sameKey (keyL s)
      · rfl
      · exact absurd (keyL_inj (WideAt.sameKey_eq h)).symm e
theorem fold_addKey : ∀ (ks acc : List Str), (ks.map keyL).foldl Maps.addKey (acc.map keyL) = (ks.foldl (fun acc x => if memS x acc then acc else acc ++ [x]) acc).map keyL
  | [], acc => rfl
  | k :: ks, acc => by
    rw [List.map_cons, List.foldl_cons, List.foldl_cons]
    have : Maps.addKey (acc.map keyL) (keyL k) = (if memS k acc then acc else acc ++ [k]).map keyL := by
      unfold Maps.addKey
      rw [any_key]
      split <;> simp
    rw [this]
    exact fold_addKey ks _
def MapB (w : World) (b : Nat) (ks : List Str) : Prop :=
  w.ownsMap (H := Unit) Try.prog 9 (plainElem Try.prog 4) b ks.length (Maps.setOf (.lit (.bool true)) (ks.map keyL))
theorem keys_ok (ks : List Str) : ∀ x ∈ ks.map keyL, WideAt.IsKeyLit x := fun x hx => by
  obtain ⟨s, _, rfl⟩ := List.mem_map.1 hx
  trivial
theorem atKey_setOf (s : Str) (z : DataW Unit) (ks : List Str) : (Maps.setOf (.lit (.bool true)) (ks.map keyL)).atKey (keyL s) z = if memS s ks then .lit (.bool true) else z := by
  cases h : memS s ks
  · rw [Maps.atKey_of_not_has]
    · rfl
    · rw [Maps.has_setOf _ _ _ (keys_ok ks), any_key, h]
  · have main : ∀ (ks : List Str), memS s ks = true → (Maps.setOf (.lit (.bool true)) (ks.map keyL)).atKey (keyL s) z = .lit (.bool true) := by
      intro ks
      rw [← List.reverse_reverse ks]
      induction ks.reverse with
      | nil => intro h; simp [memS] at h
      | cons k r ih =>
        intro h
        rw [List.reverse_cons, List.map_append, List.map_cons, List.map_nil, Maps.setOf_snoc]
        by_cases e : s = k
        · subst e
          exact Maps.atKey_put_same (Maps.tidy_setOf _ _ (keys_ok _)).isMap (by trivial) _ _
        · rw [Maps.atKey_put_other (fun h => e (keyL_inj h))]
          refine ih ?_
          rw [memS_iff, List.reverse_cons, List.mem_append, List.mem_singleton] at h
          rw [memS_iff]
          exact h.elim id (fun h => absurd h e)
    exact main ks h
section
variable {w w' : World} {b : Nat} {ks : List Str}
theorem MapB.lt (h : MapB w b ks) : b < w.heap.size := World.ownsMap.lt h
theorem MapB.kept {row : Option Nat} (h : MapB w b ks) (hg : w.grownBy w' row) (hne : some b ≠ row) : MapB w' b ks := World.ownsMap.kept h hg hne
theorem MapB.below {B : Nat} (h : MapB w b ks) (hb : Below B w w') (hB : b < B) : MapB w' b ks := by
  obtain ⟨es, clock, h1, h2⟩ := h
  exact ⟨es, clock, (hb.block b hB).trans h1, h2⟩
theorem MapB.alloc (h : MapB w b ks) (o : Obj) : MapB (w.alloc o) b ks := h.kept (World.grownBy_alloc w o none) (by simp)
theorem MapB.setCell (h : MapB w b ks) {a : Addr} (ha : b ≠ a.block) (u : Value) : MapB (w.setCell a u) b ks := World.ownsMap.setCell h ha u
theorem MapB.made (w : World) : MapB (w.alloc (.map #[] 0)) w.heap.size [] := World.ownsMap_made _ _ _ _
set_option maxRecDepth 100000 in
theorem MapB.get (h : MapB w b ks) {s : Str} (hs : s.size ≤ maxLen) : (Instr.lookup 118 (.map (some b)) (.string s) false).run Try.prog w = .ok (.bool (memS s ks)) w := by
  obtain ⟨v, ps, hrun, hv⟩ := World.ownsMap.lookup h lawStr Try.underlying118 (zeroBool w) (zd := .lit (.bool false)) (zp := []) (plainElem_bool Try.underlying4 false) (keyStr hs)
  rw [atKey_setOf] at hv
  rw [hrun]
  have hb : ∃ x, v = .bool x ∧ (.lit (.bool x), []) = (if memS s ks then (.lit (.bool true) : DataW Unit) else .lit (.bool false), ps) := by
    have hu : Try.prog.underlying 4 = some .bool := Try.underlying4
    unfold plainElem at hv
    rw [hu] at hv
    cases v <;> simp at hv
    rename_i x
    exact ⟨x, rfl, by rw [Prod.mk.injEq]; exact ⟨hv.1, hv.2.symm⟩⟩
  obtain ⟨x, rfl, hx⟩ := hb
  injection hx with hx _
  cases hm : memS s ks <;> rw [hm] at hx <;> simp at hx <;> rw [hx]
theorem MapB.len (h : MapB w b ks) (ty : TypeId) : (Builtin.len_ #[118] ty #[.map (some b)]).run Try.prog w = .ok (.int .i64 ((onceS ks).length : Int)) w := by
  have := World.ownsMap.len h Try.underlying118 ty
  rw [Maps.size_setOf _ _ (keys_ok ks)] at this
  have e := fold_addKey ks []
  rw [List.map_nil] at e
  rw [e, List.length_map] at this
  exact this
set_option maxRecDepth 100000 in
theorem MapB.put (h : MapB w b ks) (hn : ks.length < maxLen) {s : Str} (hs : s.size ≤ maxLen) :
    ∃ w', (Instr.mapUpdate 118 (.map (some b)) (.string s) (.bool true)).run Try.prog w = .ok () w' ∧ MapB w' b (ks ++ [s]) ∧ w.grownBy w' (some b) := by
  obtain ⟨w', hrun, h3, h4⟩ := World.ownsMap.update h lawStr Try.underlying118 hn (keyStr hs) (plainElem_bool Try.underlying4 true)
  refine ⟨w', hrun, ?_, h4⟩
  unfold MapB
  rw [List.map_append, List.map_cons, List.map_nil, Maps.setOf_snoc, List.length_append]
  exact h3
end
end Go.Proofs.Ythieomebngiabaa
namespace Go.Proofs.Ythieomebngiabaa
open Go.RowKit Go.Maps
theorem zeroStrE (w : World) : (zeroValue 9).run Try.prog w = .ok (.string .empty) w := by kernel_rfl
def HoldsE (D : DataW Unit) (f : Str → Option Str) : Prop := ∀ s, s.size ≤ maxLen → Maps.has D (keyL s) = (f s).isSome ∧ ∀ x, f s = some x → ∀ z, D.atKey (keyL s) z = .lit (keyL x)
def MapE (w : World) (b n : Nat) (f : Str → Option Str) : Prop :=
  ∃ D : DataW Unit, w.ownsMap Try.prog 9 (plainElem Try.prog 9) b n D ∧ HoldsE D f
section
variable {w w' : World} {b n : Nat} {f : Str → Option Str}
theorem MapE.lt (h : MapE w b n f) : b < w.heap.size := let ⟨_, h1, _⟩ := h; h1.lt
theorem MapE.kept {row : Option Nat} (h : MapE w b n f) (hg : w.grownBy w' row) (hne : some b ≠ row) : MapE w' b n f := let ⟨D, h1, h2⟩ := h; ⟨D, h1.kept hg hne, h2⟩
theorem MapE.moved (h : MapE w b n f) (hb : w'.heap[b]? = w.heap[b]?) : MapE w' b n f := by
  obtain ⟨D, ⟨es, clock, h1, h2⟩, h3⟩ := h
  exact ⟨D, ⟨es, clock, hb.trans h1, h2⟩, h3⟩
theorem MapE.below {B : Nat} (h : MapE w b n f) (hb : Below B w w') (hB : b < B) : MapE w' b n f := h.moved (hb.block b hB)
theorem MapE.mono (h : MapE w b n f) {m : Nat} (hm : n ≤ m) : MapE w b m f := let ⟨D, h1, h2⟩ := h; ⟨D, h1.mono hm, h2⟩
theorem MapE.alloc (h : MapE w b n f) (o : Obj) : MapE (w.alloc o) b n f := h.kept (World.grownBy_alloc w o none) (by simp)
theorem MapE.setCell (h : MapE w b n f) {a : Addr} (ha : b ≠ a.block) (u : Value) : MapE (w.setCell a u) b n f := h.moved (Below.heap_setCell _ _ _ _ ha)
theorem MapE.made (w : World) : MapE (w.alloc (.map #[] 0)) w.heap.size 0 (fun _ => none) := ⟨.map [], World.ownsMap_made _ _ _ _, fun _ _ => ⟨rfl, fun _ h => by cases h⟩⟩
theorem MapE.like (h : MapE w b n f) {g : Str → Option Str} (hg : ∀ s, s.size ≤ maxLen → f s = g s) : MapE w b n g := let ⟨D, h1, h2⟩ := h; ⟨D, h1, fun s hs => by rw [← hg s hs]; exact h2 s hs⟩
set_option maxRecDepth 100000 in
theorem MapE.getOk (h : MapE w b n f) {s : Str} (hs : s.size ≤ maxLen) : (Instr.lookup 32 (.map (some b)) (.string s) true).run Try.prog w = .ok (.tuple #[.string ((f s).getD .empty), .bool (f s).isSome]) w := by
  obtain ⟨D, h1, h2⟩ := h
  obtain ⟨v, ps, hrun, hv⟩ := h1.look_ok lawStr Try.underlying32 (zeroStrE w) (zd := .lit (.string [])) (zp := []) (plainElem_string (s := .empty) Try.underlying9 (by simp [maxLen])) (keyStr hs)
  obtain ⟨c, rfl, hc, -⟩ := plainElem_string_inv Try.underlying9 hv
  injection hc with hc _
  rw [hrun, (h2 s hs).1]
  cases hf : f s with
  | none =>
    have h0 : Maps.has D (keyL s) = false := by rw [(h2 s hs).1, hf]; rfl
    rw [Maps.atKey_of_not_has h0] at hc
    injection hc with hc
    rw [keyL_inj (s := c) (t := .empty) hc.symm]
    rfl
  | some x =>
    rw [(h2 s hs).2 x hf] at hc
    injection hc with hc
    rw [keyL_inj (s := c) (t := x) hc.symm]
    rfl
set_option maxRecDepth 100000 in
theorem MapE.put (h : MapE w b n f) (hn : n < maxLen) {s : Str} (hs : s.size ≤ maxLen) {x : Str} (hx : x.size ≤ maxLen) :
    ∃ w', (Instr.mapUpdate 32 (.map (some b)) (.string s) (.string x)).run Try.prog w = .ok () w' ∧ MapE w' b (n + 1) (fun t => if t = s then some x else f t) ∧ w.grownBy w' (some b) := by
  obtain ⟨D, h1, h2⟩ := h
  have hM := h1.isMap
  obtain ⟨w', hrun, h3, h4⟩ := h1.update lawStr Try.underlying32 hn (keyStr hs) (plainElem_string Try.underlying9 hx)
  refine ⟨w', hrun, ⟨_, h3, fun t ht => ?_⟩, h4⟩
  by_cases e : t = s
  · subst e
    simp only [if_true]
    exact ⟨Maps.has_put_same hM (by trivial) _, fun y hy z => by
      obtain rfl := Option.some.inj hy
      exact Maps.atKey_put_same hM (by trivial) _ _⟩
  · simp only [if_neg e]
    have hne : keyL t ≠ keyL s := fun h => e (keyL_inj h)
    rw [Maps.has_put_other hne]
    refine ⟨(h2 t ht).1, fun y hy z => ?_⟩
    rw [Maps.atKey_put_other hne]
    exact (h2 t ht).2 y hy z
set_option maxRecDepth 100000 in
theorem MapE.get (h : MapE w b n f) {s : Str} (hs : s.size ≤ maxLen) : (Instr.lookup 32 (.map (some b)) (.string s) false).run Try.prog w = .ok (.string ((f s).getD .empty)) w := by
  obtain ⟨D, h1, h2⟩ := h
  obtain ⟨v, ps, hrun, hv⟩ := h1.lookup lawStr Try.underlying32 (zeroStrE w) (zd := .lit (.string [])) (zp := []) (plainElem_string (s := .empty) Try.underlying9 (by simp [maxLen])) (keyStr hs)
  obtain ⟨c, rfl, hc, -⟩ := plainElem_string_inv Try.underlying9 hv
  injection hc with hc _
  rw [hrun]
  cases hf : f s with
  | none =>
    have h0 : Maps.has D (keyL s) = false := by rw [(h2 s hs).1, hf]; rfl
    rw [Maps.atKey_of_not_has h0] at hc
    injection hc with hc
    rw [keyL_inj (s := c) (t := .empty) hc.symm]
    rfl
  | some x =>
    rw [(h2 s hs).2 x hf] at hc
    injection hc with hc
    rw [keyL_inj (s := c) (t := x) hc.symm]
    rfl
end
def RangeE (w : World) (b r n : Nat) (f : Str → Option Str) (left : Lit → Bool) (cnt : Nat) : Prop :=
  ∃ D : DataW Unit, w.ranges Try.prog 9 (plainElem Try.prog 9) b r n D left cnt ∧ HoldsE D f ∧ cnt ≤ n
section
variable {w w' : World} {b r n : Nat} {f : Str → Option Str} {left : Lit → Bool} {cnt : Nat}
theorem RangeE.map (h : RangeE w b r n f left cnt) : MapE w b n f := let ⟨D, h1, h2, _⟩ := h; ⟨D, h1.owns, h2⟩
theorem RangeE.kept {row : Option Nat} (h : RangeE w b r n f left cnt) (hg : w.grownBy w' row) (hb : some b ≠ row) (hr : some r ≠ row) : RangeE w' b r n f left cnt := let ⟨D, h1, h2, h3⟩ := h; ⟨D, h1.kept hg hb hr, h2, h3⟩
theorem RangeE.lt (h : RangeE w b r n f left cnt) : r < w.heap.size := let ⟨_, h1, _⟩ := h; h1.lt
theorem RangeE.le (h : RangeE w b r n f left cnt) : cnt ≤ n := let ⟨_, _, _, h1⟩ := h; h1
theorem RangeE.left_eq (h : RangeE w b r n f left cnt) : w.rangeLeft b r = cnt := let ⟨_, h1, _⟩ := h; h1.left_eq
end
theorem size_le {w : World} {b n : Nat} {D : DataW Unit} (h : w.ownsMap Try.prog 9 (plainElem Try.prog 9) b n D) : Maps.size D ≤ n := by
  obtain ⟨es, clock, -, -, h1, rfl⟩ := h
  simp only [Maps.size, length_sorted, List.length_map, Array.length_toList]
  exact h1
theorem keyOf_string_inv {key : Value} {kl : Lit} (h : keyOf Try.prog 9 key = some kl) : ∃ s : Str, key = .string s ∧ kl = keyL s ∧ s.size ≤ maxLen := by
  cases key <;> simp [keyOf, Try.underlying9, mapKey] at h
  exact ⟨_, rfl, h.2.symm, h.1⟩
theorem struck_key (left : Lit → Bool) (s t : Str) : (fun z => left z && !z.sameKey (keyL s)) (keyL t) = (left (keyL t) && decide (t ≠ s)) := by
  show (left (keyL t) && !(keyL t).sameKey (keyL s)) = _
  congr 1
  by_cases e : t = s
  · subst e
    simp [keyL, Lit.sameKey]
  · rw [decide_eq_true e]
    cases h : (keyL t).sameKey (keyL s)
    · rfl
    · exact absurd (keyL_inj (WideAt.sameKey_eq h)) e
section
variable (w : World) {ops : Array Oper} {rest : List Oper} {o : Oper} {a : Act} {Q : Exit → Act → World → Prop}
set_option maxRecDepth 100000 in
theorem wpList_range_E (hg : o.guard = none) (m : Operand) (hop : o.op = Op.range 32 m) (b n : Nat) (f : Str → Option Str) (hm : a.eval m = .map (some b)) (h : MapE w b n f)
    (hK : ∀ w' left cnt, RangeE w' b w.heap.size n f left cnt → (∀ s : Str, s.size ≤ maxLen → left (keyL s) = (f s).isSome) → w.grownBy w' none → w'.heap.size = w.heap.size + 1 → wpList Try.prog ops Q rest (a.put o.dst (.pointer (some ⟨w.heap.size, 0, none⟩))) w') :
    wpList Try.prog ops Q (o :: rest) a w := by
  obtain ⟨D, h1, h2⟩ := h
  refine wpList_range_own w hg m 32 hop 9 9 lawStr Try.underlying32 (plainElem Try.prog 9) b n D hm h1 ?_
  intro w' hr hgr hs
  have hE : RangeE w' b w.heap.size n f (Maps.has D) (Maps.size D) := ⟨D, hr, h2, size_le h1⟩
  have hL : ∀ s : Str, s.size ≤ maxLen → Maps.has D (keyL s) = (f s).isSome := fun s hs => (h2 s hs).1
  have hz := hK w' (Maps.has D) (Maps.size D) hE hL hgr hs
  exact hz
set_option maxRecDepth 100000 in
theorem wpList_next_E (hg : o.guard = none) (it : Operand) (hop : o.op = Op.next it false) (b r n : Nat) (f : Str → Option Str) (left : Lit → Bool) (cnt : Nat) (hit : a.eval it = .pointer (some ⟨r, 0, none⟩)) (h : RangeE w b r n f left cnt)
    (hDone : (∀ kl, left kl = false) → wpList Try.prog ops Q rest (a.put o.dst (.tuple #[.bool false])) w)
    (hMore : ∀ (s c : Str) (w' : World) (cnt' : Nat), s.size ≤ maxLen → c.size ≤ maxLen → left (keyL s) = true → f s = some c → RangeE w' b r n f (fun z => left z && !z.sameKey (keyL s)) cnt' → cnt' < cnt → w.grownBy w' (some r) → w'.heap.size = w.heap.size →
      (Instr.entry (.pointer (some ⟨r, 0, none⟩))).run Try.prog w' = .ok (.tuple #[.string s, .string c]) w' → wpList Try.prog ops Q rest (a.put o.dst (.tuple #[.bool true, .string s, .string c])) w') :
    wpList Try.prog ops Q (o :: rest) a w := by
  obtain ⟨D, h1, h2, h3⟩ := h
  refine wpList_next_ranges w hg it hop _ lawStr _ Value.string Value.string (fun key kl hk => by obtain ⟨s, rfl, -, -⟩ := keyOf_string_inv hk; exact ⟨s, rfl⟩)
    (fun v y hv => by obtain ⟨c, rfl, -, -⟩ := plainElem_string_inv Try.underlying9 hv; exact ⟨c, rfl⟩) b r n D left cnt hit h1 (fun _ hl => hDone hl) ?_
  intro x c kl y w' cnt' hkey hlk hv hat hrg hlt hgr hsz hen
  obtain ⟨s, e1, rfl, hs⟩ := keyOf_string_inv hkey
  injection e1 with e1
  subst e1
  obtain ⟨c', e2, rfl, hc⟩ := plainElem_string_inv Try.underlying9 hv
  injection e2 with e2
  subst e2
  refine hMore x c w' cnt' hs hc hlk ?_ ⟨D, hrg, h2, by omega⟩ hlt hgr hsz hen
  have hhas := Maps.has_true_of_atKey hat
  rw [(h2 x hs).1] at hhas
  obtain ⟨d, hd⟩ := Option.isSome_iff_exists.1 hhas
  have hd2 := (h2 x hs).2 d hd .nil
  rw [hat] at hd2
  injection hd2 with hd2
  rw [hd, keyL_inj (s := c) (t := d) hd2]
end
end Go.Proofs.Ythieomebngiabaa
namespace Go.Proofs.Ythieomebngiabaa
def smallB (c : UInt8) : Bool := decide ((97 ≤ c.toNat ∧ c.toNat ≤ 122) ∨ (48 ≤ c.toNat ∧ c.toNat ≤ 57))
def upperB (c : UInt8) : Bool := decide (65 ≤ c.toNat ∧ c.toNat ≤ 90)
def signB (c : UInt8) : Bool := smallB c || upperB c || decide (c.toNat = 95)
def nameL (l : List UInt8) : Bool := decide (l.length ≤ 12) && (match l with | [] => false | c :: cs => smallB c && cs.all signB)
def varL (l : List UInt8) : Bool := decide (l.length ≤ 12) && (match l with | [] => false | c :: cs => upperB c && cs.all signB)
def named (s : Str) : Bool := nameL s.data.toList
def variableS (s : Str) : Bool := varL s.data.toList
theorem byte_cases (c : UInt8) :
    (((97 : Int) ≤ (c.toNat : Int) ∧ (c.toNat : Int) ≤ 122) ∧ smallB c = true ∧ upperB c = false ∧ signB c = true) ∨
    (((48 : Int) ≤ (c.toNat : Int) ∧ (c.toNat : Int) ≤ 57) ∧ smallB c = true ∧ upperB c = false ∧ signB c = true) ∨
    (((65 : Int) ≤ (c.toNat : Int) ∧ (c.toNat : Int) ≤ 90) ∧ smallB c = false ∧ upperB c = true ∧ signB c = true) ∨
    (((95 : Int) ≤ (c.toNat : Int) ∧ (c.toNat : Int) ≤ 95) ∧ smallB c = false ∧ upperB c = false ∧ signB c = true) ∨
    (((0 : Int) ≤ (c.toNat : Int) ∧ (c.toNat : Int) ≤ 47) ∧ smallB c = false ∧ upperB c = false ∧ signB c = false) ∨
    (((58 : Int) ≤ (c.toNat : Int) ∧ (c.toNat : Int) ≤ 64) ∧ smallB c = false ∧ upperB c = false ∧ signB c = false) ∨
    (((91 : Int) ≤ (c.toNat : Int) ∧ (c.toNat : Int) ≤ 94) ∧ smallB c = false ∧ upperB c = false ∧ signB c = false) ∨
    (((96 : Int) ≤ (c.toNat : Int) ∧ (c.toNat : Int) ≤ 96) ∧ smallB c = false ∧ upperB c = false ∧ signB c = false) ∨
    (((123 : Int) ≤ (c.toNat : Int) ∧ (c.toNat : Int) ≤ 255) ∧ smallB c = false ∧ upperB c = false ∧ signB c = false) := by
  have hlt : c.toNat < 256 := c.toNat_lt
  have S1 : ∀ p : Prop, [Decidable p] → p → decide p = true := fun p _ h => decide_eq_true h
  have S0 : ∀ p : Prop, [Decidable p] → ¬ p → decide p = false := fun p _ h => decide_eq_false h
  have G : ∀ a b d : Bool, smallB c = a → upperB c = b → decide (c.toNat = 95) = d → signB c = (a || b || d) := fun a b d h1 h2 h3 => by rw [signB, h1, h2, h3]
  by_cases h1 : c.toNat ≤ 47
  · have x := S0 _ (show ¬ ((97 ≤ c.toNat ∧ c.toNat ≤ 122) ∨ (48 ≤ c.toNat ∧ c.toNat ≤ 57)) by omega); have y := S0 _ (show ¬ (65 ≤ c.toNat ∧ c.toNat ≤ 90) by omega); have z := S0 _ (show ¬ c.toNat = 95 by omega)
    exact .inr (.inr (.inr (.inr (.inl ⟨⟨by omega, by omega⟩, x, y, G _ _ _ x y z⟩))))
  by_cases h2 : c.toNat ≤ 57
  · have x := S1 _ (show ((97 ≤ c.toNat ∧ c.toNat ≤ 122) ∨ (48 ≤ c.toNat ∧ c.toNat ≤ 57)) by omega); have y := S0 _ (show ¬ (65 ≤ c.toNat ∧ c.toNat ≤ 90) by omega); have z := S0 _ (show ¬ c.toNat = 95 by omega)
    exact .inr (.inl ⟨⟨by omega, by omega⟩, x, y, G _ _ _ x y z⟩)
  by_cases h3 : c.toNat ≤ 64
  · have x := S0 _ (show ¬ ((97 ≤ c.toNat ∧ c.toNat ≤ 122) ∨ (48 ≤ c.toNat ∧ c.toNat ≤ 57)) by omega); have y := S0 _ (show ¬ (65 ≤ c.toNat ∧ c.toNat ≤ 90) by omega); have z := S0 _ (show ¬ c.toNat = 95 by omega)
    exact .inr (.inr (.inr (.inr (.inr (.inl ⟨⟨by omega, by omega⟩, x, y, G _ _ _ x y z⟩)))))
  by_cases h4 : c.toNat ≤ 90
  · have x := S0 _ (show ¬ ((97 ≤ c.toNat ∧ c.toNat ≤ 122) ∨ (48 ≤ c.toNat ∧ c.toNat ≤ 57)) by omega); have y := S1 _ (show (65 ≤ c.toNat ∧ c.toNat ≤ 90) by omega); have z := S0 _ (show ¬ c.toNat = 95 by omega)
    exact .inr (.inr (.inl ⟨⟨by omega, by omega⟩, x, y, G _ _ _ x y z⟩))
  by_cases h5 : c.toNat ≤ 94
  · have x := S0 _ (show ¬ ((97 ≤ c.toNat ∧ c.toNat ≤ 122) ∨ (48 ≤ c.toNat ∧ c.toNat ≤ 57)) by omega); have y := S0 _ (show ¬ (65 ≤ c.toNat ∧ c.toNat ≤ 90) by omega); have z := S0 _ (show ¬ c.toNat = 95 by omega)
    exact .inr (.inr (.inr (.inr (.inr (.inr (.inl ⟨⟨by omega, by omega⟩, x, y, G _ _ _ x y z⟩))))))
  by_cases h6 : c.toNat ≤ 95
  · have x := S0 _ (show ¬ ((97 ≤ c.toNat ∧ c.toNat ≤ 122) ∨ (48 ≤ c.toNat ∧ c.toNat ≤ 57)) by omega); have y := S0 _ (show ¬ (65 ≤ c.toNat ∧ c.toNat ≤ 90) by omega); have z := S1 _ (show c.toNat = 95 by omega)
    exact .inr (.inr (.inr (.inl ⟨⟨by omega, by omega⟩, x, y, G _ _ _ x y z⟩)))
  by_cases h7 : c.toNat ≤ 96
  · have x := S0 _ (show ¬ ((97 ≤ c.toNat ∧ c.toNat ≤ 122) ∨ (48 ≤ c.toNat ∧ c.toNat ≤ 57)) by omega); have y := S0 _ (show ¬ (65 ≤ c.toNat ∧ c.toNat ≤ 90) by omega); have z := S0 _ (show ¬ c.toNat = 95 by omega)
    exact .inr (.inr (.inr (.inr (.inr (.inr (.inr (.inl ⟨⟨by omega, by omega⟩, x, y, G _ _ _ x y z⟩)))))))
  by_cases h8 : c.toNat ≤ 122
  · have x := S1 _ (show ((97 ≤ c.toNat ∧ c.toNat ≤ 122) ∨ (48 ≤ c.toNat ∧ c.toNat ≤ 57)) by omega); have y := S0 _ (show ¬ (65 ≤ c.toNat ∧ c.toNat ≤ 90) by omega); have z := S0 _ (show ¬ c.toNat = 95 by omega)
    exact .inl ⟨⟨by omega, by omega⟩, x, y, G _ _ _ x y z⟩
  · have x := S0 _ (show ¬ ((97 ≤ c.toNat ∧ c.toNat ≤ 122) ∨ (48 ≤ c.toNat ∧ c.toNat ≤ 57)) by omega); have y := S0 _ (show ¬ (65 ≤ c.toNat ∧ c.toNat ≤ 90) by omega); have z := S0 _ (show ¬ c.toNat = 95 by omega)
    exact .inr (.inr (.inr (.inr (.inr (.inr (.inr (.inr ⟨⟨by omega, by omega⟩, x, y, G _ _ _ x y z⟩)))))))
def okFrom : Nat → List UInt8 → Bool
  | _, [] => true
  | j, c :: cs => (smallB c || (decide (j ≠ 0) && signB c)) && okFrom (j + 1) cs
theorem okFrom_succ (j : Nat) : ∀ l, okFrom (j + 1) l = l.all signB
  | [] => rfl
  | c :: cs => by
    simp only [okFrom, List.all_cons, okFrom_succ (j + 1) cs]
    cases h : smallB c <;> simp [signB, h]
theorem nameL_okFrom (l : List UInt8) : nameL l = (decide (l.length ≤ 12) && (decide (1 ≤ l.length) && okFrom 0 l)) := by
  cases l with
  | nil => rfl
  | cons c cs => simp [nameL, okFrom, okFrom_succ]
theorem named_ok (s : Str) (h1 : 1 ≤ s.size) (h2 : s.size ≤ 12) : named s = okFrom 0 s.data.toList := by
  have e : s.data.toList.length = s.size := by rw [Array.length_toList]; rfl
  rw [named, nameL_okFrom, e]
  simp [h1, h2]
theorem named_empty (s : Str) (h : s.size < 1) : named s = false := by
  have e : s.data.toList.length = s.size := by rw [Array.length_toList]; rfl
  rw [named, nameL_okFrom, e]
  simp; omega
theorem named_long (s : Str) (h : 12 < s.size) : named s = false := by
  have e : s.data.toList.length = s.size := by rw [Array.length_toList]; rfl
  rw [named, nameL_okFrom, e]
  simp; omega
theorem drop_bytes (s : Str) (k : Nat) (h : k < s.size) : s.data.toList.drop k = s[k] :: s.data.toList.drop (k + 1) := by
  have e : s.data.toList.length = s.size := by rw [Array.length_toList]; rfl
  rw [List.drop_eq_getElem_cons (by omega)]
  rfl
theorem drop_bytes_end (s : Str) (k : Nat) (h : s.size ≤ k) : s.data.toList.drop k = [] := by
  have e : s.data.toList.length = s.size := by rw [Array.length_toList]; rfl
  exact List.drop_eq_nil_of_le (by omega)
theorem okFrom_here {s : Str} {k : Nat} (h : k < s.size) (hr : okFrom 0 s.data.toList = okFrom k (s.data.toList.drop k)) (hc : smallB s[k] = true ∨ (k ≠ 0 ∧ signB s[k] = true)) :
    okFrom 0 s.data.toList = okFrom (k + 1) (s.data.toList.drop (k + 1)) := by
  rw [hr, drop_bytes s k h, okFrom]
  rcases hc with hc | ⟨h0, hc⟩ <;> simp [*]
theorem okFrom_bad {s : Str} {k : Nat} (h : k < s.size) (hr : okFrom 0 s.data.toList = okFrom k (s.data.toList.drop k)) (hs : smallB s[k] = false) (hc : k = 0 ∨ signB s[k] = false) :
    okFrom 0 s.data.toList = false := by
  rw [hr, drop_bytes s k h, okFrom, hs]
  rcases hc with hc | hc
  · rw [decide_eq_false (by simpa using hc)]; rfl
  · rw [hc]; simp
end Go.Proofs.Ythieomebngiabaa
namespace Go.Proofs.Ythieomebngiabaa
open Go.RowKit
set_option maxHeartbeats 2000000 in
theorem namedCalls (s : Str) (w : World) : Calls Try.prog 51 #[.string s] w fun e w' => e = .returned (.bool (named s)) ∧ w = w' := by
  by_cases h0 : s.size < 1
  · rw [named_empty s h0]
    go_enter Try.func51, Try.ntmps51
    go_wp2
    go_ret
    exact ⟨rfl, rfl⟩
  · by_cases h12 : 12 < s.size
    · rw [named_long s h12]
      have hb : ¬ ((s.size : Int) < 1) := by omega
      go_enter Try.func51, Try.ntmps51
      go_wp2
      go_ret
      exact ⟨rfl, rfl⟩
    · rw [named_ok s (by omega) (by omega)]
      have hb : ¬ ((s.size : Int) < 1) := by omega
      have hb2 : ¬ ((12 : Int) < s.size) := by omega
      go_enter Try.func51, Try.ntmps51
      go_wp2
      go_loop [16, 3, 4, 5] (fun i _ _ _ => ∃ k : Nat, k ≤ s.size ∧ i = .int .i64 k ∧ okFrom 0 s.data.toList = okFrom k (s.data.toList.drop k)) (fun i _ _ _ => s.size - (intOf i).toNat)
      case atStart => exact ⟨0, Nat.zero_le _, rfl, rfl⟩
      case round =>
        obtain ⟨k, hk, rfl, hr⟩ := hrel
        have HR := Lib.hid hr
        clear hr
        by_cases hlt : k < s.size
        · by_cases hk0 : k = 0
          · subst hk0
            rcases byte_cases s[0] with ⟨⟨b1, b2⟩, q1, q2, q3⟩ | ⟨⟨b1, b2⟩, q1, q2, q3⟩ | ⟨⟨b1, b2⟩, q1, q2, q3⟩ | ⟨⟨b1, b2⟩, q1, q2, q3⟩ | ⟨⟨b1, b2⟩, q1, q2, q3⟩ | ⟨⟨b1, b2⟩, q1, q2, q3⟩ | ⟨⟨b1, b2⟩, q1, q2, q3⟩ | ⟨⟨b1, b2⟩, q1, q2, q3⟩ | ⟨⟨b1, b2⟩, q1, q2, q3⟩
            case' inl | inr.inl =>
              have Q := Lib.hid (okFrom_here hlt HR.out (.inl q1))
              clear q1 q2 q3
              go_wp2
              go_round
              case rel => exact ⟨1, by omega, by go_num, Q.out⟩
              case measure => simp [intOf]; omega
            all_goals
              have Q := Lib.hid (okFrom_bad hlt HR.out q1 (.inl rfl))
              clear q1 q2 q3
              try have z1 : decide ((s[0].toNat : Int) ≤ 57) = false := decide_eq_false (by omega)
              try have z2 : decide ((s[0].toNat : Int) ≤ 122) = false := decide_eq_false (by omega)
              try have z3 : ((s[0].toNat : Int) != 95) = true := bne_iff_ne.2 (by omega)
              try have z4 : ((s[0].toNat : Int) != 95) = false := bne_eq_false_iff_eq.2 (by omega)
              go_wp2
              go_ret
              exact ⟨ret_bool Q.out.symm, rfl⟩
          · have hkb : ((k : Int) == 0) = false := by simpa using hk0
            rcases byte_cases s[k] with ⟨⟨b1, b2⟩, q1, q2, q3⟩ | ⟨⟨b1, b2⟩, q1, q2, q3⟩ | ⟨⟨b1, b2⟩, q1, q2, q3⟩ | ⟨⟨b1, b2⟩, q1, q2, q3⟩ | ⟨⟨b1, b2⟩, q1, q2, q3⟩ | ⟨⟨b1, b2⟩, q1, q2, q3⟩ | ⟨⟨b1, b2⟩, q1, q2, q3⟩ | ⟨⟨b1, b2⟩, q1, q2, q3⟩ | ⟨⟨b1, b2⟩, q1, q2, q3⟩
            case' inl | inr.inl | inr.inr.inl | inr.inr.inr.inl =>
              have Q := Lib.hid (okFrom_here hlt HR.out (.inr ⟨hk0, q3⟩))
              clear q1 q2 q3 hk0
              try have z1 : decide ((s[k].toNat : Int) ≤ 57) = false := decide_eq_false (by omega)
              try have z2 : decide ((s[k].toNat : Int) ≤ 122) = false := decide_eq_false (by omega)
              try have z3 : ((s[k].toNat : Int) != 95) = true := bne_iff_ne.2 (by omega)
              try have z4 : ((s[k].toNat : Int) != 95) = false := bne_eq_false_iff_eq.2 (by omega)
              go_wp2
              go_round
              case rel => exact ⟨k + 1, by omega, by go_num, Q.out⟩
              case measure => simp [intOf]; omega
            all_goals
              have Q := Lib.hid (okFrom_bad hlt HR.out q1 (.inr q3))
              clear q1 q2 q3 hk0
              try have z1 : decide ((s[k].toNat : Int) ≤ 57) = false := decide_eq_false (by omega)
              try have z2 : decide ((s[k].toNat : Int) ≤ 122) = false := decide_eq_false (by omega)
              try have z3 : ((s[k].toNat : Int) != 95) = true := bne_iff_ne.2 (by omega)
              try have z4 : ((s[k].toNat : Int) != 95) = false := bne_eq_false_iff_eq.2 (by omega)
              go_wp2
              go_ret
              exact ⟨ret_bool Q.out.symm, rfl⟩
        · go_wp2
          go_ret
          refine ⟨?_, rfl⟩
          rw [HR.out, drop_bytes_end s k (by omega)]
          rfl
end Go.Proofs.Ythieomebngiabaa
