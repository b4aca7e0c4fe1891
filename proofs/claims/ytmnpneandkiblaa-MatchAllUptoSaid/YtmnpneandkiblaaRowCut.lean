/-
  A SLICE CUT: its first elements; its last ones.
-/
import Derived.Test.YtmnpneandkiblaaBase
namespace Go.Proofs.Ytmnpneandkiblaa
open Go.RowKit

theorem RdSlice.take {α : Type} {k : Nat} {R : Reader α} {S : Nat → Prop} {w : World} {a : Option Addr} {n cap : Nat} {l : List α} (h : RdSlice k R S w (.slice a n cap) l) {j : Nat} (hj : j ≤ l.length) : RdSlice k R S w (.slice a j cap) (l.take j) := by
  obtain ⟨a', cap', hv, h1, h2, h0, h3⟩ := h
  injection hv with e1 e2 e3
  subst e1 e3
  have hl : (l.take j).length = j := by rw [List.length_take]; omega
  refine ⟨a, cap, by rw [hl], by omega, h2, h0, fun i x hx => ?_⟩
  have hi : i < j := by have := (List.getElem?_eq_some_iff.1 hx).1; omega
  rw [List.getElem?_take_of_lt hi] at hx
  exact h3 i x hx

theorem RdSlice.drop {α : Type} {k : Nat} {R : Reader α} {S : Nat → Prop} {w : World} {a : Option Addr} {n cap : Nat} {l : List α} (h : RdSlice k R S w (.slice a n cap) l) {j : Nat} (hj : j ≤ l.length) :
    RdSlice k R S w (.slice (if cap = j then a else a.map (·.add (j * k))) (l.length - j) (cap - j)) (l.drop j) := by
  obtain ⟨a', cap', hv, h1, h2, h0, h3⟩ := h
  injection hv with e1 e2 e3
  subst e1 e3
  have hl : (l.drop j).length = l.length - j := List.length_drop
  refine ⟨_, cap - j, by rw [hl], by omega, by omega, fun e => ?_, fun i x hx => ?_⟩
  · split at e
    · omega
    · cases a with
      | none => rw [h0 rfl]; omega
      | some p => simp at e
  · rw [List.getElem?_drop] at hx
    have hi := (List.getElem?_eq_some_iff.1 hx).1
    obtain ⟨b, off, cs, ha, hS, hb, hk, hc, hr⟩ := h3 (j + i) x hx
    subst ha
    refine ⟨b, off + j * k, cs, ?_, hS, hb, hk, fun t u hu => ?_, hr⟩
    · rw [if_neg (by omega)]
      simp only [Option.map_some, Addr.add]
      split
      · rename_i hz; rw [hz]; rfl
      · rfl
    · have := hc t u hu
      rwa [show off + (j + i) * k + t = off + j * k + i * k + t by rw [Nat.add_mul]; omega] at this

theorem RdSlice.drop_some {α : Type} {k : Nat} {R : Reader α} {S : Nat → Prop} {w : World} {b o : Nat} {n cap : Nat} {l : List α} (h : RdSlice k R S w (.slice (some ⟨b, o, none⟩) n cap) l) {j : Nat} (hj : j ≤ l.length) :
    RdSlice k R S w (.slice (if cap = j then some ⟨b, o, none⟩ else some ⟨b, o + j * k, none⟩) (l.length - j) (cap - j)) (l.drop j) := by
  have := h.drop hj
  simp only [Option.map_some, Addr.add] at this
  split at this
  · split
    · assumption
    · rename_i h1 h2; exact absurd h1 h2
  · rename_i hne
    rw [if_neg hne]
    split at this
    · rename_i h0
      rw [h0]
      exact this
    · exact this

theorem RdSlice.nothing {α : Type} {k : Nat} {R : Reader α} {S : Nat → Prop} {w : World} {a : Option Addr} {cap : Nat} (hm : cap ≤ maxLen) (h0 : a = none → cap = 0) : RdSlice k R S w (.slice a 0 cap) ([] : List α) :=
  ⟨a, cap, rfl, Nat.zero_le _, hm, h0, fun i x hx => by simp at hx⟩
end Go.Proofs.Ytmnpneandkiblaa
