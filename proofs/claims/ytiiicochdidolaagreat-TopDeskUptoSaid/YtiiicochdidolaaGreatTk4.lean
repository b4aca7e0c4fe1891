/-
  THE TEXTS CheckP, CheckW1, FactP, MatchP, one behind the other.
-/
import Derived.Test.YtiiicochdidolaaGreatTk1
import Derived.Test.YtiiicochdidolaaGreatTk2
import Derived.Test.YtiiicochdidolaaGreatTk3
namespace Go.Proofs.YtiiicochdidolaaGreat
def termOk (t : PTerm) : Bool := if t.var then variableS t.name else named t.name
def atomBad (a : PAtom) : Int := if named a.name = false then 7 else if 4 < a.terms.length then 5 else if a.terms.all termOk then 0 else 7
def varsF : List Str → List PTerm → List Str
  | acc,[] => acc
  | acc,t :: l => varsF (if t.var && !memS t.name acc then acc ++ [t.name] else acc) l
def varsOf (a : PAtom) : List Str := varsF [] a.terms
def heldOf (l : List PAtom) : List Str := l.flatMap fun a => if a.neg then [] else varsOf a
def firstBad : List PAtom → Int
  | [] => 0
  | a :: l => if atomBad a ≠ 0 then atomBad a else firstBad l
def freeIn (held : List Str) (l : List PAtom) : Bool := l.all fun a => (varsOf a).all fun v => memS v held
def bodyBad (l : List PAtom) : Int := if 5 < l.length then 5 else if firstBad l ≠ 0 then firstBad l else if freeIn (heldOf l) l then 0 else 9
def allVars (l : List PAtom) : List Str := l.flatMap varsOf
def ruleBad (r : PRule) : Int := if atomBad r.head ≠ 0 then atomBad r.head else if r.head.neg then 2 else if bodyBad r.body ≠ 0 then bodyBad r.body else if (varsOf r.head).all (fun v => memS v (allVars r.body)) then 0 else 9
abbrev Known := Str → Option Int
def fits (m : Known) (a : PAtom) : Bool := match m a.name with
  | none => true
  | some n => n == (a.terms.length : Int)
def learn (m : Known) (a : PAtom) : Known := if (m a.name).isSome then m else fun t => if t = a.name then some (a.terms.length : Int) else m t
def fitAll : Known → List PAtom → Bool
  | _,[] => true
  | m,a :: l => fits m a && fitAll (learn m a) l
def learnAll : Known → List PAtom → Known
  | m,[] => m
  | m,a :: l => learnAll (learn m a) l
def wrongFrom : Known → Int → List PRule → Int × Int
  | _,_,[] => (0,0)
  | m,i,r :: p => if ruleBad r ≠ 0 then (ruleBad r,i) else if fitAll m (r.head :: r.body) then wrongFrom (learnAll m (r.head :: r.body)) (i + 1) p else (8,i)
def wrongP (p : List PRule) : Int × Int := if 16 < p.length then (5,0) else wrongFrom (fun _ => none) 0 p
theorem ruleBad_body {r : PRule} (h : ruleBad r = 0) : r.body.length ≤ 5 := by
  unfold ruleBad at h
  split at h
  · rename_i h1;exact absurd h h1
  · split at h
    · exact absurd h (by decide)
    · split at h
      · rename_i h1;exact absurd h h1
      · rename_i h1
        have hb : bodyBad r.body = 0 := Classical.byContradiction fun e => h1 e
        unfold bodyBad at hb
        split at hb
        · exact absurd hb (by decide)
        · omega
theorem varsF_snoc (t : PTerm) : ∀ (l : List PTerm) (acc : List Str),varsF acc (l ++ [t]) = if t.var && !memS t.name (varsF acc l) then varsF acc l ++ [t.name] else varsF acc l
  | [],acc => rfl
  | x :: l,acc => by
    rw [List.cons_append,varsF,varsF]
    exact varsF_snoc t l _
theorem varsF_length : ∀ (l : List PTerm) (acc : List Str),(varsF acc l).length ≤ acc.length + l.length
  | [],acc => by simp [varsF]
  | t :: l,acc => by
    have := varsF_length l (if t.var && !memS t.name acc then acc ++ [t.name] else acc)
    rw [varsF]
    split at this
    · simp only [List.length_append,List.length_cons,List.length_nil] at this
      rw [if_pos (by assumption)]
      simp only [List.length_cons];omega
    · rw [if_neg (by assumption)]
      simp only [List.length_cons];omega
theorem heldOf_snoc (l : List PAtom) (a : PAtom) : heldOf (l ++ [a]) = if a.neg then heldOf l else heldOf l ++ varsOf a := by
  unfold heldOf
  rw [List.flatMap_append]
  cases h : a.neg <;> simp [h]
theorem allVars_snoc (l : List PAtom) (a : PAtom) : allVars (l ++ [a]) = allVars l ++ varsOf a := by
  unfold allVars
  rw [List.flatMap_append]
  simp
theorem firstBad_take (l : List PAtom) (k : Nat) (h : ∀ i a,i < k → l[i]? = some a → atomBad a = 0) : firstBad l = firstBad (l.drop k) := by
  induction k generalizing l with
  | zero => rfl
  | succ k ih =>
    cases l with
    | nil => rfl
    | cons a l =>
      have h0 := h 0 a (by omega) rfl
      rw [firstBad,if_neg (by simpa using h0),List.drop_succ_cons]
      exact ih l fun i b hi hb => h (i + 1) b (by omega) (by simpa using hb)
end Go.Proofs.YtiiicochdidolaaGreat
namespace Go.Proofs.YtiiicochdidolaaGreat
open Go.RowKit
theorem RdTerms.at {S : Nat → Prop} {w : World} {a : Option Addr} {n cap : Nat} {l : List PTerm} (h : RdTerms S w (.slice a n cap) l) {i : Nat} {x : PTerm} (hx : l[i]? = some x) :
    ∃ b off,a = some ⟨b,off,none⟩ ∧ S b ∧ b < w.heap.size ∧ w.cell? ⟨b,off + i * 2,none⟩ = some (.bool x.var) ∧ w.cell? ⟨b,off + i * 2 + 1,none⟩ = some (.string x.name) := by
  obtain ⟨a',cap',hv,_,_,_,h3⟩ := h
  obtain ⟨b,off,cs,ha,hS,hb,hk,hc,hr⟩ := h3 i x hx
  injection hv with e1 e2 e3
  subst e1
  have hr' : cs = [.bool x.var,.string x.name] := hr
  subst hr'
  exact ⟨b,off,ha,hS,hb,by simpa using hc 0 _ rfl,by simpa using hc 1 _ rfl⟩
theorem RdAtoms.at {S : Nat → Prop} {w : World} {a : Option Addr} {n cap : Nat} {l : List PAtom} (h : RdAtoms S w (.slice a n cap) l) {i : Nat} {x : PAtom} (hx : l[i]? = some x) :
    ∃ b off tv,a = some ⟨b,off,none⟩ ∧ S b ∧ b < w.heap.size ∧ w.cell? ⟨b,off + i * 3,none⟩ = some (.bool x.neg) ∧ w.cell? ⟨b,off + i * 3 + 1,none⟩ = some (.string x.name) ∧ w.cell? ⟨b,off + i * 3 + 2,none⟩ = some tv ∧ RdTerms S w tv x.terms := by
  obtain ⟨a',cap',hv,_,_,_,h3⟩ := h
  obtain ⟨b,off,cs,ha,hS,hb,hk,hc,tv,hr,hq⟩ := h3 i x hx
  injection hv with e1 e2 e3
  subst e1
  subst hr
  exact ⟨b,off,tv,ha,hS,hb,by simpa using hc 0 _ rfl,by simpa using hc 1 _ rfl,by simpa using hc 2 _ rfl,hq⟩
theorem RdRules.at {S : Nat → Prop} {w : World} {a : Option Addr} {n cap : Nat} {l : List PRule} (h : RdRules S w (.slice a n cap) l) {i : Nat} {x : PRule} (hx : l[i]? = some x) :
    ∃ b off tv bv,a = some ⟨b,off,none⟩ ∧ S b ∧ b < w.heap.size ∧ w.cell? ⟨b,off + i * 4,none⟩ = some (.bool x.head.neg) ∧ w.cell? ⟨b,off + i * 4 + 1,none⟩ = some (.string x.head.name) ∧ w.cell? ⟨b,off + i * 4 + 2,none⟩ = some tv ∧ w.cell? ⟨b,off + i * 4 + 3,none⟩ = some bv ∧ RdTerms S w tv x.head.terms ∧ RdAtoms S w bv x.body := by
  obtain ⟨a',cap',hv,_,_,_,h3⟩ := h
  obtain ⟨b,off,cs,ha,hS,hb,hk,hc,tv,bv,hr,hq,hq2⟩ := h3 i x hx
  injection hv with e1 e2 e3
  subst e1
  subst hr
  exact ⟨b,off,tv,bv,ha,hS,hb,by simpa using hc 0 _ rfl,by simpa using hc 1 _ rfl,by simpa using hc 2 _ rfl,by simpa using hc 3 _ rfl,hq,hq2⟩
theorem RdTerms.up {S : Nat → Prop} {w w' : World} {v : Value} {l : List PTerm} (h : RdTerms S w v l) (hb : Below w.heap.size w w') : RdTerms (fun _ => True) w' v l := (h.more RTerm.steady (fun _ _ _ => trivial)).agree RTerm.steady (Below.agree hb)
theorem RdAtoms.up {S : Nat → Prop} {w w' : World} {v : Value} {l : List PAtom} (h : RdAtoms S w v l) (hb : Below w.heap.size w w') : RdAtoms (fun _ => True) w' v l := (h.more RAtom.steady (fun _ _ _ => trivial)).agree RAtom.steady (Below.agree hb)
theorem RdRules.up {S : Nat → Prop} {w w' : World} {v : Value} {l : List PRule} (h : RdRules S w v l) (hb : Below w.heap.size w w') : RdRules (fun _ => True) w' v l := (h.more RRule.steady (fun _ _ _ => trivial)).agree RRule.steady (Below.agree hb)
theorem RdStrs.up {S : Nat → Prop} {w w' : World} {v : Value} {l : List Str} (h : RdStrs S w v l) (hb : Below w.heap.size w w') : RdStrs (fun _ => True) w' v l := (h.more RStr.steady (fun _ _ _ => trivial)).agree RStr.steady (Below.agree hb)
theorem atomBad_ok {a : PAtom} (h1 : named a.name = true) (h2 : ¬ 4 < a.terms.length) (h : ∀ t ∈ a.terms,termOk t = true) : atomBad a = 0 := by
  unfold atomBad
  rw [h1,if_neg (by simp),if_neg h2,if_pos (List.all_eq_true.2 h)]
theorem atomBad_term {a : PAtom} (h1 : named a.name = true) (h2 : ¬ 4 < a.terms.length) {t : PTerm} (ht : t ∈ a.terms) (h : termOk t = false) : atomBad a = 7 := by
  unfold atomBad
  rw [h1,if_neg (by simp),if_neg h2,if_neg (fun hh => by have := List.all_eq_true.1 hh t ht;rw [h] at this;cases this)]
set_option maxRecDepth 100000 in
set_option maxHeartbeats 4000000 in
theorem checkAtom {S : Nat → Prop} (b o : Nat) (x : PAtom) (tv : Value) (w : World) (c0 : w.cell? ⟨b,o + 1,none⟩ = some (.string x.name)) (c1 : w.cell? ⟨b,o + 2,none⟩ = some tv) (h : RdTerms S w tv x.terms)
    (n1 : x.terms.length ≤ 1073741824) (n2 : ∀ t ∈ x.terms,t.name.size ≤ 1099511627776) :
    Calls Tryz.prog 89 #[.pointer (some ⟨b,o,none⟩)] w fun e w' => e = .returned (.int .i64 (atomBad x)) ∧ Below w.heap.size w w' := by
  obtain ⟨a,c,rfl,-,-,-⟩ := id h.form
  have H := Lib.hid h
  have N2 := Lib.hid n2
  clear h n2
  have KN := Lib.hid (fun W => namedCalls x.name W)
  cases hn : named x.name
  · rw [hn] at KN
    have HE := Lib.hid (show atomBad x = 7 by unfold atomBad;rw [hn];rfl)
    clear hn
    go_enter Tryz.func89,Tryz.ntmps89
    go_wp2_with (go_at_call 109;refine (KN.out _).mono ?_;rintro e w' ⟨rfl,rfl⟩)
    go_ret
    exact ⟨ret_int HE.out.symm,Below.refl _ _⟩
  rw [hn] at KN
  have HN := Lib.hid hn
  clear hn
  by_cases h4 : 4 < x.terms.length
  · have i4 : (4 : Int) < (x.terms.length : Int) := by omega
    have HE := Lib.hid (show atomBad x = 5 by unfold atomBad;rw [HN.out,if_neg (by simp),if_pos h4])
    go_enter Tryz.func89,Tryz.ntmps89
    go_wp2_with (go_at_call 109;refine (KN.out _).mono ?_;rintro e w' ⟨rfl,rfl⟩)
    go_ret
    exact ⟨ret_int HE.out.symm,Below.refl _ _⟩
  have i4 : ¬ (4 : Int) < (x.terms.length : Int) := by omega
  go_enter Tryz.func89,Tryz.ntmps89
  go_wp2_with (go_at_call 109;refine (KN.out _).mono ?_;rintro e w' ⟨rfl,rfl⟩)
  go_loopw [22] (fun i wr => ∃ k : Nat,k ≤ x.terms.length ∧ i = .int .i64 k ∧ Hid (∀ t ∈ x.terms.take k,termOk t = true) ∧ Hid (Below w.heap.size w wr)) (fun i _ => x.terms.length - (intOf i).toNat)
  case atStart => exact ⟨0,Nat.zero_le _,rfl,Lib.hid (by simp),Below.refl _ _⟩
  case round =>
    obtain ⟨k,hk,rfl,HO,HB⟩ := hrel
    by_cases hlt : k < x.terms.length
    · obtain ⟨t,ht⟩ : ∃ t,x.terms[k]? = some t := ⟨_,List.getElem?_eq_getElem hlt⟩
      obtain ⟨b1,o1,rfl,-,-,d0,d1⟩ := RdTerms.at (H.out.up HB.out) ht
      have hsz := HB.out.size
      have hbb := HB.out.alloc hsz (.cells #[.bool t.var,.string t.name] 141)
      have HB1 := Lib.hid hbb
      have HS1 := Lib.hid (show termOk t = true → ∀ y ∈ x.terms.take (k + 1),termOk y = true from fun hy y hm => by
        rw [List.take_add_one,ht] at hm
        rcases List.mem_append.1 hm with hm | hm
        · exact HO.out y hm
        · obtain rfl : y = t := by simpa using hm
          exact hy)
      have HBD := Lib.hid (show termOk t = false → atomBad x = 7 from fun hy => atomBad_term HN.out h4 (List.mem_of_getElem? ht) hy)
      have KV := Lib.hid (fun W => variableCalls t.name W (N2.out t (List.mem_of_getElem? ht)))
      have KM := Lib.hid (fun W => namedCalls t.name W)
      clear ht hbb
      have hto : termOk t = if t.var then variableS t.name else named t.name := rfl
      rw [hto] at HS1 HBD
      clear hto
      cases hv : t.var
      all_goals
        rw [hv] at HS1 HBD d0 HB1
        clear hv
      · have hm : named t.name = true ∨ named t.name = false := by cases named t.name <;> simp
        rcases hm with hm | hm
        · rw [hm] at KM
          have HO1 := Lib.hid (HS1.out (by simpa using hm))
          clear hm HS1 HBD
          go_wp2_with (go_at_call 109;refine (KM.out _).mono ?_;rintro e w' ⟨rfl,rfl⟩)
          go_roundw
          case rel => exact ⟨k + 1,by omega,by go_num,HO1,HB1⟩
          case measure => simp [intOf];omega
        · rw [hm] at KM
          have HE := Lib.hid (HBD.out (by simpa using hm))
          clear hm HS1 HBD
          go_wp2_with (go_at_call 109;refine (KM.out _).mono ?_;rintro e w' ⟨rfl,rfl⟩)
          go_ret
          exact ⟨ret_int HE.out.symm,HB1.out⟩
      · have hm : variableS t.name = true ∨ variableS t.name = false := by cases variableS t.name <;> simp
        rcases hm with hm | hm
        · rw [hm] at KV
          have HO1 := Lib.hid (HS1.out (by simpa using hm))
          clear hm HS1 HBD
          go_wp2_with (go_at_call 86;refine (KV.out _).mono ?_;rintro e w' ⟨rfl,rfl⟩)
          go_roundw
          case rel => exact ⟨k + 1,by omega,by go_num,HO1,HB1⟩
          case measure => simp [intOf];omega
        · rw [hm] at KV
          have HE := Lib.hid (HBD.out (by simpa using hm))
          clear hm HS1 HBD
          go_wp2_with (go_at_call 86;refine (KV.out _).mono ?_;rintro e w' ⟨rfl,rfl⟩)
          go_ret
          exact ⟨ret_int HE.out.symm,HB1.out⟩
    · have HE := Lib.hid (show atomBad x = 0 from atomBad_ok HN.out h4 (by have := HO.out;rwa [List.take_of_length_le (by omega)] at this))
      go_wp2
      go_ret
      exact ⟨ret_int HE.out.symm,HB.out⟩
set_option maxRecDepth 100000 in
set_option maxHeartbeats 4000000 in
theorem varsCalls {S : Nat → Prop} (x : PAtom) (tv : Value) (w : World) (h : RdTerms S w tv x.terms) (n1 : x.terms.length ≤ 1073741824) :
    Calls Tryz.prog 90 #[.agg #[.bool x.neg,.string x.name,tv]] w fun e w' => (∃ v,e = .returned v ∧ Owned 1 RStr w.heap.size 9 (fun _ => False) w' v (varsOf x)) ∧ Below w.heap.size w w' := by
  obtain ⟨a,c,rfl,-,-,-⟩ := id h.form
  have H := Lib.hid h
  clear h
  go_enter Tryz.func90,Tryz.ntmps90
  go_wp2
  go_loopw [9,3] (fun i v wr => ∃ k : Nat,k ≤ x.terms.length ∧ i = .int .i64 k ∧ Hid (Owned 1 RStr w.heap.size 9 (fun _ => False) wr v (varsF [] (x.terms.take k))) ∧ Hid (Below w.heap.size w wr)) (fun i _ _ => x.terms.length - (intOf i).toNat)
  case atStart => exact ⟨0,Nat.zero_le _,rfl,Lib.hid Owned.nil,Lib.hid ((Below.refl _ _).alloc (Nat.le_refl _) _)⟩
  case round =>
    obtain ⟨k,hk,rfl,HO,HB⟩ := hrel
    by_cases hlt : k < x.terms.length
    · obtain ⟨t,ht⟩ : ∃ t,x.terms[k]? = some t := ⟨_,List.getElem?_eq_getElem hlt⟩
      obtain ⟨b1,o1,rfl,-,-,d0,d1⟩ := RdTerms.at (H.out.up HB.out) ht
      have hsz := HB.out.size
      have HT := Lib.hid (show varsF [] (x.terms.take (k + 1)) = if t.var && !memS t.name (varsF [] (x.terms.take k)) then varsF [] (x.terms.take k) ++ [t.name] else varsF [] (x.terms.take k) by rw [List.take_add_one,ht];exact varsF_snoc t _ _)
      have HLL := Lib.hid (show (varsF [] (x.terms.take k)).length ≤ x.terms.length by have := varsF_length (x.terms.take k) [];rw [List.length_take] at this;simp at this;omega)
      generalize varsF [] (x.terms.take k) = vs at *
      obtain ⟨va,vc,rfl,-,-,-⟩ := id (HO.out.read RStr.steady).form
      have KC := Lib.hid (containsStr (.slice va vs.length vc) vs t.name (wr.alloc (.cells #[.bool t.var,.string t.name] 141)) ((HO.out.read RStr.steady).agree RStr.steady ((Agree.refl _ _).alloc _)) (by have := HLL.out;omega))
      have HB1 := Lib.hid (HB.out.alloc hsz (.cells #[.bool t.var,.string t.name] 141))
      have HO1 := Lib.hid (HO.out.alloc RStr.steady (.cells #[.bool t.var,.string t.name] 141))
      clear ht
      cases hv : t.var
      · rw [hv] at HT KC HB1 HO1 d0
        have HO2 := Lib.hid (show Owned 1 RStr w.heap.size 9 (fun _ => False) _ _ (varsF [] (x.terms.take (k + 1))) by rw [HT.out,if_neg (by simp)];exact HO1.out)
        clear hv
        go_wp2
        go_roundw
        case rel => exact ⟨k + 1,by omega,by go_num,HO2,HB1⟩
        case measure => simp [intOf];omega
      · rw [hv] at HT KC HB1 HO1 d0
        clear hv
        have hm : memS t.name vs = true ∨ memS t.name vs = false := by cases memS t.name vs <;> simp
        rcases hm with hm | hm
        · rw [hm] at KC HT
          have HO2 := Lib.hid (show Owned 1 RStr w.heap.size 9 (fun _ => False) _ _ (varsF [] (x.terms.take (k + 1))) by rw [HT.out,if_neg (by simp)];exact HO1.out)
          clear hm
          go_wp2_with (go_at_call 91;refine (KC.out).mono ?_;rintro e w' ⟨rfl,rfl⟩)
          go_roundw
          case rel => exact ⟨k + 1,by omega,by go_num,HO2,HB1⟩
          case measure => simp [intOf];omega
        · rw [hm,if_pos (by rfl)] at HT
          rw [hm] at KC
          clear hm
          go_wp2_with (first
            | (go_at_call 91;refine (KC.out).mono ?_;rintro e w' ⟨rfl,rfl⟩)
            | (at_builtin;refine wpList_append_one (B := w.heap.size) (e := 9) (S := fun _ => False) (by rfl) _ _ 36 (by rfl) RStr.steady rowStrs _ vs (by rfl) (HO1.out.alloc RStr.steady _) (wr.heap.size + 1) 1 #[.string t.name] 9 (0,0) t.name (by rfl) (heap_new_at (by simp)) rfl (by simp [Value.oneCell']) rfl (by have := HLL.out;omega) (by simp;omega) ?_;intro v2 w2 hown2 hg2 hat2;have HO2 := Lib.hid (show Owned 1 RStr w.heap.size 9 (fun _ => False) w2 v2 (varsF [] (x.terms.take (k + 1))) by rw [HT.out];exact hown2);have HB2 := Lib.hid ((HB1.out.alloc (by simp;omega) _).grown hg2 (by simp;omega) (fun q hq => (HO1.out.row_lt hq).1));clear hown2 hg2 hat2))
          go_wp2
          go_roundw
          case rel => exact ⟨k + 1,by omega,by go_num,HO2,HB2⟩
          case measure => simp [intOf];omega
    · have htk : x.terms.take k = x.terms := List.take_of_length_le (by omega)
      rw [htk] at HO
      clear htk
      go_wp2
      go_ret
      exact ⟨⟨_,rfl,HO.out⟩,HB.out⟩
end Go.Proofs.YtiiicochdidolaaGreat
namespace Go.Proofs.YtiiicochdidolaaGreat
structure Cmp3 {α : Type} (c : α → α → Int) : Prop where
  anti : ∀ a b,c a b < 0 ↔ 0 < c b a
  zero : ∀ a b,c a b = 0 ↔ a = b
  trans : ∀ a b d,c a b < 0 → c b d < 0 → c a d < 0
theorem cmpInt3 : Cmp3 cmpInt where
  anti a b := by unfold cmpInt;split <;> split <;> (try split) <;> omega
  zero a b := by unfold cmpInt;split <;> (try split) <;> omega
  trans a b d := by unfold cmpInt;split <;> split <;> (try split) <;> (try split) <;> omega
theorem cmpStr_lt (a b : Str) : cmpStr a b < 0 ↔ strLt a b = true := by
  unfold cmpStr
  cases h : strLt a b <;> cases h2 : strLt b a <;> simp
theorem cmpStr_gt (a b : Str) : 0 < cmpStr a b ↔ strLt b a = true := by
  unfold cmpStr
  cases h : strLt a b
  · cases h2 : strLt b a <;> simp
  · simp [strLt_asymm h]
theorem cmpStr3 : Cmp3 cmpStr where
  anti a b := by rw [cmpStr_lt,cmpStr_gt]
  zero a b := by
    constructor
    · intro h
      refine strLt_tri ?_ ?_
      · cases h1 : strLt a b
        · rfl
        · have := (cmpStr_lt a b).2 h1;omega
      · cases h1 : strLt b a
        · rfl
        · have := (cmpStr_gt a b).2 h1;omega
    · rintro rfl
      simp [cmpStr,strLt_irrefl]
  trans a b d h k := (cmpStr_lt _ _).2 (strLt_trans ((cmpStr_lt _ _).1 h) ((cmpStr_lt _ _).1 k))
theorem Cmp3.self {α : Type} {c : α → α → Int} (h : Cmp3 c) (a : α) : c a a = 0 := (h.zero a a).2 rfl
theorem Cmp3.ne_zero {α : Type} {c : α → α → Int} (h : Cmp3 c) {a b : α} (hne : a ≠ b) : c a b ≠ 0 := fun e => hne ((h.zero a b).1 e)
theorem cmpStrs_cons (a b : Str) (x y : List Str) : cmpStrs (a :: x) (b :: y) = if cmpStr a b ≠ 0 then cmpStr a b else cmpStrs x y := rfl
theorem cmpStrs3 : Cmp3 cmpStrs where
  anti := by
    intro a
    induction a with
    | nil => intro b;cases b <;> simp [cmpStrs]
    | cons a x ih =>
      intro b
      cases b with
      | nil => simp [cmpStrs]
      | cons b y =>
        rw [cmpStrs_cons,cmpStrs_cons]
        by_cases h : a = b
        · subst h;simp [cmpStr3.self,ih y]
        · rw [if_pos (cmpStr3.ne_zero h),if_pos (cmpStr3.ne_zero (Ne.symm h))];exact cmpStr3.anti a b
  zero := by
    intro a
    induction a with
    | nil => intro b;cases b <;> simp [cmpStrs]
    | cons a x ih =>
      intro b
      cases b with
      | nil => simp [cmpStrs]
      | cons b y =>
        rw [cmpStrs_cons]
        by_cases h : a = b
        · subst h;simp [cmpStr3.self,ih y]
        · rw [if_pos (cmpStr3.ne_zero h)]
          simp [h,cmpStr3.ne_zero h]
  trans := by
    intro a
    induction a with
    | nil =>
      intro b d h k
      cases d with
      | nil => cases b <;> simp [cmpStrs] at h k
      | cons d z => simp [cmpStrs]
    | cons a x ih =>
      intro b d h k
      cases b with
      | nil => simp [cmpStrs] at h
      | cons b y =>
        cases d with
        | nil => simp [cmpStrs] at k
        | cons d z =>
          rw [cmpStrs_cons] at h k ⊢
          by_cases h1 : a = b
          · subst h1
            rw [if_neg (by simp [cmpStr3.self])] at h
            by_cases h2 : a = d
            · subst h2
              rw [if_neg (by simp [cmpStr3.self])] at k ⊢
              exact ih y z h k
            · rw [if_pos (cmpStr3.ne_zero h2)] at k ⊢
              exact k
          · rw [if_pos (cmpStr3.ne_zero h1)] at h
            by_cases h2 : b = d
            · subst h2
              rw [if_pos (cmpStr3.ne_zero h1)]
              exact h
            · rw [if_pos (cmpStr3.ne_zero h2)] at k
              have h3 := cmpStr3.trans a b d h k
              rw [if_pos (by omega)]
              exact h3
theorem cmpFact_eq (f g : PFact) : cmpFact f g = if cmpStr f.name g.name ≠ 0 then cmpStr f.name g.name else if cmpInt f.args.length g.args.length ≠ 0 then cmpInt f.args.length g.args.length else if cmpStrs f.args g.args ≠ 0 then cmpStrs f.args g.args else 0 := rfl
theorem cmpFact_name {f g : PFact} (h : f.name ≠ g.name) : cmpFact f g = cmpStr f.name g.name := by
  rw [cmpFact_eq,if_pos (cmpStr3.ne_zero h)]
theorem cmpFact_len {f g : PFact} (h : f.name = g.name) (k : (f.args.length : Int) ≠ g.args.length) : cmpFact f g = cmpInt f.args.length g.args.length := by
  rw [cmpFact_eq,h,if_neg (by simp [cmpStr3.self]),if_pos (cmpInt3.ne_zero k)]
theorem cmpFact_args {f g : PFact} (h : f.name = g.name) (k : (f.args.length : Int) = g.args.length) : cmpFact f g = cmpStrs f.args g.args := by
  rw [cmpFact_eq,h,if_neg (by simp [cmpStr3.self]),k,if_neg (by simp [cmpInt3.self])]
  split
  · rfl
  · omega
theorem cmpFact3 : Cmp3 cmpFact where
  anti f g := by
    by_cases h1 : f.name = g.name
    · by_cases h2 : (f.args.length : Int) = g.args.length
      · rw [cmpFact_args h1 h2,cmpFact_args h1.symm h2.symm];exact cmpStrs3.anti _ _
      · rw [cmpFact_len h1 h2,cmpFact_len h1.symm (Ne.symm h2)];exact cmpInt3.anti _ _
    · rw [cmpFact_name h1,cmpFact_name (Ne.symm h1)];exact cmpStr3.anti _ _
  zero f g := by
    by_cases h1 : f.name = g.name
    · by_cases h2 : (f.args.length : Int) = g.args.length
      · rw [cmpFact_args h1 h2,cmpStrs3.zero]
        constructor
        · intro h;cases f;cases g;simp_all
        · rintro rfl;rfl
      · rw [cmpFact_len h1 h2,cmpInt3.zero]
        constructor
        · intro h;exact absurd h h2
        · rintro rfl;rfl
    · rw [cmpFact_name h1,cmpStr3.zero]
      constructor
      · intro h;exact absurd h h1
      · rintro rfl;rfl
  trans f g d h k := by
    by_cases h1 : f.name = g.name
    · by_cases k1 : g.name = d.name
      · by_cases h2 : (f.args.length : Int) = g.args.length
        · by_cases k2 : (g.args.length : Int) = d.args.length
          · rw [cmpFact_args h1 h2] at h
            rw [cmpFact_args k1 k2] at k
            rw [cmpFact_args (h1.trans k1) (h2.trans k2)]
            exact cmpStrs3.trans _ _ _ h k
          · rw [cmpFact_len k1 k2] at k
            rw [cmpFact_len (h1.trans k1) (by rw [h2];exact k2),h2]
            exact k
        · rw [cmpFact_len h1 h2] at h
          by_cases k2 : (g.args.length : Int) = d.args.length
          · rw [cmpFact_len (h1.trans k1) (by rw [← k2];exact h2),← k2]
            exact h
          · rw [cmpFact_len k1 k2] at k
            have h3 := cmpInt3.trans _ _ _ h k
            rw [cmpFact_len (h1.trans k1) (fun e => by rw [e,cmpInt3.self] at h3;omega)]
            exact h3
      · rw [cmpFact_name k1] at k
        rw [cmpFact_name (by rw [h1];exact k1),h1]
        exact k
    · rw [cmpFact_name h1] at h
      by_cases k1 : g.name = d.name
      · rw [cmpFact_name (by rw [← k1];exact h1),← k1]
        exact h
      · rw [cmpFact_name k1] at k
        have h3 := cmpStr3.trans _ _ _ h k
        rw [cmpFact_name (fun e => by rw [e,cmpStr3.self] at h3;omega)]
        exact h3
def ltF (f g : PFact) : Bool := decide (cmpFact f g < 0)
theorem ltF_irrefl (f : PFact) : ltF f f = false := by simp [ltF,cmpFact3.self]
theorem ltF_trans {f g d : PFact} (h : ltF f g = true) (k : ltF g d = true) : ltF f d = true := by
  simp only [ltF,decide_eq_true_eq] at *;exact cmpFact3.trans _ _ _ h k
theorem ltF_asymm {f g : PFact} (h : ltF f g = true) : ltF g f = false := by
  simp only [ltF,decide_eq_true_eq,decide_eq_false_iff_not] at *;have := (cmpFact3.anti f g).1 h;omega
theorem ltF_tri {f g : PFact} (h : ltF f g = false) (k : ltF g f = false) : f = g := by
  simp only [ltF,decide_eq_false_iff_not] at *
  refine (cmpFact3.zero f g).1 ?_
  have := cmpFact3.anti g f
  omega
def Rising (l : List PFact) : Prop := l.Pairwise fun a b => ltF a b = true
def memF (f : PFact) : List PFact → Bool
  | [] => false
  | g :: l => decide (f = g) || memF f l
theorem memF_iff (f : PFact) : ∀ l,memF f l = true ↔ f ∈ l
  | [] => by simp [memF]
  | y :: l => by simp [memF,memF_iff f l]
def addF (f : PFact) : List PFact → List PFact
  | [] => [f]
  | g :: l => if ltF f g then f :: g :: l else if f = g then g :: l else g :: addF f l
def ofF (l : List PFact) : List PFact := l.foldr addF []
theorem mem_addF (f x : PFact) : ∀ l,x ∈ addF f l ↔ x = f ∨ x ∈ l
  | [] => by simp [addF]
  | g :: l => by
    unfold addF
    by_cases h : ltF f g = true
    · simp [h]
    · rw [if_neg h]
      by_cases e : f = g
      · subst e;simp
      · rw [if_neg e];simp only [List.mem_cons,mem_addF f x l]
        constructor
        · rintro (h | h | h) <;> simp [h]
        · rintro (h | h | h) <;> simp [h]
theorem addF_rising (f : PFact) : ∀ l,Rising l → Rising (addF f l)
  | [],_ => by simp [addF,Rising]
  | g :: l,h => by
    have hg := (List.pairwise_cons.1 h)
    unfold addF
    by_cases hl : ltF f g = true
    · rw [if_pos hl]
      refine List.pairwise_cons.2 ⟨fun x hx => ?_,h⟩
      rcases List.mem_cons.1 hx with rfl | hx
      · exact hl
      · exact ltF_trans hl (hg.1 x hx)
    · rw [if_neg hl]
      by_cases e : f = g
      · rw [if_pos e];exact h
      · rw [if_neg e]
        refine List.pairwise_cons.2 ⟨fun x hx => ?_,addF_rising f l hg.2⟩
        rcases (mem_addF f x l).1 hx with rfl | hx
        · cases hgf : ltF g x
          · exact absurd (ltF_tri (by simpa using hl) hgf) e
          · rfl
        · exact hg.1 x hx
theorem ofF_rising (l : List PFact) : Rising (ofF l) := by
  induction l with
  | nil => exact List.Pairwise.nil
  | cons f l ih => exact addF_rising f _ ih
theorem mem_ofF (x : PFact) (l : List PFact) : x ∈ ofF l ↔ x ∈ l := by
  induction l with
  | nil => simp [ofF]
  | cons f l ih =>
    show x ∈ addF f (ofF l) ↔ _
    rw [mem_addF,ih,List.mem_cons]
theorem rising_ext : ∀ {a b : List PFact},Rising a → Rising b → (∀ x,x ∈ a ↔ x ∈ b) → a = b
  | [],[],_,_,_ => rfl
  | [],y :: b,_,_,h => by have := (h y).2 (by simp);simp at this
  | x :: a,[],_,_,h => by have := (h x).1 (by simp);simp at this
  | x :: a,y :: b,ha,hb,h => by
    have ha' := List.pairwise_cons.1 ha
    have hb' := List.pairwise_cons.1 hb
    have e : x = y := by
      rcases List.mem_cons.1 ((h x).1 (by simp)) with e | hx
      · exact e
      · rcases List.mem_cons.1 ((h y).2 (by simp)) with e | hy
        · exact e.symm
        · have h1 := hb'.1 x hx
          have h2 := ha'.1 y hy
          rw [ltF_asymm h1] at h2;cases h2
    subst e
    congr 1
    refine rising_ext ha'.2 hb'.2 fun z => ?_
    constructor
    · intro hz
      rcases List.mem_cons.1 ((h z).1 (by simp [hz])) with rfl | hz'
      · have := ha'.1 z hz;rw [ltF_irrefl] at this;cases this
      · exact hz'
    · intro hz
      rcases List.mem_cons.1 ((h z).2 (by simp [hz])) with rfl | hz'
      · have := hb'.1 z hz;rw [ltF_irrefl] at this;cases this
      · exact hz'
def joinF (a b : List PFact) : List PFact := ofF (a ++ b)
def lessF (a b : List PFact) : List PFact := a.filter fun f => !memF f b
end Go.Proofs.YtiiicochdidolaaGreat
namespace Go.Proofs.YtiiicochdidolaaGreat
section
variable {α : Type} (c : α → α → Int)
def ltC (a b : α) : Bool := decide (c a b < 0)
def RisingC (l : List α) : Prop := l.Pairwise fun a b => ltC c a b = true
def addC [DecidableEq α] (f : α) : List α → List α
  | [] => [f]
  | g :: l => if ltC c f g then f :: g :: l else if f = g then g :: l else g :: addC f l
def ofC [DecidableEq α] (l : List α) : List α := l.foldr (addC c) []
def cmpLst : List α → List α → Int
  | [],[] => 0
  | [],_ :: _ => -1
  | _ :: _,[] => 1
  | a :: x,b :: y => if c a b ≠ 0 then c a b else cmpLst x y
end
section
variable {α : Type} {c : α → α → Int} (h3 : Cmp3 c)
include h3
theorem ltC_irrefl (f : α) : ltC c f f = false := by simp [ltC,h3.self]
theorem ltC_trans {f g d : α} (h : ltC c f g = true) (k : ltC c g d = true) : ltC c f d = true := by
  simp only [ltC,decide_eq_true_eq] at *;exact h3.trans _ _ _ h k
theorem ltC_asymm {f g : α} (h : ltC c f g = true) : ltC c g f = false := by
  simp only [ltC,decide_eq_true_eq,decide_eq_false_iff_not] at *;have := (h3.anti f g).1 h;omega
theorem ltC_tri {f g : α} (h : ltC c f g = false) (k : ltC c g f = false) : f = g := by
  simp only [ltC,decide_eq_false_iff_not] at *
  refine (h3.zero f g).1 ?_
  have := h3.anti g f
  omega
theorem addC_rising [DecidableEq α] (f : α) : ∀ l,RisingC c l → RisingC c (addC c f l) ∧ ∀ x,x ∈ addC c f l ↔ x = f ∨ x ∈ l
  | [],_ => by simp [addC,RisingC]
  | g :: l,h => by
    have hg := (List.pairwise_cons.1 h)
    unfold addC
    by_cases hl : ltC c f g = true
    · rw [if_pos hl]
      refine ⟨List.pairwise_cons.2 ⟨fun x hx => ?_,h⟩,by simp⟩
      rcases List.mem_cons.1 hx with rfl | hx
      · exact hl
      · exact ltC_trans h3 hl (hg.1 x hx)
    · rw [if_neg hl]
      by_cases e : f = g
      · rw [if_pos e];subst e;exact ⟨h,by simp⟩
      · rw [if_neg e]
        obtain ⟨ih,im⟩ := addC_rising f l hg.2
        refine ⟨List.pairwise_cons.2 ⟨fun x hx => ?_,ih⟩,fun x => ?_⟩
        · rcases (im x).1 hx with rfl | hx
          · cases hgf : ltC c g x
            · exact absurd (ltC_tri h3 (by simpa using hl) hgf) e
            · rfl
          · exact hg.1 x hx
        · simp only [List.mem_cons,im]
          constructor
          · rintro (h | h | h) <;> simp [h]
          · rintro (h | h | h) <;> simp [h]
theorem ofC_rising [DecidableEq α] (l : List α) : RisingC c (ofC c l) := by
  induction l with
  | nil => exact List.Pairwise.nil
  | cons f l ih => exact (addC_rising h3 f _ ih).1
theorem mem_ofC [DecidableEq α] (x : α) (l : List α) : x ∈ ofC c l ↔ x ∈ l := by
  induction l with
  | nil => simp [ofC]
  | cons f l ih =>
    show x ∈ addC c f (ofC c l) ↔ _
    rw [(addC_rising h3 f _ (ofC_rising h3 l)).2,ih,List.mem_cons]
theorem risingC_ext : ∀ {a b : List α},RisingC c a → RisingC c b → (∀ x,x ∈ a ↔ x ∈ b) → a = b
  | [],[],_,_,_ => rfl
  | [],y :: b,_,_,h => by have := (h y).2 (by simp);simp at this
  | x :: a,[],_,_,h => by have := (h x).1 (by simp);simp at this
  | x :: a,y :: b,ha,hb,h => by
    have ha' := List.pairwise_cons.1 ha
    have hb' := List.pairwise_cons.1 hb
    have e : x = y := by
      rcases List.mem_cons.1 ((h x).1 (by simp)) with e | hx
      · exact e
      · rcases List.mem_cons.1 ((h y).2 (by simp)) with e | hy
        · exact e.symm
        · have h1 := hb'.1 x hx
          have h2 := ha'.1 y hy
          rw [ltC_asymm h3 h1] at h2;cases h2
    subst e
    congr 1
    refine risingC_ext ha'.2 hb'.2 fun z => ?_
    constructor
    · intro hz
      rcases List.mem_cons.1 ((h z).1 (by simp [hz])) with rfl | hz'
      · have := ha'.1 z hz;rw [ltC_irrefl h3] at this;cases this
      · exact hz'
    · intro hz
      rcases List.mem_cons.1 ((h z).2 (by simp [hz])) with rfl | hz'
      · have := hb'.1 z hz;rw [ltC_irrefl h3] at this;cases this
      · exact hz'
theorem risingC_nodup {l : List α} (h : RisingC c l) : l.Nodup := h.imp fun {a b} hab e => by subst e;rw [ltC_irrefl h3] at hab;cases hab
theorem rising_of_sorted {l : List α} (hs : l.Pairwise fun a b => ¬ c b a < 0) (hn : l.Nodup) : RisingC c l :=
  (hs.and hn).imp fun {a b} ⟨h1,h2⟩ => by
    simp only [ltC,decide_eq_true_eq]
    have h4 := h3.ne_zero h2
    have := (h3.anti b a).2
    have := h3.anti a b
    omega
theorem cmpLst3 : Cmp3 (cmpLst c) where
  anti := by
    intro a
    induction a with
    | nil => intro b;cases b <;> simp [cmpLst]
    | cons a x ih =>
      intro b
      cases b with
      | nil => simp [cmpLst]
      | cons b y =>
        rw [cmpLst,cmpLst]
        by_cases h : a = b
        · subst h;simp [h3.self,ih y]
        · rw [if_pos (h3.ne_zero h),if_pos (h3.ne_zero (Ne.symm h))];exact h3.anti a b
  zero := by
    intro a
    induction a with
    | nil => intro b;cases b <;> simp [cmpLst]
    | cons a x ih =>
      intro b
      cases b with
      | nil => simp [cmpLst]
      | cons b y =>
        rw [cmpLst]
        by_cases h : a = b
        · subst h;simp [h3.self,ih y]
        · rw [if_pos (h3.ne_zero h)]
          simp [h,h3.ne_zero h]
  trans := by
    intro a
    induction a with
    | nil =>
      intro b d h k
      cases d with
      | nil => cases b <;> simp [cmpLst] at h k
      | cons d z => simp [cmpLst]
    | cons a x ih =>
      intro b d h k
      cases b with
      | nil => simp [cmpLst] at h
      | cons b y =>
        cases d with
        | nil => simp [cmpLst] at k
        | cons d z =>
          rw [cmpLst] at h k ⊢
          by_cases h1 : a = b
          · subst h1
            rw [if_neg (by simp [h3.self])] at h
            by_cases h2 : a = d
            · subst h2
              rw [if_neg (by simp [h3.self])] at k ⊢
              exact ih y z h k
            · rw [if_pos (h3.ne_zero h2)] at k ⊢
              exact k
          · rw [if_pos (h3.ne_zero h1)] at h
            by_cases h2 : b = d
            · subst h2
              rw [if_pos (h3.ne_zero h1)]
              exact h
            · rw [if_pos (h3.ne_zero h2)] at k
              have h4 := h3.trans a b d h k
              rw [if_pos (by omega)]
              exact h4
end
def cmpBind (a b : PBind) : Int := orInt [cmpStr a.var b.var,cmpStr a.name b.name]
theorem cmpBind_eq (a b : PBind) : cmpBind a b = if cmpStr a.var b.var ≠ 0 then cmpStr a.var b.var else cmpStr a.name b.name := by
  unfold cmpBind
  simp only [orInt]
  split
  · rfl
  · split
    · rfl
    · rename_i h;simp at h;exact h.symm
theorem cmpBind3 : Cmp3 cmpBind where
  anti a b := by
    rw [cmpBind_eq,cmpBind_eq]
    by_cases h : a.var = b.var
    · rw [h,if_neg (by simp [cmpStr3.self]),if_neg (by simp [cmpStr3.self])];exact cmpStr3.anti _ _
    · rw [if_pos (cmpStr3.ne_zero h),if_pos (cmpStr3.ne_zero (Ne.symm h))];exact cmpStr3.anti _ _
  zero a b := by
    rw [cmpBind_eq]
    obtain ⟨av,an⟩ := a
    obtain ⟨bv,bn⟩ := b
    by_cases h : av = bv
    · subst h;simp [cmpStr3.self,cmpStr3.zero]
    · rw [if_pos (cmpStr3.ne_zero h)];simp [h,cmpStr3.ne_zero h]
  trans a b d h k := by
    rw [cmpBind_eq] at *
    by_cases h1 : a.var = b.var
    · rw [h1,if_neg (by simp [cmpStr3.self])] at h
      rw [h1]
      by_cases h2 : b.var = d.var
      · rw [h2,if_neg (by simp [cmpStr3.self])] at k ⊢
        exact cmpStr3.trans _ _ _ h k
      · rw [if_pos (cmpStr3.ne_zero h2)] at k ⊢
        exact k
    · rw [if_pos (cmpStr3.ne_zero h1)] at h
      by_cases h2 : b.var = d.var
      · rw [← h2,if_pos (cmpStr3.ne_zero h1)];exact h
      · rw [if_pos (cmpStr3.ne_zero h2)] at k
        have h4 := cmpStr3.trans _ _ _ h k
        rw [if_pos (by omega)];exact h4
abbrev Binds := List PBind
def cmpBinds : Binds → Binds → Int := cmpLst cmpBind
theorem cmpBinds3 : Cmp3 cmpBinds := cmpLst3 cmpBind3
def getB (v : Str) : Binds → Option Str
  | [] => none
  | b :: l => if b.var = v then some b.name else getB v l
def valT (l : Binds) (t : PTerm) : Option Str := if t.var then getB t.name l else some t.name
def fillArgs (l : Binds) : List PTerm → Option (List Str)
  | [] => some []
  | t :: ts => match valT l t with
    | none => none
    | some n => (fillArgs l ts).map (n :: ·)
def fillP (a : PAtom) (l : Binds) : Option PFact := (fillArgs l a.terms).map fun x => ⟨a.name,x⟩
def meetL : Binds → List PTerm → List Str → Option Binds
  | l,[],_ => some l
  | _,_ :: _,[] => none
  | l,t :: ts,n :: ns => match valT l t with
    | none => meetL (l ++ [⟨t.name,n⟩]) ts ns
    | some m => if m = n then meetL l ts ns else none
def meetP (a : PAtom) (f : PFact) (l : Binds) : Option Binds := if a.name = f.name ∧ a.terms.length = f.args.length then meetL l a.terms f.args else none
def stepP (ls : List Binds) (a : PAtom) (fs : List PFact) : List Binds := ls.flatMap fun l => fs.filterMap fun f => meetP a f l
def goP (pick : Nat → List PFact) : Nat → List Binds → List PAtom → Option (List Binds)
  | _,ls,[] => some ls
  | i,ls,a :: b => if a.neg then goP pick (i + 1) ls b else if 20000 < (stepP ls a (pick i)).length then none else goP pick (i + 1) (stepP ls a (pick i)) b
def hitP (a : PAtom) (fs : List PFact) (l : Binds) : Bool := match fillP a l with
  | none => false
  | some f => memF f fs
def notP (pick : Nat → List PFact) : Nat → List Binds → List PAtom → List Binds
  | _,ls,[] => ls
  | i,ls,a :: b => notP pick (i + 1) (if a.neg then ls.filter (fun l => !hitP a (pick i) l) else ls) b
def tidyP (ls : List Binds) : List Binds := ofC cmpBinds (ls.map (ofC cmpBind))
def Vs (l : Binds) : List Str := l.map (·.var)
def Nd (l : Binds) : Prop := (Vs l).Nodup
theorem getB_none {v : Str} : ∀ {l : Binds},getB v l = none ↔ v ∉ Vs l
  | [] => by simp [getB,Vs]
  | b :: l => by
    have ih := getB_none (v := v) (l := l)
    unfold getB
    by_cases h : b.var = v
    · simp [h,Vs]
    · rw [if_neg h,ih]
      simp [Vs,Ne.symm h]
theorem getB_mem {v n : Str} : ∀ {l : Binds},getB v l = some n → ⟨v,n⟩ ∈ l
  | [],h => by simp [getB] at h
  | b :: l,h => by
    unfold getB at h
    by_cases hv : b.var = v
    · rw [if_pos hv] at h
      obtain ⟨bv,bn⟩ := b
      simp only [Option.some.injEq] at h hv
      subst h;subst hv;simp
    · rw [if_neg hv] at h
      exact List.mem_cons_of_mem _ (getB_mem h)
theorem getB_of_mem {v n : Str} : ∀ {l : Binds},Nd l → ⟨v,n⟩ ∈ l → getB v l = some n
  | [],_,h => by simp at h
  | b :: l,hn,h => by
    have hn' : (b.var :: Vs l).Nodup := hn
    rw [List.nodup_cons] at hn'
    unfold getB
    rcases List.mem_cons.1 h with rfl | h
    · simp
    · have : b.var ≠ v := fun e => hn'.1 (by rw [e];exact List.mem_map.2 ⟨_,h,rfl⟩)
      rw [if_neg this]
      exact getB_of_mem hn'.2 h
theorem getB_append {v : Str} {m : Binds} : ∀ {l : Binds},getB v (l ++ m) = (getB v l).or (getB v m)
  | [] => by simp [getB]
  | b :: l => by
    rw [List.cons_append,getB,getB]
    by_cases h : b.var = v
    · simp [h]
    · rw [if_neg h,if_neg h];exact getB_append
theorem getB_same {l m : Binds} (hl : Nd l) (hm : Nd m) (h : ∀ x,x ∈ l ↔ x ∈ m) (v : Str) : getB v l = getB v m := by
  cases hg : getB v l with
  | some n => exact (getB_of_mem hm ((h _).1 (getB_mem hg))).symm
  | none =>
    cases hk : getB v m with
    | none => rfl
    | some n => rw [getB_of_mem hl ((h _).2 (getB_mem hk))] at hg;cases hg
def SubB (l e : Binds) : Prop := ∀ v n,getB v l = some n → getB v e = some n
theorem SubB.append {l m : Binds} : SubB l (l ++ m) := fun v n h => by rw [getB_append,h];rfl
theorem SubB.trans {l m e : Binds} (h : SubB l m) (k : SubB m e) : SubB l e := fun v n hv => k v n (h v n hv)
theorem SubB.valT {l e : Binds} (h : SubB l e) {t : PTerm} {n : Str} (hv : valT l t = some n) : valT e t = some n := by
  unfold Go.Proofs.YtiiicochdidolaaGreat.valT at *
  cases ht : t.var
  · simpa [ht] using hv
  · rw [ht] at hv;simp only [if_true] at hv ⊢;exact h _ _ hv
theorem SubB.fillArgs {l e : Binds} (h : SubB l e) : ∀ {ts : List PTerm} {ns : List Str},fillArgs l ts = some ns → fillArgs e ts = some ns
  | [],ns,hv => hv
  | t :: ts,ns,hv => by
    unfold Go.Proofs.YtiiicochdidolaaGreat.fillArgs at hv ⊢
    cases ht : Go.Proofs.YtiiicochdidolaaGreat.valT l t with
    | none => rw [ht] at hv;cases hv
    | some n =>
      rw [ht] at hv
      rw [h.valT ht]
      dsimp only at hv ⊢
      cases hr : Go.Proofs.YtiiicochdidolaaGreat.fillArgs l ts with
      | none => rw [hr] at hv;cases hv
      | some r => rw [hr] at hv;rw [h.fillArgs hr];exact hv
theorem SubB.fillP {l e : Binds} (h : SubB l e) {a : PAtom} {f : PFact} (hf : fillP a l = some f) : fillP a e = some f := by
  unfold Go.Proofs.YtiiicochdidolaaGreat.fillP at *
  cases hr : Go.Proofs.YtiiicochdidolaaGreat.fillArgs l a.terms with
  | none => rw [hr] at hf;cases hf
  | some r => rw [hr] at hf;rw [h.fillArgs hr];exact hf
theorem fillP_name {a : PAtom} {f : PFact} {l : Binds} (h : fillP a l = some f) : a.name = f.name ∧ fillArgs l a.terms = some f.args := by
  unfold fillP at h
  cases hr : fillArgs l a.terms with
  | none => rw [hr] at h;cases h
  | some r => rw [hr] at h;obtain rfl := Option.some.inj h;exact ⟨rfl,rfl⟩
theorem fillArgs_len {l : Binds} : ∀ {ts : List PTerm} {ns : List Str},fillArgs l ts = some ns → ts.length = ns.length
  | [],ns,h => by obtain rfl := Option.some.inj h;rfl
  | t :: ts,ns,h => by
    unfold fillArgs at h
    cases hv : valT l t with
    | none => rw [hv] at h;cases h
    | some n =>
      rw [hv] at h
      dsimp only at h
      cases hr : fillArgs l ts with
      | none => rw [hr] at h;cases h
      | some r =>
        rw [hr] at h
        obtain rfl := Option.some.inj h
        simp [fillArgs_len hr]
theorem fillArgs_some {l : Binds} : ∀ {ts : List PTerm},(∀ t ∈ ts,t.var = true → t.name ∈ Vs l) → ∃ ns,fillArgs l ts = some ns
  | [],_ => ⟨[],rfl⟩
  | t :: ts,h => by
    obtain ⟨ns,hns⟩ := fillArgs_some (ts := ts) fun u hu => h u (by simp [hu])
    have : ∃ n,valT l t = some n := by
      unfold valT
      cases ht : t.var
      · exact ⟨t.name,by simp⟩
      · have := h t (by simp) ht
        cases hg : getB t.name l with
        | none => exact absurd this (getB_none.1 hg)
        | some n => exact ⟨n,by simp⟩
    obtain ⟨n,hn⟩ := this
    exact ⟨n :: ns,by unfold fillArgs;rw [hn,hns];rfl⟩
theorem fillArgs_vars {l : Binds} : ∀ {ts : List PTerm} {ns : List Str},fillArgs l ts = some ns → ∀ t ∈ ts,t.var = true → t.name ∈ Vs l
  | [],_,_,t,ht,_ => by simp at ht
  | u :: ts,ns,h,t,ht,hv => by
    unfold fillArgs at h
    cases hu : valT l u with
    | none => rw [hu] at h;cases h
    | some n =>
      rw [hu] at h
      dsimp only at h
      cases hr : fillArgs l ts with
      | none => rw [hr] at h;cases h
      | some r =>
        rcases List.mem_cons.1 ht with rfl | ht
        · unfold valT at hu
          rw [if_pos hv] at hu
          exact List.mem_map.2 ⟨_,getB_mem hu,rfl⟩
        · exact fillArgs_vars hr t ht hv
theorem nd_snoc {l : Binds} (h : Nd l) {v n : Str} (hv : v ∉ Vs l) : Nd (l ++ [⟨v,n⟩]) := by
  show (Vs (l ++ [⟨v,n⟩])).Nodup
  unfold Vs
  rw [List.map_append]
  refine List.nodup_append.2 ⟨h,by simp,?_⟩
  intro a ha b hb e
  simp only [List.map_cons,List.map_nil,List.mem_singleton] at hb
  subst hb;subst e
  exact hv ha
theorem meetL_spec : ∀ (ts : List PTerm) (ns : List Str) (l m : Binds),ts.length = ns.length → Nd l → meetL l ts ns = some m →
    Nd m ∧ SubB l m ∧ fillArgs m ts = some ns ∧ ∀ v,v ∈ Vs m ↔ v ∈ Vs l ∨ ∃ t ∈ ts,t.var = true ∧ t.name = v
  | [],ns,l,m,hl,hn,h => by
    obtain rfl : l = m := Option.some.inj h
    obtain rfl : ns = [] := List.length_eq_zero_iff.1 hl.symm
    exact ⟨hn,fun v n h => h,rfl,by simp⟩
  | t :: ts,[],l,m,hl,hn,h => by simp at hl
  | t :: ts,n :: ns,l,m,hl,hn,h => by
    have hl' : ts.length = ns.length := by simpa using hl
    unfold meetL at h
    cases hv : valT l t with
    | none =>
      rw [hv] at h
      dsimp only at h
      have htv : t.var = true := by unfold valT at hv;cases ht : t.var <;> simp [ht] at hv ⊢
      have hnew : t.name ∉ Vs l := by unfold valT at hv;rw [if_pos htv] at hv;exact getB_none.1 hv
      obtain ⟨h1,h2,h4,h5⟩ := meetL_spec ts ns _ m hl' (nd_snoc hn hnew) h
      have hval : valT m t = some n := by
        unfold valT
        rw [if_pos htv]
        exact h2 _ _ (getB_of_mem (nd_snoc hn hnew) (by simp))
      refine ⟨h1,SubB.append.trans h2,?_,fun v => ?_⟩
      · unfold fillArgs;rw [hval,h4];rfl
      · rw [h5]
        have e : v ∈ Vs (l ++ [⟨t.name,n⟩]) ↔ v ∈ Vs l ∨ v = t.name := by simp [Vs]
        rw [e]
        constructor
        · rintro ((k | k) | ⟨u,hu,k⟩)
          · exact .inl k
          · exact .inr ⟨t,by simp,htv,k.symm⟩
          · exact .inr ⟨u,by simp [hu],k⟩
        · rintro (k | ⟨u,hu,k⟩)
          · exact .inl (.inl k)
          · rcases List.mem_cons.1 hu with e2 | hu
            · rw [e2] at k;exact .inl (.inr k.2.symm)
            · exact .inr ⟨u,hu,k⟩
    | some k =>
      rw [hv] at h
      dsimp only at h
      by_cases hk : k = n
      · subst hk
        rw [if_pos rfl] at h
        obtain ⟨h1,h2,h4,h5⟩ := meetL_spec ts ns l m hl' hn h
        refine ⟨h1,h2,?_,fun v => ?_⟩
        · unfold fillArgs;rw [h2.valT hv,h4];rfl
        · rw [h5]
          constructor
          · rintro (h | ⟨u,hu,h⟩)
            · exact .inl h
            · exact .inr ⟨u,by simp [hu],h⟩
          · rintro (h | ⟨u,hu,h⟩)
            · exact .inl h
            · rcases List.mem_cons.1 hu with rfl | hu
              · left
                unfold valT at hv
                rw [if_pos h.1] at hv
                rw [← h.2]
                exact List.mem_map.2 ⟨_,getB_mem hv,rfl⟩
              · exact .inr ⟨u,hu,h⟩
      · rw [if_neg hk] at h;cases h
theorem meetL_full : ∀ (ts : List PTerm) (ns : List Str) (l e : Binds),fillArgs e ts = some ns → SubB l e → ∃ m,meetL l ts ns = some m ∧ SubB m e
  | [],ns,l,e,h,hs => ⟨l,rfl,hs⟩
  | t :: ts,ns,l,e,h,hs => by
    unfold fillArgs at h
    cases hv : valT e t with
    | none => rw [hv] at h;cases h
    | some n =>
      rw [hv] at h
      dsimp only at h
      cases hr : fillArgs e ts with
      | none => rw [hr] at h;cases h
      | some r =>
        rw [hr] at h
        obtain rfl : n :: r = ns := Option.some.inj h
        unfold meetL
        cases hl : valT l t with
        | some k =>
          have := hs.valT hl
          rw [hv] at this
          obtain rfl := Option.some.inj this
          dsimp only
          rw [if_pos rfl]
          exact meetL_full ts r l e hr hs
        | none =>
          dsimp only
          have htv : t.var = true := by unfold valT at hl;cases ht : t.var <;> simp [ht] at hl ⊢
          refine meetL_full ts r _ e hr fun v m hm => ?_
          rw [getB_append] at hm
          cases hg : getB v l with
          | some k => rw [hg] at hm;exact hs v m (by rw [hg];exact hm)
          | none =>
            rw [hg] at hm
            simp only [Option.none_or,getB] at hm
            by_cases e1 : t.name = v
            · rw [if_pos e1] at hm
              obtain rfl := Option.some.inj hm
              subst e1
              unfold valT at hv
              rwa [if_pos htv] at hv
            · rw [if_neg e1] at hm;cases hm
end Go.Proofs.YtiiicochdidolaaGreat
