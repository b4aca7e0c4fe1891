/-
  THE TEXTS MapW, CheckW3, Lit, StrataP, NaiveP, StrataQ, one behind the other.
-/
import Derived.Test.YtiiicochdidolaaGreatTk1
import Derived.Test.YtiiicochdidolaaGreatTk3
import Derived.Test.YtiiicochdidolaaGreatTk4
import Derived.Test.YtiiicochdidolaaGreatTk5
import Derived.Test.YtiiicochdidolaaGreatTk9
import Derived.Maps.OwnSet
import Derived.Maps.OwnOps
import Derived.Deep.DeepCutAuto
import Derived.Deep.RegionLaw
namespace Go.Proofs.YtiiicochdidolaaGreat
open Go.RowKit Go.Maps
theorem lawStr : Keyed Tryz.prog 9 := string_keyed Tryz.underlying9
theorem zeroInt (w : World) : (zeroValue 3).run Tryz.prog w = .ok (.int .i64 0) w := by kernel_rfl
theorem zeroBool (w : World) : (zeroValue 4).run Tryz.prog w = .ok (.bool false) w := by kernel_rfl
def keyL (s : Str) : Lit := .string s.data.toList
theorem keyStr {s : Str} (h : s.size ≤ maxLen) : keyOf Tryz.prog 9 (.string s) = some (keyL s) := WideMaps.keyOf_string_mk Tryz.underlying9 h
theorem keyL_inj {s t : Str} (h : keyL s = keyL t) : s = t := by
  unfold keyL at h
  injection h with h
  cases s;cases t
  simpa [Array.toList_inj] using h
def MapI (w : World) (b n : Nat) (f : Str → Option Int) : Prop :=
  ∃ D : DataW Unit,w.ownsMap Tryz.prog 9 (plainElem Tryz.prog 3) b n D ∧ ∀ s,s.size ≤ maxLen → Maps.has D (keyL s) = (f s).isSome ∧ D.atKey (keyL s) (.lit (.int .i64 0)) = .lit (.int .i64 ((f s).getD 0))
section
variable {w w' : World} {b n : Nat} {f : Str → Option Int}
theorem MapI.lt (h : MapI w b n f) : b < w.heap.size := let ⟨_,h1,_⟩ := h;h1.lt
theorem MapI.kept {row : Option Nat} (h : MapI w b n f) (hg : w.grownBy w' row) (hne : some b ≠ row) : MapI w' b n f := let ⟨D,h1,h2⟩ := h;⟨D,h1.kept hg hne,h2⟩
theorem MapI.below {B : Nat} (h : MapI w b n f) (hb : Below B w w') (hB : b < B) : MapI w' b n f := by
  obtain ⟨D,⟨es,clock,h1,h2⟩,h3⟩ := h
  exact ⟨D,⟨es,clock,(hb.block b hB).trans h1,h2⟩,h3⟩
theorem MapI.alloc (h : MapI w b n f) (o : Obj) : MapI (w.alloc o) b n f := h.kept (World.grownBy_alloc w o none) (by simp)
theorem MapI.drew (h : MapI w b n f) : MapI w.drew b n f := let ⟨D,h1,h2⟩ := h;⟨D,h1.drew,h2⟩
theorem MapI.made (w : World) : MapI (w.alloc (.map #[] 0)) w.heap.size 0 (fun _ => none) := ⟨.map [],World.ownsMap_made _ _ _ _,fun _ _ => ⟨rfl,rfl⟩⟩
set_option maxRecDepth 100000 in
theorem MapI.get (h : MapI w b n f) {s : Str} (hs : s.size ≤ maxLen) : (Instr.lookup 161 (.map (some b)) (.string s) false).run Tryz.prog w = .ok (.int .i64 ((f s).getD 0)) w := by
  obtain ⟨D,h1,h2⟩ := h
  obtain ⟨c,hrun,hat,_⟩ := h1.lookup_int lawStr Tryz.underlying161 Tryz.underlying3 (zeroInt w) (keyStr hs)
  rw [(h2 s hs).2] at hat
  injection hat with hat
  injection hat with _ hat
  rw [hrun,hat]
set_option maxRecDepth 100000 in
theorem MapI.getOk (h : MapI w b n f) {s : Str} (hs : s.size ≤ maxLen) : (Instr.lookup 161 (.map (some b)) (.string s) true).run Tryz.prog w = .ok (.tuple #[.int .i64 ((f s).getD 0),.bool (f s).isSome]) w := by
  obtain ⟨D,h1,h2⟩ := h
  obtain ⟨v,ps,hrun,hv⟩ := h1.look_ok lawStr Tryz.underlying161 (zeroInt w) (zd := .lit (.int .i64 0)) (zp := []) (plainElem_int Tryz.underlying3 (by decide)) (keyStr hs)
  rw [(h2 s hs).2] at hv
  obtain ⟨c,rfl,hc,_⟩ := plainElem_int_inv Tryz.underlying3 hv
  injection hc with hc _
  injection hc with hc
  injection hc with _ hc
  rw [hrun,(h2 s hs).1,hc]
set_option maxRecDepth 100000 in
theorem MapI.put (h : MapI w b n f) (hn : n < maxLen) {s : Str} (hs : s.size ≤ maxLen) {x : Int} (hx : (Lit.int .i64 x).wf = true) :
    ∃ w',(Instr.mapUpdate 161 (.map (some b)) (.string s) (.int .i64 x)).run Tryz.prog w = .ok () w' ∧ MapI w' b (n + 1) (fun t => if t = s then some x else f t) ∧ w.grownBy w' (some b) := by
  obtain ⟨D,h1,h2⟩ := h
  have hM := h1.isMap
  obtain ⟨w',hrun,h3,h4⟩ := h1.update lawStr Tryz.underlying161 hn (keyStr hs) (plainElem_int Tryz.underlying3 hx)
  refine ⟨w',hrun,⟨_,h3,fun t ht => ?_⟩,h4⟩
  by_cases e : t = s
  · subst e
    simp only [if_true]
    exact ⟨Maps.has_put_same hM (by trivial) _,Maps.atKey_put_same hM (by trivial) _ _⟩
  · simp only [if_neg e]
    have hne : keyL t ≠ keyL s := fun h => e (keyL_inj h)
    rw [Maps.has_put_other hne,Maps.atKey_put_other hne]
    exact h2 t ht
end
def onceS (ks : List Str) : List Str := ks.foldl (fun acc x => if memS x acc then acc else acc ++ [x]) []
theorem any_key (s : Str) : ∀ ks : List Str,(ks.map keyL).any (fun y => y.sameKey (keyL s)) = memS s ks
  | [] => rfl
  | k :: ks => by
    rw [List.map_cons,List.any_cons,any_key s ks,memS]
    congr 1
    by_cases e : s = k
    · subst e
      rw [decide_eq_true rfl]
      simp [keyL,Lit.sameKey]
    · rw [decide_eq_false e]
      cases h : (keyL k).sameKey (keyL s)
      · rfl
      · exact absurd (keyL_inj (WideAt.sameKey_eq h)).symm e
theorem fold_addKey : ∀ (ks acc : List Str),(ks.map keyL).foldl Maps.addKey (acc.map keyL) = (ks.foldl (fun acc x => if memS x acc then acc else acc ++ [x]) acc).map keyL
  | [],acc => rfl
  | k :: ks,acc => by
    rw [List.map_cons,List.foldl_cons,List.foldl_cons]
    have : Maps.addKey (acc.map keyL) (keyL k) = (if memS k acc then acc else acc ++ [k]).map keyL := by
      unfold Maps.addKey
      rw [any_key]
      split <;> simp
    rw [this]
    exact fold_addKey ks _
theorem mem_onceS_aux (x : Str) : ∀ (ks acc : List Str),x ∈ ks.foldl (fun acc x => if memS x acc then acc else acc ++ [x]) acc ↔ x ∈ ks ∨ x ∈ acc
  | [],acc => by simp
  | k :: ks,acc => by
    rw [List.foldl_cons,mem_onceS_aux x ks]
    by_cases h : memS k acc = true
    · rw [if_pos h]
      have := (memS_iff k acc).1 h
      simp only [List.mem_cons]
      constructor
      · rintro (h | h)
        · exact .inl (.inr h)
        · exact .inr h
      · rintro ((rfl | h) | h)
        · exact .inr this
        · exact .inl h
        · exact .inr h
    · rw [if_neg h]
      simp only [List.mem_cons,List.mem_append,List.not_mem_nil,or_false]
      constructor
      · rintro (h | h | h)
        · exact .inl (.inr h)
        · exact .inr h
        · exact .inl (.inl h)
      · rintro ((h | h) | h)
        · exact .inr (.inr h)
        · exact .inl h
        · exact .inr (.inl h)
theorem mem_onceS (x : Str) (ks : List Str) : x ∈ onceS ks ↔ x ∈ ks := by
  unfold onceS
  rw [mem_onceS_aux]
  simp
def MapB (w : World) (b : Nat) (ks : List Str) : Prop :=
  w.ownsMap (H := Unit) Tryz.prog 9 (plainElem Tryz.prog 4) b ks.length (Maps.setOf (.lit (.bool true)) (ks.map keyL))
theorem keys_ok (ks : List Str) : ∀ x ∈ ks.map keyL,WideAt.IsKeyLit x := fun x hx => by
  obtain ⟨s,_,rfl⟩ := List.mem_map.1 hx
  trivial
theorem atKey_setOf (s : Str) (z : DataW Unit) (ks : List Str) : (Maps.setOf (.lit (.bool true)) (ks.map keyL)).atKey (keyL s) z = if memS s ks then .lit (.bool true) else z := by
  cases h : memS s ks
  · rw [Maps.atKey_of_not_has]
    · rfl
    · rw [Maps.has_setOf _ _ _ (keys_ok ks),any_key,h]
  · have main : ∀ (ks : List Str),memS s ks = true → (Maps.setOf (.lit (.bool true)) (ks.map keyL)).atKey (keyL s) z = .lit (.bool true) := by
      intro ks
      rw [← List.reverse_reverse ks]
      induction ks.reverse with
      | nil => intro h;simp [memS] at h
      | cons k r ih =>
        intro h
        rw [List.reverse_cons,List.map_append,List.map_cons,List.map_nil,Maps.setOf_snoc]
        by_cases e : s = k
        · subst e
          exact Maps.atKey_put_same (Maps.tidy_setOf _ _ (keys_ok _)).isMap (by trivial) _ _
        · rw [Maps.atKey_put_other (fun h => e (keyL_inj h))]
          refine ih ?_
          rw [memS_iff,List.reverse_cons,List.mem_append,List.mem_singleton] at h
          rw [memS_iff]
          exact h.elim id (fun h => absurd h e)
    exact main ks h
section
variable {w w' : World} {b : Nat} {ks : List Str}
theorem MapB.lt (h : MapB w b ks) : b < w.heap.size := World.ownsMap.lt h
theorem MapB.kept {row : Option Nat} (h : MapB w b ks) (hg : w.grownBy w' row) (hne : some b ≠ row) : MapB w' b ks := World.ownsMap.kept h hg hne
theorem MapB.alloc (h : MapB w b ks) (o : Obj) : MapB (w.alloc o) b ks := h.kept (World.grownBy_alloc w o none) (by simp)
theorem MapB.made (w : World) : MapB (w.alloc (.map #[] 0)) w.heap.size [] := World.ownsMap_made _ _ _ _
set_option maxRecDepth 100000 in
theorem MapB.get (h : MapB w b ks) {s : Str} (hs : s.size ≤ maxLen) : (Instr.lookup 57 (.map (some b)) (.string s) false).run Tryz.prog w = .ok (.bool (memS s ks)) w := by
  obtain ⟨v,ps,hrun,hv⟩ := World.ownsMap.lookup h lawStr Tryz.underlying57 (zeroBool w) (zd := .lit (.bool false)) (zp := []) (plainElem_bool Tryz.underlying4 false) (keyStr hs)
  rw [atKey_setOf] at hv
  rw [hrun]
  have hb : ∃ x,v = .bool x ∧ (.lit (.bool x),[]) = (if memS s ks then (.lit (.bool true) : DataW Unit) else .lit (.bool false),ps) := by
    have hu : Tryz.prog.underlying 4 = some .bool := Tryz.underlying4
    unfold plainElem at hv
    rw [hu] at hv
    cases v <;> simp at hv
    rename_i x
    exact ⟨x,rfl,by rw [Prod.mk.injEq];exact ⟨hv.1,hv.2.symm⟩⟩
  obtain ⟨x,rfl,hx⟩ := hb
  injection hx with hx _
  cases hm : memS s ks <;> rw [hm] at hx <;> simp at hx <;> rw [hx]
theorem MapB.len (h : MapB w b ks) (ty : TypeId) : (Builtin.len_ #[57] ty #[.map (some b)]).run Tryz.prog w = .ok (.int .i64 ((onceS ks).length : Int)) w := by
  have := World.ownsMap.len h Tryz.underlying57 ty
  rw [Maps.size_setOf _ _ (keys_ok ks)] at this
  have e := fold_addKey ks []
  rw [List.map_nil] at e
  rw [e,List.length_map] at this
  exact this
set_option maxRecDepth 100000 in
theorem MapB.put (h : MapB w b ks) (hn : ks.length < maxLen) {s : Str} (hs : s.size ≤ maxLen) :
    ∃ w',(Instr.mapUpdate 57 (.map (some b)) (.string s) (.bool true)).run Tryz.prog w = .ok () w' ∧ MapB w' b (ks ++ [s]) ∧ w.grownBy w' (some b) := by
  obtain ⟨w',hrun,h3,h4⟩ := World.ownsMap.update h lawStr Tryz.underlying57 hn (keyStr hs) (plainElem_bool Tryz.underlying4 true)
  refine ⟨w',hrun,?_,h4⟩
  unfold MapB
  rw [List.map_append,List.map_cons,List.map_nil,Maps.setOf_snoc,List.length_append]
  exact h3
end
end Go.Proofs.YtiiicochdidolaaGreat
namespace Go.Proofs.YtiiicochdidolaaGreat
open Go.RowKit Go.Maps
theorem grown_drew (w : World) (row : Option Nat) : w.grownBy w.drew row := ⟨rfl,rfl,rfl,Nat.le_refl _,fun _ _ _ => rfl⟩
theorem MapI.wider {w : World} {b n m : Nat} {f : Str → Option Int} (h : MapI w b n f) (hm : n ≤ m) : MapI w b m f := let ⟨D,⟨es,clock,h1,h2,h3,h4⟩,h5⟩ := h;⟨D,⟨es,clock,h1,h2,Nat.le_trans h3 hm,h4⟩,h5⟩
set_option maxRecDepth 100000 in
set_option maxHeartbeats 4000000 in
theorem arityCalls {S : Nat → Prop} (b o bm n : Nat) (m : Known) (x : PAtom) (tv : Value) (w : World) (c1 : w.cell? ⟨b,o + 1,none⟩ = some (.string x.name)) (c2 : w.cell? ⟨b,o + 2,none⟩ = some tv) (h : RdTerms S w tv x.terms)
    (hm : MapI w bm n m) (hn : n < maxLen) (hs : x.name.size ≤ maxLen) (hl : x.terms.length ≤ 1073741824) :
    Calls Tryz.prog 132 #[.map (some bm),.pointer (some ⟨b,o,none⟩)] w fun e w' => e = .returned (.bool (fits m x)) ∧ MapI w' bm (n + 1) (learn m x) ∧ w.grownBy w' (some bm) := by
  obtain ⟨a,c,rfl,-,-,-⟩ := id h.form
  have hg := hm.getOk hs
  cases hv : m x.name with
  | some q =>
    rw [hv] at hg
    have HM := Lib.hid (hm.wider (Nat.le_succ n))
    have HL := Lib.hid (show learn m x = m by unfold learn;rw [hv];rfl)
    have HF := Lib.hid (show fits m x = (q == (x.terms.length : Int)) by unfold fits;rw [hv])
    clear h hm hv
    simp only [Option.isSome,Option.getD] at hg
    go_enter Tryz.func132,Tryz.ntmps132
    go_wp2
    go_ret
    exact ⟨ret_bool HF.out.symm,by rw [HL.out];exact HM.out,World.grownBy.refl _ _⟩
  | none =>
    rw [hv] at hg
    simp only [Option.isSome,Option.getD] at hg
    obtain ⟨w1,hrun,hm1,hg1⟩ := hm.drew.put hn hs (x := (x.terms.length : Int)) (WalkArith.wf_i64 (by omega))
    have HM1 := Lib.hid (show MapI w1 bm (n + 1) (learn m x) by unfold learn;rw [hv];exact hm1)
    have HG1 := Lib.hid (show w.grownBy w1 (some bm) from (grown_drew w _).trans hg1)
    have HF := Lib.hid (show fits m x = true by unfold fits;rw [hv])
    clear h hm hv hm1 hg1
    go_enter Tryz.func132,Tryz.ntmps132
    go_wp2
    go_cut [] (fun wx => MapI wx bm (n + 1) (learn m x) ∧ w.grownBy wx (some bm))
    case first =>
      go_region_law (fail)
      all_goals
        go_wp2_with fail
        go_meet
        exact ⟨HM1.out,HG1.out⟩
    obtain ⟨HM2,HG2⟩ := hcut
    replace HM2 := Lib.hid HM2
    replace HG2 := Lib.hid HG2
    go_wp2
    go_ret
    exact ⟨ret_bool HF.out.symm,HM2.out,HG2.out⟩
theorem wrongFrom_bad {m : Known} {i : Int} {r : PRule} {p : List PRule} (h : ruleBad r ≠ 0) : wrongFrom m i (r :: p) = (ruleBad r,i) := by unfold wrongFrom;rw [if_pos h]
theorem wrongFrom_unfit {m : Known} {i : Int} {r : PRule} {p : List PRule} (h : ruleBad r = 0) (hf : fitAll m (r.head :: r.body) = false) : wrongFrom m i (r :: p) = (8,i) := by unfold wrongFrom;rw [if_neg (by simpa using h),hf];rfl
theorem wrongFrom_fit {m : Known} {i : Int} {r : PRule} {p : List PRule} (h : ruleBad r = 0) (hf : fitAll m (r.head :: r.body) = true) : wrongFrom m i (r :: p) = wrongFrom (learnAll m (r.head :: r.body)) (i + 1) p := by
  conv => lhs;unfold wrongFrom
  rw [if_neg (by simpa using h),hf];rfl
structure NameSmall (x : PRule) : Prop where
  h : x.head.name.size ≤ 1048576
  b : ∀ a ∈ x.body,a.name.size ≤ 1048576
theorem at_drop {α : Type} {l : List α} {k : Nat} {x : α} (h : l[k]? = some x) : l.drop k = x :: l.drop (k + 1) := by
  obtain ⟨hk,e⟩ := List.getElem?_eq_some_iff.1 h
  rw [List.drop_eq_getElem_cons hk,e]
set_option maxRecDepth 100000 in
set_option maxHeartbeats 8000000 in
theorem wrongCalls {S : Nat → Prop} (p : List PRule) (v : Value) (w : World) (h : RdRules S w v p) (n1 : p.length ≤ 1048576) (n2 : ∀ r ∈ p,RuleSmall r) (n3 : ∀ r ∈ p,NameSmall r) :
    Calls Tryz.prog 107 #[v] w fun e w' => e = .returned (.agg #[.int .i64 (wrongP p).1,.int .i64 (wrongP p).2]) ∧ Below w.heap.size w w' := by
  obtain ⟨a,c,rfl,-,-,-⟩ := id h.form
  have H := Lib.hid h
  have N2 := Lib.hid n2
  have N3 := Lib.hid n3
  clear h n2 n3
  by_cases hmany : 16 < p.length
  · have hs : wrongP p = (5,0) := by unfold wrongP;rw [if_pos hmany]
    have HS := Lib.hid hs
    have i1 : (16 : Int) < (p.length : Int) := by omega
    clear hs
    go_enter Tryz.func107,Tryz.ntmps107
    go_wp2
    refine bodyPost_ret (v := .agg #[.int .i64 5,.int .i64 0]) (by simp [results,Tryz.results107,go_sem]) rfl ⟨by rw [HS.out],?_⟩
    exact (Below.refl _ _).alloc (Nat.le_refl _) _
  have hP0 : wrongP p = wrongFrom (fun _ => none) ((0 : Nat) : Int) (p.drop 0) := by unfold wrongP;rw [if_neg hmany];rfl
  have HP0 := Lib.hid hP0
  clear hP0
  have i0 : ¬ ((16 : Int) < (p.length : Int)) := by omega
  have hmm := @run_makeMap Tryz.prog
  go_enter Tryz.func107,Tryz.ntmps107
  go_wp2
  have HB := Lib.hid (((Below.refl w.heap.size w).alloc (Nat.le_refl _) (.cells #[.int .i64 0,.int .i64 0] 49)).alloc (by simp) (.map #[] 0))
  have HK := Lib.hid ((Blk.new w 49 #[.int .i64 0,.int .i64 0]).alloc (.map #[] 0))
  have HM := Lib.hid (MapI.made (w.alloc (.cells #[.int .i64 0,.int .i64 0] 49)))
  have hms : (w.alloc (.cells #[.int .i64 0,.int .i64 0] 49)).heap.size = w.heap.size + 1 := by simp
  rw [hms] at HM
  clear hms
  go_loopw [14] (fun i wr => ∃ (k : Nat) (n : Nat) (m : Known),k ≤ p.length ∧ i = .int .i64 k ∧ n ≤ k * 6 ∧ Hid (MapI wr (w.heap.size + 1) n m) ∧ Hid (Blk wr w.heap.size 49 #[.int .i64 0,.int .i64 0]) ∧ Hid (Below w.heap.size w wr) ∧ Hid (wrongP p = wrongFrom m (k : Int) (p.drop k))) (fun i _ => p.length - (intOf i).toNat)
  case atStart => exact ⟨0,0,_,Nat.zero_le _,rfl,Nat.zero_le _,by simpa using HM,HK,HB,HP0⟩
  case round =>
    clear HB HK HM HP0
    obtain ⟨k,n,m,hk,rfl,hn,HM,HK,HB,HP⟩ := hrel
    by_cases hlt : k < p.length
    · obtain ⟨x,hx⟩ : ∃ x,p[k]? = some x := ⟨_,List.getElem?_eq_getElem hlt⟩
      have hmem := List.mem_of_getElem? hx
      obtain ⟨b1,o1,tv,bv,rfl,-,hb1,d0,d1,d2,d3,htv,hbv⟩ := RdRules.at H.out hx
      have HR := Lib.hid (show RuleAt S w b1 (o1 + k * 4) x tv bv from ⟨hb1,d0,d1,d2,d3,htv,hbv⟩)
      have HS := Lib.hid (N2.out x hmem)
      have HN := Lib.hid (N3.out x hmem)
      have KR := Lib.hid (checkRule b1 (o1 + k * 4) x tv bv wr (HR.out.up HB.out) HS.out)
      rw [at_drop hx] at HP
      have hx' := hx
      clear d0 d1 d2 d3 htv hbv hx hmem
      by_cases hz : ruleBad x = 0
      rotate_left
      · have HE := Lib.hid (HP.out.trans (wrongFrom_bad hz))
        have hne : (ruleBad x != 0) = true := by simpa using hz
        clear hz
        generalize ruleBad x = q at *
        go_wp2_with (go_at_call 131;refine (KR.out).mono ?_;rintro e w1 ⟨rfl,hf1⟩;have HB1 := Lib.hid (HB.out.trans (hf1.mono HB.out.size));have HK1 := Lib.hid (HK.out.below hf1 HK.out.lt);have c0 := HK1.out.cell 0;have c1 := HK1.out.cell 1;have f0 := HK1.out.frozen 0;have f1 := HK1.out.frozen 1;simp at c0 c1;clear hf1)
        go_wp2
        refine bodyPost_ret (v := .agg #[.int .i64 q,.int .i64 k]) (by simp [results,Tryz.results107,go_sem,c0,c1]) rfl ⟨by rw [HE.out],?_⟩
        exact (HB1.out.setCell (Nat.le_refl _) _).setCell (Nat.le_refl _) _
      rw [hz] at KR
      have HX := Lib.hid hx'
      have HZ := Lib.hid hz
      have hb5 := ruleBad_body hz
      clear hz
      have hmb : w.heap.size + 1 < wr.heap.size := HM.out.lt
      have hnx : n < maxLen := by unfold maxLen;omega
      have hpre : Hid (MapI wr (w.heap.size + 1) n m) := HM
      have HNE : Hid (∀ q,some (w.heap.size + 1) = some q → w.heap.size ≤ q) := Lib.hid (fun q hq => by cases hq;omega)
      have KA := Lib.hid (fun (W : World) (hW : MapI W (w.heap.size + 1) n m) (hB : Below w.heap.size w W) => have hR := HR.out.up hB;arityCalls b1 (o1 + k * 4) (w.heap.size + 1) n m x.head tv W hR.c1 hR.c2 hR.t hW hnx (by have := HN.out.h;unfold maxLen;omega) (by have := HS.out.h1;omega))
      cases hf : fits m x.head
      · rw [hf] at KA
        have HE := Lib.hid (HP.out.trans (wrongFrom_unfit HZ.out (by show (fits m x.head && _) = false;rw [hf];rfl)))
        clear hf
        go_wp2_with (first
          | (go_at_call 131;refine (KR.out).mono ?_;rintro e w1 ⟨rfl,hf1⟩;have HB1 := Lib.hid (HB.out.trans (hf1.mono HB.out.size));have HK1 := Lib.hid (HK.out.below hf1 HK.out.lt);have HM1 := Lib.hid (HM.out.below hf1 hmb);clear hf1)
          | (go_at_call 132;refine (KA.out _ HM1.out HB1.out).mono ?_;rintro e w2 ⟨rfl,-,hg2⟩;have HB2 := Lib.hid (HB1.out.grown hg2 HB1.out.size HNE.out);have HK2 := Lib.hid (HK1.out.grown hg2 (by simp));have c0 := HK2.out.cell 0;have c1 := HK2.out.cell 1;have f0 := HK2.out.frozen 0;have f1 := HK2.out.frozen 1;simp at c0 c1;clear hg2))
        go_wp2
        refine bodyPost_ret (v := .agg #[.int .i64 8,.int .i64 k]) (by simp [results,Tryz.results107,go_sem,c0,c1]) rfl ⟨by rw [HE.out],?_⟩
        exact (HB2.out.setCell (Nat.le_refl _) _).setCell (Nat.le_refl _) _
      rw [hf] at KA
      have HF := Lib.hid (show fitAll m (x.head :: x.body) = fitAll (learn m x.head) x.body by show (fits m x.head && _) = _;rw [hf];rfl)
      clear hf
      obtain ⟨ba,bc,rfl,-,-,-⟩ := id HR.out.b.form
      go_wp2_with (first
        | (go_at_call 131;refine (KR.out).mono ?_;rintro e w1 ⟨rfl,hf1⟩;have HB1 := Lib.hid (HB.out.trans (hf1.mono HB.out.size));have HK1 := Lib.hid (HK.out.below hf1 HK.out.lt);have HM1 := Lib.hid (HM.out.below hf1 hmb);clear hf1)
        | (go_at_call 132;refine (KA.out _ HM1.out HB1.out).mono ?_;rintro e w2 ⟨rfl,hm2,hg2⟩;have HB2 := Lib.hid (HB1.out.grown hg2 HB1.out.size HNE.out);have HK2 := Lib.hid (HK1.out.grown hg2 (by simp));have HM2 := Lib.hid hm2;have c3 := (HR.out.up HB2.out).c3;clear hg2 hm2))
      clear c3 HM1 HK1 HB1 HM HK HB hpre
      have hn6 : n + 1 ≤ k * 6 + 1 := by omega
      go_loopw [41] (fun i wr => ∃ (j n' : Nat) (m' : Known),j ≤ x.body.length ∧ i = .int .i64 j ∧ n' ≤ k * 6 + 1 + j ∧ Hid (MapI wr (w.heap.size + 1) n' m') ∧ Hid (Blk wr w.heap.size 49 #[.int .i64 0,.int .i64 0]) ∧ Hid (Below w.heap.size w wr) ∧ Hid (fitAll m (x.head :: x.body) = fitAll m' (x.body.drop j) ∧ learnAll m (x.head :: x.body) = learnAll m' (x.body.drop j))) (fun i _ => x.body.length - (intOf i).toNat)
      case atStart => exact ⟨0,n + 1,_,Nat.zero_le _,rfl,by omega,HM2,HK2,HB2,Lib.hid ⟨HF.out,rfl⟩⟩
      case round =>
        clear HM2 HK2 HB2 HF KA KR
        obtain ⟨j,n',m',hj,rfl,hn',HM,HK,HB,HF⟩ := hrel
        have c3 := (HR.out.up HB.out).c3
        by_cases hlj : j < x.body.length
        · obtain ⟨y,hy⟩ : ∃ y,x.body[j]? = some y := ⟨_,List.getElem?_eq_getElem hlj⟩
          obtain ⟨b4,o4,yv,rfl,-,hb4,e0,e1,e2,hyv⟩ := RdAtoms.at ((HR.out.up HB.out).b) hy
          have ny := HS.out.b1 y (List.mem_of_getElem? hy)
          have hnx2 : n' < maxLen := by unfold maxLen;omega
          have KA := Lib.hid (arityCalls b4 (o4 + j * 3) (w.heap.size + 1) n' m' y yv wr e1 e2 hyv HM.out hnx2 (by have := HN.out.b y (List.mem_of_getElem? hy);unfold maxLen;omega) (by omega))
          rw [at_drop hy] at HF
          clear hy hyv e0 e1 e2 ny
          cases hf : fits m' y
          · rw [hf] at KA
            have HE := Lib.hid (HP.out.trans (wrongFrom_unfit HZ.out (by rw [HF.out.1];show (fits m' y && _) = false;rw [hf];rfl)))
            clear hf
            go_wp2_with (go_at_call 132;refine (KA.out).mono ?_;rintro e w2 ⟨rfl,-,hg2⟩;have HB2 := Lib.hid (HB.out.grown hg2 HB.out.size HNE.out);have HK2 := Lib.hid (HK.out.grown hg2 (by simp));have c0 := HK2.out.cell 0;have c1 := HK2.out.cell 1;have f0 := HK2.out.frozen 0;have f1 := HK2.out.frozen 1;simp at c0 c1;clear hg2)
            go_wp2
            refine bodyPost_ret (v := .agg #[.int .i64 8,.int .i64 k]) (by simp [results,Tryz.results107,go_sem,c0,c1]) rfl ⟨by rw [HE.out],?_⟩
            exact (HB2.out.setCell (Nat.le_refl _) _).setCell (Nat.le_refl _) _
          · rw [hf] at KA
            have HF2 := Lib.hid (show fitAll m (x.head :: x.body) = fitAll (learn m' y) (x.body.drop (j + 1)) ∧ learnAll m (x.head :: x.body) = learnAll (learn m' y) (x.body.drop (j + 1)) from ⟨HF.out.1.trans (by show (fits m' y && _) = _;rw [hf];rfl),HF.out.2⟩)
            clear hf
            go_wp2_with (go_at_call 132;refine (KA.out).mono ?_;rintro e w2 ⟨rfl,hm2,hg2⟩;have HB2 := Lib.hid (HB.out.grown hg2 HB.out.size HNE.out);have HK2 := Lib.hid (HK.out.grown hg2 (by simp));have HM2 := Lib.hid hm2;clear hg2 hm2)
            go_wp2
            go_roundw
            case rel => exact ⟨j + 1,n' + 1,_,by omega,by go_num,by omega,HM2,HK2,HB2,HF2⟩
            case measure => simp [intOf];omega
        · have HF2 := Lib.hid (show wrongP p = wrongFrom m' ((k + 1 : Nat) : Int) (p.drop (k + 1)) by
            have h1 := HF.out
            rw [List.drop_eq_nil_of_le (show x.body.length ≤ j by omega)] at h1
            have := HP.out.trans (wrongFrom_fit HZ.out (h1.1.trans rfl))
            rw [h1.2] at this
            rw [this]
            show wrongFrom m' _ _ = _
            congr 1)
          go_wp2
          go_roundw
          case rel => exact ⟨k + 1,n',m',by omega,by go_num,by omega,HM,HK,HB,HF2⟩
          case measure => simp [intOf];omega
    · have HE := Lib.hid (show wrongP p = (0,0) by rw [HP.out,List.drop_eq_nil_of_le (by omega)];rfl)
      have c0 := HK.out.cell 0;have c1 := HK.out.cell 1;have f0 := HK.out.frozen 0;have f1 := HK.out.frozen 1
      simp at c0 c1
      go_wp2
      refine bodyPost_ret (v := .agg #[.int .i64 0,.int .i64 0]) (by simp [results,Tryz.results107,go_sem,c0,c1]) rfl ⟨by rw [HE.out],?_⟩
      exact (HB.out.setCell (Nat.le_refl _) _).setCell (Nat.le_refl _) _
end Go.Proofs.YtiiicochdidolaaGreat
namespace Go.Proofs.YtiiicochdidolaaGreat
open Go.RowKit
theorem Owned.lit {α : Type} {k : Nat} {R : Reader α} {B : Nat} {e : TypeId} {S : Nat → Prop} {w : World} {l : List α} (css : List (List Value)) (cs : Array Value) (hl : css.length = l.length) (hk : ∀ c ∈ css,c.length = k) (hc : cs.toList = css.flatten) (hs : cs.size = l.length * k)
    (hb : B ≤ w.heap.size) (hm : l.length ≤ maxLen) (hr : ∀ (i : Nat) (c : List Value) (x : α),css[i]? = some c → l[i]? = some x → R (fun b => S b ∧ some b ≠ some w.heap.size) (w.alloc (.cells cs e)) c x) :
    Owned k R B e S (w.alloc (.cells cs e)) (.slice (some ⟨w.heap.size,0,none⟩) l.length l.length) l :=
  ⟨css,hl,hk,by have := World.ownsRow_lit (base := B) (size := k) (e := e) w cs l.length hb hm hs;rwa [hc] at this,hr⟩
theorem RAtom.one {S : Nat → Prop} {w : World} {cs : List Value} {x : PAtom} (h : RAtom S w cs x) : ∀ u ∈ cs,u.oneCell' = true := by
  obtain ⟨tv,rfl,hr⟩ := h
  obtain ⟨a,c,rfl,-⟩ := hr.form
  simp [Value.oneCell']
theorem RdStrs.nil {S : Nat → Prop} {w : World} : RdStrs S w (.slice none 0 0) [] := ⟨none,0,rfl,Nat.le_refl _,Nat.zero_le _,fun _ => rfl,fun i x h => by simp at h⟩
theorem RdFacts.nil {S : Nat → Prop} {w : World} : RdFacts S w (.slice none 0 0) [] := ⟨none,0,rfl,Nat.le_refl _,Nat.zero_le _,fun _ => rfl,fun i x h => by simp at h⟩
theorem new_at {w : World} {cs : Array Value} {t : TypeId} {n : Nat} (h : w.heap.size = n) (j : Nat) : (w.alloc (.cells cs t)).cell? ⟨n,j,none⟩ = cs[j]? := by
  subst h
  simp only [World.cell?,heap_alloc_new,Option.isSome_none,Bool.false_eq_true,if_false]
theorem addF_length (f : PFact) (l : List PFact) : (addF f l).length ≤ l.length + 1 := by
  induction l with
  | nil => simp [addF]
  | cons g l ih =>
    unfold addF
    split
    · simp
    · split
      · simp
      · simp only [List.length_cons];omega
theorem ofF_length (l : List PFact) : (ofF l).length ≤ l.length := by
  induction l with
  | nil => simp [ofF]
  | cons f l ih =>
    have := addF_length f (ofF l)
    show (addF f (ofF l)).length ≤ _
    simp only [List.length_cons];omega
end Go.Proofs.YtiiicochdidolaaGreat
namespace Go.Proofs.YtiiicochdidolaaGreat
instance decMemS (s : Str) (l : List Str) : Decidable (s ∈ l) := decidable_of_iff _ (memS_iff s l)
def headsOf (p : List PRule) : List Str := p.map fun r => r.head.name
def dl (p : List PRule) (a : PAtom) : Nat := if a.neg = true ∧ a.name ∈ headsOf p then 1 else 0
structure Sol (p : List PRule) (M : Str → Nat) : Prop where
  out : ∀ s,s ∉ headsOf p → M s = 0
  up : ∀ r ∈ p,∀ a ∈ r.body,M a.name + dl p a ≤ M r.head.name
structure Least (p : List PRule) (L : Str → Nat) : Prop where
  sol : Sol p L
  least : ∀ M,Sol p M → ∀ s,L s ≤ M s
theorem Least.unique {p : List PRule} {L M : Str → Nat} (h : Least p L) (k : Least p M) : L = M :=
  funext fun s => Nat.le_antisymm (h.least M k.sol s) (k.least L h.sol s)
theorem exists_min (P : Nat → Prop) : ∀ n,P n → ∃ m,P m ∧ ∀ k,P k → m ≤ k := by
  intro n
  induction n using Nat.strongRecOn with
  | ind n ih =>
    intro h
    by_cases hk : ∃ k,k < n ∧ P k
    · obtain ⟨k,hlt,hp⟩ := hk
      exact ih k hlt hp
    · exact ⟨n,h,fun k hp => by
        rcases Nat.lt_or_ge k n with hlt | hge
        · exact absurd ⟨k,hlt,hp⟩ hk
        · exact hge⟩
theorem exists_least {p : List PRule} {M : Str → Nat} (h : Sol p M) : ∃ L,Least p L := by
  have hm : ∀ s,∃ m,(∃ M,Sol p M ∧ M s = m) ∧ ∀ k,(∃ M,Sol p M ∧ M s = k) → m ≤ k := fun s => exists_min (fun m => ∃ M,Sol p M ∧ M s = m) (M s) ⟨M,h,rfl⟩
  have hl : ∀ s,∃ M,Sol p M ∧ M s = Classical.choose (hm s) := fun s => (Classical.choose_spec (hm s)).1
  have hle : ∀ s M,Sol p M → Classical.choose (hm s) ≤ M s := fun s M hM => (Classical.choose_spec (hm s)).2 _ ⟨M,hM,rfl⟩
  refine ⟨fun s => Classical.choose (hm s),⟨fun s hs => ?_,fun r hr a ha => ?_⟩,fun M hM s => hle s M hM⟩
  · have := hle s M h
    rw [h.out s hs] at this
    exact Nat.le_zero.1 this
  · obtain ⟨N,hN,e⟩ := hl r.head.name
    have h1 := hle a.name N hN
    have h2 := hN.up r hr a ha
    show Classical.choose (hm a.name) + dl p a ≤ Classical.choose (hm r.head.name)
    rw [← e]
    omega
theorem Least.no_gap {p : List PRule} {L : Str → Nat} (h : Least p L) {s : Str} {n : Nat} (hn : n < L s) : ∃ x ∈ headsOf p,L x = n := by
  apply Classical.byContradiction
  intro hno
  have hno' : ∀ x ∈ headsOf p,L x ≠ n := fun x hx e => hno ⟨x,hx,e⟩
  have hsol : Sol p (fun x => if n < L x then L x - 1 else L x) := by
    refine ⟨fun x hx => ?_,fun r hr a ha => ?_⟩
    · have := h.sol.out x hx
      simp [this]
    · have h1 := h.sol.up r hr a ha
      have hr' : r.head.name ∈ headsOf p := List.mem_map.2 ⟨r,hr,rfl⟩
      have h2 := hno' _ hr'
      by_cases ha' : a.name ∈ headsOf p
      · have h3 := hno' _ ha'
        have hd : dl p a ≤ 1 := by unfold dl;split <;> omega
        show (if n < L a.name then L a.name - 1 else L a.name) + dl p a ≤ (if n < L r.head.name then L r.head.name - 1 else L r.head.name)
        split <;> split <;> omega
      · have h3 := h.sol.out _ ha'
        have hd : dl p a = 0 := by unfold dl;rw [if_neg (fun hh => ha' hh.2)]
        show (if n < L a.name then L a.name - 1 else L a.name) + dl p a ≤ (if n < L r.head.name then L r.head.name - 1 else L r.head.name)
        rw [h3,hd]
        simp
  have := h.least _ hsol s
  simp only [hn,if_true] at this
  omega
theorem nodup_le {α : Type} [DecidableEq α] : ∀ {l m : List α},l.Nodup → (∀ x ∈ l,x ∈ m) → l.length ≤ m.length
  | [],_,_,_ => Nat.zero_le _
  | x :: l,m,hn,hs => by
    have hx : x ∈ m := hs x (by simp)
    have hn' := List.nodup_cons.1 hn
    have h1 : ∀ y ∈ l,y ∈ m.erase x := fun y hy => (List.mem_erase_of_ne (fun e => hn'.1 (by rw [← e];exact hy))).2 (hs y (by simp [hy]))
    have h2 := nodup_le hn'.2 h1
    rw [List.length_erase_of_mem hx] at h2
    have h3 := List.length_pos_of_mem hx
    simp only [List.length_cons]
    omega
theorem Least.bound {p : List PRule} {L : Str → Nat} (h : Least p L) {D : List Str} (hD : ∀ x ∈ headsOf p,x ∈ D) {s : Str} (hs : s ∈ headsOf p) : L s < D.length := by
  have h1 : ∀ n ∈ List.range (L s + 1),n ∈ D.map L := by
    intro n hn
    have hn' : n < L s + 1 := List.mem_range.1 hn
    by_cases e : n = L s
    · exact List.mem_map.2 ⟨s,hD s hs,e.symm⟩
    · obtain ⟨x,hx,e⟩ := h.no_gap (s := s) (n := n) (by omega)
      exact List.mem_map.2 ⟨x,hD x hx,e⟩
  have h2 := nodup_le List.nodup_range h1
  simp only [List.length_range,List.length_map] at h2
  omega
end Go.Proofs.YtiiicochdidolaaGreat
namespace Go.Proofs.YtiiicochdidolaaGreat
def headsP (r : PRule) (l : List PFact) : List PFact × Int :=
  if (allP r.body l).2 ≠ 0 then ([],(allP r.body l).2) else (ofF ((allP r.body l).1.filterMap fun b => fillP r.head b),0)
def onceP (n : Int) (l : List PFact) : List (PRule × Int) → List PFact → List PFact × Int
  | [],out => (out,0)
  | (r,s) :: p,out => if s ≠ n then onceP n l p out else if (headsP r l).2 ≠ 0 then ([],(headsP r l).2)
    else if 200 < (joinF out (headsP r l).1).length then ([],5) else onceP n l p (joinF out (headsP r l).1)
def fixP (p : List (PRule × Int)) (n : Int) : Nat → List PFact → List PFact × Int
  | 0,out => (out,0)
  | k + 1,out => if (onceP n out p out).2 ≠ 0 then ([],(onceP n out p out).2) else if (onceP n out p out).1.length = out.length then (out,0) else fixP p n k (onceP n out p out).1
def runP (p : List (PRule × Int)) : Nat → Int → List PFact → List PFact × Int
  | 0,_,out => (out,0)
  | k + 1,i,out => if (fixP p i 201 out).2 ≠ 0 then ([],(fixP p i 201 out).2) else runP p k (i + 1) (fixP p i 201 out).1
def atomsOf (p : List PRule) : List PAtom := p.flatMap fun r => r.head :: r.body
def arityF (m : Str → Option Int) (a : PAtom) : Str → Option Int := fun t => if t = a.name then some (a.terms.length : Int) else m t
def arityP (p : List PRule) : Str → Option Int := (atomsOf p).foldl arityF fun _ => none
def misfit (p : List PRule) (f : PFact) : Bool := match arityP p f.name with
  | none => false
  | some k => k != (f.args.length : Int)
def factsBad (p : List PRule) (l : List PFact) : Int × Int :=
  if (setF l).1 ≠ 0 then setF l else match l.findIdx? (misfit p) with
    | some i => (8,(i : Int))
    | none => (0,0)
def countP (st : List Int) : Int := match st with
  | [] => 0
  | x :: r => r.foldl max x + 1
def naiveP (st : List Int) (q : Int) (p : List PRule) (l : List PFact) : List PFact × Int :=
  if q ≠ 0 then ([],q) else if (factsBad p l).1 ≠ 0 then ([],(factsBad p l).1) else runP (p.zip st) (countP st).toNat 0 l
theorem heads_zero {r : PRule} {l : List PFact} (h : (headsP r l).2 = 0) : (allP r.body l).2 = 0 ∧ (headsP r l).1 = ofF ((allP r.body l).1.filterMap fun b => fillP r.head b) := by
  unfold headsP at *
  by_cases h1 : (allP r.body l).2 = 0
  · rw [if_neg (by simpa using h1)];exact ⟨h1,rfl⟩
  · rw [if_pos h1] at h;exact absurd h h1
theorem heads_err {r : PRule} {l : List PFact} (h : (headsP r l).2 ≠ 0) : headsP r l = ([],(allP r.body l).2) ∧ (allP r.body l).2 ≠ 0 := by
  unfold headsP at *
  by_cases h1 : (allP r.body l).2 = 0
  · rw [if_neg (by simpa using h1)] at h;exact absurd rfl h
  · rw [if_pos h1];exact ⟨rfl,h1⟩
theorem heads_rising (r : PRule) (l : List PFact) : Rising (headsP r l).1 := by
  unfold headsP
  split
  · exact List.Pairwise.nil
  · exact ofF_rising _
theorem mem_heads {r : PRule} {l : List PFact} (h : (headsP r l).2 = 0) (f : PFact) : f ∈ (headsP r l).1 ↔ ∃ m,Told (fun _ => l) r.body m ∧ fillP r.head m = some f := by
  obtain ⟨h1,h2⟩ := heads_zero h
  rw [h2,mem_ofF,List.mem_filterMap]
  rcases allP_cases r.body l with ⟨h3,-⟩ | ⟨-,-,-,-,h4⟩
  · exact absurd h1 h3
  · exact exists_congr fun m => and_congr_left fun _ => h4 m
theorem heads_set {r : PRule} {l : List PFact} (h : (headsP r l).2 = 0) : (setF l).1 = 0 ∧ bodyBad r.body = 0 := by
  rcases allP_cases r.body l with ⟨h3,-⟩ | ⟨-,h4,h5,-⟩
  · exact absurd (heads_zero h).1 h3
  · exact ⟨h5,h4⟩
theorem heads_much {r : PRule} {l : List PFact} (hb : bodyBad r.body = 0) (hs : (setF l).1 = 0) (h : (headsP r l).2 ≠ 0) : (headsP r l).2 = 4 := by
  obtain ⟨h1,h2⟩ := heads_err h
  rw [h1]
  show (withP r.body l (-1) []).2 = 4
  have h2' : (withP r.body l (-1) []).2 ≠ 0 := h2
  unfold withP at *
  rw [if_neg (by simpa using hb),if_neg (by simpa using hs),if_neg (by simp [setF_nil])] at *
  cases hg : goP (pickP l [] (-1)) 0 [[]] r.body with
  | none => rfl
  | some ls => rw [hg] at h2';exact absurd rfl h2'
theorem told_agree {l l' : List PFact} {b : List PAtom} (h : ∀ a ∈ b,∀ f : PFact,f.name = a.name → (f ∈ l ↔ f ∈ l')) {m : Binds} (ht : Told (fun _ => l) b m) : Told (fun _ => l') b m := by
  obtain ⟨h1,h2,h3,h4⟩ := ht
  refine ⟨h1,h2,h3,fun j a ha => ?_⟩
  obtain ⟨f,k1,k2⟩ := h4 j a ha
  refine ⟨f,k1,?_⟩
  rw [← k2,Bool.eq_iff_iff,memF_iff,memF_iff]
  exact (h a (List.mem_of_getElem? ha) f (fillP_name k1).1.symm).symm
theorem mem_joinF (a b : List PFact) (x : PFact) : x ∈ joinF a b ↔ x ∈ a ∨ x ∈ b := by unfold joinF;rw [mem_ofF,List.mem_append]
theorem nodup_rising {l : List PFact} (h : Rising l) : l.Nodup := h.imp fun {a b} hab e => by subst e;rw [ltF_irrefl] at hab;cases hab
structure Round (n : Int) (l : List PFact) (p : List (PRule × Int)) (out out' : List PFact) : Prop where
  ok : ∀ r s,(r,s) ∈ p → s = n → (headsP r l).2 = 0
  mem : ∀ x,x ∈ out' ↔ x ∈ out ∨ ∃ r s,(r,s) ∈ p ∧ s = n ∧ x ∈ (headsP r l).1
  rise : Rising out'
  len : out'.length ≤ 200
theorem once_round {n : Int} {l : List PFact} : ∀ {p : List (PRule × Int)} {out : List PFact},(onceP n l p out).2 = 0 → Rising out → out.length ≤ 200 → Round n l p out (onceP n l p out).1
  | [],out,_,hr,hl => ⟨fun _ _ h => by simp at h,fun x => by simp [onceP],hr,hl⟩
  | (r,s) :: p,out,h,hr,hl => by
    rw [onceP] at h ⊢
    by_cases hs : s = n
    case neg =>
      rw [if_pos hs] at h ⊢
      have ih := once_round h hr hl
      refine ⟨fun r' s' hm e => ?_,fun x => ?_,ih.rise,ih.len⟩
      · rcases List.mem_cons.1 hm with hm | hm
        · injection hm with _ h2;subst h2;exact absurd e hs
        · exact ih.ok r' s' hm e
      · rw [ih.mem]
        constructor
        · rintro (h1 | ⟨r',s',h1,h2,h3⟩)
          · exact .inl h1
          · exact .inr ⟨r',s',List.mem_cons_of_mem _ h1,h2,h3⟩
        · rintro (h1 | ⟨r',s',h1,h2,h3⟩)
          · exact .inl h1
          · rcases List.mem_cons.1 h1 with h1 | h1
            · injection h1 with _ h4;subst h4;exact absurd h2 hs
            · exact .inr ⟨r',s',h1,h2,h3⟩
    rw [if_neg (by simpa using hs)] at h ⊢
    by_cases he : (headsP r l).2 = 0
    case neg => rw [if_pos he] at h;exact absurd h he
    rw [if_neg (by simpa using he)] at h ⊢
    by_cases hm : 200 < (joinF out (headsP r l).1).length
    · rw [if_pos hm] at h;exact absurd h (by decide)
    rw [if_neg hm] at h ⊢
    have ih := once_round h (ofF_rising _) (by omega)
    refine ⟨fun r' s' hm' e => ?_,fun x => ?_,ih.rise,ih.len⟩
    · rcases List.mem_cons.1 hm' with h1 | h1
      · injection h1 with h2 _;subst h2;exact he
      · exact ih.ok r' s' h1 e
    · rw [ih.mem,mem_joinF]
      constructor
      · rintro ((h1 | h1) | ⟨r',s',h1,h2,h3⟩)
        · exact .inl h1
        · exact .inr ⟨r,s,by simp,hs,h1⟩
        · exact .inr ⟨r',s',List.mem_cons_of_mem _ h1,h2,h3⟩
      · rintro (h1 | ⟨r',s',h1,h2,h3⟩)
        · exact .inl (.inl h1)
        · rcases List.mem_cons.1 h1 with h1 | h1
          · injection h1 with h4 _;subst h4;exact .inl (.inr h3)
          · exact .inr ⟨r',s',h1,h2,h3⟩
theorem rising_sub_len {a b : List PFact} (ha : Rising a) (hb : Rising b) (h : ∀ x ∈ a,x ∈ b) (hl : b.length = a.length) : a = b := by
  refine rising_ext ha hb fun x => ⟨h x,fun hx => Classical.byContradiction fun hn => ?_⟩
  have h1 : (x :: a).Nodup := List.nodup_cons.2 ⟨hn,nodup_rising ha⟩
  have h2 := nodup_le h1 (m := b) fun y hy => by
    rcases List.mem_cons.1 hy with rfl | hy
    · exact hx
    · exact h y hy
  simp only [List.length_cons] at h2
  omega
theorem rising_sub_le {a b : List PFact} (ha : Rising a) (h : ∀ x ∈ a,x ∈ b) : a.length ≤ b.length := nodup_le (nodup_rising ha) h
structure Fixed (p : List (PRule × Int)) (n : Int) (out M : List PFact) : Prop where
  ok : ∀ r s,(r,s) ∈ p → s = n → (headsP r M).2 = 0 ∧ ∀ x ∈ (headsP r M).1,x ∈ M
  sub : ∀ x ∈ out,x ∈ M
  made : ∀ x ∈ M,x ∈ out ∨ ∃ O r s,(∀ y ∈ out,y ∈ O) ∧ (∀ y ∈ O,y ∈ M) ∧ (r,s) ∈ p ∧ s = n ∧ (headsP r O).2 = 0 ∧ x ∈ (headsP r O).1
  rise : Rising M
  len : M.length ≤ 200
theorem fix_fixed {p : List (PRule × Int)} {n : Int} : ∀ {k : Nat} {out : List PFact},200 < k + out.length → (fixP p n k out).2 = 0 → Rising out → out.length ≤ 200 → Fixed p n out (fixP p n k out).1
  | 0,out,hk,_,_,hl => by omega
  | k + 1,out,hk,h,hr,hl => by
    rw [fixP] at h ⊢
    by_cases he : (onceP n out p out).2 = 0
    case neg => rw [if_pos he] at h;exact absurd h he
    rw [if_neg (by simpa using he)] at h ⊢
    have hR := once_round he hr hl
    by_cases hle : (onceP n out p out).1.length = out.length
    · rw [if_pos hle]
      have heq : out = (onceP n out p out).1 := rising_sub_len hr hR.rise (fun x hx => (hR.mem x).2 (.inl hx)) hle
      refine ⟨fun r s hm e => ⟨hR.ok r s hm e,fun x hx => ?_⟩,fun x hx => hx,fun x hx => .inl hx,hr,hl⟩
      have := (hR.mem x).2 (.inr ⟨r,s,hm,e,hx⟩)
      rwa [← heq] at this
    · rw [if_neg hle] at h ⊢
      have hge : out.length ≤ (onceP n out p out).1.length := rising_sub_le hr fun x hx => (hR.mem x).2 (.inl hx)
      have ih := fix_fixed (k := k) (by omega) h hR.rise hR.len
      refine ⟨ih.ok,fun x hx => ih.sub x ((hR.mem x).2 (.inl hx)),fun x hx => ?_,ih.rise,ih.len⟩
      rcases ih.made x hx with h1 | ⟨O,r,s,h1,h2,h3⟩
      · rcases (hR.mem x).1 h1 with h1 | ⟨r,s,h1,h2,h3⟩
        · exact .inl h1
        · exact .inr ⟨out,r,s,fun y hy => hy,fun y hy => ih.sub y ((hR.mem y).2 (.inl hy)),h1,h2,hR.ok r s h1 h2,h3⟩
      · exact .inr ⟨O,r,s,fun y hy => h1 y ((hR.mem y).2 (.inl hy)),h2,h3⟩
theorem run_step {p : List (PRule × Int)} {k : Nat} {i : Int} {out : List PFact} (h : (runP p (k + 1) i out).2 = 0) : (fixP p i 201 out).2 = 0 ∧ runP p (k + 1) i out = runP p k (i + 1) (fixP p i 201 out).1 := by
  rw [runP] at h ⊢
  by_cases he : (fixP p i 201 out).2 = 0
  · rw [if_neg (by simpa using he)];exact ⟨he,rfl⟩
  · rw [if_pos he] at h;exact absurd h he
end Go.Proofs.YtiiicochdidolaaGreat
namespace Go.Proofs.YtiiicochdidolaaGreat
def Dh (p : List PRule) : Nat := (onceS (headsOf p)).length
def tot (p : List PRule) (M : Str → Nat) : Nat := ((onceS (headsOf p)).map M).sum
structure Sub (p : List PRule) (M : Str → Nat) : Prop where
  under : ∀ N,Sol p N → ∀ s,M s ≤ N s
  out : ∀ s,s ∉ headsOf p → M s = 0
  lt : ∀ s,M s < Dh p ∨ M s = 0
def raise (p : List PRule) (M : Str → Nat) (r : PRule) (a : PAtom) : Str → Nat := fun t => if t = r.head.name then M a.name + dl p a else M t
theorem Sub.zero (p : List PRule) : Sub p (fun _ => 0) := ⟨fun _ _ _ => Nat.zero_le _,fun _ _ => rfl,fun _ => .inr rfl⟩
theorem sum_up : ∀ (l : List Str) (M N : Str → Nat) (s : Str),s ∈ l → (∀ t,M t ≤ N t) → M s < N s → (l.map M).sum + 1 ≤ (l.map N).sum
  | [],_,_,_,h,_,_ => by simp at h
  | x :: l,M,N,s,h,hle,hlt => by
    have hmono : ∀ l : List Str,(l.map M).sum ≤ (l.map N).sum := fun l => by
      induction l with
      | nil => simp
      | cons y l ih => simp only [List.map_cons,List.sum_cons];have := hle y;omega
    simp only [List.map_cons,List.sum_cons]
    rcases List.mem_cons.1 h with rfl | h
    · have := hmono l;omega
    · have := sum_up l M N s h hle hlt;have := hle x;omega
theorem sum_le : ∀ (l : List Str) (M : Str → Nat) (d : Nat),(∀ t,M t ≤ d) → (l.map M).sum ≤ l.length * d
  | [],_,_,_ => by simp
  | x :: l,M,d,h => by
    have := sum_le l M d h
    have := h x
    simp only [List.map_cons,List.sum_cons,List.length_cons,Nat.add_mul]
    omega
theorem Sub.tot_le {p : List PRule} {M : Str → Nat} (h : Sub p M) : tot p M ≤ Dh p * Dh p := sum_le _ _ _ fun t => by have := h.lt t;omega
theorem Sub.step {p : List PRule} {M : Str → Nat} (h : Sub p M) {r : PRule} (hr : r ∈ p) {a : PAtom} (ha : a ∈ r.body) (hd : M a.name + dl p a < Dh p) (hup : ¬ M a.name + dl p a ≤ M r.head.name) : Sub p (raise p M r a) ∧ tot p M + 1 ≤ tot p (raise p M r a) := by
  have hh : r.head.name ∈ headsOf p := List.mem_map.2 ⟨r,hr,rfl⟩
  refine ⟨⟨fun N hN s => ?_,fun s hs => ?_,fun s => ?_⟩,?_⟩
  · unfold raise
    split
    · rename_i e
      have h1 := h.under N hN a.name
      have h2 := hN.up r hr a ha
      rw [e];omega
    · exact h.under N hN s
  · unfold raise
    rw [if_neg (fun e => hs (by rw [e];exact hh))]
    exact h.out s hs
  · unfold raise
    split
    · exact .inl hd
    · exact h.lt s
  · refine sum_up _ _ _ r.head.name ((mem_onceS _ _).2 hh) (fun t => ?_) ?_
    · unfold raise
      split
      · rename_i e;rw [e];omega
      · exact Nat.le_refl _
    · unfold raise
      rw [if_pos rfl];omega
theorem Sub.fail {p : List PRule} {M : Str → Nat} (h : Sub p M) {r : PRule} (hr : r ∈ p) {a : PAtom} (ha : a ∈ r.body) (hd : ¬ M a.name + dl p a < Dh p) : ∀ N,¬ Sol p N := by
  intro N hN
  obtain ⟨L,hL⟩ := exists_least hN
  have h1 := h.under L hL.sol a.name
  have h2 := hL.sol.up r hr a ha
  have h3 := hL.bound (D := onceS (headsOf p)) (fun x hx => (mem_onceS x _).2 hx) (s := r.head.name) (List.mem_map.2 ⟨r,hr,rfl⟩)
  have h4 : Dh p = (onceS (headsOf p)).length := rfl
  omega
theorem Sub.done {p : List PRule} {M : Str → Nat} (h : Sub p M) (hk : ∀ r ∈ p,∀ a ∈ r.body,M a.name + dl p a ≤ M r.head.name) : Least p M := ⟨⟨h.out,hk⟩,fun N hN s => h.under N hN s⟩
theorem onceS_length : ∀ (ks acc : List Str),(ks.foldl (fun acc x => if memS x acc then acc else acc ++ [x]) acc).length ≤ acc.length + ks.length
  | [],acc => by simp
  | k :: ks,acc => by
    rw [List.foldl_cons]
    refine Nat.le_trans (onceS_length ks _) ?_
    split
    · simp
    · simp only [List.length_append,List.length_cons,List.length_nil];omega
theorem Dh_le (p : List PRule) : Dh p ≤ p.length := by
  have := onceS_length (headsOf p) []
  simpa [Dh,onceS,headsOf] using this
def StrataIs (p : List PRule) (l : List Int) (q : Int × Int) : Prop :=
  (wrongP p).1 ≠ 0 ∧ l = [] ∧ q = wrongP p ∨
  (wrongP p).1 = 0 ∧ ((∃ L,Least p L ∧ l = p.map (fun r => (L r.head.name : Int)) ∧ q = (0,0)) ∨ ((∀ N,¬ Sol p N) ∧ l = [] ∧ q = (10,0)))
theorem StrataIs.unique {p : List PRule} {l m : List Int} {q r : Int × Int} (h : StrataIs p l q) (k : StrataIs p m r) : l = m ∧ q = r := by
  rcases h with ⟨h1,rfl,rfl⟩ | ⟨h1,⟨L,hL,rfl,rfl⟩ | ⟨h2,rfl,rfl⟩⟩ <;> rcases k with ⟨k1,rfl,rfl⟩ | ⟨k1,⟨M,hM,rfl,rfl⟩ | ⟨k2,rfl,rfl⟩⟩
  · exact ⟨rfl,rfl⟩
  · exact absurd k1 h1
  · exact absurd k1 h1
  · exact absurd h1 k1
  · rw [hL.unique hM];exact ⟨rfl,rfl⟩
  · exact absurd hL.sol (k2 L)
  · exact absurd h1 k1
  · exact absurd hM.sol (h2 M)
  · exact ⟨rfl,rfl⟩
end Go.Proofs.YtiiicochdidolaaGreat
