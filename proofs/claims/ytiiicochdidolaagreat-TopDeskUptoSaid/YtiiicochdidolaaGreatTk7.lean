/-
  THE TEXTS CompactG, DelX, SortLay, SortG, TidyW1, one behind the other.
-/
import Derived.Test.YtiiicochdidolaaGreatTk1
import Derived.Test.YtiiicochdidolaaGreatTk4
import Derived.Test.YtiiicochdidolaaGreatTk5
import Derived.Test.YtiiicochdidolaaGreatTk6
import Derived.Test.YtiiicochdidolaaGreatProg
import Derived.Shelf.SlSortCmp.WholeK
import Derived.Shelf.SlSortCmp.Whole1
import Derived.Shelf.SlSortCmp.NoneTotal
namespace Go.Proofs.YtiiicochdidolaaGreat
open Go.RowKit
section
variable {α : Type} [DecidableEq α]
def snocC (acc : List α) (x : α) : List α := if acc.getLast? = some x then acc else acc ++ [x]
def compactL (l : List α) : List α := l.foldl snocC []
theorem compactL_snoc (l : List α) (x : α) : compactL (l ++ [x]) = snocC (compactL l) x := by simp [compactL,List.foldl_append]
theorem compactL_take_succ {l : List α} {n : Nat} {x : α} (h : l[n]? = some x) : compactL (l.take (n + 1)) = snocC (compactL (l.take n)) x := by
  rw [List.take_add_one,h];exact compactL_snoc _ _
theorem snocC_last (acc : List α) (x : α) : (snocC acc x).getLast? = some x := by
  unfold snocC
  split
  · assumption
  · simp
theorem compactL_last {l : List α} {n : Nat} {x : α} (h : l[n]? = some x) : (compactL (l.take (n + 1))).getLast? = some x := by
  rw [compactL_take_succ h];exact snocC_last _ _
theorem compactL_same {l : List α} {n : Nat} {x : α} (h : l[n]? = some x) (k : l[n + 1]? = some x) : compactL (l.take (n + 2)) = compactL (l.take (n + 1)) := by
  rw [compactL_take_succ k,snocC,if_pos (compactL_last h)]
theorem compactL_other {l : List α} {n : Nat} {x y : α} (h : l[n]? = some x) (k : l[n + 1]? = some y) (hne : x ≠ y) : compactL (l.take (n + 2)) = compactL (l.take (n + 1)) ++ [y] := by
  rw [compactL_take_succ k,snocC,if_neg (by rw [compactL_last h];intro e;exact hne (Option.some.inj e))]
theorem compactL_apart {l : List α} : ∀ n,n ≤ l.length → (∀ p x y,p + 1 < n → l[p]? = some x → l[p + 1]? = some y → x ≠ y) → compactL (l.take n) = l.take n
  | 0,_,_ => by simp [compactL]
  | 1,hn,_ => by
    obtain ⟨x,hx⟩ : ∃ x,l[0]? = some x := ⟨_,List.getElem?_eq_getElem (by omega)⟩
    rw [compactL_take_succ hx,List.take_add_one,hx]
    simp [compactL,snocC]
  | n + 2,hn,h => by
    obtain ⟨x,hx⟩ : ∃ x,l[n]? = some x := ⟨_,List.getElem?_eq_getElem (by omega)⟩
    obtain ⟨y,hy⟩ : ∃ y,l[n + 1]? = some y := ⟨_,List.getElem?_eq_getElem (by omega)⟩
    rw [compactL_other hx hy (h n x y (by omega) hx hy),compactL_apart (n + 1) (by omega) (fun p a b hp => h p a b (by omega)),List.take_add_one (i := n + 1),hy]
    rfl
theorem mem_compactL (l : List α) (x : α) : ∀ n,x ∈ compactL (l.take n) ↔ x ∈ l.take n
  | 0 => by simp [compactL]
  | n + 1 => by
    cases h : l[n]? with
    | none => rw [List.take_add_one,h];simpa using mem_compactL l x n
    | some y =>
      rw [compactL_take_succ h,List.take_add_one,h,snocC]
      have ih := mem_compactL l x n
      split
      · rename_i hl
        rw [ih]
        have : y ∈ l.take n := (mem_compactL l y n).1 (List.mem_of_getLast? hl)
        simp only [Option.toList_some,List.mem_append,List.mem_singleton]
        constructor
        · exact .inl
        · rintro (h | rfl)
          · exact h
          · exact this
      · simp [ih]
end
theorem compact_rising {l : List PFact} (hs : l.Pairwise fun a b => ¬ cmpFact b a < 0) : ∀ n,Rising (compactL (l.take n))
  | 0 => by simp [compactL,Rising]
  | n + 1 => by
    cases h : l[n]? with
    | none => rw [List.take_add_one,h];simpa using compact_rising hs n
    | some y =>
      rw [compactL_take_succ h,snocC]
      have ih := compact_rising hs n
      split
      · exact ih
      · rename_i hl
        refine List.pairwise_append.2 ⟨ih,by simp,fun a ha b hb => ?_⟩
        obtain rfl := List.mem_singleton.1 hb
        have ha' := (mem_compactL l a n).1 ha
        obtain ⟨p,hp⟩ := List.mem_iff_getElem?.1 ha'
        have hpn : p < n := by
          have := (List.getElem?_eq_some_iff.1 hp).1
          rw [List.length_take] at this;omega
        rw [List.getElem?_take_of_lt hpn] at hp
        obtain ⟨h1,rfl⟩ := List.getElem?_eq_some_iff.1 hp
        obtain ⟨h2,rfl⟩ := List.getElem?_eq_some_iff.1 h
        have h3 := List.pairwise_iff_getElem.1 hs p n h1 h2 hpn
        have hne : l[p] ≠ l[n] := by
          intro e
          apply hl
          obtain ⟨m,rfl⟩ : ∃ m,n = m + 1 := ⟨n - 1,by omega⟩
          have hm : l[m]? = some l[m] := List.getElem?_eq_getElem (by omega)
          rw [compactL_last hm]
          congr 1
          by_cases hpm : p = m
          · subst hpm;exact e
          · have q1 := List.pairwise_iff_getElem.1 hs p m h1 (by omega) (by omega)
            have q2 := List.pairwise_iff_getElem.1 hs m (m + 1) (by omega) h2 (by omega)
            rw [e] at q1
            have := cmpFact3.anti l[m] l[m + 1]
            have := cmpFact3.anti l[m + 1] l[m]
            exact (cmpFact3.zero _ _).1 (by omega)
        simp only [ltF,decide_eq_true_eq]
        have := cmpFact3.ne_zero hne
        have := cmpFact3.anti l[n] l[p]
        omega
theorem compact_of {l l' : List PFact} (hp : l'.Perm l) (hs : l'.Pairwise fun a b => ¬ cmpFact b a < 0) : compactL l' = ofF l := by
  have h := compact_rising hs l'.length
  rw [List.take_length] at h
  refine rising_ext h (ofF_rising l) fun x => ?_
  have := mem_compactL l' x l'.length
  rw [List.take_length] at this
  rw [this,hp.mem_iff,mem_ofF]
theorem flatten_set2 : ∀ (css : List (List Value)),(∀ cs ∈ css,cs.length = 2) → ∀ i a b,i < css.length → (css.flatten.set (i * 2) a).set (i * 2 + 1) b = (css.set i [a,b]).flatten
  | [],_,i,_,_,h => by simp at h
  | c :: css,hk,0,a,b,_ => by
    have hc : c.length = 2 := hk c (by simp)
    match c,hc with
    | [x,y],_ => simp
  | c :: css,hk,i + 1,a,b,h => by
    have hc : c.length = 2 := hk c (by simp)
    match c,hc with
    | [x,y],_ =>
      have := flatten_set2 css (fun c hc => hk c (by simp [hc])) i a b (by simpa using h)
      simp only [List.flatten_cons,List.cons_append,List.nil_append,List.set_cons_succ]
      rw [show (i + 1) * 2 + 1 = (i * 2 + 1) + 1 + 1 by omega,show (i + 1) * 2 = i * 2 + 1 + 1 by omega]
      simp only [List.set_cons_succ]
      rw [this]
theorem run_clear_own {P : Program} {t ty e : TypeId} {k : Nat} {z : Value} (hk : 0 < k) (ht : P.underlying t = some (.slice e)) (hz : ∀ w,(zeroValue e).run P w = .ok z w) (hzs : z.cells.size = k) (hz1 : ∀ u ∈ z.cells,u.oneCell' = true)
    {w : World} {B g n cap : Nat} {xs : List Value} (hown : w.ownsRow B e k (.slice (some ⟨g,0,none⟩) n cap) n xs) (i c : Nat) (hi : i ≤ n) :
    ∃ w',(Builtin.clear_ #[t] ty #[.slice (some ⟨g,i * k,none⟩) (n - i) c]).run P w = .ok (.tuple #[]) w' ∧ w'.ownsRow B e k (.slice (some ⟨g,0,none⟩) i cap) i (xs.take (i * k)) ∧ w.grownBy w' (some g) := by
  obtain ⟨hlen,hrow⟩ := hown
  rcases hrow with ⟨hv,_⟩ | ⟨g',cap',cur,hv,hb,hg,hn,hcm,hcs,htake⟩
  · cases hv
  · injection hv with h1 h2 h3
    injection h1 with h1
    injection h1 with h1 _ _
    subst h1;subst h3
    have hik : i * k ≤ n * k := Nat.mul_le_mul_right _ hi
    have hnk : n * k ≤ cap * k := Nat.mul_le_mul_right _ hn
    by_cases h0 : n - i = 0
    · obtain rfl : i = n := by omega
      refine ⟨w,?_,?_,⟨rfl,rfl,rfl,Nat.le_refl _,fun _ _ _ => rfl⟩⟩
      · rw [h0]
        simp [Builtin.clear_,run_underlying ht]
      · exact ⟨by rw [List.length_take,hlen];omega,.inr ⟨g,cap,cur,rfl,hb,hg,hn,hcm,hcs,by rw [htake,List.take_of_length_le (by omega)]⟩⟩
    · have hzl : (Builtin.zeroCells z.cells (n - i)).toList.length = (n - i) * k := by rw [Array.length_toList,size_zeroCells,hzs]
      have hsub : (n - i) * k = n * k - i * k := Nat.sub_mul _ _ _
      have hst := run_storeCells_at P g (i * k) e (Builtin.zeroCells z.cells (n - i)).toList 0 cur w hg (by rw [hzl,hsub,hcs];omega)
        (by
          intro u hu
          simp only [Builtin.zeroCells,Array.toList_map,List.mem_map] at hu
          obtain ⟨q,_,rfl⟩ := hu
          have hq : q % z.cells.size < z.cells.size := Nat.mod_lt _ (by omega)
          rw [getElem!_pos z.cells _ hq]
          exact hz1 _ (Array.getElem_mem _))
      simp only [Nat.add_zero] at hst
      obtain ⟨nw,hnw⟩ : ∃ nw,(cur.toList.take (i * k) ++ (Builtin.zeroCells z.cells (n - i)).toList ++ cur.toList.drop (i * k + (Builtin.zeroCells z.cells (n - i)).toList.length)).toArray = nw := ⟨_,rfl⟩
      rw [hnw] at hst
      refine ⟨w.setRow g nw,?_,⟨by rw [List.length_take,hlen];omega,.inr ⟨g,cap,nw,rfl,hb,setRow_heap w g cur nw e _ hg,by omega,hcm,?_,?_⟩⟩,⟨rfl,rfl,rfl,by simp,fun q _ hq => setRow_other w g q _ (fun e => hq (by rw [e]))⟩⟩
      · obtain ⟨m,hm⟩ : ∃ m,n - i = m + 1 := ⟨n - i - 1,by omega⟩
        rw [hm] at hst ⊢
        simp [Builtin.clear_,run_underlying ht,hz,hst]
      · rw [← hnw]
        simp only [List.size_toArray,List.length_append,List.length_take,List.length_drop,Array.length_toList,hzl,hsub,hcs]
        omega
      · rw [← htake,← hnw]
        simp only [List.append_assoc,List.take_append,List.length_take,Array.length_toList,List.take_take]
        rw [hcs,Nat.min_eq_left (by omega : i * k ≤ cap * k),Nat.sub_self,List.take_zero,Nat.zero_sub,List.take_zero,List.append_nil,List.append_nil,Nat.min_self,Nat.min_eq_left hik]
end Go.Proofs.YtiiicochdidolaaGreat
namespace Go.Proofs.YtiiicochdidolaaGreat
open Go.RowKit
theorem singles (zs : List VB) : (zs.map fun z => [z.1]).flatten = zs.map (·.1) := by
  induction zs with
  | nil => rfl
  | cons z zs ih => simp only [List.map_cons,List.flatten_cons,ih];rfl
theorem OV.row {B : Nat} {w : World} {v : Value} {zs : List VB} (h : OV B w v zs) : w.ownsRow B 92 1 v zs.length (zs.map (·.1)) ∧ ∀ z ∈ zs,z.1.oneCell' = true := by
  obtain ⟨css,h1,h2,h3,h4⟩ := h
  have hcss : css = zs.map fun z => [z.1] := by
    refine List.ext_getElem? fun i => ?_
    rw [List.getElem?_map]
    cases hz : zs[i]? with
    | none => exact List.getElem?_eq_none (by rw [h1];exact List.getElem?_eq_none_iff.1 hz)
    | some z =>
      have hi := (List.getElem?_eq_some_iff.1 hz).1
      have hc : css[i]? = some css[i] := List.getElem?_eq_getElem (by omega)
      obtain ⟨he,-⟩ := h4 i _ z hc hz
      rw [hc,he];rfl
  refine ⟨by rw [hcss,singles] at h3;exact h3,fun z hz => ?_⟩
  obtain ⟨i,hi⟩ := List.mem_iff_getElem?.1 hz
  have hlt := (List.getElem?_eq_some_iff.1 hi).1
  exact (h4 i _ z (List.getElem?_eq_getElem (by omega)) hi).2
theorem OV.of_row {B : Nat} {w : World} {v : Value} {zs : List VB} (h : w.ownsRow B 92 1 v zs.length (zs.map (·.1))) (h1 : ∀ z ∈ zs,z.1.oneCell' = true) : OV B w v zs := by
  refine ⟨zs.map fun z => [z.1],by simp,?_,by rw [singles];exact h,?_⟩
  · intro cs hcs
    obtain ⟨z,-,rfl⟩ := List.mem_map.1 hcs
    rfl
  · intro i cs x hc hx
    rw [List.getElem?_map,hx] at hc
    obtain rfl := Option.some.inj hc
    exact ⟨rfl,h1 x (List.mem_of_getElem? hx)⟩
def hitFrom {α : Type} (q : α → Bool) : Nat → List α → Int
  | _,[] => -1
  | k,y :: l => if q y then k else hitFrom q (k + 1) l
theorem hitFrom_cases {α : Type} (q : α → Bool) : ∀ (l : List α) (k : Nat),(hitFrom q k l = -1 ∧ ∀ z ∈ l,q z = false) ∨ ∃ (i : Nat) (x : α),l[i]? = some x ∧ hitFrom q k l = (k : Int) + i ∧ q x = true ∧ ∀ z ∈ l.take i,q z = false
  | [],k => .inl ⟨rfl,by simp⟩
  | y :: l,k => by
    unfold hitFrom
    by_cases h : q y = true
    · rw [if_pos h];exact .inr ⟨0,y,rfl,by simp,h,by simp⟩
    · rw [if_neg h]
      rcases hitFrom_cases q l (k + 1) with ⟨h1,h2⟩ | ⟨i,x,h1,h2,h3,h4⟩
      · refine .inl ⟨h1,fun z hz => ?_⟩
        rcases List.mem_cons.1 hz with rfl | hz
        · simpa using h
        · exact h2 z hz
      · refine .inr ⟨i + 1,x,by simpa using h1,by rw [h2];omega,h3,fun z hz => ?_⟩
        rw [List.take_succ_cons] at hz
        rcases List.mem_cons.1 hz with rfl | hz
        · simpa using h
        · exact h4 z hz
def Asks (G : World → Prop) (A L : Nat) (q : VB → Bool) (zs : List VB) : Prop :=
  ∀ W,G W → ∀ z ∈ zs,Calls Tryz.prog 58 #[z.1,.pointer (some ⟨A,0,none⟩),.pointer (some ⟨L,0,none⟩)] W fun e w' => e = .returned (.bool (q z)) ∧ Below W.heap.size W w'
theorem OV.cellAt {B : Nat} {w : World} {a : Option Addr} {n c : Nat} {zs : List VB} (h : OV B w (.slice a n c) zs) {i : Nat} {z : VB} (hz : zs[i]? = some z) : ∃ g,a = some ⟨g,0,none⟩ ∧ g < w.heap.size ∧ w.cell? ⟨g,i,none⟩ = some z.1 := by
  have hi := (List.getElem?_eq_some_iff.1 hz).1
  obtain ⟨h1,-⟩ := h.row
  have h2 := h1
  rcases h2.2 with ⟨-,h0⟩ | ⟨g,cap,cur,hv,-,hg,-⟩
  · omega
  · injection hv with e1 e2 e3
    subst e1
    refine ⟨g,rfl,(Array.getElem?_eq_some_iff.1 hg).1,?_⟩
    rw [e2] at h1
    rw [h1.cellAt i (by omega),List.getElem?_map,hz]
    rfl
set_option maxRecDepth 100000 in
set_option maxHeartbeats 4000000 in
theorem indexFuncBinds {G : World → Prop} {B A L : Nat} {q : VB → Bool} (v : Value) (zs : List VB) (w : World) (h : OV B w v zs) (hG : G w) (hB : ∀ W W',G W → Below W.heap.size W W' → G W') (K : Asks G A L q zs) (n1 : zs.length ≤ 1099511627776) :
    Calls Tryz.prog 93 #[v,.func (.func 58) #[] #[.pointer (some ⟨A,0,none⟩),.pointer (some ⟨L,0,none⟩)]] w fun e w' => e = .returned (.int .i64 (hitFrom q 0 zs)) ∧ Below w.heap.size w w' := by
  obtain ⟨a,c,rfl,-,-,-⟩ := id (h.read RPair.steady).form
  have H := Lib.hid h
  have HK := Lib.hid K
  have HGB := Lib.hid hB
  have HG := Lib.hid hG
  clear h K hB hG
  go_enter Tryz.func93,Tryz.ntmps93
  go_wp2
  go_loopw [8,5] (fun i _ wr => ∃ k : Nat,k ≤ zs.length ∧ i = .int .i64 k ∧ Hid (hitFrom q 0 zs = hitFrom q k (zs.drop k)) ∧ Hid (Below w.heap.size w wr) ∧ Hid (G wr)) (fun i _ _ => zs.length - (intOf i).toNat)
  case atStart => exact ⟨0,Nat.zero_le _,rfl,Lib.hid rfl,Lib.hid (Below.refl _ _),HG⟩
  case round =>
    obtain ⟨k,hk,rfl,HR,HB,HGW⟩ := hrel
    by_cases hlt : k < zs.length
    · obtain ⟨z,hx⟩ : ∃ z,zs[k]? = some z := ⟨_,List.getElem?_eq_getElem hlt⟩
      obtain ⟨g,rfl,hgl,hc⟩ := OV.cellAt (H.out.below RPair.steady HB.out) hx
      have HD := Lib.hid (show hitFrom q 0 zs = if q z then (k : Int) else hitFrom q (k + 1) (zs.drop (k + 1)) by rw [HR.out,drop_cons hx];rfl)
      have KZ := Lib.hid (HK.out wr HGW.out z (List.mem_of_getElem? hx))
      clear hx HR
      cases hq : q z
      · rw [hq,if_neg (by simp)] at HD
        rw [hq] at KZ
        clear hq
        go_wp2_with (go_at_call 58;refine (KZ.out).mono ?_;rintro e w1 ⟨rfl,hb1⟩;have HB1 := Lib.hid (HB.out.trans (hb1.mono (Below.size HB.out)));have HG1 := Lib.hid (HGB.out _ _ HGW.out hb1);clear hb1)
        go_roundw
        case rel => exact ⟨k + 1,by omega,by go_num,HD,HB1,HG1⟩
        case measure => simp [intOf];omega
      · rw [hq,if_pos rfl] at HD
        rw [hq] at KZ
        clear hq
        go_wp2_with (go_at_call 58;refine (KZ.out).mono ?_;rintro e w1 ⟨rfl,hb1⟩;have HB1 := Lib.hid (HB.out.trans (hb1.mono (Below.size HB.out)));clear hb1)
        go_ret
        exact ⟨ret_int HD.out.symm,HB1.out⟩
    · have HE := Lib.hid (show hitFrom q 0 zs = -1 by rw [HR.out,drop_end (by omega)];rfl)
      go_wp2
      go_ret
      exact ⟨ret_int HE.out.symm,HB.out⟩
structure Half (w : World) (B g n cap : Nat) (q : VB → Bool) (zs : List VB) (i j : Nat) (xs : List Value) : Prop where
  own : w.ownsRow B 92 1 (.slice (some ⟨g,0,none⟩) n cap) n xs
  hd : xs.take i = ((zs.take j).filter fun z => !q z).map (·.1)
  tl : xs.drop j = (zs.drop j).map (·.1)
  lt : i < j
  le : j ≤ n
section
variable {w w' : World} {B g n cap : Nat} {q : VB → Bool} {zs : List VB} {i j : Nat} {xs : List Value}
theorem Half.glt (h : Half w B g n cap q zs i j xs) : B ≤ g ∧ g < w.heap.size := h.own.lt g rfl
theorem Half.len (h : Half w B g n cap q zs i j xs) : xs.length = n := by have := h.own.1;omega
theorem Half.kept (h : Half w B g n cap q zs i j xs) (hb : Below w.heap.size w w') : Half w' B g n cap q zs i j xs :=
  ⟨h.own.kept (row := none) ⟨hb.os,hb.tape,hb.output,hb.size,fun k hk _ => hb.block k hk⟩ (.inr (by simp [Value.ownBlock])),h.hd,h.tl,h.lt,h.le⟩
theorem Half.cell (h : Half w B g n cap q zs i j xs) {z : VB} (hz : zs[j]? = some z) (hj : j < n) : w.cell? ⟨g,j,none⟩ = some z.1 := by
  rw [h.own.cellAt j (by omega)]
  have h1 : (xs.drop j)[0]? = ((zs.drop j).map (·.1))[0]? := by rw [h.tl]
  rw [List.getElem?_drop,List.getElem?_map,List.getElem?_drop,Nat.add_zero,hz] at h1
  exact h1
theorem Half.skip (h : Half w B g n cap q zs i j xs) {z : VB} (hz : zs[j]? = some z) (hj : j < n) (hq : q z = true) : Half w B g n cap q zs i (j + 1) xs :=
  ⟨h.own,by rw [h.hd,List.take_add_one,hz];simp [hq],by have := congrArg (List.drop 1) h.tl;rwa [List.drop_drop,← List.map_drop,List.drop_drop] at this,by have := h.lt;omega,hj⟩
theorem Half.put (h : Half w B g n cap q zs i j xs) {z : VB} (hz : zs[j]? = some z) (hj : j < n) (hq : q z = false) : Half (w.setCell ⟨g,i,none⟩ z.1) B g n cap q zs (i + 1) (j + 1) (xs.set i z.1) :=
  ⟨(h.own.stored i z.1).1,by
    have hi : i < xs.length := by have := h.lt;have := h.len;omega
    rw [List.take_add_one,List.take_set_of_le (Nat.le_refl _),h.hd,List.getElem?_set_self hi,List.take_add_one,hz]
    simp [hq],by
    have h1 := congrArg (List.drop 1) h.tl
    rw [List.drop_drop,← List.map_drop,List.drop_drop] at h1
    rw [List.drop_set_of_lt (by have := h.lt;omega)]
    exact h1,by have := h.lt;omega,hj⟩
theorem Half.spot (h : Half w B g n cap q zs i j xs) : ∃ d,w.cell? ⟨g,i,none⟩ = some d ∧ w.frozen? ⟨g,i,none⟩ = false := by
  have hi : i < xs.length := by have := h.lt;have := h.len;have := h.le;omega
  refine ⟨_,by rw [h.own.cellAt i (by have := h.len;omega)];exact List.getElem?_eq_getElem hi,h.own.frozenAt _⟩
end
theorem filter_none {α : Type} {q : α → Bool} {zs : List α} (h : ∀ z ∈ zs,q z = false) : zs.filter (fun z => !q z) = zs := List.filter_eq_self.2 fun z hz => by rw [h z hz];rfl
set_option maxRecDepth 100000 in
set_option maxHeartbeats 8000000 in
theorem deleteBinds {B A L : Nat} {q : VB → Bool} (v : Value) (zs : List VB) (w : World) (h : OV B w v zs) (K : Asks (fun W => w.grownBy W v.ownBlock) A L q zs) (hs : ∀ z ∈ zs,∃ a n c,z.1 = .slice a n c) (n1 : zs.length ≤ 1073741824) :
    Calls Tryz.prog 57 #[v,.func (.func 58) #[] #[.pointer (some ⟨A,0,none⟩),.pointer (some ⟨L,0,none⟩)]] w fun e w' =>
      (∃ v',e = .returned v' ∧ OV B w' v' (zs.filter fun z => !q z) ∧ v'.ownBlock = v.ownBlock) ∧ w.grownBy w' v.ownBlock := by
  have KI := Lib.hid (indexFuncBinds v zs w h (World.grownBy.refl w _) (fun W W' hW hb => hW.trans ⟨hb.os,hb.tape,hb.output,hb.size,fun k hk _ => hb.block k hk⟩) K (by omega))
  rcases hitFrom_cases q zs 0 with ⟨e1,e2⟩ | ⟨i0,x,hx,e1,e2,e3⟩
  · rw [e1] at KI
    obtain ⟨a,c,rfl,-,-,-⟩ := id (h.read RPair.steady).form
    have H := Lib.hid h
    have HFE := Lib.hid (filter_none e2)
    clear h K e1 e2 hs
    go_enter Tryz.func57,Tryz.ntmps57
    go_wp2_with (go_at_call 93;refine (KI.out).mono ?_;rintro e w1 ⟨rfl,hb1⟩;have HB1 := Lib.hid hb1;clear hb1)
    go_ret
    exact ⟨⟨_,rfl,by rw [HFE.out];exact H.out.below RPair.steady HB1.out,rfl⟩,HB1.out.os,HB1.out.tape,HB1.out.output,HB1.out.size,fun k hk _ => HB1.out.block k hk⟩
  · rw [e1,Int.natCast_zero,Int.zero_add] at KI
    have hin := (List.getElem?_eq_some_iff.1 hx).1
    obtain ⟨ho,h1⟩ := h.row
    rcases id ho.2 with ⟨-,h0⟩ | ⟨g,cap,cur,rfl,hBg,hg,hnc,hcm,-⟩
    · omega
    obtain ⟨n,hn⟩ : ∃ n,zs.length = n := ⟨_,rfl⟩
    rw [hn] at ho hin n1 hnc KI K ⊢
    have HH := Lib.hid (show Half w B g n cap q zs i0 (i0 + 1) (zs.map (·.1)) from ⟨ho,by
      rw [List.take_add_one,hx,← List.map_take,List.filter_append,filter_none e3];simp [e2],by rw [← List.map_drop],by omega,by omega⟩)
    have HK := Lib.hid K
    have HS := Lib.hid hs
    have H1 := Lib.hid h1
    have HN := Lib.hid hn
    clear ho h1 K e1 e2 e3 hs h hn hx hg
    have g12 : ((i0 : Int) == -1) = false := beq_eq_false_iff_ne.2 (by omega)
    go_enter Tryz.func57,Tryz.ntmps57
    go_wp2_with (go_at_call 93;refine (KI.out).mono ?_;rintro e w1 ⟨rfl,hb1⟩;have HB1 := Lib.hid hb1;have HH1 := Lib.hid (HH.out.kept hb1);clear hb1)
    clear HH KI
    have HG1 := Lib.hid (show w.grownBy w1 (some g) from ⟨HB1.out.os,HB1.out.tape,HB1.out.output,HB1.out.size,fun k hk _ => HB1.out.block k hk⟩)
    clear HB1
    go_loopw [6,5,7] (fun jv iv _ wr => ∃ (i j : Nat) (xs : List Value),jv = .int .i64 j ∧ iv = .int .i64 i ∧ j ≤ n ∧ i < j ∧ Hid (Half wr B g n cap q zs i j xs) ∧ Hid (w.grownBy wr (some g))) (fun jv _ _ _ => n - (intOf jv).toNat)
    case atStart => exact ⟨i0,i0 + 1,_,by simp,rfl,by omega,by omega,HH1,HG1⟩
    case round =>
      clear HH1 HG1
      obtain ⟨i,j,xs,rfl,rfl,hjn,hij,HH,HG⟩ := hrel
      by_cases hlt : j < n
      · obtain ⟨z,hx⟩ : ∃ z,zs[j]? = some z := ⟨_,List.getElem?_eq_getElem (by rw [HN.out];exact hlt)⟩
        have hm := List.mem_of_getElem? hx
        have hc := HH.out.cell hx hlt
        obtain ⟨za,zn,zc,hz1⟩ := HS.out z hm
        have KZ := Lib.hid (HK.out wr HG.out z hm)
        have hgl := HH.out.glt.2
        have i1 : (0 : Int) ≤ (j : Int) := by omega
        have i2 : (j : Int) < (n : Int) := by omega
        have i3 : (0 : Int) ≤ (i : Int) := by omega
        have i4 : (i : Int) < (n : Int) := by omega
        have i5 : IntKind.i64.wrap (j : Int) = j := by rw [IntKind.wrap_i64];omega
        rw [hz1] at hc KZ
        cases hq : q z
        · rw [hq] at KZ
          have HP := Lib.hid (fun W (hb : Below wr.heap.size wr W) => (show (∃ d,W.cell? ⟨g,i,none⟩ = some d ∧ W.frozen? ⟨g,i,none⟩ = false) ∧ W.grownBy (W.setCell ⟨g,i,none⟩ (.slice za zn zc)) (some g) ∧ Half (W.setCell ⟨g,i,none⟩ (.slice za zn zc)) B g n cap q zs (i + 1) (j + 1) (xs.set i (.slice za zn zc)) from
            ⟨(HH.out.kept hb).spot,((HH.out.kept hb).own.stored i _).2,by rw [← hz1];exact (HH.out.kept hb).put hx hlt hq⟩))
          clear hq hz1 hx hm
          go_wp2_with (go_at_call 58;refine (KZ.out).mono ?_;rintro e w2 ⟨rfl,hb2⟩;obtain ⟨⟨d,hd1,hd2⟩,hg2,hh2⟩ := HP.out _ hb2;have HH2 := Lib.hid hh2;have HG2 := Lib.hid (show w.grownBy _ (some g) from (HG.out.trans ⟨hb2.os,hb2.tape,hb2.output,hb2.size,fun k hk _ => hb2.block k hk⟩).trans hg2);clear hb2 hg2 hh2)
          go_roundw
          case rel => exact ⟨i + 1,j + 1,_,by go_num,by go_num,by omega,by omega,HH2,HG2⟩
          case measure => simp [intOf];omega
        · rw [hq] at KZ
          have HP := Lib.hid (fun W (hb : Below wr.heap.size wr W) => (HH.out.kept hb).skip hx hlt hq)
          clear hq hz1 hx hm
          go_wp2_with (go_at_call 58;refine (KZ.out).mono ?_;rintro e w2 ⟨rfl,hb2⟩;have HH2 := Lib.hid (HP.out _ hb2);have HG2 := Lib.hid (show w.grownBy w2 (some g) from HG.out.trans ⟨hb2.os,hb2.tape,hb2.output,hb2.size,fun k hk _ => hb2.block k hk⟩);clear hb2)
          go_roundw
          case rel => exact ⟨i,j + 1,xs,by go_num,rfl,by omega,by omega,HH2,HG2⟩
          case measure => simp [intOf];omega
      · have hjn' : j = n := by omega
        have hncap : n ≤ cap := hnc
        have hin : i ≤ n := by omega
        have hin' : (i : Int) ≤ n := by omega
        have hic : i ≠ cap := by omega
        have hic' : cap ≠ i := fun e => hic e.symm
        have hic2 : i < cap := by omega
        have hic3 : (i : Int) < cap := by omega
        have i6 : (0 : Int) ≤ (i : Int) := by omega
        have hcm' : cap ≤ 9223372036854775807 := by unfold maxLen at hcm;omega
        have HE := Lib.hid (show xs.take i = (zs.filter fun z => !q z).map (·.1) by rw [HH.out.hd,List.take_of_length_le (by rw [HN.out];omega)])
        go_wp2
        obtain ⟨w5,hrun5,hown5,hg5⟩ := run_clear_own (P := Tryz.prog) (t := 41) (ty := 0) (k := 1) (by omega) Tryz.underlying41 Tryz.zeroValue92 rfl (by simp [Value.cells,Value.oneCell']) HH.out.own i (cap - i) hin
        rw [Nat.mul_one] at hrun5 hown5
        have HO5 := Lib.hid hown5
        have HG5 := Lib.hid (HG.out.trans hg5)
        clear hown5 hg5
        rw [hrun5]
        go_wp2
        go_ret
        have hlen : i = (zs.filter fun z => !q z).length := by
          have h2 := congrArg List.length HE.out
          rw [List.length_take,List.length_map,HH.out.len] at h2
          omega
        refine ⟨⟨_,rfl,OV.of_row ?_ (fun z hz => H1.out z (List.mem_filter.1 hz).1),rfl⟩,HG5.out⟩
        rw [← HE.out,← hlen]
        exact HO5.out
end Go.Proofs.YtiiicochdidolaaGreat
namespace Go.Proofs.YtiiicochdidolaaGreat
open Go.Shelf Go.Proofs
def Tryz.sortFact_ren : Go.Shelf.Ren := ⟨fun | 6 => 66 | 15 => 105 | 14 => 104 | 28 => 129 | 29 => 130 | 20 => 121 | 21 => 122 | 22 => 123 | 23 => 124 | 24 => 125 | 25 => 126 | 26 => 127 | 27 => 128 | 46 => 151 | 47 => 152 | 48 => 153 | 49 => 154 | 50 => 155 | 57 => 162 | n => n,fun | 22 => 24 | 24 => 38 | 25 => 95 | 3 => 3 | 39 => 111 | 0 => 0 | 53 => 209 | 55 => 211 | 4 => 4 | 46 => 203 | 45 => 202 | 50 => 93 | 5 => 5 | 9 => 9 | 66 => 226 | 70 => 230 | 76 => 236 | 77 => 237 | n => n,fun | n => n⟩
theorem Tryz.sortFact : Go.Proofs.SlLaysF0.n6 Tryz.prog Tryz.sortFact_ren := {
  mixed := by kernel_rfl
  f6 := ⟨Tryz.f66.name,by decide,Tryz.func66.trans (congrArg some (by kernel_rfl))⟩
  f14 := ⟨Tryz.f104.name,by decide,Tryz.func104.trans (congrArg some (by kernel_rfl))⟩
  f15 := Tryz.func105.trans (congrArg some (by kernel_rfl))
  f20 := ⟨Tryz.f121.name,by decide,Tryz.func121.trans (congrArg some (by kernel_rfl))⟩
  f21 := ⟨Tryz.f122.name,by decide,Tryz.func122.trans (congrArg some (by kernel_rfl))⟩
  f22 := ⟨Tryz.f123.name,by decide,Tryz.func123.trans (congrArg some (by kernel_rfl))⟩
  f23 := ⟨Tryz.f124.name,by decide,Tryz.func124.trans (congrArg some (by kernel_rfl))⟩
  f24 := ⟨Tryz.f125.name,by decide,Tryz.func125.trans (congrArg some (by kernel_rfl))⟩
  f25 := ⟨Tryz.f126.name,by decide,Tryz.func126.trans (congrArg some (by kernel_rfl))⟩
  f26 := ⟨Tryz.f127.name,by decide,Tryz.func127.trans (congrArg some (by kernel_rfl))⟩
  f27 := ⟨Tryz.f128.name,by decide,Tryz.func128.trans (congrArg some (by kernel_rfl))⟩
  f28 := Tryz.func129.trans (congrArg some (by kernel_rfl))
  f29 := Tryz.func130.trans (congrArg some (by kernel_rfl))
  f46 := ⟨Tryz.f151.name,by decide,Tryz.func151.trans (congrArg some (by kernel_rfl))⟩
  f47 := Tryz.func152.trans (congrArg some (by kernel_rfl))
  f48 := Tryz.func153.trans (congrArg some (by kernel_rfl))
  f49 := ⟨Tryz.f154.name,by decide,Tryz.func154.trans (congrArg some (by kernel_rfl))⟩
  f50 := ⟨Tryz.f155.name,by decide,Tryz.func155.trans (congrArg some (by kernel_rfl))⟩
  f57 := ⟨Tryz.f162.name,by decide,Tryz.func162.trans (congrArg some (by kernel_rfl))⟩
  t0 := Tryz.underlying0
  a0 := Tryz.isAgg0
  z0 := Tryz.sizeOf0
  v0 := Tryz.zeroValue0
  t3 := Tryz.underlying3
  a3 := Tryz.isAgg3
  z3 := Tryz.sizeOf3
  v3 := Tryz.zeroValue3
  t4 := Tryz.underlying4
  a4 := Tryz.isAgg4
  z4 := Tryz.sizeOf4
  v4 := Tryz.zeroValue4
  t5 := Tryz.underlying5
  a5 := Tryz.isAgg5
  z5 := Tryz.sizeOf5
  v5 := Tryz.zeroValue5
  t9 := Tryz.underlying9
  a9 := Tryz.isAgg9
  z9 := Tryz.sizeOf9
  v9 := Tryz.zeroValue9
  t22 := Tryz.underlying24
  a22 := Tryz.isAgg24
  z22 := Tryz.sizeOf24
  v22 := Tryz.zeroValue24
  t25 := Tryz.underlying95
  a25 := Tryz.isAgg95
  z25 := Tryz.sizeOf95
  v25 := Tryz.zeroValue95
  t39 := Tryz.underlying111
  a39 := Tryz.isAgg111
  z39 := Tryz.sizeOf111
  v39 := Tryz.zeroValue111
  t45 := Tryz.underlying202
  a45 := Tryz.isAgg202
  z45 := Tryz.sizeOf202
  v45 := Tryz.zeroValue202
  t46 := Tryz.underlying203
  a46 := Tryz.isAgg203
  z46 := Tryz.sizeOf203
  v46 := Tryz.zeroValue203
  t50 := Tryz.underlying93
  a50 := Tryz.isAgg93
  z50 := Tryz.sizeOf93
  v50 := Tryz.zeroValue93
  t53 := Tryz.underlying209
  a53 := Tryz.isAgg209
  z53 := Tryz.sizeOf209
  v53 := Tryz.zeroValue209
  t55 := Tryz.underlying211
  a55 := Tryz.isAgg211
  z55 := Tryz.sizeOf211
  v55 := Tryz.zeroValue211
  t66 := Tryz.underlying226
  a66 := Tryz.isAgg226
  z66 := Tryz.sizeOf226
  v66 := Tryz.zeroValue226
  t70 := Tryz.underlying230
  a70 := Tryz.isAgg230
  z70 := Tryz.sizeOf230
  v70 := Tryz.zeroValue230
  t76 := Tryz.underlying236
  a76 := Tryz.isAgg236
  z76 := Tryz.sizeOf236
  v76 := Tryz.zeroValue236
  t77 := Tryz.underlying237
  a77 := Tryz.isAgg237
  z77 := Tryz.sizeOf237
  v77 := Tryz.zeroValue237 }
def Tryz.sortBind_ren : Go.Shelf.Ren := ⟨fun | 6 => 95 | 15 => 105 | 14 => 119 | 28 => 129 | 29 => 130 | 20 => 135 | 21 => 136 | 22 => 137 | 23 => 138 | 24 => 139 | 25 => 140 | 26 => 141 | 27 => 142 | 46 => 156 | 47 => 152 | 48 => 153 | 49 => 157 | 50 => 158 | 57 => 163 | n => n,fun | 22 => 92 | 24 => 135 | 25 => 179 | 3 => 3 | 39 => 111 | 0 => 0 | 53 => 209 | 55 => 211 | 4 => 4 | 46 => 203 | 45 => 202 | 50 => 93 | 5 => 5 | 9 => 9 | 66 => 226 | 70 => 230 | 76 => 236 | 77 => 237 | n => n,fun | n => n⟩
theorem Tryz.sortBind : Go.Proofs.SlLaysF0.n6 Tryz.prog Tryz.sortBind_ren := {
  mixed := by kernel_rfl
  f6 := ⟨Tryz.f95.name,by decide,Tryz.func95.trans (congrArg some (by kernel_rfl))⟩
  f14 := ⟨Tryz.f119.name,by decide,Tryz.func119.trans (congrArg some (by kernel_rfl))⟩
  f15 := Tryz.func105.trans (congrArg some (by kernel_rfl))
  f20 := ⟨Tryz.f135.name,by decide,Tryz.func135.trans (congrArg some (by kernel_rfl))⟩
  f21 := ⟨Tryz.f136.name,by decide,Tryz.func136.trans (congrArg some (by kernel_rfl))⟩
  f22 := ⟨Tryz.f137.name,by decide,Tryz.func137.trans (congrArg some (by kernel_rfl))⟩
  f23 := ⟨Tryz.f138.name,by decide,Tryz.func138.trans (congrArg some (by kernel_rfl))⟩
  f24 := ⟨Tryz.f139.name,by decide,Tryz.func139.trans (congrArg some (by kernel_rfl))⟩
  f25 := ⟨Tryz.f140.name,by decide,Tryz.func140.trans (congrArg some (by kernel_rfl))⟩
  f26 := ⟨Tryz.f141.name,by decide,Tryz.func141.trans (congrArg some (by kernel_rfl))⟩
  f27 := ⟨Tryz.f142.name,by decide,Tryz.func142.trans (congrArg some (by kernel_rfl))⟩
  f28 := Tryz.func129.trans (congrArg some (by kernel_rfl))
  f29 := Tryz.func130.trans (congrArg some (by kernel_rfl))
  f46 := ⟨Tryz.f156.name,by decide,Tryz.func156.trans (congrArg some (by kernel_rfl))⟩
  f47 := Tryz.func152.trans (congrArg some (by kernel_rfl))
  f48 := Tryz.func153.trans (congrArg some (by kernel_rfl))
  f49 := ⟨Tryz.f157.name,by decide,Tryz.func157.trans (congrArg some (by kernel_rfl))⟩
  f50 := ⟨Tryz.f158.name,by decide,Tryz.func158.trans (congrArg some (by kernel_rfl))⟩
  f57 := ⟨Tryz.f163.name,by decide,Tryz.func163.trans (congrArg some (by kernel_rfl))⟩
  t0 := Tryz.underlying0
  a0 := Tryz.isAgg0
  z0 := Tryz.sizeOf0
  v0 := Tryz.zeroValue0
  t3 := Tryz.underlying3
  a3 := Tryz.isAgg3
  z3 := Tryz.sizeOf3
  v3 := Tryz.zeroValue3
  t4 := Tryz.underlying4
  a4 := Tryz.isAgg4
  z4 := Tryz.sizeOf4
  v4 := Tryz.zeroValue4
  t5 := Tryz.underlying5
  a5 := Tryz.isAgg5
  z5 := Tryz.sizeOf5
  v5 := Tryz.zeroValue5
  t9 := Tryz.underlying9
  a9 := Tryz.isAgg9
  z9 := Tryz.sizeOf9
  v9 := Tryz.zeroValue9
  t22 := Tryz.underlying92
  a22 := Tryz.isAgg92
  z22 := Tryz.sizeOf92
  v22 := Tryz.zeroValue92
  t25 := Tryz.underlying179
  a25 := Tryz.isAgg179
  z25 := Tryz.sizeOf179
  v25 := Tryz.zeroValue179
  t39 := Tryz.underlying111
  a39 := Tryz.isAgg111
  z39 := Tryz.sizeOf111
  v39 := Tryz.zeroValue111
  t45 := Tryz.underlying202
  a45 := Tryz.isAgg202
  z45 := Tryz.sizeOf202
  v45 := Tryz.zeroValue202
  t46 := Tryz.underlying203
  a46 := Tryz.isAgg203
  z46 := Tryz.sizeOf203
  v46 := Tryz.zeroValue203
  t50 := Tryz.underlying93
  a50 := Tryz.isAgg93
  z50 := Tryz.sizeOf93
  v50 := Tryz.zeroValue93
  t53 := Tryz.underlying209
  a53 := Tryz.isAgg209
  z53 := Tryz.sizeOf209
  v53 := Tryz.zeroValue209
  t55 := Tryz.underlying211
  a55 := Tryz.isAgg211
  z55 := Tryz.sizeOf211
  v55 := Tryz.zeroValue211
  t66 := Tryz.underlying226
  a66 := Tryz.isAgg226
  z66 := Tryz.sizeOf226
  v66 := Tryz.zeroValue226
  t70 := Tryz.underlying230
  a70 := Tryz.isAgg230
  z70 := Tryz.sizeOf230
  v70 := Tryz.zeroValue230
  t76 := Tryz.underlying236
  a76 := Tryz.isAgg236
  z76 := Tryz.sizeOf236
  v76 := Tryz.zeroValue236
  t77 := Tryz.underlying237
  a77 := Tryz.isAgg237
  z77 := Tryz.sizeOf237
  v77 := Tryz.zeroValue237 }
def Tryz.sortBinds_ren : Go.Shelf.Ren := ⟨fun | 6 => 96 | 15 => 105 | 14 => 120 | 28 => 129 | 29 => 130 | 20 => 143 | 21 => 144 | 22 => 145 | 23 => 146 | 24 => 147 | 25 => 148 | 26 => 149 | 27 => 150 | 46 => 159 | 47 => 152 | 48 => 153 | 49 => 160 | 50 => 161 | 57 => 164 | n => n,fun | 22 => 41 | 24 => 92 | 25 => 183 | 3 => 3 | 39 => 111 | 0 => 0 | 53 => 209 | 55 => 211 | 4 => 4 | 46 => 203 | 45 => 202 | 50 => 93 | 5 => 5 | 9 => 9 | 66 => 226 | 70 => 230 | 76 => 236 | 77 => 237 | n => n,fun | n => n⟩
theorem Tryz.sortBinds : Go.Proofs.SlLaysF.n6 Tryz.prog Tryz.sortBinds_ren := {
  mixed := by kernel_rfl
  f6 := ⟨Tryz.f96.name,by decide,Tryz.func96.trans (congrArg some (by kernel_rfl))⟩
  f14 := ⟨Tryz.f120.name,by decide,Tryz.func120.trans (congrArg some (by kernel_rfl))⟩
  f15 := Tryz.func105.trans (congrArg some (by kernel_rfl))
  f20 := ⟨Tryz.f143.name,by decide,Tryz.func143.trans (congrArg some (by kernel_rfl))⟩
  f21 := ⟨Tryz.f144.name,by decide,Tryz.func144.trans (congrArg some (by kernel_rfl))⟩
  f22 := ⟨Tryz.f145.name,by decide,Tryz.func145.trans (congrArg some (by kernel_rfl))⟩
  f23 := ⟨Tryz.f146.name,by decide,Tryz.func146.trans (congrArg some (by kernel_rfl))⟩
  f24 := ⟨Tryz.f147.name,by decide,Tryz.func147.trans (congrArg some (by kernel_rfl))⟩
  f25 := ⟨Tryz.f148.name,by decide,Tryz.func148.trans (congrArg some (by kernel_rfl))⟩
  f26 := ⟨Tryz.f149.name,by decide,Tryz.func149.trans (congrArg some (by kernel_rfl))⟩
  f27 := ⟨Tryz.f150.name,by decide,Tryz.func150.trans (congrArg some (by kernel_rfl))⟩
  f28 := Tryz.func129.trans (congrArg some (by kernel_rfl))
  f29 := Tryz.func130.trans (congrArg some (by kernel_rfl))
  f46 := ⟨Tryz.f159.name,by decide,Tryz.func159.trans (congrArg some (by kernel_rfl))⟩
  f47 := Tryz.func152.trans (congrArg some (by kernel_rfl))
  f48 := Tryz.func153.trans (congrArg some (by kernel_rfl))
  f49 := ⟨Tryz.f160.name,by decide,Tryz.func160.trans (congrArg some (by kernel_rfl))⟩
  f50 := ⟨Tryz.f161.name,by decide,Tryz.func161.trans (congrArg some (by kernel_rfl))⟩
  f57 := ⟨Tryz.f164.name,by decide,Tryz.func164.trans (congrArg some (by kernel_rfl))⟩
  t0 := Tryz.underlying0
  a0 := Tryz.isAgg0
  z0 := Tryz.sizeOf0
  v0 := Tryz.zeroValue0
  t3 := Tryz.underlying3
  a3 := Tryz.isAgg3
  z3 := Tryz.sizeOf3
  v3 := Tryz.zeroValue3
  t4 := Tryz.underlying4
  a4 := Tryz.isAgg4
  z4 := Tryz.sizeOf4
  v4 := Tryz.zeroValue4
  t5 := Tryz.underlying5
  a5 := Tryz.isAgg5
  z5 := Tryz.sizeOf5
  v5 := Tryz.zeroValue5
  t9 := Tryz.underlying9
  a9 := Tryz.isAgg9
  z9 := Tryz.sizeOf9
  v9 := Tryz.zeroValue9
  t22 := Tryz.underlying41
  a22 := Tryz.isAgg41
  z22 := Tryz.sizeOf41
  v22 := Tryz.zeroValue41
  a24 := Tryz.isAgg92
  z24 := Tryz.sizeOf92
  t25 := Tryz.underlying183
  a25 := Tryz.isAgg183
  z25 := Tryz.sizeOf183
  v25 := Tryz.zeroValue183
  t39 := Tryz.underlying111
  a39 := Tryz.isAgg111
  z39 := Tryz.sizeOf111
  v39 := Tryz.zeroValue111
  t45 := Tryz.underlying202
  a45 := Tryz.isAgg202
  z45 := Tryz.sizeOf202
  v45 := Tryz.zeroValue202
  t46 := Tryz.underlying203
  a46 := Tryz.isAgg203
  z46 := Tryz.sizeOf203
  v46 := Tryz.zeroValue203
  t50 := Tryz.underlying93
  a50 := Tryz.isAgg93
  z50 := Tryz.sizeOf93
  v50 := Tryz.zeroValue93
  t53 := Tryz.underlying209
  a53 := Tryz.isAgg209
  z53 := Tryz.sizeOf209
  v53 := Tryz.zeroValue209
  t55 := Tryz.underlying211
  a55 := Tryz.isAgg211
  z55 := Tryz.sizeOf211
  v55 := Tryz.zeroValue211
  t66 := Tryz.underlying226
  a66 := Tryz.isAgg226
  z66 := Tryz.sizeOf226
  v66 := Tryz.zeroValue226
  t70 := Tryz.underlying230
  a70 := Tryz.isAgg230
  z70 := Tryz.sizeOf230
  v70 := Tryz.zeroValue230
  t76 := Tryz.underlying236
  a76 := Tryz.isAgg236
  z76 := Tryz.sizeOf236
  v76 := Tryz.zeroValue236
  t77 := Tryz.underlying237
  a77 := Tryz.isAgg237
  z77 := Tryz.sizeOf237
  v77 := Tryz.zeroValue237 }
end Go.Proofs.YtiiicochdidolaaGreat
namespace Go.Proofs.YtiiicochdidolaaGreat
open Go.RowKit Go.Sort Go.Shelf
theorem flatK_toList {α : Type} [Inhabited α] (enc : α → List Value) (k : Nat) (hk : ∀ x,(enc x).length = k) (d : Array α) : (flatK enc k d).toList = (d.toList.map enc).flatten := by
  have hlen : ((d.toList.map enc).flatten).length = d.size * k := by
    have : ∀ l : List α,((l.map enc).flatten).length = l.length * k := by
      intro l
      induction l with
      | nil => simp
      | cons x l ih => rw [List.map_cons,List.flatten_cons,List.length_append,ih,hk,List.length_cons,Nat.add_mul];omega
    simpa using this d.toList
  apply List.ext_getElem?
  intro t
  by_cases ht : t < d.size * k
  · have k0 : 0 < k := by
      rcases Nat.eq_zero_or_pos k with h | h
      · subst h;omega
      · exact h
    have hi : t / k < d.size := Nat.div_lt_of_lt_mul (by rw [Nat.mul_comm];exact ht)
    have hj : t % k < k := Nat.mod_lt _ k0
    have h1 : (flatK enc k d).toList[t]? = some (enc d[t / k]!)[t % k]! := by
      have := get_flatK enc k d t ht
      rw [Array.getElem?_toList]
      rw [Array.getElem!_eq_getD,Array.getD] at this
      simp only [size_flatK,ht,dite_true] at this
      rw [Array.getElem?_eq_getElem (by simpa using ht)]
      exact congrArg some this
    rw [h1]
    have hx : (d.toList.map enc)[t / k]? = some (enc d[t / k]!) := by
      rw [List.getElem?_map,Array.getElem?_toList,Array.getElem?_eq_getElem hi,getElem!_pos d _ hi];rfl
    have hu : (enc d[t / k]!)[t % k]? = some (enc d[t / k]!)[t % k]! := by
      rw [List.getElem?_eq_getElem (by rw [hk];exact hj),List.getElem!_eq_getElem?_getD,List.getElem?_eq_getElem (by rw [hk];exact hj)];rfl
    have := flatten_get (k := k) (d.toList.map enc) (by intro cs hcs;obtain ⟨x,_,rfl⟩ := List.mem_map.1 hcs;exact hk x) (t / k) _ (t % k) _ hx hu
    rw [Nat.mul_comm,Nat.div_add_mod] at this
    exact this.symm
  · rw [List.getElem?_eq_none (by simp;omega),List.getElem?_eq_none (by omega)]
theorem heap_sortedK {α : Type} [Inhabited α] {enc : α → List Value} {k : Nat} {w : World} {g n : Nat} {os : Array Obj} {cur : Array Value} {e : TypeId} {fr : Nat × Nat} (d : Array α) (hb : w.heap[g]? = some (.cells cur e fr)) :
    (sortWorldK enc k w g 0 n d os).heap[g]? = some (.cells (putCells id 0 (flatK enc k d) cur) e fr) := by
  have hg : g < w.heap.size := (Array.getElem?_eq_some_iff.1 hb).1
  unfold sortWorldK
  rw [heap_grow_old _ _ (by simpa [putRowK] using hg)]
  simp [putRowK,putRow,mapBlock,Sort.ahead,Array.getElem?_modify,hb,onCells]
theorem grownBy_sortedK {α : Type} [Inhabited α] {enc : α → List Value} {k : Nat} {w : World} {g off n : Nat} {os : Array Obj} (d : Array α) : w.grownBy (sortWorldK enc k w g off n d os) (some g) := by
  refine ⟨rfl,rfl,rfl,by simp [sortWorldK,putRowK],fun q hq hne => ?_⟩
  unfold sortWorldK
  rw [heap_grow_old _ _ (by simpa [putRowK] using hq)]
  have : g ≠ q := fun e => hne (by rw [e])
  simp [putRowK,putRow,mapBlock,Sort.ahead,Array.getElem?_modify,this]
theorem take_putK (F cur : Array Value) (h : F.size ≤ cur.size) : (putCells id 0 F cur).toList.take F.size = F.toList := by
  apply List.ext_getElem?
  intro j
  by_cases hj : j < F.size
  · rw [List.getElem?_take_of_lt hj,Array.getElem?_toList,Array.getElem?_toList]
    simp [putCells,hj,show j < cur.size by omega]
  · rw [List.getElem?_take_eq_none (by omega),List.getElem?_eq_none (by simp;omega)]
structure VElem (α : Type) (k : Nat) (R : Reader α) (Q : α → Prop) (S : Nat → Prop) (w : World) where
  cells : List Value
  val : α
  len : cells.length = k
  rd : R S w cells val
  q : Q val
set_option maxHeartbeats 1000000 in
theorem sort_owned {P : Program} {ρ : Ren} (L : SlLaysF0.n6 P ρ) {α : Type} {k : Nat} {R : Reader α} (hR : Steady R) (hcell : ∀ {S w cs x},R S w cs x → ∀ u ∈ cs,u.oneCell' = true) (Q : α → Prop)
    (aE : ∀ w,(isAgg (ρ.t 24)).run P w = .ok true w) (zE : ∀ w,(Go.sizeOf (ρ.t 24)).run P w = .ok k w) {cf : α → α → Int} (c3 : Cmp3 cf) (g : Nat) (eg : ∀ args w,(callFunc g args).run P w = .ok (.enter g args) w)
    (hC : ∀ {S : Nat → Prop} (W : World) (x y : α) (cx cy : List Value),R S W cx x → R S W cy y → Q x → Q y → Calls P g #[.agg cx.toArray,.agg cy.toArray] W fun e w' => e = .returned (.int .i64 (cf x y)) ∧ Fresh W w')
    {B : Nat} {e : TypeId} {S : Nat → Prop} {w : World} {v : Value} {l : List α} (hown : Owned k R B e S w v l) (hQ : ∀ x ∈ l,Q x) (hsz : l.length < 4611686018427387904) :
    Calls P (ρ.f 6) #[v,.func (.func g) #[] #[]] w fun en w' => en = .returned (.tuple #[]) ∧ ∃ l',l'.Perm l ∧ l'.Pairwise (fun a b => ¬ cf b a < 0) ∧ Owned k R B e S w' v l' ∧ w.grownBy w' v.ownBlock := by
  have hO := hown
  obtain ⟨css,hl,hk,ho,hr⟩ := hown
  rcases hempty : l with _ | ⟨x0,l0⟩
  · subst hempty
    obtain ⟨p,cap,hv⟩ : ∃ p cap,v = .slice p 0 cap := by
      rcases ho.2 with ⟨hv,_⟩ | ⟨g,cap,cur,hv,_⟩
      · exact ⟨none,0,hv⟩
      · exact ⟨_,cap,hv⟩
    subst hv
    refine (AnyF.slices_SortFunc_none { L with } p cap _ w).mono fun en w' ⟨he,hw⟩ => ?_
    subst hw
    exact ⟨he,[],List.Perm.refl _,List.Pairwise.nil,hO,⟨rfl,rfl,rfl,Nat.le_refl _,fun _ _ _ => rfl⟩⟩
  · rw [← hempty]
    have hpos : 0 < l.length := by rw [hempty];simp
    rcases ho.2 with ⟨_,h0⟩ | ⟨b,cap,cur,rfl,hbB,hb,hnc,hcm,hcs,htake⟩
    · omega
    · let E := VElem α k R Q (fun q => S q ∧ some q ≠ (Value.slice (some ⟨b,0,none⟩) l.length cap).ownBlock) w
      have mk : ∀ i,i < l.length → ∃ E0 : E,css[i]? = some E0.cells ∧ l[i]? = some E0.val := fun i hi => by
        have h1 : css[i]? = some css[i] := List.getElem?_eq_getElem (by omega)
        have h2 : l[i]? = some l[i] := List.getElem?_eq_getElem hi
        exact ⟨⟨css[i],l[i],hk _ (List.getElem_mem _),hr i _ _ h1 h2,hQ _ (List.getElem_mem _)⟩,h1,h2⟩
      letI : Inhabited E := ⟨(mk 0 hpos).choose⟩
      obtain ⟨dl,hd1,hd2⟩ : ∃ dl : List E,dl.map (·.cells) = css ∧ dl.map (·.val) = l := by
        have main : ∀ n,n ≤ l.length → ∃ dl : List E,dl.map (·.cells) = css.take n ∧ dl.map (·.val) = l.take n := by
          intro n
          induction n with
          | zero => exact fun _ => ⟨[],by simp,by simp⟩
          | succ n ih =>
            intro hn
            obtain ⟨dl,g1,g2⟩ := ih (by omega)
            obtain ⟨E0,e1,e2⟩ := mk n (by omega)
            exact ⟨dl ++ [E0],by rw [List.map_append,g1,List.take_add_one,e1];rfl,by rw [List.map_append,g2,List.take_add_one,e2];rfl⟩
        obtain ⟨dl,g1,g2⟩ := main l.length (Nat.le_refl _)
        exact ⟨dl,by rw [g1,← hl,List.take_length],by rw [g2,List.take_length]⟩
      have hdl : dl.length = l.length := by rw [← hd2];simp
      have hkE : ∀ x : E,x.cells.length = k := fun x => x.len
      have hfl : (flatK (fun x : E => x.cells) k dl.toArray).toList = css.flatten := by rw [flatK_toList _ k hkE,← hd1]
      have hfs : (flatK (fun x : E => x.cells) k dl.toArray).size = l.length * k := by simp [hdl]
      have hH : HoldsK (fun x : E => x.cells) k w b 0 dl.toArray := by
        intro j hj
        rw [hfs] at hj
        have h1 : (flatK (fun x : E => x.cells) k dl.toArray)[j]? = cur[j]? := by
          rw [← Array.getElem?_toList,hfl,← htake,List.getElem?_take_of_lt hj,Array.getElem?_toList]
        refine ⟨?_,by simp [World.frozen?,hb]⟩
        simp only [World.cell?,hb,Nat.zero_add,Option.isSome_none,Bool.false_eq_true,if_false]
        rw [← h1,Array.getElem?_eq_getElem (by rw [hfs];exact hj),getElem!_pos _ _ (by rw [hfs];exact hj)]
        rfl
      have hcmp : CmpLays P g #[] (fun x : E => x.cells) k (fun x y => cf x.val y.val) b 0 dl.toArray.size w := by
        intro m os dk hdk x y
        have hag : Agree (fun q => S q ∧ some q ≠ (Value.slice (some ⟨b,0,none⟩) l.length cap).ownBlock) w (sortWorldK (fun x : E => x.cells) k w b 0 m dk os) := by
          have := grownBy_sortedK (enc := fun x : E => x.cells) (k := k) (w := w) (g := b) (off := 0) (n := m) (os := os) dk
          exact ⟨this.size,fun q hq hlt => this.block q hlt hq.2⟩
        have := hC (sortWorldK (fun x : E => x.cells) k w b 0 m dk os) x.val y.val x.cells y.cells (hR.agree hag x.rd) (hR.agree hag y.rd) x.q y.q
        rw [Array.append_empty]
        exact this.mono fun en w' ⟨he,q,os',hw⟩ => ⟨he,q,os',hw⟩
      have hSWO : SWO (ltOf fun x y : E => cf x.val y.val) :=
        ⟨fun x => by simp [ltOf,c3.self],fun x y z h1 h2 => by simp only [ltOf,decide_eq_true_eq] at *;exact c3.trans _ _ _ h1 h2,fun x y z h1 h2 => by
          simp only [ltOf,decide_eq_false_iff_not] at *
          intro h3
          by_cases e1 : x.val = y.val
          · rw [e1] at h3;exact h2 h3
          · have h4 : cf y.val x.val < 0 := by have := c3.ne_zero e1;have := c3.anti y.val x.val;omega
            exact h2 (c3.trans _ _ _ h4 h3)⟩
      have hlt : b < w.heap.size := (Array.getElem?_eq_some_iff.1 hb).1
      have hsort := AnyQ.slices_SortFunc L k aE zE (fun x : E => x.cells) hkE (fun x => hcell x.rd) (fun x y => cf x.val y.val) hSWO g #[] b 0 cap dl.toArray w eg hcmp hH hlt (by simpa [hdl] using hsz)
      have hsize : dl.toArray.size = l.length := by simp [hdl]
      rw [hsize] at hsort
      refine hsort.mono fun en w' ⟨he,d',n,os,hperm,hsorted,hw⟩ => ⟨he,d'.toList.map (·.val),?_,?_,?_,?_⟩
      · have h1 := hperm.2.2
        have e1 : d'.extract 0 l.length = d' := by rw [← hsize,← hperm.1];simp
        have e2 : dl.toArray.extract 0 l.length = dl.toArray := by rw [← hsize];simp
        rw [e1,e2] at h1
        have := h1.map (fun x : E => x.val)
        rw [show dl.toArray.toList = dl by simp,hd2] at this
        exact this
      · rw [List.pairwise_map]
        refine List.pairwise_iff_getElem.2 fun i j hi hj hij => ?_
        have hs := hsorted i j (Nat.zero_le _) hij (by rw [← hsize,← hperm.1];simpa using hj)
        simp only [ltOf,decide_eq_false_iff_not] at hs
        rw [getElem!_pos d' j (by simpa using hj),getElem!_pos d' i (by simpa using hi)] at hs
        exact hs
      · subst hw
        have hd' : d'.size = l.length := by rw [hperm.1,hsize]
        have hg := grownBy_sortedK (enc := fun x : E => x.cells) (k := k) (w := w) (g := b) (off := 0) (n := n) (os := os) d'
        refine ⟨d'.toList.map (·.cells),by simp,?_,⟨?_,.inr ⟨b,cap,_,by simp [hd'],hbB,heap_sortedK d' hb,by simpa [hd'] using hnc,hcm,by simp [putCells,hcs],?_⟩⟩,?_⟩
        · intro cs hcs'
          obtain ⟨x,_,rfl⟩ := List.mem_map.1 hcs'
          exact x.len
        · rw [← flatK_toList _ k hkE];simp
        · have hf : (flatK (fun x : E => x.cells) k d').size = d'.size * k := by simp
          have := take_putK (flatK (fun x : E => x.cells) k d') cur (by rw [hf,hcs,hd'];exact Nat.mul_le_mul_right _ hnc)
          rw [hf] at this
          rw [List.length_map,Array.length_toList,this,flatK_toList _ k hkE]
        · intro i cs x hcs' hx'
          rw [List.getElem?_map] at hcs' hx'
          cases hi : d'.toList[i]? with
          | none => rw [hi] at hcs';cases hcs'
          | some E0 =>
            rw [hi] at hcs' hx'
            obtain rfl : E0.cells = cs := by simpa using hcs'
            obtain rfl : E0.val = x := by simpa using hx'
            exact hR.agree ⟨hg.size,fun q hq hlt => hg.block q hlt hq.2⟩ E0.rd
      · subst hw
        exact grownBy_sortedK d'
end Go.Proofs.YtiiicochdidolaaGreat
namespace Go.Proofs.YtiiicochdidolaaGreat
open Go.RowKit Go.Shelf Go.Sort
theorem cmpOr2 (p q : Int) (w : World) (b : Nat) (h : w.heap[b]? = some (.cells #[.int .i64 p,.int .i64 q] 3 (0,0))) :
    Calls Tryz.prog 60 #[.slice (some ⟨b,0,none⟩) 2 2] w fun e w' => e = .returned (.int .i64 (orInt [p,q])) ∧ w = w' :=
  cmpOr (S := fun _ => True) _ [p,q] w (RdInts.block rfl h trivial (by unfold maxLen;omega)) (by simp)
attribute [local go_sem ↓] Go.wp_at_zero Go.wp_at_succ
set_option maxHeartbeats 2000000 in
theorem orderCalls (f g : PBind) (w : World) :
    Calls Tryz.prog 94 #[.agg #[.string f.var,.string f.name],.agg #[.string g.var,.string g.name]] w fun e w' => e = .returned (.int .i64 (cmpBind f g)) ∧ Fresh w w' := by
  have e3 : cmpBind f g = orInt [cmpStr f.var g.var,cmpStr f.name g.name] := rfl
  rw [e3]
  clear e3
  go_enter Tryz.func94,Tryz.ntmps94
  go_wp2_with fail
  go_region_held3 (fun w' => w'.cell? ⟨w.heap.size,0,none⟩ = some (.string f.var) ∧ w'.cell? ⟨w.heap.size,1,none⟩ = some (.string f.name) ∧
      w'.cell? ⟨w.heap.size + 1,0,none⟩ = some (.string g.var) ∧ w'.cell? ⟨w.heap.size + 1,1,none⟩ = some (.string g.name)) (go_keep)
    (first
      | (go_at_call 61;refine (compareStr _ _ _).mono ?_;rintro e w' ⟨rfl,rfl⟩)
      | (go_at_call 60;refine (cmpOr2 (cmpStr f.var g.var) (cmpStr f.name g.name) _ _ ?_).mono ?_;(exact heap_new_at (by simp));rintro e w' ⟨rfl,rfl⟩))
  go_wp2
  go_ret
  exact ⟨rfl,((((Fresh.refl _).alloc _).alloc _).alloc _).drew⟩
theorem enterOrder : ∀ args w,(callFunc 94 args).run Tryz.prog w = .ok (.enter 94 args) w := enters_of Tryz.func94 (by kernel_rfl) rfl
theorem sortBind {B : Nat} {w : World} {v : Value} {l : Binds} (hown : OB B w v l) (n1 : l.length ≤ 1073741824) :
    Calls Tryz.prog 95 #[v,.func (.func 94) #[] #[]] w fun en w' => en = .returned (.tuple #[]) ∧ ∃ l',l'.Perm l ∧ l'.Pairwise (fun a b => ¬ cmpBind b a < 0) ∧ OB B w' v l' ∧ w.grownBy w' v.ownBlock :=
  sort_owned Tryz.sortBind RBind.steady RBind.one (fun _ => True) Tryz.isAgg135 Tryz.sizeOf135 cmpBind3 94 enterOrder
    (fun W x y cx cy hx hy _ _ => by
      have hx' : cx = [.string x.var,.string x.name] := hx
      have hy' : cy = [.string y.var,.string y.name] := hy
      subst hx'
      subst hy'
      exact orderCalls x y W)
    hown (fun _ _ => trivial) (by omega)
set_option maxRecDepth 100000 in
set_option maxHeartbeats 4000000 in
theorem compareBinds {S T : Nat → Prop} (va vb : Value) (a b : Binds) (w : World) (ha : RdBinds S w va a) (hb : RdBinds T w vb b) (n1 : a.length ≤ 1073741824) (_ : b.length ≤ 1073741824) :
    Calls Tryz.prog 98 #[va,vb,.func (.func 94) #[] #[]] w fun e w' => e = .returned (.int .i64 (cmpBinds a b)) ∧ Fresh w w' := by
  obtain ⟨aa,ac,rfl,-,-,-⟩ := id ha.form
  obtain ⟨ba,bc,rfl,-,-,-⟩ := id hb.form
  have HA := Lib.hid ha
  have HB := Lib.hid hb
  clear ha hb
  go_enter Tryz.func98,Tryz.ntmps98
  go_wp2
  go_loopw [13,7] (fun i _ wr => ∃ k : Nat,k ≤ a.length ∧ k ≤ b.length ∧ i = .int .i64 k ∧ Hid (cmpBinds a b = cmpLst cmpBind (a.drop k) (b.drop k)) ∧ Hid (Fresh w wr)) (fun i _ _ => a.length - (intOf i).toNat)
  case atStart => exact ⟨0,Nat.zero_le _,Nat.zero_le _,rfl,Lib.hid rfl,Lib.hid (Fresh.refl _)⟩
  case round =>
    obtain ⟨k,hk,hk2,rfl,HR,HF⟩ := hrel
    by_cases hlt : k < a.length
    · obtain ⟨x,hx⟩ : ∃ x,a[k]? = some x := ⟨_,List.getElem?_eq_getElem hlt⟩
      obtain ⟨b1,o1,rfl,-,-,d0,d1⟩ := RdBinds.at (HA.out.up HF.out.below) hx
      by_cases hlt2 : k < b.length
      · obtain ⟨y,hy⟩ : ∃ y,b[k]? = some y := ⟨_,List.getElem?_eq_getElem hlt2⟩
        obtain ⟨b2,o2,rfl,-,hbb,f0,f1⟩ := RdBinds.at (HB.out.up HF.out.below) hy
        have HD := Lib.hid (show cmpBinds a b = if cmpBind x y ≠ 0 then cmpBind x y else cmpLst cmpBind (a.drop (k + 1)) (b.drop (k + 1)) by rw [HR.out,drop_cons hx,drop_cons hy];rfl)
        have KO := Lib.hid (fun W => orderCalls x y W)
        have i1 : ¬ (b.length : Int) ≤ (k : Int) := by omega
        have HF1 := Lib.hid ((HF.out.alloc (.cells #[.string x.var,.string x.name] 135)).alloc (.cells #[.string y.var,.string y.name] 135))
        have j0 : (0 : Int) ≤ (k : Int) := by omega
        have j1 : (k : Int) < (b.length : Int) := by omega
        have j2 : IntKind.i64.wrap (k : Int) = k := by rw [IntKind.wrap_i64];omega
        clear hx hy HR
        obtain ⟨q,hq⟩ : ∃ q,cmpBind x y = q := ⟨_,rfl⟩
        rw [hq] at HD KO
        clear hq
        by_cases hz : q = 0
        · subst hz
          rw [if_neg (by simp)] at HD
          go_wp2_with (go_at_call 94;refine (KO.out _).mono ?_;rintro e w1 ⟨rfl,hf1⟩;have HF2 := Lib.hid (HF1.out.trans hf1);clear hf1)
          go_roundw
          case rel => exact ⟨k + 1,by omega,by omega,by go_num,HD,HF2⟩
          case measure => simp [intOf];omega
        · have gz : (q != 0) = true := by simp [hz]
          rw [if_pos hz] at HD
          clear hz
          go_wp2_with (go_at_call 94;refine (KO.out _).mono ?_;rintro e w1 ⟨rfl,hf1⟩;have HF2 := Lib.hid (HF1.out.trans hf1);clear hf1)
          go_ret
          exact ⟨ret_int HD.out.symm,HF2.out⟩
      · have i1 : (b.length : Int) ≤ (k : Int) := by omega
        have HE := Lib.hid (show cmpBinds a b = 1 by rw [HR.out,drop_cons hx,drop_end (by omega : b.length ≤ k)];rfl)
        clear hx HR
        go_wp2
        go_ret
        exact ⟨ret_int HE.out.symm,HF.out.alloc _⟩
    · by_cases hlt2 : a.length < b.length
      · have i1 : (a.length : Int) < (b.length : Int) := by omega
        obtain ⟨y,hy⟩ : ∃ y,b[k]? = some y := ⟨_,List.getElem?_eq_getElem (by omega)⟩
        have HE := Lib.hid (show cmpBinds a b = -1 by rw [HR.out,drop_end (by omega : a.length ≤ k),drop_cons hy];rfl)
        clear hy HR
        go_wp2
        go_ret
        exact ⟨ret_int HE.out.symm,HF.out⟩
      · have i1 : ¬ (a.length : Int) < (b.length : Int) := by omega
        have HE := Lib.hid (show cmpBinds a b = 0 by rw [HR.out,drop_end (by omega : a.length ≤ k),drop_end (by omega : b.length ≤ k)];rfl)
        clear HR
        go_wp2
        go_ret
        exact ⟨ret_int HE.out.symm,HF.out⟩
theorem tidy2Calls {S T : Nat → Prop} (va vb : Value) (a b : Binds) (w : World) (O : Nat) (h0 : Blk w O 179 #[.func (.func 94) #[] #[]]) (ha : RdBinds S w va a) (hb : RdBinds T w vb b) (n1 : a.length ≤ 1073741824) (n2 : b.length ≤ 1073741824) :
    Calls Tryz.prog 97 #[va,vb,.pointer (some ⟨O,0,none⟩)] w fun e w' => e = .returned (.int .i64 (cmpBinds a b)) ∧ Fresh w w' := by
  have K := Lib.hid (compareBinds va vb a b w ha hb n1 n2)
  have c0 : w.cell? ⟨O,0,none⟩ = some (.func (.func 94) #[] #[]) := h0.cell 0
  obtain ⟨aa,ac,rfl,-,-,-⟩ := id ha.form
  obtain ⟨ba,bc,rfl,-,-,-⟩ := id hb.form
  clear ha hb h0
  go_enter Tryz.func97,Tryz.ntmps97
  go_wp2_with (go_at_call 98;refine (K.out).mono ?_;rintro e w1 ⟨rfl,hf1⟩;have HF := Lib.hid hf1;clear hf1)
  go_ret
  exact ⟨rfl,HF.out⟩
end Go.Proofs.YtiiicochdidolaaGreat
