/-
  THE TEXTS DeskW2, DeskW3, DeskD1, one behind the other.
-/
import Derived.Test.YtiiicochdidolaaGreatTk10
import Derived.Test.YtiiicochdidolaaGreatTk13
import Derived.Test.YtiiicochdidolaaGreatTk21
import Derived.Test.YtiiicochdidolaaGreatTk22
import Derived.Test.YtiiicochdidolaaGreatTk23
import Derived.Test.YtiiicochdidolaaGreatTk24
import Derived.Test.YtiiicochdidolaaGreatTk25
namespace Go.Proofs.YtiiicochdidolaaGreat
open Go.RowKit
structure ByW (B : Nat) (w wr : World) (v v' : Value) (bs : Bytes) : Prop where
  own : OwnB B wr v' bs
  grown : w.grownBy wr v.ownBlock
  row : RowOf w v v'
section
variable {B : Nat} {w wr w' : World} {v v' v'' : Value} {bs bs' : Bytes}
theorem ByW.below (h : ByW B w wr v v' bs) (hb : Below wr.heap.size wr w') : ByW B w w' v v' bs := ⟨h.own.below RU8.steady hb,grown_trans h.grown (grown_below hb v.ownBlock) (.inl rfl),h.row⟩
theorem ByW.alloc (h : ByW B w wr v v' bs) (o : Obj) : ByW B w (wr.alloc o) v v' bs := h.below ((Below.refl _ _).alloc (Nat.le_refl _) o)
theorem ByW.drew (h : ByW B w wr v v' bs) : ByW B w wr.drew v v' bs := h.below (Below.refl _ _).drew
theorem ByW.next (h : ByW B w wr v v' bs) (ho : OwnB B w' v'' bs') (hg : wr.grownBy w' v'.ownBlock) (hr : RowOf wr v' v'') : ByW B w w' v v'' bs' := ⟨ho,h.row.grown h.grown hg,h.row.trans h.grown.size hr⟩
theorem ByW.post {e : Ending} (h : ByW B w wr v v' bs) (he : e = .returned v') : BytesPost B v bs w e wr := ⟨v',he,h.own,h.grown,h.row⟩
theorem ByW.agree (h : ByW B w wr v v' bs) {S : Nat → Prop} (hS : ∀ q,v.ownBlock = some q → ¬ S q) : Agree S w wr := ⟨h.grown.size,fun b hb hl => h.grown.block b hl (fun e => hS b e.symm hb)⟩
theorem ByW.lt (h : ByW B w wr v v' bs) {q : Nat} (hq : v'.ownBlock = some q) : B ≤ q ∧ q < wr.heap.size := h.own.row_lt hq
end
theorem flat_snoc {l : List PFact} {k : Nat} {f : PFact} (h : l[k]? = some f) : (l.take (k + 1)).flatMap factB = (l.take k).flatMap factB ++ factB f := by rw [List.take_add_one,h,List.flatMap_append];simp
theorem args_snoc {l : List Str} {k : Nat} {a : Str} (h : l[k]? = some a) : args8B (l.take (k + 1)) = args8B (l.take k) ++ textB a := by unfold args8B;rw [List.take_add_one,h,List.flatMap_append];simp
theorem textB_len (s : Str) : (textB s).length = s.size + 1 := by unfold textB;rw [List.length_cons,str_len]
def ShortB (f : PFact) : Prop := f.name.size ≤ 1024 ∧ f.args.length ≤ 1024 ∧ ∀ a ∈ f.args,a.size ≤ 1024
theorem args8B_len : ∀ {l : List Str},(∀ a ∈ l,a.size ≤ 1024) → (args8B l).length ≤ 1025 * l.length
  | [],_ => by simp [args8B]
  | a :: l,h => by
    have h1 := args8B_len (l := l) fun b hb => h b (by simp [hb])
    have h2 := h a (by simp)
    have e : args8B (a :: l) = textB a ++ args8B l := by unfold args8B;rw [List.flatMap_cons]
    rw [e,List.length_append,textB_len,List.length_cons]
    omega
theorem factB_len {f : PFact} (h : ShortB f) : (factB f).length ≤ 1052000 := by
  have h1 := args8B_len h.2.2
  unfold factB
  rw [List.length_append,List.length_cons,textB_len]
  have := h.1
  have := h.2.1
  omega
theorem flat_len2 : ∀ {l : List PFact},(∀ f ∈ l,ShortB f) → (l.flatMap factB).length ≤ 1052000 * l.length
  | [],_ => by simp
  | f :: l,h => by
    have h1 := flat_len2 (l := l) fun b hb => h b (by simp [hb])
    have h2 := factB_len (h f (by simp))
    rw [List.flatMap_cons,List.length_append,List.length_cons]
    omega
theorem owned_lit {B : Nat} {W : World} {g n : Nat} {bs : Bytes} (hb : Blk W g 5 (bs.map u8v).toArray) (hB : B ≤ g) (hn : bs.length = n) (hl : bs.length ≤ 1024) : OwnB B W (.slice (some ⟨g,0,none⟩) n n) bs := by
  subst hn
  exact ownB_iff.2 ⟨by simp,.inr ⟨g,bs.length,_,rfl,hB,hb,Nat.le_refl _,Nat.le_trans hl (by simp [maxLen]),by simp,by simp [List.take_of_length_le]⟩⟩
theorem ByW.cell {B : Nat} {w wr : World} {v v' : Value} {bs : Bytes} (h : ByW B w wr v v' bs) {b : Nat} (hb : b < w.heap.size) (hne : ∀ q,v.ownBlock = some q → b ≠ q) (o : Nat) : wr.cell? ⟨b,o,none⟩ = w.cell? ⟨b,o,none⟩ := by
  have h1 := h.grown.block b hb (fun e => hne b e.symm rfl)
  unfold World.cell?
  simp only [h1]
theorem u8v_len (n : Nat) : u8v (UInt8.ofNat n) = .int .u8 (IntKind.u8.wrap (n : Int)) := by
  unfold u8v
  rw [u8_wrap]
theorem stepU8 {ops : Array Oper} {o : Oper} {a : Act} {K : Act → World → Prop} {Q : Exit → Act → World → Prop} {E : Prop} (hgd : o.guard = none) (s x : Operand)
    (ho : o.op = .call { callee := .builtin .append,args := #[s,x],argTypes := #[29,29] }) (B : Nat) (w : World) (v : Value) (bs : Bytes) (hs : a.eval s = v) (hown : OwnB B w v bs) (bx : Nat) (u : Value) (y : UInt8) (hu : u = u8v y)
    (hx : a.eval x = .slice (some ⟨bx,0,none⟩) 1 1) (hblk : Blk w bx 5 #[u]) (hlen : bs.length < 1099511627776) (hB : B ≤ w.heap.size)
    (h : ∀ v' w',OwnB B w' v' (bs ++ [y]) → w.grownBy w' v.ownBlock → RowOf w v v' → K (a.put o.dst v') w') :
    if Region.wanted o (yielded ops a.tmps) = true then Oper.wp Tryz.prog o a w K Q else E :=
  step_append_one (k := 1) (R := RU8) (B := B) (e := 5) (S := fun _ => False) hgd s x 29 ho RU8.steady rowU8 v bs hs hown bx 1 #[u] 5 (0,0) y hx hblk rfl (by subst hu;simp [Value.oneCell',u8v]) (by show [u] = [u8v y];rw [hu]) hlen hB
    fun v' w' h1 h2 h3 => h v' w' h1 h2 (h3.elim .inl fun e => .inr fun q hq => by rw [e] at hq;obtain rfl := Option.some.inj hq;exact Nat.le_refl _)
attribute [local go_sem ↓] Go.wp_at_zero Go.wp_at_succ
set_option maxRecDepth 100000 in
set_option maxHeartbeats 8000000 in
theorem factsBCalls {S : Nat → Prop} (B : Nat) (v lv : Value) (bs : Bytes) (l : List PFact) (w : World) (ho : OwnB B w v bs) (h : RdFacts S w lv l) (hS : ∀ q,v.ownBlock = some q → ¬ S q) (hB : B ≤ w.heap.size) (hbl : bs.length ≤ 1024) (hll : l.length ≤ 200) (hs : ∀ f ∈ l,ShortB f) :
    Calls Tryz.prog 84 #[v,lv] w (BytesPost B v (bs ++ factsB l) w) := by
  obtain ⟨la,lc,rfl,-,-,-⟩ := id h.form
  have H := Lib.hid (h.more RFact.steady (S' := fun b => S b ∧ b < w.heap.size) (fun b hb hl => ⟨hb,hl⟩))
  have HS := Lib.hid (show ∀ q,v.ownBlock = some q → ¬ (S q ∧ q < w.heap.size) from fun q hq h => hS q hq h.1)
  have HSH := Lib.hid hs
  have hw := u8_wrap l.length
  have HW0 := Lib.hid (show ByW B w w v v bs from ⟨ho,grown_below (Below.refl _ _) _,.inl rfl⟩)
  clear ho h hS hs
  go_enter Tryz.func84,Tryz.ntmps84
  go_wp2_with (at_builtin;refine wpList_append_one (B := B) (e := 5) (S := fun _ => False) (by rfl) _ _ 29 (by rfl) RU8.steady rowU8 _ bs (by rfl) (HW0.out.own.alloc RU8.steady _) w.heap.size 1 #[u8v (UInt8.ofNat l.length)] 5 (0,0) (UInt8.ofNat l.length) (by rfl) (heap_alloc_new w _) rfl (by simp [Value.oneCell',u8v]) rfl (by omega) (by simp;omega) ?_;intro v2 w2 ho2 hg2 hat2;have HW2 := Lib.hid ((HW0.out.alloc (.cells #[u8v (UInt8.ofNat l.length)] 5)).next ho2 hg2 (hat2.elim .inl fun e => .inr fun q hq => by rw [e] at hq;obtain rfl := Option.some.inj hq;simp));clear ho2 hg2 hat2)
  have HW3 := Lib.hid (show ByW B w w2 v v2 (bs ++ [UInt8.ofNat l.length] ++ (l.take 0).flatMap factB) by simpa using HW2.out)
  clear HW2 HW0
  go_loopw [17,0] (fun i b wr => ∃ k : Nat,k ≤ l.length ∧ i = .int .i64 k ∧ Hid (ByW B w wr v b (bs ++ [UInt8.ofNat l.length] ++ (l.take k).flatMap factB))) (fun i _ _ => l.length - (intOf i).toNat)
  case atStart => exact ⟨0,Nat.zero_le _,rfl,HW3⟩
  case round =>
    clear HW3 hw
    obtain ⟨k,hk,rfl,HW⟩ := hrel
    by_cases hlt : k < l.length
    · obtain ⟨f,hf⟩ : ∃ f,l[k]? = some f := ⟨_,List.getElem?_eq_getElem hlt⟩
      have hsh := HSH.out f (List.mem_of_getElem? hf)
      have hfl : (bs ++ [UInt8.ofNat l.length] ++ (l.take k).flatMap factB).length ≤ 268435456 := by
        have h1 := flat_len2 (l := l.take k) fun g hg => HSH.out g (List.mem_of_mem_take hg)
        rw [List.length_append,List.length_append,List.length_singleton]
        rw [List.length_take] at h1
        omega
      have HSN := Lib.hid (flat_snoc hf)
      obtain ⟨b1,o1,av,rfl,hSb,hb1,d0,d1,hfa⟩ := RdFacts.at H.out hf
      obtain ⟨aa,ac,rfl,-,-,-⟩ := id hfa.form
      have hne1 : ∀ q,v.ownBlock = some q → b1 ≠ q := fun q hq e => HS.out q hq (e ▸ hSb)
      have e0 := (HW.out.cell hb1 hne1 _).trans d0
      have e1 := (HW.out.cell hb1 hne1 _).trans d1
      have HFA := Lib.hid hfa
      have HSH2 := Lib.hid hsh.2.2
      have hnm := hsh.1
      have hal := hsh.2.1
      have hw2 := u8_wrap f.args.length
      clear d0 d1 hf hSb hb1 hfa hne1 hsh
      generalize (l.take k).flatMap factB = fk at *
      generalize hbke : bs ++ [UInt8.ofNat l.length] ++ fk = bk at *
      have HBKE := Lib.hid hbke
      clear hbke
      have hsz := HW.out.grown.size
      have HW1 := Lib.hid (HW.out.alloc (.cells #[.string f.name,.slice aa f.args.length ac] 38))
      have HF1 := Lib.hid (Blk.new wr 38 #[.string f.name,.slice aa f.args.length ac])
      have x0 := HF1.out.cell 0
      have x1 := HF1.out.cell 1
      simp only [List.getElem?_toArray,List.getElem?_cons_zero,List.getElem?_cons_succ] at x0 x1
      have hq1 := fun q (hq : u0.ownBlock = some q) => HW.out.lt hq
      have hne1 : ∀ q,u0.ownBlock = some q → q < wr.heap.size := fun q hq => (hq1 q hq).2
      have hnx : some wr.heap.size ≠ u0.ownBlock := fun e => Nat.lt_irrefl _ (hne1 _ e.symm)
      have hBw : B ≤ wr.heap.size := Nat.le_trans hB hsz
      clear hq1
      go_wp2_with fail
      have hs1 : (wr.alloc (.cells #[.string f.name,.slice aa f.args.length ac] 38)).heap.size = wr.heap.size + 1 := by simp
      have HWB := Lib.hid (grown_below ((Below.refl wr.heap.size wr).alloc (Nat.le_refl _) (.cells #[.string f.name,.slice aa f.args.length ac] 38)) none)
      generalize wr.alloc (.cells #[.string f.name,.slice aa f.args.length ac] 38) = W1 at *
      have HWD := Lib.hid HW1.out.drew
      have HWL := Lib.hid ((HW1.out.alloc (.cells #[.int .u8 (IntKind.u8.wrap (f.args.length : Int))] 5)).drew)
      have HFD := Lib.hid HF1.out.drew
      have HFL := Lib.hid ((HF1.out.alloc (.cells #[.int .u8 (IntKind.u8.wrap (f.args.length : Int))] 5)).drew)
      have z0 := HFL.out.cell 0
      have z1 := HFL.out.cell 1
      simp only [List.getElem?_toArray,List.getElem?_cons_zero,List.getElem?_cons_succ] at z0 z1
      have HRU := Lib.hid (show Value.int .u8 (IntKind.u8.wrap (f.args.length : Int)) = u8v (UInt8.ofNat f.args.length) from (u8v_len _).symm)
      clear hw2
      have HLL := Lib.hid (show Blk (W1.alloc (.cells #[.int .u8 (IntKind.u8.wrap (f.args.length : Int))] 5)).drew (wr.heap.size + 1) 5 #[.int .u8 (IntKind.u8.wrap (f.args.length : Int))] from by rw [← hs1];exact (Blk.new W1 _ _).drew)
      have hnl : some (wr.heap.size + 1) ≠ u0.ownBlock := fun e => by have := hne1 _ e.symm;omega
      have hbk : bk.length ≤ 1073741824 := by omega
      have hfn : f.name.size ≤ 1073741824 := by omega
      have KT := Lib.hid (fun W (h : OwnB B W u0 bk) (hBW : B ≤ W.heap.size) => textCalls B u0 bk f.name W h hbk hfn hBW)
      have hB1 : B ≤ W1.drew.heap.size := show B ≤ W1.heap.size by omega
      have hB1' : B ≤ (W1.alloc (.cells #[.int .u8 (IntKind.u8.wrap (f.args.length : Int))] 5)).drew.heap.size := show B ≤ (W1.alloc (.cells #[.int .u8 (IntKind.u8.wrap (f.args.length : Int))] 5)).heap.size by simp;omega
      have hbt : (bk ++ textB f.name).length < 1099511627776 := by rw [List.length_append,textB_len];omega
      go_cut [0] (fun t wx => Hid (ByW B w wx v t (bk ++ textB f.name ++ [UInt8.ofNat f.args.length])) ∧ Hid (Blk wx wr.heap.size 38 #[.string f.name,.slice aa f.args.length ac]))
      case first =>
        go_region_held3 (fun w' => w'.cell? ⟨wr.heap.size,0,none⟩ = some (.string f.name) ∧ w'.cell? ⟨wr.heap.size,1,none⟩ = some (.slice aa f.args.length ac))
          (first | (with_reducible exact ⟨y0,y1⟩) | (with_reducible exact ⟨t0,t1⟩) | (with_reducible exact ⟨z0,z1⟩) | (with_reducible exact ⟨x0,x1⟩) | go_keep)
          (first
            | (have hh := HB4.out;clear hh;refine stepU8 (by rfl) _ _ (by rfl) B _ v4 (bk ++ textB f.name) (by rfl) (HB4.out.alloc (.cells #[.int .u8 (IntKind.u8.wrap (f.args.length : Int))] 5)).own _ _ (UInt8.ofNat f.args.length) HRU.out (by rfl) (Blk.new _ _ _) hbt (Nat.le_trans hB (HB4.out.alloc (.cells #[.int .u8 (IntKind.u8.wrap (f.args.length : Int))] 5)).grown.size) ?_;intro v5 w5 ho5 hg5 hat5;have HZ := Lib.hid ((HB4.out.alloc (.cells #[.int .u8 (IntKind.u8.wrap (f.args.length : Int))] 5)).next ho5 hg5 hat5);have HFZ := Lib.hid ((HF4.out.alloc (.cells #[.int .u8 (IntKind.u8.wrap (f.args.length : Int))] 5)).grown hg5 hn4);have y0 := HFZ.out.cell 0;have y1 := HFZ.out.cell 1;simp only [List.getElem?_toArray,List.getElem?_cons_zero,List.getElem?_cons_succ] at y0 y1;clear ho5 hg5 hat5)
            | (have hh := HA4.out;clear hh;refine stepU8 (by rfl) _ _ (by rfl) B _ v4 (bk ++ textB f.name) (by rfl) HA4.out.own _ _ (UInt8.ofNat f.args.length) HRU.out (by rfl) HL4.out hbt (Nat.le_trans hB HA4.out.grown.size) ?_;intro v5 w5 ho5 hg5 hat5;have HZ := Lib.hid (HA4.out.next ho5 hg5 hat5);have HFZ := Lib.hid (HF4.out.grown hg5 hn4);have y0 := HFZ.out.cell 0;have y1 := HFZ.out.cell 1;simp only [List.getElem?_toArray,List.getElem?_cons_zero,List.getElem?_cons_succ] at y0 y1;clear ho5 hg5 hat5)
            | (go_at_call 115;(with_reducible refine (KT.out _ HWL.out.own hB1').mono ?_);rintro e w4 ⟨v4,rfl,ho4,hg4,hr4⟩;have HA4 := Lib.hid (HWL.out.next ho4 hg4 hr4);have HF4 := Lib.hid (HFL.out.grown hg4 hnx);have HL4 := Lib.hid (HLL.out.grown hg4 hnl);have hn4 : some wr.heap.size ≠ v4.ownBlock := (hr4.elim (fun e => by rw [e];exact hnx) fun h e => by have := h _ e.symm;simp at this;omega);have y0 := HF4.out.cell 0;have y1 := HF4.out.cell 1;simp only [List.getElem?_toArray,List.getElem?_cons_zero,List.getElem?_cons_succ] at y0 y1;clear ho4 hg4 hr4)
            | (go_at_call 115;(with_reducible refine (KT.out _ HWD.out.own hB1).mono ?_);rintro e w4 ⟨v4,rfl,ho4,hg4,hr4⟩;have HB4 := Lib.hid (HWD.out.next ho4 hg4 hr4);have HF4 := Lib.hid (HFD.out.grown hg4 hnx);have t0 := (HF4.out.alloc (.cells #[.int .u8 (IntKind.u8.wrap (f.args.length : Int))] 5)).cell 0;have t1 := (HF4.out.alloc (.cells #[.int .u8 (IntKind.u8.wrap (f.args.length : Int))] 5)).cell 1;simp only [List.getElem?_toArray,List.getElem?_cons_zero,List.getElem?_cons_succ] at t0 t1;have hn4 : some wr.heap.size ≠ v4.ownBlock := (hr4.elim (fun e => by rw [e];exact hnx) fun h e => by have := h _ e.symm;simp at this;omega);have y0 := HF4.out.cell 0;have y1 := HF4.out.cell 1;simp only [List.getElem?_toArray,List.getElem?_cons_zero,List.getElem?_cons_succ] at y0 y1;clear ho4 hg4 hr4))
        all_goals
          go_wp2
          go_meet
          exact ⟨HZ,HFZ⟩
      obtain ⟨HWX,HFX⟩ := hcut
      have he0 : bk ++ textB f.name ++ [UInt8.ofNat f.args.length] = bk ++ textB f.name ++ [UInt8.ofNat f.args.length] ++ args8B (f.args.take 0) := by simp [args8B]
      rw [he0] at HWX
      have c1 := HFX.out.cell 1
      simp only [List.getElem?_toArray,List.getElem?_cons_zero,List.getElem?_cons_succ] at c1
      have HFB := Lib.hid (show bk ++ textB f.name ++ [UInt8.ofNat f.args.length] ++ args8B f.args = bk ++ factB f by unfold factB;simp)
      have hAl := args8B_len HSH2.out
      have HBL := Lib.hid (fun j => show (bk ++ textB f.name ++ [UInt8.ofNat f.args.length] ++ args8B (f.args.take j)).length ≤ 1073741824 by
        have h1 := args8B_len (l := f.args.take j) fun a ha => HSH2.out a (List.mem_of_mem_take ha)
        rw [List.length_append,List.length_append,List.length_append,textB_len,List.length_singleton]
        rw [List.length_take] at h1
        omega)
      clear he0 HW1 HF1 HWB HWD HWL HFD HFL HLL KT HRU x0 x1 z0 z1 e0 e1 hnl hnx hB1 hB1' hbt hAl HW
      go_wp2
      go_loopw [34,0] (fun i b wj => ∃ j : Nat,j ≤ f.args.length ∧ i = .int .i64 j ∧ Hid (ByW B w wj v b (bk ++ textB f.name ++ [UInt8.ofNat f.args.length] ++ args8B (f.args.take j)))) (fun i _ _ => f.args.length - (intOf i).toNat)
      case atStart => exact ⟨0,Nat.zero_le _,rfl,HWX⟩
      case round =>
        clear HWX HFX c1
        obtain ⟨j,hj,rfl,HWJ⟩ := hrel
        by_cases hjl : j < f.args.length
        · obtain ⟨a,ha⟩ : ∃ a,f.args[j]? = some a := ⟨_,List.getElem?_eq_getElem hjl⟩
          have hsa := HSH2.out a (List.mem_of_getElem? ha)
          have HAS := Lib.hid (args_snoc ha)
          have hbj := HBL.out j
          obtain ⟨b2,o2,rfl,hS2,hb2,d0⟩ := RdStrs.at HFA.out ha
          have g0 := (HWJ.out.cell hb2 (fun q hq e => HS.out q hq (e ▸ hS2)) _).trans d0
          have hBJ := Nat.le_trans hB HWJ.out.grown.size
          clear d0 ha hS2
          go_wp2_with (go_at_call 115;refine (textCalls B _ _ a _ HWJ.out.own hbj (by omega) hBJ).mono ?_;rintro e w4 ⟨v4,rfl,ho4,hg4,hr4⟩;have HW5 := Lib.hid (HWJ.out.next ho4 hg4 hr4);clear ho4 hg4 hr4)
          go_roundw
          case rel => exact ⟨j + 1,by omega,by go_num,by rw [HAS.out,← List.append_assoc];exact HW5⟩
          case measure => simp [intOf];omega
        · have hjn : j = f.args.length := by omega
          rw [hjn,List.take_length,HFB.out] at HWJ
          subst hjn
          go_wp2
          go_roundw
          case rel => exact ⟨k + 1,by omega,by go_num,by rw [HSN.out,← List.append_assoc,HBKE.out];exact HWJ⟩
          case measure => simp [intOf];omega
    · have hkl : k = l.length := by omega
      rw [hkl,List.take_length,show bs ++ [UInt8.ofNat l.length] ++ l.flatMap factB = bs ++ factsB l by rw [List.append_assoc];rfl] at HW
      subst hkl
      go_wp2
      go_ret
      exact HW.out.post rfl
end Go.Proofs.YtiiicochdidolaaGreat
namespace Go.Proofs.YtiiicochdidolaaGreat
open Go.RowKit
def SavePost (r : Bytes × Int) (w : World) (e : Ending) (w' : World) : Prop :=
  Below w.heap.size w w' ∧ ∃ a c,e = .returned (.tuple #[.slice a r.1.length c,.int .i64 r.2]) ∧ OwnB w.heap.size w' (.slice a r.1.length c) r.1
theorem save_bad {st : List Int} {q : Int} {p : List PRule} {r : PRun} (h : runBad st q p r ≠ 0) : saveP st q p r = ([],runBad st q p r) := by unfold saveP;rw [if_pos h]
theorem save_good {st : List Int} {q : Int} {p : List PRule} {r : PRun} (h : runBad st q p r = 0) : saveP st q p r = (runB8 r,0) := by unfold saveP;rw [if_neg (by simpa using h)]
theorem ownB_nil {B : Nat} {w : World} : OwnB B w (.slice none 0 0) [] := Owned.nil
theorem u8_int {x : Int} (h : 0 ≤ x) : u8v (UInt8.ofNat x.toNat) = .int .u8 (x % 256) := by
  unfold u8v
  rw [UInt8.toNat_ofNat']
  congr 1
  omega
def headB (r : PRun) : Bytes := [UInt8.ofNat r.stratum.toNat,UInt8.ofNat (r.rounds.toNat / 256),UInt8.ofNat r.rounds.toNat,if r.done then 1 else 0]
theorem head_cells {r : PRun} (h0 : 0 ≤ r.stratum) (h1 : 0 ≤ r.rounds) : ((headB r).map u8v).toArray = #[.int .u8 (r.stratum % 256),.int .u8 (r.rounds / 256 % 256),.int .u8 (r.rounds % 256),.int .u8 (if r.done then 1 else 0)] := by
  have e : r.rounds.toNat / 256 = (r.rounds / 256).toNat := by omega
  unfold headB
  rw [e,List.map_cons,List.map_cons,List.map_cons,List.map_cons,List.map_nil,u8_int h0,u8_int h1,u8_int (by omega : 0 ≤ r.rounds / 256)]
  cases r.done <;> rfl
theorem good_short {l : List PFact} (h : Good l) : ∀ f ∈ l,ShortB f := fun f hf => by
  obtain ⟨h1,h2,h3⟩ := wrong_short (h.fine f hf)
  exact ⟨by omega,by omega,fun a ha => by have := h3 a ha;omega⟩
theorem newB_snoc {n l : List PFact} {k : Nat} {f : PFact} (h : l[k]? = some f) : newB n (l.take (k + 1)) = newB n (l.take k) ++ [if memF f n then 1 else 0] := by unfold newB;rw [List.take_add_one,h,List.map_append];rfl
attribute [local go_sem ↓] Go.wp_at_zero Go.wp_at_succ
set_option maxRecDepth 100000 in
set_option maxHeartbeats 8000000 in
theorem saveCalls {S : Nat → Prop} (p : List PRule) (v : Value) (st : List Int) (q : Int × Int) (r : PRun) (kv nv : Value) (w : World) (hS : StrataIs p st q) (h : RdRules S w v p) (hr : RunRd w r kv nv)
    (n1 : p.length ≤ 1048576) (n2 : ∀ r ∈ p,RuleSmall r) (n3 : ∀ r ∈ p,NameSmall r) (ns : RunSmall r) :
    Calls Tryz.prog 51 #[v,.agg #[kv,nv,.int .i64 r.stratum,.int .i64 r.rounds,.bool r.done]] w (SavePost (saveP st q.1 p r) w) := by
  obtain ⟨a,c,rfl,-,-,-⟩ := id h.form
  obtain ⟨ka,kc,rfl,-,-,-⟩ := id hr.known.form
  obtain ⟨na,nc,rfl,-,-,-⟩ := id hr.new.form
  obtain ⟨W0,hW0⟩ : ∃ W0 : World,w.alloc (.cells #[.slice ka r.known.length kc,.slice na r.new.length nc,.int .i64 r.stratum,.int .i64 r.rounds,.bool r.done] 28) = W0 := ⟨_,rfl⟩
  have HB0 := Lib.hid (show Below w.heap.size w W0 by subst hW0;exact (Below.refl _ _).alloc (Nat.le_refl _) _)
  have HX0 := Lib.hid (show Blk W0 w.heap.size 28 #[.slice ka r.known.length kc,.slice na r.new.length nc,.int .i64 r.stratum,.int .i64 r.rounds,.bool r.done] by subst hW0;exact Blk.new w _ _)
  have KW := Lib.hid (runWrongCalls p _ st q r _ _ W0 hS (h.up HB0.out) (hr.up HB0.out) n1 n2 n3 ns)
  have k0 := HX0.out.cell 0;have k1 := HX0.out.cell 1;have k2 := HX0.out.cell 2;have k3 := HX0.out.cell 3;have k4 := HX0.out.cell 4
  simp only [List.getElem?_toArray,List.getElem?_cons_zero,List.getElem?_cons_succ] at k0 k1 k2 k3 k4
  by_cases hb : runBad st q.1 p r = 0
  · rw [save_good hb]
    have HOK := Lib.hid (runBad_zero.1 hb).2
    rw [hb] at KW
    have HHC := Lib.hid (head_cells HOK.out.s0 HOK.out.r0)
    have hkl := HOK.out.known.len
    have hnl := HOK.out.new.len
    have HRN := Lib.hid HOK.out.new.rise
    have hKA : ∀ x ∈ r.known,x.args.length ≤ 4 := fun x hx => (wrongF_zero.1 (HOK.out.known.fine x hx)).2.1
    have HNA := Lib.hid (show ∀ x ∈ r.new,x.args.length ≤ 1073741824 from fun x hx => by have := (wrongF_zero.1 (HOK.out.new.fine x hx)).2.1;omega)
    have HRK := Lib.hid (hr.known.old RFact.steady (Below.refl _ _))
    have HRV := Lib.hid (hr.new.old RFact.steady (Below.refl _ _))
    have KF := Lib.hid (fun (W1 : World) (hW : Below w.heap.size w W1) (hx : Blk W1 w.heap.size 28 #[.slice ka r.known.length kc,.slice na r.new.length nc,.int .i64 r.stratum,.int .i64 r.rounds,.bool r.done]) =>
      (factsBCalls (S := fun b => b < w.heap.size) w.heap.size (.slice (some ⟨W1.heap.size,0,none⟩) 4 4) (.slice ka r.known.length kc) (headB r) r.known (W1.alloc (.cells #[.int .u8 (r.stratum % 256),.int .u8 (r.rounds / 256 % 256),.int .u8 (r.rounds % 256),.int .u8 (if r.done then 1 else 0)] 5))
      (owned_lit (by rw [HHC.out];exact Blk.new W1 _ _) hW.size rfl (by show 4 ≤ _;decide)) ((HRK.out.agree RFact.steady (Below.agree hW)).agree RFact.steady ((Agree.refl _ _).alloc _)) (fun q hq h => by obtain rfl := Option.some.inj hq;exact Nat.not_le_of_lt h hW.size) (by have := hW.size;simp;omega) (by show 4 ≤ _;decide) hkl (good_short HOK.out.known)).mono
      (R' := fun e w2 => ∃ v2 Wb v1,e = .returned v2 ∧ Below w.heap.size w Wb ∧ (∀ q,v1.ownBlock = some q → w.heap.size < q) ∧ ByW w.heap.size Wb w2 v1 v2 (headB r ++ factsB r.known) ∧ Blk Wb w.heap.size 28 #[.slice ka r.known.length kc,.slice na r.new.length nc,.int .i64 r.stratum,.int .i64 r.rounds,.bool r.done])
      fun e w2 ⟨v2,he,ho2,hg2,hr2⟩ => ⟨v2,_,_,he,hW.alloc hW.size _,fun q hq => by obtain rfl := Option.some.inj hq;exact hx.lt,⟨ho2,hg2,hr2⟩,hx.alloc _⟩)
    have HHL := Lib.hid (show (headB r).length = 4 from rfl)
    have hFL := flat_len2 (good_short HOK.out.known)
    have HRB := Lib.hid (show headB r ++ (factsB r.known ++ newB r.new r.known) = runB8 r from rfl)
    clear hb
    have hfl : (headB r ++ factsB r.known).length ≤ 268435456 := by unfold factsB;rw [List.length_append,List.length_cons,HHL.out];omega
    clear hFL
    cases hd : r.done
    all_goals
      rw [hd] at KF
      first | rw [if_pos rfl] at KF | rw [if_neg Bool.false_ne_true] at KF
      rw [hd] at hW0 KW k4 HX0
      go_enter Tryz.func51,Tryz.ntmps51
      go_wp2_with (first
        | (go_at_call 84;have hh := HX1.out;clear hh;refine (KF.out w1 HB1.out HX1.out).mono ?_;rintro e w2 ⟨v2,Wb,v1,rfl,hbb,hv1,hy2,hxb⟩;have HY2 := Lib.hid hy2;have HBB := Lib.hid hbb;have HXB := Lib.hid hxb;have HV1 := Lib.hid hv1;have HX2 := Lib.hid (hxb.grown hy2.grown (fun e => Nat.lt_irrefl _ (hv1 _ e.symm)));have y0 := HX2.out.cell 0;simp only [List.getElem?_toArray,List.getElem?_cons_zero] at y0;clear hbb hv1 hy2 hxb)
        | (go_at_call 43;refine (KW.out).mono ?_;rintro e w1 ⟨rfl,hb1⟩;have HB1 := Lib.hid (HB0.out.trans (hb1.mono HB0.out.size));have HX1 := Lib.hid (HX0.out.below hb1 HX0.out.lt);have x0 := HX1.out.cell 0;have x1 := HX1.out.cell 1;have x2 := HX1.out.cell 2;have x3 := HX1.out.cell 3;have x4 := HX1.out.cell 4;simp only [List.getElem?_toArray,List.getElem?_cons_zero,List.getElem?_cons_succ] at x0 x1 x2 x3 x4;have hlt1 := HX1.out.lt;clear hb1))
      have HN1 := Lib.hid (show ∀ q,v1.ownBlock = some q → ¬ q < w.heap.size from fun q hq h => by have := HV1.out q hq;omega)
      have HRK1 := Lib.hid (HRK.out.agree RFact.steady (Below.agree HBB.out))
      have HRV1 := Lib.hid (HRV.out.agree RFact.steady (Below.agree HBB.out))
      have HY3 := Lib.hid (show ByW w.heap.size Wb w2 v1 v2 (headB r ++ factsB r.known ++ newB r.new (r.known.take 0)) by simpa [newB] using HY2.out)
      have hbs := HBB.out.size
      clear KF HY2 HX2 y0 KW HRK HRV HB0 HX0 hW0 k0 k1 k2 k3 k4
      go_loopw [39,7] (fun i b wr => ∃ k : Nat,k ≤ r.known.length ∧ i = .int .i64 k ∧ Hid (ByW w.heap.size Wb wr v1 b (headB r ++ factsB r.known ++ newB r.new (r.known.take k)))) (fun i _ _ => r.known.length - (intOf i).toNat)
      case atStart => exact ⟨0,Nat.zero_le _,rfl,HY3⟩
      case round =>
        clear HY3
        obtain ⟨k,hk,rfl,HW⟩ := hrel
        by_cases hlt : k < r.known.length
        · obtain ⟨f,hf⟩ : ∃ f,r.known[k]? = some f := ⟨_,List.getElem?_eq_getElem hlt⟩
          have HSN := Lib.hid (newB_snoc (n := r.new) hf)
          obtain ⟨b1,o1,av,rfl,hSb,hb1,d0,d1,hfa⟩ := RdFacts.at (HRK1.out.agree RFact.steady (HW.out.agree HN1.out)) hf
          obtain ⟨aa,ac,rfl,-,-,-⟩ := id hfa.form
          have HFA := Lib.hid hfa
          have HXR := Lib.hid (HXB.out.grown HW.out.grown (fun e => Nat.lt_irrefl _ (HV1.out _ e.symm)))
          have hxl := HXR.out.lt
          have hne : w.heap.size ≠ wr.heap.size := by omega
          have HXC := Lib.hid (HXR.out.alloc (.cells #[.string f.name,.slice aa f.args.length ac] 38))
          have y1 := HXC.out.cell 1
          have HFC := Lib.hid (Blk.new wr 38 #[.string f.name,.slice aa f.args.length ac])
          have z0 := HFC.out.cell 0
          have z1 := HFC.out.cell 1
          simp only [List.getElem?_toArray,List.getElem?_cons_zero,List.getElem?_cons_succ] at y1 z0 z1
          have KI := Lib.hid (inFact (.slice na r.new.length nc) r.new f (.slice aa f.args.length ac) (wr.alloc (.cells #[.string f.name,.slice aa f.args.length ac] 38)) ((HRV1.out.agree RFact.steady (HW.out.agree HN1.out)).agree RFact.steady ((Agree.refl _ _).alloc _)) (HFA.out.agree RStr.steady ((Agree.refl _ _).alloc _)) HRN.out (by omega) HNA.out)
          have HWA := Lib.hid (HW.out.alloc (.cells #[.string f.name,.slice aa f.args.length ac] 38))
          have hlen : (headB r ++ factsB r.known ++ newB r.new (r.known.take k)).length < 1099511627776 := by
            have h1 : (newB r.new (r.known.take k)).length ≤ 200 := by unfold newB;rw [List.length_map,List.length_take];omega
            rw [List.length_append]
            omega
          clear hf hfa hSb
          cases hm : memF f r.new
          · rw [hm,if_neg Bool.false_ne_true] at HSN
            rw [hm] at KI
            go_wp2_with (first
              | (at_builtin;have hh := HW3.out;clear hh;refine wpList_append_one (B := w.heap.size) (e := 5) (S := fun _ => False) (by rfl) _ _ 29 (by rfl) RU8.steady rowU8 _ (headB r ++ factsB r.known ++ newB r.new (r.known.take k)) (by rfl) (HW3.out.own.alloc RU8.steady _) _ 1 #[.int .u8 0] 5 (0,0) 0 (by rfl) (heap_alloc_new w3 _) rfl (by simp [Value.oneCell']) (show [Value.int .u8 0] = [u8v 0] from rfl) hlen hs3 ?_;intro v4 w4 ho4 hg4 hat4;have HW4 := Lib.hid ((HW3.out.alloc (.cells #[.int .u8 0] 5)).next ho4 hg4 (hat4.elim .inl fun e => .inr fun q hq => by rw [e] at hq;obtain rfl := Option.some.inj hq;simp));clear ho4 hg4 hat4)
              | (go_at_call 12;refine (KI.out).mono ?_;rintro e w3 ⟨rfl,hf3⟩;have HW3 := Lib.hid (HWA.out.below hf3.below);have hs3 : w.heap.size ≤ (w3.alloc (.cells #[.int .u8 0] 5)).heap.size := (by have := HW3.out.grown.size;simp;omega);clear hf3))
            go_roundw
            case rel => exact ⟨k + 1,by omega,by go_num,by rw [HSN.out,← List.append_assoc];exact HW4⟩
            case measure => simp [intOf];omega
          · rw [hm,if_pos rfl] at HSN
            rw [hm] at KI
            go_wp2_with (first
              | (at_builtin;have hh := HW3.out;clear hh;refine wpList_append_one (B := w.heap.size) (e := 5) (S := fun _ => False) (by rfl) _ _ 29 (by rfl) RU8.steady rowU8 _ (headB r ++ factsB r.known ++ newB r.new (r.known.take k)) (by rfl) (HW3.out.own.alloc RU8.steady _) _ 1 #[.int .u8 1] 5 (0,0) 1 (by rfl) (heap_alloc_new w3 _) rfl (by simp [Value.oneCell']) (show [Value.int .u8 1] = [u8v 1] from rfl) hlen hs3 ?_;intro v4 w4 ho4 hg4 hat4;have HW4 := Lib.hid ((HW3.out.alloc (.cells #[.int .u8 1] 5)).next ho4 hg4 (hat4.elim .inl fun e => .inr fun q hq => by rw [e] at hq;obtain rfl := Option.some.inj hq;simp));clear ho4 hg4 hat4)
              | (go_at_call 12;refine (KI.out).mono ?_;rintro e w3 ⟨rfl,hf3⟩;have HW3 := Lib.hid (HWA.out.below hf3.below);have hs3 : w.heap.size ≤ (w3.alloc (.cells #[.int .u8 1] 5)).heap.size := (by have := HW3.out.grown.size;simp;omega);clear hf3))
            go_roundw
            case rel => exact ⟨k + 1,by omega,by go_num,by rw [HSN.out,← List.append_assoc];exact HW4⟩
            case measure => simp [intOf];omega
        · have hkn : k = r.known.length := by omega
          rw [hkn,List.take_length,List.append_assoc,HRB.out] at HW
          obtain ⟨oa,oc,rfl,-,-,-⟩ := id (HW.out.own.read RU8.steady).form
          have HBE := Lib.hid (HBB.out.grown HW.out.grown hbs (fun q hq => Nat.le_of_lt (HV1.out q hq)))
          have HOE := Lib.hid HW.out.own
          subst hkn
          go_wp2
          exact bodyPost_ret (v := .tuple #[.slice oa (runB8 r).length oc,.int .i64 0]) (by simp [results,Tryz.results51,go_sem]) rfl ⟨HBE.out,oa,oc,rfl,HOE.out⟩
  · rw [save_bad hb]
    generalize runBad st q.1 p r = e0 at *
    go_enter Tryz.func51,Tryz.ntmps51
    go_wp2_with (go_at_call 43;refine (KW.out).mono ?_;rintro e w1 ⟨rfl,hb1⟩;have HB1 := Lib.hid (HB0.out.trans (hb1.mono HB0.out.size));clear hb1)
    exact bodyPost_ret (v := .tuple #[.slice none 0 0,.int .i64 e0]) (by simp [results,Tryz.results51,go_sem]) rfl ⟨HB1.out,none,0,rfl,ownB_nil⟩
end Go.Proofs.YtiiicochdidolaaGreat
namespace Go.Proofs.YtiiicochdidolaaGreat
open Go.RowKit
def SavedRd (S : Nat → Prop) (o : Option Bytes) (w : World) (sv : Value) : Prop := match o with
  | none => sv = .slice none 0 0
  | some b => ∃ a c,sv = .slice (some a) b.length c ∧ RdBytes S w sv b
structure DkAt (S : Nat → Prop) (D : Nat) (d : PDesk) (tv rv kv nv sv : Value) (w : World) : Prop where
  blk : Blk w D 80 #[tv,rv,.bool d.running,kv,nv,.int .i64 d.run.stratum,.int .i64 d.run.rounds,.bool d.run.done,sv]
  told : RdFacts S w tv d.told
  rules : RdRules S w rv d.rules
  known : RdFacts S w kv d.run.known
  new : RdFacts S w nv d.run.new
  saved : SavedRd S d.saved w sv
def Dk (S : Nat → Prop) (D : Nat) (d : PDesk) (w : World) : Prop := ∃ tv rv kv nv sv,DkAt S D d tv rv kv nv sv w
theorem RdRules.agree {S : Nat → Prop} {w w' : World} {v : Value} {l : List PRule} (h : RdRules S w v l) (ha : Agree S w w') : RdRules S w' v l := RdSlice.agree RRule.steady ha h
theorem RdFacts.agree {S : Nat → Prop} {w w' : World} {v : Value} {l : List PFact} (h : RdFacts S w v l) (ha : Agree S w w') : RdFacts S w' v l := RdSlice.agree RFact.steady ha h
theorem SavedRd.agree {S : Nat → Prop} {o : Option Bytes} {w w' : World} {sv : Value} (h : SavedRd S o w sv) (ha : Agree S w w') : SavedRd S o w' sv := by
  cases o with
  | none => exact h
  | some b => obtain ⟨a,c,e,r⟩ := h;exact ⟨a,c,e,r.agree RU8.steady ha⟩
theorem SavedRd.more {S S' : Nat → Prop} {o : Option Bytes} {w : World} {sv : Value} (h : SavedRd S o w sv) (hs : ∀ q,S q → q < w.heap.size → S' q) : SavedRd S' o w sv := by
  cases o with
  | none => exact h
  | some b => obtain ⟨a,c,e,r⟩ := h;exact ⟨a,c,e,r.more RU8.steady hs⟩
theorem SavedRd.form {S : Nat → Prop} {o : Option Bytes} {w : World} {sv : Value} (h : SavedRd S o w sv) : ∃ a n c,sv = .slice a n c := by
  cases o with
  | none => exact ⟨none,0,0,h⟩
  | some b => obtain ⟨a,c,e,-⟩ := h;exact ⟨some a,b.length,c,e⟩
def set8 (W : World) (A : Nat) (u0 u1 u2 u3 u4 u5 u6 u7 : Value) : World := (((((((W.setCell ⟨A,0,none⟩ u0).setCell ⟨A,1,none⟩ u1).setCell ⟨A,2,none⟩ u2).setCell ⟨A,3,none⟩ u3).setCell ⟨A,4,none⟩ u4).setCell ⟨A,5,none⟩ u5).setCell ⟨A,6,none⟩ u6).setCell ⟨A,7,none⟩ u7
section
variable {S S' : Nat → Prop} {D A : Nat} {d : PDesk} {tv rv kv nv sv : Value} {w w' : World}
theorem DkAt.lt (h : DkAt S D d tv rv kv nv sv w) : D < w.heap.size := h.blk.lt
theorem DkAt.to (h : DkAt S D d tv rv kv nv sv w) (hb : Blk w' D 80 #[tv,rv,.bool d.running,kv,nv,.int .i64 d.run.stratum,.int .i64 d.run.rounds,.bool d.run.done,sv]) (ha : Agree S w w') : DkAt S D d tv rv kv nv sv w' :=
  ⟨hb,h.told.agree ha,h.rules.agree ha,h.known.agree ha,h.new.agree ha,h.saved.agree ha⟩
theorem DkAt.below (h : DkAt S D d tv rv kv nv sv w) (hb : Below w.heap.size w w') : DkAt S D d tv rv kv nv sv w' := h.to (h.blk.below hb h.lt) (Below.agree hb)
theorem DkAt.alloc (h : DkAt S D d tv rv kv nv sv w) (o : Obj) : DkAt S D d tv rv kv nv sv (w.alloc o) := h.below ((Below.refl _ _).alloc (Nat.le_refl _) o)
theorem DkAt.drew (h : DkAt S D d tv rv kv nv sv w) : DkAt S D d tv rv kv nv sv w.drew := h.below (Below.refl _ _).drew
theorem DkAt.more (h : DkAt S D d tv rv kv nv sv w) (hs : ∀ q,S q → q < w.heap.size → S' q) : DkAt S' D d tv rv kv nv sv w :=
  ⟨h.blk,h.told.more RFact.steady hs,RdSlice.more RRule.steady hs h.rules,h.known.more RFact.steady hs,h.new.more RFact.steady hs,h.saved.more hs⟩
theorem DkAt.far (h : DkAt S D d tv rv kv nv sv w) {p : Addr} (hp : ¬ S p.block) (hD : D ≠ p.block) (u : Value) : DkAt S D d tv rv kv nv sv (w.setCell p u) := h.to (h.blk.far hD u) (Agree.setCell hp u)
theorem DkAt.set8 (h : DkAt S D d tv rv kv nv sv w) (hp : ¬ S A) (hD : D ≠ A) (u0 u1 u2 u3 u4 u5 u6 u7 : Value) : DkAt S D d tv rv kv nv sv (set8 w A u0 u1 u2 u3 u4 u5 u6 u7) :=
  (((((((h.far (p := ⟨A,0,none⟩) hp hD _).far (p := ⟨A,1,none⟩) hp hD _).far (p := ⟨A,2,none⟩) hp hD _).far (p := ⟨A,3,none⟩) hp hD _).far (p := ⟨A,4,none⟩) hp hD _).far (p := ⟨A,5,none⟩) hp hD _).far (p := ⟨A,6,none⟩) hp hD _).far (p := ⟨A,7,none⟩) hp hD _
theorem DkAt.dk (h : DkAt S D d tv rv kv nv sv w) (hs : ∀ q,S q → S' q) : Dk S' D d w := ⟨tv,rv,kv,nv,sv,h.more fun q hq _ => hs q hq⟩
theorem Dk.split (h : Dk S D d w) : ∃ tv rv kv nv sv,DkAt (fun q => q < w.heap.size ∧ S q) D d tv rv kv nv sv w := by
  obtain ⟨tv,rv,kv,nv,sv,h⟩ := h
  exact ⟨tv,rv,kv,nv,sv,h.more fun q hq hl => ⟨hl,hq⟩⟩
theorem DkAt.setTold (h : DkAt S D d tv rv kv nv sv w) (hD : ¬ S D) {u : Value} {l : List PFact} (hu : RdFacts S w u l) : DkAt S D { d with told := l } u rv kv nv sv (w.setCell ⟨D,0,none⟩ u) :=
  ⟨h.blk.set_ 0 u,hu.agree (Agree.setCell hD _),h.rules.agree (Agree.setCell hD _),h.known.agree (Agree.setCell hD _),h.new.agree (Agree.setCell hD _),h.saved.agree (Agree.setCell hD _)⟩
theorem DkAt.setRun {r : PRun} {xv yv : Value} (h : DkAt S D d tv rv kv nv sv w) (hD : ¬ S D) (b : Bool) (hk : RdFacts S w xv r.known) (hn : RdFacts S w yv r.new) :
    DkAt S D { d with running := b,run := r } tv rv xv yv sv ((((((w.setCell ⟨D,2,none⟩ (.bool b)).setCell ⟨D,3,none⟩ xv).setCell ⟨D,4,none⟩ yv).setCell ⟨D,5,none⟩ (.int .i64 r.stratum)).setCell ⟨D,6,none⟩ (.int .i64 r.rounds)).setCell ⟨D,7,none⟩ (.bool r.done)) := by
  have ha : Agree S w ((((((w.setCell ⟨D,2,none⟩ (.bool b)).setCell ⟨D,3,none⟩ xv).setCell ⟨D,4,none⟩ yv).setCell ⟨D,5,none⟩ (.int .i64 r.stratum)).setCell ⟨D,6,none⟩ (.int .i64 r.rounds)).setCell ⟨D,7,none⟩ (.bool r.done)) :=
    (((((Agree.setCell (p := ⟨D,2,none⟩) hD _).trans (Agree.setCell (p := ⟨D,3,none⟩) hD _)).trans (Agree.setCell (p := ⟨D,4,none⟩) hD _)).trans (Agree.setCell (p := ⟨D,5,none⟩) hD _)).trans (Agree.setCell (p := ⟨D,6,none⟩) hD _)).trans (Agree.setCell (p := ⟨D,7,none⟩) hD _)
  exact ⟨(((((h.blk.set_ 2 _).set_ 3 _).set_ 4 _).set_ 5 _).set_ 6 _).set_ 7 _,h.told.agree ha,h.rules.agree ha,hk.agree ha,hn.agree ha,h.saved.agree ha⟩
theorem but_set8 {C : Nat} (h : But C w w') (hA : w.heap.size ≤ A) (u0 u1 u2 u3 u4 u5 u6 u7 : Value) : But C w (set8 w' A u0 u1 u2 u3 u4 u5 u6 u7) :=
  (((((((h.setCell (p := ⟨A,0,none⟩) (.inr hA) _).setCell (p := ⟨A,1,none⟩) (.inr hA) _).setCell (p := ⟨A,2,none⟩) (.inr hA) _).setCell (p := ⟨A,3,none⟩) (.inr hA) _).setCell (p := ⟨A,4,none⟩) (.inr hA) _).setCell (p := ⟨A,5,none⟩) (.inr hA) _).setCell (p := ⟨A,6,none⟩) (.inr hA) _).setCell (p := ⟨A,7,none⟩) (.inr hA) _
theorem agree_set8 (hp : ¬ S A) (u0 u1 u2 u3 u4 u5 u6 u7 : Value) : Agree S w (set8 w A u0 u1 u2 u3 u4 u5 u6 u7) :=
  (((((((Agree.setCell (p := ⟨A,0,none⟩) hp _).trans (Agree.setCell (p := ⟨A,1,none⟩) hp _)).trans (Agree.setCell (p := ⟨A,2,none⟩) hp _)).trans (Agree.setCell (p := ⟨A,3,none⟩) hp _)).trans (Agree.setCell (p := ⟨A,4,none⟩) hp _)).trans (Agree.setCell (p := ⟨A,5,none⟩) hp _)).trans (Agree.setCell (p := ⟨A,6,none⟩) hp _)).trans (Agree.setCell (p := ⟨A,7,none⟩) hp _)
end
abbrev ansV (a : PAns) (bv : Value) (s0 : Str) (aa : Option Addr) (an ac : Nat) (rl : Int) (ka : Option Addr) (kn kc : Nat) : Value := .agg #[.int .i64 a.err,.int .i64 a.at',.int .i64 a.n,bv,.string s0,.slice aa an ac,.int .i64 rl,.slice ka kn kc]
def DoPost (T : Nat → Prop) (D : Nat) (r : PDesk × PAns) (w : World) (e : Ending) (w' : World) : Prop :=
  Dk T D r.1 w' ∧ But D w w' ∧ ∃ ba bc s0 aa an ac rl ka kn kc,e = .returned (ansV r.2 (.slice ba r.2.binds.length bc) s0 aa an ac rl ka kn kc) ∧ RdBindss (New w) w' (.slice ba r.2.binds.length bc) r.2.binds
theorem RdBindss.nil {S : Nat → Prop} {w : World} : RdBindss S w (.slice none 0 0) [] := ⟨none,0,rfl,Nat.le_refl _,Nat.zero_le _,fun _ => rfl,fun i x hx => by simp at hx⟩
theorem DoPost.plain {T : Nat → Prop} {D : Nat} {r : PDesk × PAns} {w w' : World} {d : PDesk} {er at' n : Int} (hr : r = (d,⟨er,at',n,[],zeroPf⟩)) (h : Dk T D d w') (hb : But D w w') : DoPost T D r w (.returned (.agg #[.int .i64 er,.int .i64 at',.int .i64 n,.slice none 0 0,.string ⟨#[]⟩,.slice none 0 0,.int .i64 0,.slice none 0 0])) w' := by
  subst hr
  exact ⟨h,hb,none,0,⟨#[]⟩,none,0,0,0,none,0,0,rfl,RdBindss.nil⟩
theorem rdOne {S : Nat → Prop} {w : World} {f : PFact} {aa : Option Addr} {ac x : Nat} (hb : Blk w x 38 #[.string f.name,.slice aa f.args.length ac]) (hs : RdStrs S w (.slice aa f.args.length ac) f.args) (hx : S x) : RdFacts S w (.slice (some ⟨x,0,none⟩) 1 1) [f] := by
  refine ⟨some ⟨x,0,none⟩,1,rfl,Nat.le_refl _,by decide,(fun e => by cases e),fun i y hy => ?_⟩
  cases i with
  | succ i => simp at hy
  | zero =>
    obtain rfl : f = y := by simpa using hy
    refine ⟨x,0,[.string f.name,.slice aa f.args.length ac],rfl,hx,hb.lt,rfl,fun j u hj => ?_,⟨_,rfl,hs⟩⟩
    have := hb.cell j
    rw [show 0 + 0 * 2 + j = j by omega,this]
    simpa using hj
attribute [local go_sem ↓] Go.wp_at_zero Go.wp_at_succ
set_option maxRecDepth 100000 in
set_option maxHeartbeats 4000000 in
theorem deskTell {S : Nat → Prop} (D : Nat) (d : PDesk) (f : PFact) (av : Value) (w : World) {T : Nat → Prop} (hTD : ¬ T D) (hTn : ∀ q,w.heap.size ≤ q → T q) (h : Dk T D d w) (hf : RdStrs S w av f.args) (hg : Good d.told) (hn : f.args.length ≤ 1048576) :
    Calls Tryz.prog 44 #[.pointer (some ⟨D,0,none⟩),.agg #[.string f.name,av]] w (DoPost T D (tellP d f) w) := by
  obtain ⟨tv,rv,kv,nv,sv,hd⟩ := h.split
  obtain ⟨aa,ac,rfl,-,-,-⟩ := id hf.form
  obtain ⟨ta,tc,rfl,-,-,-⟩ := id hd.told.form
  have hDw := hd.lt
  obtain ⟨W0,hW0⟩ : ∃ W0 : World,(w.alloc (.cells #[.string f.name,.slice aa f.args.length ac] 38)).alloc (.cells #[.int .i64 0,.int .i64 0,.int .i64 0,.slice none 0 0,.string ⟨#[]⟩,.slice none 0 0,.int .i64 0,.slice none 0 0] 46) = W0 := ⟨_,rfl⟩
  have HD0 := Lib.hid (show DkAt (fun q => T q ∧ q ≠ w.heap.size + 1) D d (.slice ta d.told.length tc) rv kv nv sv W0 by subst hW0;exact ((hd.more (S' := fun q => T q ∧ q ≠ w.heap.size + 1) fun q hq _ => ⟨hq.2,by omega⟩).alloc _).alloc _)
  have HB0 := Lib.hid (show But D w W0 by subst hW0;exact ((But.refl D w).alloc _).alloc _)
  have HF0 := Lib.hid (show Blk W0 w.heap.size 38 #[.string f.name,.slice aa f.args.length ac] by subst hW0;exact (Blk.new w _ _).alloc _)
  have HA0 := Lib.hid (show Blk W0 (w.heap.size + 1) 46 #[.int .i64 0,.int .i64 0,.int .i64 0,.slice none 0 0,.string ⟨#[]⟩,.slice none 0 0,.int .i64 0,.slice none 0 0] by subst hW0;exact heap_new_at (by simp))
  have HS0 := Lib.hid (show RdStrs S W0 (.slice aa f.args.length ac) f.args by subst hW0;exact (hf.agree RStr.steady ((Agree.refl _ _).alloc _)).agree RStr.steady ((Agree.refl _ _).alloc _))
  have KW := Lib.hid (wrongFact f (.slice aa f.args.length ac) W0 HS0.out (by omega))
  have g0 := HF0.out.cell 0
  have g1 := HF0.out.cell 1
  simp only [List.getElem?_toArray,List.getElem?_cons_zero,List.getElem?_cons_succ] at g0 g1
  have HTP := Lib.hid (show tellP d f = if wrongF f ≠ 0 then (d,ansE (wrongF f) 0) else if 200 < (joinF d.told [f]).length then (d,ansE 5 0) else ({ d with told := joinF d.told [f] },ansN (joinF d.told [f]).length) from rfl)
  have HTN := Lib.hid (show ∀ x ∈ d.told,x.args.length ≤ 1073741824 from fun x hx => by have := (wrongF_zero.1 (hg.fine x hx)).2.1;omega)
  have htl := hg.len
  generalize tellP d f = TP at *
  generalize wrongF f = er at *
  clear hd h hf hg
  by_cases her : er = 0
  rotate_left
  · have HE := Lib.hid (show TP = (d,ansE er 0) by rw [HTP.out,if_pos her])
    have hb : (er != 0) = true := by simpa using her
    clear HTP her
    go_enter Tryz.func44,Tryz.ntmps44
    go_wp2_with (go_at_call 79;refine (KW.out).mono ?_;rintro e w1 ⟨rfl,hf1⟩;have HD1 := Lib.hid (HD0.out.below hf1.below);have HB1 := Lib.hid (HB0.out.below hf1.below);have HA1 := Lib.hid (HA0.out.below hf1.below HA0.out.lt);clear hf1;have c0 := HA1.out.cell 0;have c1 := HA1.out.cell 1;have c2 := HA1.out.cell 2;have c3 := HA1.out.cell 3;have c4 := HA1.out.cell 4;have c5 := HA1.out.cell 5;have c6 := HA1.out.cell 6;have c7 := HA1.out.cell 7;have f0 := HA1.out.frozen 0;have f1 := HA1.out.frozen 1;have f2 := HA1.out.frozen 2;have f3 := HA1.out.frozen 3;have f4 := HA1.out.frozen 4;have f5 := HA1.out.frozen 5;have f6 := HA1.out.frozen 6;have f7 := HA1.out.frozen 7;simp only [List.getElem?_toArray,List.getElem?_cons_zero,List.getElem?_cons_succ] at c0 c1 c2 c3 c4 c5 c6 c7)
    refine bodyPost_ret (v := .agg #[.int .i64 er,.int .i64 0,.int .i64 0,.slice none 0 0,.string ⟨#[]⟩,.slice none 0 0,.int .i64 0,.slice none 0 0]) (by simp [results,Tryz.results44,go_sem,c0,c1,c2,c3,c4,c5,c6,c7]) rfl (DoPost.plain HE.out ((HD1.out.set8 (fun h => h.2 rfl) (by omega) _ _ _ _ _ _ _ _).dk (fun q hq => hq.1)) (but_set8 HB1.out (Nat.le_succ _) _ _ _ _ _ _ _ _))
  subst her
  have KJ := Lib.hid (fun W (h : RdFacts (fun q => T q ∧ q ≠ w.heap.size + 1) W (.slice ta d.told.length tc) d.told) (x c : Nat) (hx : RdFacts (fun _ => True) W (.slice (some ⟨x,0,none⟩) 1 c) [f]) => joinCalls (.slice ta d.told.length tc) (.slice (some ⟨x,0,none⟩) 1 c) d.told [f] W h hx (by simp;omega) HTN.out (fun y hy => by obtain rfl := List.mem_singleton.1 hy;omega))
  have hlc : (200 : Int) < ((joinF d.told [f]).length : Int) ∨ ¬ (200 : Int) < ((joinF d.told [f]).length : Int) := Classical.em _
  have HE1 := Lib.hid (fun h : (200 : Int) < ((joinF d.told [f]).length : Int) => show TP = (d,ansE 5 0) by rw [HTP.out,if_neg (by decide),if_pos (by omega)])
  have HE2 := Lib.hid (fun h : ¬ (200 : Int) < ((joinF d.told [f]).length : Int) => show TP = ({ d with told := joinF d.told [f] },ansN (joinF d.told [f]).length) by rw [HTP.out,if_neg (by decide),if_neg (by omega)])
  clear HTP
  generalize joinF d.told [f] = jl at *
  rcases hlc with hlc | hlc
  · have HE := Lib.hid (HE1.out hlc)
    clear HE1 HE2
    go_enter Tryz.func44,Tryz.ntmps44
    go_wp2_with (go_at_call 79;refine (KW.out).mono ?_;rintro e w1 ⟨rfl,hf1⟩;have HD1 := Lib.hid (HD0.out.below hf1.below);have HB1 := Lib.hid (HB0.out.below hf1.below);have HA1 := Lib.hid (HA0.out.below hf1.below HA0.out.lt);have HF1 := Lib.hid (HF0.out.below hf1.below HF0.out.lt);have HS1 := Lib.hid (HS0.out.agree RStr.steady (Below.agree hf1.below));clear hf1;have k0 := HF1.out.cell 0;have k1 := HF1.out.cell 1;simp only [List.getElem?_toArray,List.getElem?_cons_zero,List.getElem?_cons_succ] at k0 k1;have t0 := HD1.out.blk.cell 0;simp only [List.getElem?_toArray,List.getElem?_cons_zero] at t0)
    have hD1 := HD1.out.lt
    have hA1 := HA1.out.lt
    have HLA := Lib.hid (((HA1.out.alloc (.cells #[.string f.name,.slice aa f.args.length ac] 38)).drew).lt)
    have HLF := Lib.hid (((HF1.out.alloc (.cells #[.string f.name,.slice aa f.args.length ac] 38)).drew).lt)
    have hq9 : ∀ q,(New ((w1.alloc (.cells #[.string f.name,.slice aa f.args.length ac] 38)).drew) q ∨ ((w1.alloc (.cells #[.string f.name,.slice aa f.args.length ac] 38)).drew).heap.size ≤ q) → T q ∧ q ≠ w.heap.size + 1 := fun q hq => by
      have h1 : w1.heap.size + 1 ≤ q := by rcases hq with h | h <;> simpa using h
      exact ⟨hTn q (by omega),by omega⟩
    have HX := Lib.hid (rdOne (S := fun _ => True) (Blk.new w1 38 #[.string f.name,.slice aa f.args.length ac]).drew ((RdStrs.up HS1.out ((Below.refl _ _).alloc (Nat.le_refl _) _)).agree RStr.steady (Agree.refl _ _).drew) trivial)
    have HJ := Lib.hid ((HD1.out.alloc (.cells #[.string f.name,.slice aa f.args.length ac] 38)).drew)
    have hs1 := HA0.out.lt
    have hs2 := HB1.out.size
    go_region_held3 (fun w' => w'.cell? ⟨D,0,none⟩ = some (.slice ta d.told.length tc) ∧ w'.cell? ⟨w.heap.size,0,none⟩ = some (.string f.name) ∧ w'.cell? ⟨w.heap.size,1,none⟩ = some (.slice aa f.args.length ac))
      (first | (with_reducible exact ⟨t0,k0,k1⟩) | (with_reducible exact ⟨y0,z0,z1⟩) | (with_reducible exact ⟨j0,l0,l1⟩) | go_keep)
      (first | (go_at_call 80;refine (KJ.out _ HJ.out.told w1.heap.size 1 HX.out).mono ?_;rintro e w2 ⟨⟨v2,rfl,ho2⟩,hb2⟩;have hr2 := ho2.read RFact.steady;obtain ⟨va,vc,rfl,-,-,-⟩ := id hr2.form;have HD2 := Lib.hid (HJ.out.below hb2);have HB2 := Lib.hid (((HB1.out.alloc (.cells #[.string f.name,.slice aa f.args.length ac] 38)).drew).below hb2);have HA2 := Lib.hid (((HA1.out.alloc (.cells #[.string f.name,.slice aa f.args.length ac] 38)).drew).below hb2 HLA.out);have HF2 := Lib.hid (((HF1.out.alloc (.cells #[.string f.name,.slice aa f.args.length ac] 38)).drew).below hb2 HLF.out);have HR2 := Lib.hid (hr2.more RFact.steady (S' := fun q => T q ∧ q ≠ w.heap.size + 1) (fun q hq _ => hq9 q hq));have z0 := HF2.out.cell 0;have z1 := HF2.out.cell 1;simp only [List.getElem?_toArray,List.getElem?_cons_zero,List.getElem?_cons_succ] at z0 z1;have y0 := HD2.out.blk.cell 0;simp only [List.getElem?_toArray,List.getElem?_cons_zero] at y0;have yf := HD2.out.blk.frozen 0;clear ho2 hr2 hb2))
    clear KJ HX HJ
    have c0 := HA2.out.cell 0;have c1 := HA2.out.cell 1;have c2 := HA2.out.cell 2;have c3 := HA2.out.cell 3;have c4 := HA2.out.cell 4;have c5 := HA2.out.cell 5;have c6 := HA2.out.cell 6;have c7 := HA2.out.cell 7;have f0 := HA2.out.frozen 0;have f1 := HA2.out.frozen 1;have f2 := HA2.out.frozen 2;have f3 := HA2.out.frozen 3;have f4 := HA2.out.frozen 4;have f5 := HA2.out.frozen 5;have f6 := HA2.out.frozen 6;have f7 := HA2.out.frozen 7;simp only [List.getElem?_toArray,List.getElem?_cons_zero,List.getElem?_cons_succ] at c0 c1 c2 c3 c4 c5 c6 c7
    go_wp2
    refine bodyPost_ret (v := .agg #[.int .i64 5,.int .i64 0,.int .i64 0,.slice none 0 0,.string ⟨#[]⟩,.slice none 0 0,.int .i64 0,.slice none 0 0]) (by simp [results,Tryz.results44,go_sem,c0,c1,c2,c3,c4,c5,c6,c7]) rfl (DoPost.plain HE.out ((HD2.out.set8 (fun h => h.2 rfl) (by omega) _ _ _ _ _ _ _ _).dk (fun q hq => hq.1)) (but_set8 HB2.out (Nat.le_succ _) _ _ _ _ _ _ _ _))
  · have HE := Lib.hid (HE2.out hlc)
    clear HE1 HE2
    go_enter Tryz.func44,Tryz.ntmps44
    go_wp2_with (go_at_call 79;refine (KW.out).mono ?_;rintro e w1 ⟨rfl,hf1⟩;have HD1 := Lib.hid (HD0.out.below hf1.below);have HB1 := Lib.hid (HB0.out.below hf1.below);have HA1 := Lib.hid (HA0.out.below hf1.below HA0.out.lt);have HF1 := Lib.hid (HF0.out.below hf1.below HF0.out.lt);have HS1 := Lib.hid (HS0.out.agree RStr.steady (Below.agree hf1.below));clear hf1;have k0 := HF1.out.cell 0;have k1 := HF1.out.cell 1;simp only [List.getElem?_toArray,List.getElem?_cons_zero,List.getElem?_cons_succ] at k0 k1;have t0 := HD1.out.blk.cell 0;simp only [List.getElem?_toArray,List.getElem?_cons_zero] at t0)
    have hD1 := HD1.out.lt
    have hA1 := HA1.out.lt
    have HLA := Lib.hid (((HA1.out.alloc (.cells #[.string f.name,.slice aa f.args.length ac] 38)).drew).lt)
    have HLF := Lib.hid (((HF1.out.alloc (.cells #[.string f.name,.slice aa f.args.length ac] 38)).drew).lt)
    have hq9 : ∀ q,(New ((w1.alloc (.cells #[.string f.name,.slice aa f.args.length ac] 38)).drew) q ∨ ((w1.alloc (.cells #[.string f.name,.slice aa f.args.length ac] 38)).drew).heap.size ≤ q) → T q ∧ q ≠ w.heap.size + 1 := fun q hq => by
      have h1 : w1.heap.size + 1 ≤ q := by rcases hq with h | h <;> simpa using h
      exact ⟨hTn q (by omega),by omega⟩
    have HX := Lib.hid (rdOne (S := fun _ => True) (Blk.new w1 38 #[.string f.name,.slice aa f.args.length ac]).drew ((RdStrs.up HS1.out ((Below.refl _ _).alloc (Nat.le_refl _) _)).agree RStr.steady (Agree.refl _ _).drew) trivial)
    have HJ := Lib.hid ((HD1.out.alloc (.cells #[.string f.name,.slice aa f.args.length ac] 38)).drew)
    have hs1 := HA0.out.lt
    have hs2 := HB1.out.size
    go_region_held3 (fun w' => w'.cell? ⟨D,0,none⟩ = some (.slice ta d.told.length tc) ∧ w'.cell? ⟨w.heap.size,0,none⟩ = some (.string f.name) ∧ w'.cell? ⟨w.heap.size,1,none⟩ = some (.slice aa f.args.length ac))
      (first | (with_reducible exact ⟨t0,k0,k1⟩) | (with_reducible exact ⟨y0,z0,z1⟩) | (with_reducible exact ⟨j0,l0,l1⟩) | go_keep)
      (first | (go_at_call 80;refine (KJ.out _ HJ.out.told w1.heap.size 1 HX.out).mono ?_;rintro e w2 ⟨⟨v2,rfl,ho2⟩,hb2⟩;have hr2 := ho2.read RFact.steady;obtain ⟨va,vc,rfl,-,-,-⟩ := id hr2.form;have HD2 := Lib.hid (HJ.out.below hb2);have HB2 := Lib.hid (((HB1.out.alloc (.cells #[.string f.name,.slice aa f.args.length ac] 38)).drew).below hb2);have HA2 := Lib.hid (((HA1.out.alloc (.cells #[.string f.name,.slice aa f.args.length ac] 38)).drew).below hb2 HLA.out);have HF2 := Lib.hid (((HF1.out.alloc (.cells #[.string f.name,.slice aa f.args.length ac] 38)).drew).below hb2 HLF.out);have HR2 := Lib.hid (hr2.more RFact.steady (S' := fun q => T q ∧ q ≠ w.heap.size + 1) (fun q hq _ => hq9 q hq));have z0 := HF2.out.cell 0;have z1 := HF2.out.cell 1;simp only [List.getElem?_toArray,List.getElem?_cons_zero,List.getElem?_cons_succ] at z0 z1;have y0 := HD2.out.blk.cell 0;simp only [List.getElem?_toArray,List.getElem?_cons_zero] at y0;have yf := HD2.out.blk.frozen 0;clear ho2 hr2 hb2))
    clear KJ HX HJ
    have c0 := HA2.out.cell 0;have c1 := HA2.out.cell 1;have c2 := HA2.out.cell 2;have c3 := HA2.out.cell 3;have c4 := HA2.out.cell 4;have c5 := HA2.out.cell 5;have c6 := HA2.out.cell 6;have c7 := HA2.out.cell 7;have f0 := HA2.out.frozen 0;have f1 := HA2.out.frozen 1;have f2 := HA2.out.frozen 2;have f3 := HA2.out.frozen 3;have f4 := HA2.out.frozen 4;have f5 := HA2.out.frozen 5;have f6 := HA2.out.frozen 6;have f7 := HA2.out.frozen 7;simp only [List.getElem?_toArray,List.getElem?_cons_zero,List.getElem?_cons_succ] at c0 c1 c2 c3 c4 c5 c6 c7
    go_wp2
    have HD3 := Lib.hid (HD2.out.setTold (fun h => hTD h.1) HR2.out)
    have HB3 := Lib.hid (HB2.out.setCell (p := ⟨D,0,none⟩) (.inl rfl) (.slice va jl.length vc))
    refine bodyPost_ret (v := .agg #[.int .i64 0,.int .i64 0,.int .i64 jl.length,.slice none 0 0,.string ⟨#[]⟩,.slice none 0 0,.int .i64 0,.slice none 0 0]) (by simp [results,Tryz.results44,go_sem,c0,c1,c2,c3,c4,c5,c6,c7]) rfl (DoPost.plain HE.out ((HD3.out.set8 (fun h => h.2 rfl) (by omega) _ _ _ _ _ _ _ _).dk (fun q hq => hq.1)) (but_set8 HB3.out (Nat.le_succ _) _ _ _ _ _ _ _ _))
end Go.Proofs.YtiiicochdidolaaGreat
