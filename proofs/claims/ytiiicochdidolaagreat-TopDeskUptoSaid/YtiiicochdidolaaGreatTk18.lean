/-
  THE TEXTS TopNets, DeskB, ProofR, ProofOne, Entry, RulesIn, one behind the other.
-/
import Derived.Test.YtiiicochdidolaaGreatTk1
import Derived.Test.YtiiicochdidolaaGreatTk10
import Derived.Test.YtiiicochdidolaaGreatTk11
import Derived.Test.YtiiicochdidolaaGreatTk15
import Derived.Test.YtiiicochdidolaaGreatTk16
import Derived.Test.YtiiicochdidolaaGreatTk17
import Derived.Deep.WholeRow
import Derived.Lib.MinMax
import Derived.Test.YtiiicochdidolaaGreatRows
import Derived.ProofKit
import Derived.OpenShut
import Derived.JoinedCond
import Derived.Carry
import Derived.Deep.Strs
import Derived.Deep.Slices
namespace Go.Proofs.YtiiicochdidolaaGreat
open Go.RowKit
def normI (x n : Int) : Int := ((x.tmod n) + n).tmod n
theorem normI_in {x n : Int} (h : 1 ≤ n) : 0 ≤ normI x n ∧ normI x n < n := by
  unfold normI
  have h1 := Int.tmod_lt_of_pos x (show 0 < n by omega)
  have h2 : -n < x.tmod n := by
    have := Int.lt_tmod_of_pos x (show 0 < n by omega)
    omega
  have h3 : 0 ≤ x.tmod n + n := by omega
  exact ⟨Int.tmod_nonneg n h3,Int.tmod_lt_of_pos _ (by omega)⟩
def pairOf (n : Int) (p : Int × Int) : Nat × Nat := ((normI p.1 n).toNat,(normI p.2 n).toNat)
def pairsP (n : Int) (frm tow : List Int) : List (Nat × Nat) := (frm.zip tow).map (pairOf n)
def cellsOf (m : List Bool) : Array Value := (m.map Value.bool).toArray
theorem cellsOf_get {m : List Bool} {i : Nat} (h : i < m.length) : (cellsOf m)[i]? = some (.bool (m.getD i false)) := by
  unfold cellsOf
  rw [List.getElem?_toArray,List.getElem?_map,List.getD_eq_getElem?_getD,List.getElem?_eq_getElem h]
  rfl
theorem cellsOf_set (m : List Bool) (i : Nat) (x : Bool) : (cellsOf m).setIfInBounds i (.bool x) = cellsOf (m.set i x) := by
  unfold cellsOf
  rw [List.map_set]
  apply Array.ext'
  simp
theorem cellsOf_size (m : List Bool) : (cellsOf m).size = m.length := by unfold cellsOf;simp
theorem cellsOf_one (m : List Bool) : (cellsOf m).all (·.oneCell') = true := by
  unfold cellsOf
  simp [Value.oneCell']
def NetsPost (n : Nat) (ps : List (Nat × Nat)) (w : World) (e : Ending) (w' : World) : Prop :=
  ∃ a c,e = .returned (.tuple #[.slice a (netL n ps).length c,.agg (cellsOf (closeN n n (tableE ps)))]) ∧ RdFacts (fun _ => True) w' (.slice a (netL n ps).length c) (netL n ps) ∧ Below w.heap.size w w'
theorem pairs_len {n : Int} {frm tow : List Int} : (pairsP n frm tow).length ≤ frm.length := by unfold pairsP;rw [List.length_map,List.length_zip];exact Nat.min_le_left _ _
theorem pairs_get {n : Int} {frm tow : List Int} {k : Nat} {x y : Int} (hx : frm[k]? = some x) (hy : tow[k]? = some y) : (pairsP n frm tow)[k]? = some (pairOf n (x,y)) := by
  unfold pairsP
  rw [List.getElem?_map,(List.getElem?_zip_eq_some (z := (x,y))).2 ⟨hx,hy⟩]
  rfl
theorem pairs_end {n : Int} {frm tow : List Int} {k : Nat} (h : tow.length ≤ k) : (pairsP n frm tow).take (k + 1) = (pairsP n frm tow).take k := by
  have : (pairsP n frm tow).length ≤ k := by unfold pairsP;rw [List.length_map,List.length_zip];exact Nat.le_trans (Nat.min_le_right _ _) h
  rw [List.take_of_length_le (by omega),List.take_of_length_le this]
theorem pairs_in {n : Nat} {frm tow : List Int} (hn : 1 ≤ n) : ∀ p ∈ pairsP n frm tow,p.1 < n ∧ p.2 < n := fun p hp => by
  unfold pairsP at hp
  obtain ⟨q,-,rfl⟩ := List.mem_map.1 hp
  have h1 := normI_in (x := q.1) (n := (n : Int)) (by omega)
  have h2 := normI_in (x := q.2) (n := (n : Int)) (by omega)
  unfold pairOf
  dsimp only
  omega
theorem tableE_snoc (ps : List (Nat × Nat)) (p : Nat × Nat) : tableE (ps ++ [p]) = setG (tableE ps) p.1 p.2 true := by unfold tableE;rw [List.foldl_append];rfl
theorem wrap_norm {x n : Int} (h : 1 ≤ n) (h6 : n ≤ 6) : (wrap64 (x.tmod n + n)).tmod n = normI x n := by
  have h1 := Int.tmod_lt_of_pos x (show 0 < n by omega)
  have h2 := Int.lt_tmod_of_pos x (show 0 < n by omega)
  unfold normI
  congr 1
  unfold wrap64
  omega
theorem take_snoc {α : Type} {l : List α} {k : Nat} {x : α} (h : l[k]? = some x) : l.take (k + 1) = l.take k ++ [x] := by rw [List.take_add_one,h];rfl
theorem foldl_len {α : Type} {f : List Bool → α → List Bool} (hf : ∀ m x,(f m x).length = m.length) : ∀ (l : List α) (m : List Bool),(l.foldl f m).length = m.length
  | [],_ => rfl
  | x :: l,m => by rw [List.foldl_cons,foldl_len hf l,hf]
theorem step3_len (m : List Bool) (a b c : Nat) : (step3 m a b c).length = m.length := setG_len ..
theorem foldC_len {a b k : Nat} {m : List Bool} : ((List.range k).foldl (fun m c => step3 m a b c) m).length = m.length := foldl_len (fun m c => step3_len m a b c) _ _
theorem foldB_len {n a k : Nat} {m : List Bool} : ((List.range k).foldl (fun m b => closeC n m a b) m).length = m.length := foldl_len (fun _ _ => foldC_len) _ _
theorem foldA_len {n k : Nat} {m : List Bool} : ((List.range k).foldl (fun m a => closeB n m a) m).length = m.length := foldl_len (fun _ _ => foldB_len) _ _
theorem closeN_len2 {n : Nat} {m : List Bool} : ∀ k,(closeN n k m).length = m.length
  | 0 => rfl
  | k + 1 => (foldA_len (n := n) (k := n)).trans (closeN_len2 k)
theorem load_table {P : Program} {w : World} {g : Nat} {t : TypeId} {cs : Array Value} (h : Blk w g t cs) (hn : cs.size = 64) : (loadCellsFrom ⟨g,0,none⟩ 0 64 #[]).run P w = .ok cs w := by
  have h2 := run_loadCells_list (P := P) w ⟨g,0,none⟩ cs.toList (fun j v hv => by
    have hadd : (⟨g,0,none⟩ : Addr).add j = ⟨g,j,none⟩ := by unfold Addr.add;split <;> simp_all
    rw [hadd,h.cell]
    simpa using hv)
  rw [Array.length_toList,hn] at h2
  simpa [loadCells] using h2
theorem store_table {P : Program} {w : World} {g : Nat} {t : TypeId} {old cs : Array Value} (h : Blk w g t old) (hn : cs.size = 64) (ho : old.size = 64) (h1 : cs.all (·.oneCell') = true) : (storeCells ⟨g,0,none⟩ cs.toList 0).run P w = .ok () (w.setRow g cs) := by
  have := run_storeCells_from (P := P) g t cs.toList 0 old w h (by simp;omega) (fun v hv => (Array.all_eq_true_iff_forall_mem.1 h1) v (by simpa using hv))
  have e : (old.toList.take 0 ++ cs.toList ++ old.toList.drop (0 + cs.toList.length)).toArray = cs := by
    rw [List.take_zero,List.nil_append,List.drop_eq_nil_of_le (by simp;omega),List.append_nil]
  simpa [e] using this
theorem yields_row {P : Program} {S : World → Prop} {o : Oper} {a : Act} {ty t : TypeId} {x : Operand} {g : Nat} {cs : Array Value} {d : TypeDesc} (ho : o.op = .load ty x) (hx : a.eval x = .pointer (some ⟨g,0,none⟩)) (hS : ∀ w,S w → Blk w g t cs)
    (hu : P.underlying ty = some d) (hd : (match d with | .struct _ | .array _ _ => true | _ => false) = true) (hi : (P.info? ty).map (·.size) = some cs.size) : ∀ w,S w → (execOp a.eval o).run P w = .ok (.value (.agg cs)) w := fun w hw => by
  unfold execOp
  simp only [ho,hx,Instr.loadAt,Instr.sureAddr,Sem.run_bind,Sem.run_pure,Result.andThen_ok,run_loadVar_row w g t ty cs (0,0) d (hS w hw) hu hd hi]
theorem set_row {w : World} {g : Nat} {t : TypeId} {old cs : Array Value} (_h : Blk w g t old) (_hn : old.size = cs.size) : But g w (w.setRow g cs) := ⟨rfl,rfl,rfl,by rw [setRow_size];exact Nat.le_refl _,fun k _ hk => setRow_other w g k cs (fun e => hk (congrArg some e))⟩
theorem results_tmp_cell {P : Program} {fn : Func} {u p : Tmp} {ty : TypeId} (h : fn.results = #[.tmp u,.cell p ty]) (tmps : Array Value) (w : World) (g : Nat) (t : TypeId) (cs : Array Value) {d : TypeDesc} (hp : tmps.getD p undef = .pointer (some ⟨g,0,none⟩)) (hg : Blk w g t cs)
    (hu : P.underlying ty = some d) (hd : (match d with | .struct _ | .array _ _ => true | _ => false) = true) (hi : (P.info? ty).map (·.size) = some cs.size) : (results fn tmps).run P w = .ok (.tuple #[tmps.getD u undef,.agg cs]) w := by
  have hp' : tmps[p]?.getD undef = .pointer (some ⟨g,0,none⟩) := by simpa using hp
  simp [results,h,hp',asAddr,run_loadVar_row w g t ty cs (0,0) d hg hu hd hi]
theorem ofNew {S : Nat → Prop} {v : Value} {l r : List PFact} {w : World} (hr : ofF l = r) (h : RdFacts S w v l) (n1 : l.length ≤ 1073741824) (n2 : ∀ x ∈ l,x.args.length ≤ 1073741824) :
    Calls Tryz.prog 32 #[v] w fun e w' => (∃ a c,e = .returned (.slice a r.length c) ∧ RdFacts (New w) w' (.slice a r.length c) r) ∧ Below w.heap.size w w' := by
  refine (ofCalls v l w h n1 n2).mono fun e w' ⟨⟨v',he,ho⟩,hb⟩ => ⟨?_,hb⟩
  rw [hr] at ho
  have h' := (ho.read RFact.steady).more RFact.steady (S' := New w) (fun b hb _ => hb.elim id id)
  obtain ⟨a,c,rfl,-,-,-⟩ := id h'.form
  exact ⟨a,c,he,h'⟩
attribute [local go_sem ↓] Go.wp_at_zero Go.wp_at_succ
set_option maxRecDepth 100000 in
set_option maxHeartbeats 8000000 in
theorem netsCalls {S S2 : Nat → Prop} (n : Nat) (fv tv : Value) (frm tow : List Int) (w : World) (h1 : 1 ≤ n) (h6 : n ≤ 6) (hf : RdInts S w fv frm) (ht : RdInts S2 w tv tow) (n1 : frm.length ≤ 12) (n2 : tow.length ≤ 1048576) :
    Calls Tryz.prog 17 #[.int .i64 (n : Int),fv,tv] w (NetsPost n (pairsP n frm tow) w) := by
  obtain ⟨fa,fc,rfl,-,-,-⟩ := id hf.form
  obtain ⟨ta,tc,rfl,-,-,-⟩ := id ht.form
  have HF := Lib.hid hf
  have HT := Lib.hid ht
  have hn0 : ¬ (n : Int) = 0 := by omega
  have HB0 := Lib.hid (show Below w.heap.size w ((w.alloc (.cells (cellsOf table0) 70)).alloc (.cells (cellsOf table0) 70)) from ((Below.refl _ _).alloc (Nat.le_refl _) _).alloc (by simp) _)
  have HR0 := Lib.hid (show Blk ((w.alloc (.cells (cellsOf table0) 70)).alloc (.cells (cellsOf table0) 70)) w.heap.size 70 (cellsOf table0) from (Blk.new w _ _).alloc _)
  have HG0 := Lib.hid (show Blk ((w.alloc (.cells (cellsOf table0) 70)).alloc (.cells (cellsOf table0) 70)) (w.heap.size + 1) 70 (cellsOf (tableE ((pairsP n frm tow).take 0))) from heap_new_at (by simp))
  have HO0 := Lib.hid (show Owned 2 RFact (w.heap.size + 2) 38 (fun b => w.heap.size + 2 ≤ b) ((w.alloc (.cells (cellsOf table0) 70)).alloc (.cells (cellsOf table0) 70)) (.slice none 0 0) (((pairsP n frm tow).take 0).map fun p => roadF p.1 p.2) from Owned.nil)
  clear hf ht
  go_enter Tryz.func17,Tryz.ntmps17
  go_wp2
  go_loopw [19,8] (fun i v wr => ∃ k : Nat,k ≤ frm.length ∧ i = .int .i64 k ∧ Hid (Owned 2 RFact (w.heap.size + 2) 38 (fun b => w.heap.size + 2 ≤ b) wr v (((pairsP n frm tow).take k).map fun p => roadF p.1 p.2)) ∧ Hid (Below w.heap.size w wr) ∧ Hid (Blk wr w.heap.size 70 (cellsOf table0)) ∧ Hid (Blk wr (w.heap.size + 1) 70 (cellsOf (tableE ((pairsP n frm tow).take k))))) (fun i _ _ => frm.length - (intOf i).toNat)
  case atStart => exact ⟨0,Nat.zero_le _,rfl,HO0,HB0,HR0,HG0⟩
  case round =>
    clear HB0 HR0 HG0 HO0
    obtain ⟨k,hk,rfl,HO,HB,HR,HG⟩ := hrel
    by_cases hlt : k < frm.length
    · obtain ⟨x,hx⟩ : ∃ x,frm[k]? = some x := ⟨_,List.getElem?_eq_getElem hlt⟩
      obtain ⟨b1,o1,rfl,-,hb1,d0⟩ := RdInts.at HF.out hx
      have d1 := (cell_below HB.out hb1 _).trans d0
      clear d0 hb1
      by_cases hlt2 : k < tow.length
      · obtain ⟨y,hy⟩ : ∃ y,tow[k]? = some y := ⟨_,List.getElem?_eq_getElem hlt2⟩
        obtain ⟨b2,o2,rfl,-,hb2,e0⟩ := RdInts.at HT.out hy
        have e1 := (cell_below HB.out hb2 _).trans e0
        clear e0 hb2
        obtain ⟨a0,a1⟩ := normI_in (x := x) (n := (n : Int)) (by omega)
        obtain ⟨c0,c1⟩ := normI_in (x := y) (n := (n : Int)) (by omega)
        have HP := Lib.hid (pairs_get (n := (n : Int)) hx hy)
        unfold pairOf at HP
        dsimp only at HP
        obtain ⟨a,ha⟩ : ∃ a : Nat,normI x n = a := ⟨_,(Int.toNat_of_nonneg a0).symm⟩
        obtain ⟨c,hc⟩ : ∃ c : Nat,normI y n = c := ⟨_,(Int.toNat_of_nonneg c0).symm⟩
        rw [ha,hc,Int.toNat_natCast,Int.toNat_natCast] at HP
        rw [ha] at a1
        rw [hc] at c1
        have hva : (wrap64 (x.tmod (n : Int) + (n : Int))).tmod (n : Int) = (a : Int) := by rw [← ha];exact wrap_norm (by omega) (by omega)
        have hvc : (wrap64 (y.tmod (n : Int) + (n : Int))).tmod (n : Int) = (c : Int) := by rw [← hc];exact wrap_norm (by omega) (by omega)
        have ha8 : a < 8 := by omega
        have hc8 : c < 8 := by omega
        have HTS := Lib.hid (take_snoc HP.out)
        have HTE := Lib.hid (tableE_snoc ((pairsP n frm tow).take k) (a,c))
        have hTL := (tableE_spec (ps := (pairsP n frm tow).take k) (fun p hp => by have := pairs_in h1 p (List.mem_of_mem_take hp);omega)).1
        have hln := pairs_len (n := (n : Int)) (frm := frm) (tow := tow)
        have hl12 : (((pairsP n frm tow).take k).map fun p => roadF p.1 p.2).length ≤ 12 := by rw [List.length_map,List.length_take];omega
        have hsz := HB.out.size
        clear a0 c0 ha hc HP hx hy
        generalize (pairsP n frm tow).take k = pk at *
        generalize tableE pk = tb at *
        generalize hout : (pk.map fun p => roadF p.1 p.2) = out at *
        have HOU := Lib.hid hout
        clear hout
        go_wp2
        go_region
        go_wp2_with (first
          | (go_at_call 18;refine (roadCalls a c (by omega) (by omega) _).mono ?_;rintro e w3 ⟨b3,rfl,hn3,hk3,hb3⟩;have hb3' := (Below.refl wr.heap.size wr).drew.trans hb3;have HB3 := Lib.hid (HB.out.trans (hb3'.mono hsz));have HO3 := Lib.hid (HO.out.below RFact.steady hb3');have HR3 := Lib.hid (HR.out.below hb3' HR.out.lt);have HG3 := Lib.hid (HG.out.below hb3' HG.out.lt);have HS3 := Lib.hid (RdStrs.litS (S := New wr) (l := [tn a,tn c]) rfl (by simp [maxLen]) hn3 hk3);have hs3 : wr.heap.size ≤ w3.heap.size := hb3.size;have hz3 := HG.out.lt;clear hb3 hb3' hk3 hn3)
          | (at_builtin;refine wpList_append_one (B := w.heap.size + 2) (e := 38) (S := fun b => w.heap.size + 2 ≤ b) (by rfl) _ _ 24 (by rfl) RFact.steady rowFacts _ out (by rfl) (HO3.out.alloc RFact.steady _) w3.heap.size 1 #[.string xroad,.slice (some ⟨b3,0,none⟩) 2 2] 38 (0,0) ⟨xroad,[tn a,tn c]⟩ (by rfl) (heap_new_at rfl) rfl (by simp [Value.oneCell']) ⟨_,rfl,(RdSlice.agree RStr.steady ((Agree.refl _ _).alloc _) HS3.out).more RStr.steady (fun b hb _ => by have h1 : wr.heap.size ≤ b := hb;exact ⟨by omega,fun e => by have := (HO.out.row_lt e.symm).2;omega⟩)⟩ (by omega) (by simp;omega) ?_;intro v4 w4 hown4 hg4 hat4;have hrow : ∀ q,(Value.ownBlock u8) = some q → w.heap.size + 2 ≤ q := fun q hq => (HO3.out.row_lt hq).1;have HO4 := Lib.hid hown4;have HB4 := Lib.hid ((HB3.out.alloc (by omega) _).grown hg4 (by simp;omega) (fun q hq => by have := hrow q hq;omega));have HR4 := Lib.hid ((HR3.out.alloc _).grown hg4 (fun e => by have := hrow _ e.symm;omega));have HG4 := Lib.hid ((HG3.out.alloc _).grown hg4 (fun e => by have := hrow _ e.symm;omega));have g0 := HG4.out.cell (a * 8 + c);have g1 := HG4.out.frozen (a * 8 + c);rw [cellsOf_get (by omega)] at g0;clear hown4 hg4 hat4 hrow))
        go_roundw
        case rel => exact ⟨k + 1,by omega,by go_num,Lib.hid (by rw [HTS.out,List.map_append,HOU.out];exact HO4.out.setCell RFact.steady (p := ⟨w.heap.size + 1,a * 8 + c,none⟩) (fun h => by have h' : w.heap.size + 2 ≤ w.heap.size + 1 := h;omega) (fun e => by have h' : w.heap.size + 2 ≤ w.heap.size + 1 := (HO4.out.row_lt e).1;omega) _),Lib.hid (HB4.out.setCell (p := ⟨w.heap.size + 1,a * 8 + c,none⟩) (Nat.le_succ _) _),Lib.hid (HR4.out.far (p := ⟨w.heap.size + 1,a * 8 + c,none⟩) (by show w.heap.size ≠ w.heap.size + 1;omega) _),Lib.hid (by rw [HTS.out,HTE.out];unfold setG;rw [← cellsOf_set];exact HG4.out.set_ _ _)⟩
        case measure => simp [intOf];omega
      · have HPE := Lib.hid (pairs_end (n := (n : Int)) (frm := frm) (tow := tow) (show tow.length ≤ k by omega))
        clear hx
        go_wp2
        go_roundw
        case rel => exact ⟨k + 1,by omega,by go_num,Lib.hid (by rw [HPE.out];exact HO.out),HB,HR,Lib.hid (by rw [HPE.out];exact HG.out)⟩
        case measure => simp [intOf];omega
    · have HPE := Lib.hid (show (pairsP n frm tow).take k = pairsP n frm tow from List.take_of_length_le (by have := pairs_len (n := (n : Int)) (frm := frm) (tow := tow);omega))
      have HPI := Lib.hid (pairs_in (frm := frm) (tow := tow) h1)
      rw [HPE.out] at HO HG
      have hl12 : (pairsP n frm tow).length ≤ 12 := by have := pairs_len (n := (n : Int)) (frm := frm) (tow := tow);omega
      have HTL := Lib.hid ((tableE_spec (ps := pairsP n frm tow) (fun p hp => by have := HPI.out p hp;omega)).1)
      generalize pairsP n frm tow = ps at *
      have HGZ := Lib.hid (show Blk wr (w.heap.size + 1) 70 (cellsOf (closeN n 0 (tableE ps))) from HG.out)
      have HBZ := Lib.hid (But.refl (w.heap.size + 1) wr)
      obtain ⟨wl,hwl⟩ : ∃ wl : World,wl = wr := ⟨_,rfl⟩
      subst hwl
      clear HG HPE HF HT
      go_wp2
      go_loopw [58] (fun i wr => ∃ t : Nat,t ≤ n ∧ i = .int .i64 t ∧ Hid (But (w.heap.size + 1) wl wr) ∧ Hid (Blk wr (w.heap.size + 1) 70 (cellsOf (closeN n t (tableE ps))))) (fun i _ => n - (intOf i).toNat)
      case atStart => exact ⟨0,Nat.zero_le _,rfl,HBZ,HGZ⟩
      case round =>
        clear HBZ HGZ
        obtain ⟨t,ht,rfl,HBZ,HGZ⟩ := hrel
        by_cases htn : t < n
        · have ht' : (t : Int) < (n : Int) := by omega
          have HL := Lib.hid (show (closeN n t (tableE ps)).length = 64 by rw [closeN_len2,HTL.out])
          have HNX := Lib.hid (show closeN n (t + 1) (tableE ps) = closeA n (closeN n t (tableE ps)) from rfl)
          generalize closeN n t (tableE ps) = mt at *
          go_wp2
          go_loopw [61] (fun i wr => ∃ a : Nat,a ≤ n ∧ i = .int .i64 a ∧ Hid (But (w.heap.size + 1) wl wr) ∧ Hid (Blk wr (w.heap.size + 1) 70 (cellsOf ((List.range a).foldl (fun m a => closeB n m a) mt)))) (fun i _ => n - (intOf i).toNat)
          case atStart => exact ⟨0,Nat.zero_le _,rfl,HBZ,HGZ⟩
          case round =>
            clear HBZ HGZ
            obtain ⟨a,ha,rfl,HBZ,HGZ⟩ := hrel
            by_cases han : a < n
            · have ha' : (a : Int) < (n : Int) := by omega
              have HLA := Lib.hid (show ((List.range a).foldl (fun m a => closeB n m a) mt).length = 64 by rw [foldA_len,HL.out])
              have HNA := Lib.hid (range_foldl (f := fun m a => closeB n m a) (z := mt) (k := a))
              generalize (List.range a).foldl (fun m a => closeB n m a) mt = ma at *
              go_wp2
              go_loopw [65] (fun i wr => ∃ b : Nat,b ≤ n ∧ i = .int .i64 b ∧ Hid (But (w.heap.size + 1) wl wr) ∧ Hid (Blk wr (w.heap.size + 1) 70 (cellsOf ((List.range b).foldl (fun m b => closeC n m a b) ma)))) (fun i _ => n - (intOf i).toNat)
              case atStart => exact ⟨0,Nat.zero_le _,rfl,HBZ,HGZ⟩
              case round =>
                clear HBZ HGZ
                obtain ⟨b,hb,rfl,HBZ,HGZ⟩ := hrel
                by_cases hbn : b < n
                · have hb' : (b : Int) < (n : Int) := by omega
                  have HLB := Lib.hid (show ((List.range b).foldl (fun m b => closeC n m a b) ma).length = 64 by rw [foldB_len,HLA.out])
                  have HNB := Lib.hid (range_foldl (f := fun m b => closeC n m a b) (z := ma) (k := b))
                  generalize (List.range b).foldl (fun m b => closeC n m a b) ma = mb at *
                  go_wp2
                  go_loopw [69] (fun i wr => ∃ c : Nat,c ≤ n ∧ i = .int .i64 c ∧ Hid (But (w.heap.size + 1) wl wr) ∧ Hid (Blk wr (w.heap.size + 1) 70 (cellsOf ((List.range c).foldl (fun m c => step3 m a b c) mb)))) (fun i _ => n - (intOf i).toNat)
                  case atStart => exact ⟨0,Nat.zero_le _,rfl,HBZ,HGZ⟩
                  case round =>
                    clear HBZ HGZ
                    obtain ⟨c,hc,rfl,HBZ,HGZ⟩ := hrel
                    by_cases hcn : c < n
                    · have hc' : (c : Int) < (n : Int) := by omega
                      have HLC := Lib.hid (show ((List.range c).foldl (fun m c => step3 m a b c) mb).length = 64 by rw [foldC_len,HLB.out])
                      have HNC := Lib.hid (range_foldl (f := fun m c => step3 m a b c) (z := mb) (k := c))
                      generalize (List.range c).foldl (fun m c => step3 m a b c) mb = mc at *
                      have x1 := HGZ.out.cell (a * 8 + c)
                      have x2 := HGZ.out.cell (a * 8 + b)
                      have x3 := HGZ.out.cell (b * 8 + c)
                      have z1 := HGZ.out.frozen (a * 8 + c)
                      rw [cellsOf_get (by rw [HLC.out];omega)] at x1 x2 x3
                      have HST := Lib.hid (show step3 mc a b c = mc.set (a * 8 + c) (mc.getD (a * 8 + c) false || (mc.getD (a * 8 + b) false && mc.getD (b * 8 + c) false)) from rfl)
                      generalize mc.getD (a * 8 + c) false = y1 at *
                      generalize mc.getD (a * 8 + b) false = y2 at *
                      generalize mc.getD (b * 8 + c) false = y3 at *
                      have ha8 : a < 8 := by omega
                      have hb8 : b < 8 := by omega
                      have hc8 : c < 8 := by omega
                      have HB' := Lib.hid (fun (u : Value) => HBZ.out.drew.setCell (p := ⟨w.heap.size + 1,a * 8 + c,none⟩) (.inl rfl) u)
                      cases y1 <;> cases y2 <;> cases y3
                      all_goals
                        go_wp2
                        go_region
                        go_wp2
                        go_roundw
                        case rel => exact ⟨c + 1,by omega,by go_num,Lib.hid (HB'.out _),Lib.hid (by rw [HNC.out,HST.out,← cellsOf_set];exact HGZ.out.set_ _ _)⟩
                        case measure => simp [intOf];omega
                    · have hc' : ¬ (c : Int) < (n : Int) := by omega
                      obtain rfl : c = n := by omega
                      go_wp2
                      go_roundw
                      case rel => exact ⟨b + 1,by omega,by go_num,HBZ,Lib.hid (by rw [HNB.out];exact HGZ.out)⟩
                      case measure => simp [intOf];omega
                · have hb' : ¬ (b : Int) < (n : Int) := by omega
                  obtain rfl : b = n := by omega
                  go_wp2
                  go_roundw
                  case rel => exact ⟨a + 1,by omega,by go_num,HBZ,Lib.hid (by rw [HNA.out];exact HGZ.out)⟩
                  case measure => simp [intOf];omega
            · have ha' : ¬ (a : Int) < (n : Int) := by omega
              obtain rfl : a = n := by omega
              go_wp2
              go_roundw
              case rel => exact ⟨t + 1,by omega,by go_num,HBZ,Lib.hid (by rw [HNX.out];exact HGZ.out)⟩
              case measure => simp [intOf];omega
        · have ht' : ¬ (t : Int) < (n : Int) := by omega
          obtain rfl : t = n := by omega
          have hrl : (ps.map fun p => roadF p.1 p.2).length ≤ 12 := by rw [List.length_map];exact hl12
          have HTB := Lib.hid (show (closeN t t (tableE ps)).length = 64 by rw [closeN_len2,HTL.out])
          have HOZ := Lib.hid (show Owned 2 RFact (w.heap.size + 2) 38 (fun b => w.heap.size + 2 ≤ b) wr u8 ((ps.map fun p => roadF p.1 p.2) ++ (List.range 0).map townF) by
            rw [List.range_zero,List.map_nil,List.append_nil]
            exact HO.out.keep RFact.steady (HBZ.out.agree (fun h => by have h' : w.heap.size + 2 ≤ w.heap.size + 1 := h;omega)) (fun g hg => HBZ.out.block g (HO.out.row_lt hg).2 (fun e => by have h1 := (HO.out.row_lt hg).1;have h2 := Option.some.inj e;omega)))
          have HBB := Lib.hid (show Below w.heap.size w wr from ⟨HBZ.out.os.trans HB.out.os,HBZ.out.tape.trans HB.out.tape,HBZ.out.output.trans HB.out.output,Nat.le_trans HB.out.size HBZ.out.size,fun k hk => (HBZ.out.block k (Nat.lt_of_lt_of_le hk HB.out.size) (fun e => by have h2 := Option.some.inj e;omega)).trans (HB.out.block k hk)⟩)
          have HRZ := Lib.hid (HR.out.but HBZ.out (by omega))
          generalize htc : closeN t t (tableE ps) = tb at *
          have HTC := Lib.hid htc
          clear htc
          clear HO HB HR HBZ
          go_wp2
          go_loopw [100,8] (fun i v wr => ∃ k : Nat,k ≤ t ∧ i = .int .i64 k ∧ Hid (Owned 2 RFact (w.heap.size + 2) 38 (fun b => w.heap.size + 2 ≤ b) wr v ((ps.map fun p => roadF p.1 p.2) ++ (List.range k).map townF)) ∧ Hid (Below w.heap.size w wr) ∧ Hid (Blk wr w.heap.size 70 (cellsOf table0)) ∧ Hid (Blk wr (w.heap.size + 1) 70 (cellsOf tb))) (fun i _ _ => t - (intOf i).toNat)
          case atStart => exact ⟨0,Nat.zero_le _,rfl,HOZ,HBB,HRZ,HGZ⟩
          case round =>
            clear HOZ HBB HRZ HGZ
            obtain ⟨k,hk,rfl,HO,HB,HR,HG⟩ := hrel
            by_cases hkt : k < t
            · have hkt' : (k : Int) < (t : Int) := by omega
              have HSN := Lib.hid (show (ps.map fun p => roadF p.1 p.2) ++ (List.range (k + 1)).map townF = ((ps.map fun p => roadF p.1 p.2) ++ (List.range k).map townF) ++ [townF k] by rw [List.range_succ,List.map_append,List.append_assoc];rfl)
              have hol : ((ps.map fun p => roadF p.1 p.2) ++ (List.range k).map townF).length ≤ 18 := by rw [List.length_append,List.length_map (f := townF),List.length_range];omega
              generalize (ps.map fun p => roadF p.1 p.2) ++ (List.range k).map townF = out at *
              have hsz := HB.out.size
              have hz3 := HG.out.lt
              go_wp2_with (first
                | (go_at_call 40;refine (townCalls k (by omega) _).mono ?_;rintro e w3 ⟨rfl,hb3⟩;have HB3 := Lib.hid (HB.out.trans (hb3.mono hsz));have HO3 := Lib.hid (HO.out.below RFact.steady hb3);have HR3 := Lib.hid (HR.out.below hb3 HR.out.lt);have HG3 := Lib.hid (HG.out.below hb3 HG.out.lt);have hs3 : wr.heap.size ≤ w3.heap.size := hb3.size;clear hb3)
                | (at_builtin;refine wpList_append_one (B := w.heap.size + 2) (e := 38) (S := fun b => w.heap.size + 2 ≤ b) (by rfl) _ _ 24 (by rfl) RFact.steady rowFacts _ out (by rfl) ((HO3.out.alloc RFact.steady _).alloc RFact.steady _) (w3.heap.size + 1) 1 #[.string xtown,.slice (some ⟨w3.heap.size,0,none⟩) 1 1] 38 (0,0) (townF k) (by rfl) (heap_new_at (by simp)) rfl (by simp [Value.oneCell']) ⟨_,rfl,RdStrs.litS (l := [tn k]) rfl (by simp [maxLen]) (by exact ⟨by omega,fun e => by have := (HO3.out.row_lt e.symm).2;omega⟩) ((Blk.new w3 9 #[.string (tn k)]).alloc _)⟩ (by omega) (by simp;omega) ?_;intro v4 w4 hown4 hg4 hat4;rw [← HSN.out] at hown4;have hrow : ∀ q,(Value.ownBlock u8) = some q → w.heap.size + 2 ≤ q := fun q hq => (HO3.out.row_lt hq).1;have HO4 := Lib.hid hown4;have HB4 := Lib.hid (((HB3.out.alloc (by omega) _).alloc (by simp;omega) _).grown hg4 (by simp;omega) (fun q hq => by have := hrow q hq;omega));have HR4 := Lib.hid (((HR3.out.alloc _).alloc _).grown hg4 (fun e => by have := hrow _ e.symm;omega));have HG4 := Lib.hid (((HG3.out.alloc _).alloc _).grown hg4 (fun e => by have := hrow _ e.symm;omega));clear hown4 hg4 hat4 hrow))
              go_roundw
              case rel => exact ⟨k + 1,by omega,by go_num,HO4,HB4,HR4,HG4⟩
              case measure => simp [intOf];omega
            · have hkt' : ¬ (k : Int) < (t : Int) := by omega
              obtain rfl : k = t := by omega
              have hrd := HO.out.read RFact.steady
              obtain ⟨fa,fc,rfl,-,-,-⟩ := id hrd.form
              have HFR := Lib.hid (hrd.more RFact.steady (S' := fun _ => True) (fun _ _ _ => trivial))
              have hol : ((ps.map fun p => roadF p.1 p.2) ++ (List.range k).map townF).length ≤ 18 := by rw [List.length_append,List.length_map (f := townF),List.length_range];omega
              have HCA := Lib.hid (show ∀ z ∈ (ps.map fun p => roadF p.1 p.2) ++ (List.range k).map townF,z.args.length ≤ 1073741824 from fun z hz => by
                rcases List.mem_append.1 hz with hz | hz
                · obtain ⟨p,-,rfl⟩ := List.mem_map.1 hz;show 2 ≤ _;decide
                · obtain ⟨p,-,rfl⟩ := List.mem_map.1 hz;show 1 ≤ _;decide)
              have HNL := Lib.hid (show ofF ((ps.map fun p => roadF p.1 p.2) ++ (List.range k).map townF) = netL k ps from rfl)
              generalize (ps.map fun p => roadF p.1 p.2) ++ (List.range k).map townF = out at *
              have hct := cellsOf_size tb
              rw [HTB.out] at hct
              have hld := load_table (P := Tryz.prog) HG.out hct
              have hldd := load_table (P := Tryz.prog) HG.out.drew hct
              have hsz := HB.out.size
              clear hrd HO
              have hz0 : (cellsOf table0).size = 64 := by rw [cellsOf_size];rfl
              have HFD := Lib.hid (RdSlice.agree RFact.steady (Below.agree (Below.refl wr.heap.size wr).drew) HFR.out)
              have HON := Lib.hid (cellsOf_one tb)
              have HKO := Lib.hid (ofNew (r := netL k ps) HNL.out HFD.out (Nat.le_trans hol (by decide)) HCA.out)
              have hszT : (Tryz.prog.info? 70).map (·.size) = some (cellsOf tb).size := by rw [hct];kernel_rfl
              have hz1 : (cellsOf table0).size = (cellsOf tb).size := by rw [hz0,hct]
              go_wp2
              refine wp_region_held_drew (S := fun w' => Blk w' (w.heap.size + 1) 70 (cellsOf tb)) (by kernel_rfl) ?_ (fun hHeld => ?_)
              · exact HG.out.drew
              refine wpAnyH_take (i := 0) (oi := ⟨some 111,_,_,_,_,_⟩) (v := ?_) rfl (by kernel_rfl) (by kernel_rfl) (by kernel_rfl) (fun _ _ _ h => h) (Or.inl ⟨by rfl,?_⟩) (by assumption) ?_
              rotate_left
              · (intro w' hSw;(try dsimp only at hSw);go_simp;try with_reducible rfl)
              try simp only [Act.put,List.setIfInBounds_toArray,List.set_cons_zero,List.set_cons_succ]
              refine wpAnyH_take (i := 2) (oi := ⟨some 113,_,_,_,_,_⟩) (v := .agg (cellsOf tb)) rfl (by kernel_rfl) (by kernel_rfl) (by kernel_rfl) (fun _ _ _ h => h) (Or.inl ⟨by rfl,?_⟩) (by assumption) ?_
              · exact yields_row (by rfl) (by rfl) (fun _ h => h) Tryz.underlying70 rfl hszT
              try simp only [Act.put,List.setIfInBounds_toArray,List.set_cons_zero,List.set_cons_succ]
              refine wpAnyH_ready (rs := [1]) (by kernel_rfl) (by simp) ?_
              refine AllReadyH.cons (o := ⟨some 112,_,_,_,_,_⟩) rfl (fun K hK => ?_) AllReadyH.nil
              go_simp
              (go_at_call 32;(with_reducible refine (HKO.out).mono ?_);rintro e w5 ⟨⟨oa,oc,rfl,hr5⟩,hb5⟩;have hb5' := (Below.refl wr.heap.size wr).drew.trans hb5;have HB5 := Lib.hid (HB.out.trans (hb5'.mono hsz));have HR5 := Lib.hid (HR.out.below hb5' HR.out.lt);have HG5 := Lib.hid (HG.out.below hb5' HG.out.lt);have HF5 := Lib.hid hr5;clear hb5 hb5' hr5)
              refine hK.out _ _ ?_ (fun hHeld => ?_)
              · exact HG5.out
              clear hK K
              try simp only [Act.put,List.setIfInBounds_toArray,List.set_cons_zero,List.set_cons_succ]
              refine wpAnyH_take (i := 3) (oi := ⟨some 6,_,_,_,_,_⟩) (v := ?_) rfl (by kernel_rfl) (by kernel_rfl) (by kernel_rfl) (fun _ _ _ h => h) (Or.inl ⟨by rfl,?_⟩) (by assumption) ?_
              rotate_left
              · (intro w' hSw;(try dsimp only at hSw);go_simp;try with_reducible rfl)
              try simp only [Act.put,List.setIfInBounds_toArray,List.set_cons_zero,List.set_cons_succ]
              refine wpAnyH_ready (rs := [4]) (by kernel_rfl) (by simp) ?_
              refine AllReadyH.cons (o := ⟨none,_,_,_,_,_⟩) rfl (fun K hK => ?_) AllReadyH.nil
              rw [if_pos (by rfl)]
              refine wp_store_row 70 (.tmp 7) (.tmp 113) (by rfl) w.heap.size (cellsOf tb) (by rfl) (by rfl) 70 (cellsOf table0) HR5.out hszT hz1 HON.out ?_
              refine hK.out _ _ ?_ (fun hHeld => ?_)
              · exact (setRow_other w5 w.heap.size (w.heap.size + 1) _ (by omega)).trans HG5.out
              clear hK K
              refine wpAnyH_done (by kernel_rfl) ?_ _
              have hwr := set_row HR5.out hz1
              go_wp2
              refine bodyPost_ret (v := .tuple #[.slice oa (netL k ps).length oc,.agg (cellsOf tb)]) ?_ rfl ⟨oa,oc,by rw [HTC.out],?_,?_⟩
              · exact results_tmp_cell Tryz.results17 _ _ w.heap.size 70 (cellsOf tb) (by rfl) (setRow_heap w5 w.heap.size _ _ _ _ HR5.out) Tryz.underlying70 rfl hszT
              · exact (RdSlice.agree RFact.steady (hwr.agree (fun h => by have h' : wr.drew.heap.size ≤ w.heap.size := h;have := HR.out.lt;have e : wr.drew.heap.size = wr.heap.size := rfl;omega)) HF5.out).more RFact.steady (fun _ _ _ => trivial)
              · exact ⟨hwr.os.trans HB5.out.os,hwr.tape.trans HB5.out.tape,hwr.output.trans HB5.out.output,Nat.le_trans HB5.out.size hwr.size,fun q hq => (hwr.block q (Nat.lt_of_lt_of_le hq HB5.out.size) (fun e => by have h2 := Option.some.inj e;omega)).trans (HB5.out.block q hq)⟩
end Go.Proofs.YtiiicochdidolaaGreat
namespace Go.Proofs.YtiiicochdidolaaGreat
def textB (s : Str) : Bytes := UInt8.ofNat s.size :: s.data.toList
def args8B (l : List Str) : Bytes := l.flatMap textB
def factB (f : PFact) : Bytes := textB f.name ++ (UInt8.ofNat f.args.length :: args8B f.args)
def factsB (l : List PFact) : Bytes := UInt8.ofNat l.length :: l.flatMap factB
def newB (n l : List PFact) : Bytes := l.map fun f => if memF f n then 1 else 0
def runB8 (r : PRun) : Bytes := UInt8.ofNat r.stratum.toNat :: UInt8.ofNat (r.rounds.toNat / 256) :: UInt8.ofNat r.rounds.toNat :: (if r.done then 1 else 0) :: (factsB r.known ++ newB r.new r.known)
def saveP (st : List Int) (q : Int) (p : List PRule) (r : PRun) : Bytes × Int := if runBad st q p r ≠ 0 then ([],runBad st q p r) else (runB8 r,0)
structure RdB where
  b : Bytes
  ok : Bool
def byteD (s : RdB) : Nat × RdB := match s.b with
  | [] => (0,⟨[],false⟩)
  | c :: r => (c.toNat,⟨r,s.ok⟩)
def textD (s : RdB) : Str × RdB := if (byteD s).2.b.length < (byteD s).1 then (⟨#[]⟩,⟨(byteD s).2.b,false⟩) else (strOf ((byteD s).2.b.take (byteD s).1),⟨(byteD s).2.b.drop (byteD s).1,(byteD s).2.ok⟩)
def argsD : Nat → RdB → List Str → List Str × RdB
  | 0,s,acc => (acc,s)
  | k + 1,s,acc => if s.ok then argsD k (textD s).2 (acc ++ [(textD s).1]) else (acc,s)
def factD (s : RdB) : PFact × RdB := (⟨(textD s).1,(argsD (byteD (textD s).2).1 (byteD (textD s).2).2 []).1⟩,(argsD (byteD (textD s).2).1 (byteD (textD s).2).2 []).2)
def listD : Nat → RdB → List PFact → List PFact × RdB
  | 0,s,acc => (acc,s)
  | k + 1,s,acc => if s.ok then listD k (factD s).2 (acc ++ [(factD s).1]) else (acc,s)
def factsD (s : RdB) : List PFact × RdB := listD (byteD s).1 (byteD s).2 []
def newD : List PFact → RdB → List PFact → List PFact × RdB
  | [],s,acc => (acc,s)
  | f :: l,s,acc => newD l (if 1 < (byteD s).1 then ⟨(byteD s).2.b,false⟩ else (byteD s).2) (if (byteD s).1 = 1 then acc ++ [f] else acc)
def d1 (b : Bytes) : Nat × RdB := byteD ⟨b,true⟩
def d2 (b : Bytes) : Nat × RdB := byteD (d1 b).2
def d3 (b : Bytes) : Nat × RdB := byteD (d2 b).2
def d4 (b : Bytes) : Nat × RdB := byteD (d3 b).2
def d5 (b : Bytes) : List PFact × RdB := factsD (d4 b).2
def d6 (b : Bytes) : List PFact × RdB := newD (d5 b).1 (d5 b).2 []
def readR (b : Bytes) : PRun := ⟨(d5 b).1,(d6 b).1,((d1 b).1 : Int),(((d2 b).1 * 256 + (d3 b).1 : Nat) : Int),(d4 b).1 == 1⟩
def formBad (b : Bytes) : Bool := !(d6 b).2.ok || decide (0 < (d6 b).2.b.length) || decide (1 < (d4 b).1)
def loadP (st : List Int) (q : Int) (p : List PRule) (b : Bytes) : PRun × Int := if formBad b then (zeroRun,2) else if runBad st q p (readR b) ≠ 0 then (zeroRun,runBad st q p (readR b)) else (readR b,0)
theorem u8_small {n : Nat} (h : n < 256) : (UInt8.ofNat n).toNat = n := by simp;omega
theorem byteD_cons (c : UInt8) (r : Bytes) (o : Bool) : byteD ⟨c :: r,o⟩ = (c.toNat,⟨r,o⟩) := rfl
theorem str_list (s : Str) : strOf s.data.toList = s := by unfold strOf;rfl
theorem str_len (s : Str) : s.data.toList.length = s.size := by rw [Array.length_toList];rfl
theorem textD_back {s : Str} (h : s.size < 256) (r : Bytes) : textD ⟨textB s ++ r,true⟩ = (s,⟨r,true⟩) := by
  unfold textD textB
  rw [List.cons_append,byteD_cons,u8_small h]
  dsimp only
  have hl := str_len s
  rw [if_neg (by rw [List.length_append];omega),List.take_append_of_le_length (by omega),List.drop_append_of_le_length (by omega),List.take_of_length_le (by omega),List.drop_eq_nil_of_le (by omega),str_list]
  rfl
theorem argsD_back : ∀ (l : List Str) (r : Bytes) (acc : List Str),(∀ a ∈ l,a.size < 256) → argsD l.length ⟨args8B l ++ r,true⟩ acc = (acc ++ l,⟨r,true⟩)
  | [],r,acc,_ => by simp [argsD,args8B]
  | a :: l,r,acc,h => by
    have e : args8B (a :: l) ++ r = textB a ++ (args8B l ++ r) := by unfold args8B;rw [List.flatMap_cons,List.append_assoc]
    rw [List.length_cons,argsD,e,if_pos rfl,textD_back (h a (by simp))]
    dsimp only
    rw [argsD_back l r _ (fun b hb => h b (by simp [hb])),List.append_assoc]
    rfl
theorem factD_back {f : PFact} (h1 : f.name.size < 256) (h2 : f.args.length < 256) (h3 : ∀ a ∈ f.args,a.size < 256) (r : Bytes) : factD ⟨factB f ++ r,true⟩ = (f,⟨r,true⟩) := by
  have e : factB f ++ r = textB f.name ++ (UInt8.ofNat f.args.length :: (args8B f.args ++ r)) := by unfold factB;rw [List.append_assoc];rfl
  unfold factD
  rw [e,textD_back h1]
  dsimp only
  rw [byteD_cons,u8_small h2]
  dsimp only
  rw [argsD_back _ _ _ h3]
  rfl
def Short (f : PFact) : Prop := f.name.size < 256 ∧ f.args.length < 256 ∧ ∀ a ∈ f.args,a.size < 256
theorem listD_back : ∀ (l : List PFact) (r : Bytes) (acc : List PFact),(∀ f ∈ l,Short f) → listD l.length ⟨l.flatMap factB ++ r,true⟩ acc = (acc ++ l,⟨r,true⟩)
  | [],r,acc,_ => by simp [listD]
  | f :: l,r,acc,h => by
    obtain ⟨h1,h2,h3⟩ := h f (by simp)
    rw [List.length_cons,listD,List.flatMap_cons,List.append_assoc,if_pos rfl,factD_back h1 h2 h3]
    dsimp only
    rw [listD_back l r _ (fun b hb => h b (by simp [hb])),List.append_assoc]
    rfl
theorem factsD_back {l : List PFact} (h : l.length < 256) (hs : ∀ f ∈ l,Short f) (r : Bytes) : factsD ⟨factsB l ++ r,true⟩ = (l,⟨r,true⟩) := by
  unfold factsD factsB
  rw [List.cons_append,byteD_cons,u8_small h]
  dsimp only
  rw [listD_back l r [] hs]
  rfl
theorem newD_back (n : List PFact) : ∀ (l : List PFact) (r : Bytes) (acc : List PFact),newD l ⟨newB n l ++ r,true⟩ acc = (acc ++ l.filter (fun f => memF f n),⟨r,true⟩)
  | [],r,acc => by simp [newD,newB]
  | f :: l,r,acc => by
    have e : newB n (f :: l) ++ r = (if memF f n then 1 else 0) :: (newB n l ++ r) := rfl
    rw [newD,e,byteD_cons]
    cases hm : memF f n
    · dsimp only
      rw [if_neg Bool.false_ne_true,if_neg (by decide),if_neg (by decide),newD_back n l r acc,List.filter_cons,hm]
      rfl
    · dsimp only
      rw [if_pos rfl,if_neg (by decide),if_pos (by decide),newD_back n l r _,List.filter_cons,hm,if_pos rfl,List.append_assoc]
      rfl
theorem named_short {s : Str} (h : named s = true) : s.size < 256 := by
  unfold named nameL at h
  have := str_len s
  simp only [Bool.and_eq_true,decide_eq_true_eq] at h
  omega
theorem wrong_short {f : PFact} (h : wrongF f = 0) : Short f := by
  obtain ⟨h1,h2,h3⟩ := wrongF_zero.1 h
  exact ⟨named_short h1,by omega,fun a ha => named_short (h3 a ha)⟩
theorem filter_new {k n : List PFact} (hk : Rising k) (hn : Rising n) (hs : ∀ x ∈ n,x ∈ k) : k.filter (fun f => memF f n) = n :=
  rising_ext (List.Pairwise.filter _ hk) hn fun x => by
    rw [List.mem_filter,memF_iff]
    exact ⟨fun h => h.2,fun h => ⟨hs x h,h⟩⟩
theorem load_save {st : List Int} {q : Int} {p : List PRule} {r : PRun} (hc : countP st ≤ 16) (h : runBad st q p r = 0) : formBad (runB8 r) = false ∧ readR (runB8 r) = r := by
  obtain ⟨rfl,hok⟩ := runBad_zero.1 h
  have hk := hok.known
  have hn := hok.new
  have e1 : d1 (runB8 r) = (r.stratum.toNat,⟨UInt8.ofNat (r.rounds.toNat / 256) :: UInt8.ofNat r.rounds.toNat :: (if r.done then 1 else 0) :: (factsB r.known ++ newB r.new r.known),true⟩) := by
    unfold d1 runB8;rw [byteD_cons,u8_small (by have := hok.s0;have := hok.s1;omega)]
  have e2 : d2 (runB8 r) = (r.rounds.toNat / 256,⟨UInt8.ofNat r.rounds.toNat :: (if r.done then 1 else 0) :: (factsB r.known ++ newB r.new r.known),true⟩) := by
    unfold d2;rw [e1];dsimp only;rw [byteD_cons,u8_small (by have := hok.r0;have := hok.r1;omega)]
  have e3 : d3 (runB8 r) = (r.rounds.toNat % 256,⟨(if r.done then 1 else 0) :: (factsB r.known ++ newB r.new r.known),true⟩) := by
    unfold d3;rw [e2];dsimp only;rw [byteD_cons,UInt8.toNat_ofNat']
  have e4 : d4 (runB8 r) = (if r.done then 1 else 0,⟨factsB r.known ++ newB r.new r.known,true⟩) := by
    unfold d4;rw [e3];dsimp only;rw [byteD_cons];cases r.done <;> rfl
  have e5 : d5 (runB8 r) = (r.known,⟨newB r.new r.known,true⟩) := by
    unfold d5;rw [e4];dsimp only;rw [factsD_back (by have := hk.len;omega) (fun f hf => wrong_short (hk.fine f hf))]
  have e6 : d6 (runB8 r) = (r.new,⟨[],true⟩) := by
    have h1 := newD_back r.new r.known [] []
    rw [List.append_nil,List.nil_append,filter_new hk.rise hn.rise hok.sub] at h1
    unfold d6;rw [e5];exact h1
  refine ⟨?_,?_⟩
  · unfold formBad;rw [e6,e4];cases r.done <;> rfl
  · unfold readR
    rw [e1,e2,e3,e4,e5,e6]
    obtain ⟨k,n,s,x,dn⟩ := r
    have h1 := hok.s0
    have h2 := hok.r0
    dsimp only at h1 h2 ⊢
    congr 1
    · omega
    · omega
    · cases dn <;> rfl
theorem load_zero {st : List Int} {q : Int} {p : List PRule} {b : Bytes} (h : (loadP st q p b).2 = 0) : formBad b = false ∧ runBad st q p (readR b) = 0 ∧ (loadP st q p b).1 = readR b := by
  unfold loadP at h ⊢
  cases hf : formBad b
  · rw [hf] at h
    rw [if_neg Bool.false_ne_true] at h ⊢
    by_cases hr : runBad st q p (readR b) = 0
    · rw [if_neg (by simpa using hr)];exact ⟨rfl,hr,rfl⟩
    · rw [if_pos hr] at h;exact absurd h hr
  · rw [hf,if_pos rfl] at h;exact absurd h (show (2 : Int) ≠ 0 by decide)
end Go.Proofs.YtiiicochdidolaaGreat
namespace Go.Proofs.YtiiicochdidolaaGreat
open Go.RowKit
def RProofN : Nat → Reader PProof
  | 0 => fun _ _ _ _ => False
  | n + 1 => fun S w cs x => ∃ av kv,cs = [.string x.fact.name,av,.int .i64 x.rule,kv] ∧ RdStrs S w av x.fact.args ∧ RdSlice 4 (RProofN n) S w kv x.kids
theorem RProofN.steady : ∀ n,Steady (RProofN n)
  | 0 => ⟨fun _ h => h,fun _ h => h⟩
  | n + 1 => ⟨fun h ⟨av,kv,hc,r,q⟩ => ⟨av,kv,hc,r.agree RStr.steady h,q.agree (RProofN.steady n) h⟩,fun h ⟨av,kv,hc,r,q⟩ => ⟨av,kv,hc,r.more RStr.steady h,q.more (RProofN.steady n) h⟩⟩
abbrev RdProofs (n : Nat) := RdSlice 4 (RProofN n)
attribute [local go_sem ↓] Go.wp_at_zero Go.wp_at_succ
def keyP (f : PFact) : Str := f.args.foldl (fun s a => s ++ ((⟨#[44]⟩ : Str) ++ a)) f.name
theorem foldl_snoc {α β : Type} {g : β → α → β} {l : List α} {k : Nat} {x : α} {z : β} (h : l[k]? = some x) : (l.take (k + 1)).foldl g z = g ((l.take k).foldl g z) x := by rw [List.take_add_one,h,List.foldl_append];rfl
set_option maxRecDepth 100000 in
set_option maxHeartbeats 4000000 in
theorem keyCalls {S : Nat → Prop} (f : PFact) (b off : Nat) (av : Value) (w : World) (h0 : w.cell? ⟨b,off,none⟩ = some (.string f.name)) (h1 : w.cell? ⟨b,off + 1,none⟩ = some av) (ha : RdStrs S w av f.args)
    (n1 : f.name.size ≤ 1048576) (n2 : f.args.length ≤ 1048576) (n3 : ∀ a ∈ f.args,a.size ≤ 1048576) :
    Calls Tryz.prog 81 #[.pointer (some ⟨b,off,none⟩)] w fun e w' => e = .returned (.string (keyP f)) ∧ w' = w := by
  obtain ⟨fn,fa⟩ := f
  dsimp only at *
  obtain ⟨a,c,rfl,-,-,-⟩ := id ha.form
  have H := Lib.hid ha
  have N3 := Lib.hid n3
  have HZ0 := Lib.hid (show fn = (fa.take 0).foldl (fun s a => s ++ ((⟨#[44]⟩ : Str) ++ a)) fn from rfl)
  have HE := Lib.hid (show keyP ⟨fn,fa⟩ = fa.foldl (fun s a => s ++ ((⟨#[44]⟩ : Str) ++ a)) fn from rfl)
  clear ha n3
  go_enter Tryz.func81,Tryz.ntmps81
  go_wp2
  go_loop [15,3] (fun i s => ∃ (k : Nat) (z : Str),k ≤ fa.length ∧ i = .int .i64 k ∧ s = .string z ∧ Hid (z = (fa.take k).foldl (fun s a => s ++ ((⟨#[44]⟩ : Str) ++ a)) fn) ∧ Hid (z.size ≤ 1048576 + k * 1048577)) (fun i _ => fa.length - (intOf i).toNat)
  case atStart => exact ⟨0,fn,Nat.zero_le _,rfl,rfl,HZ0,Lib.hid (by omega)⟩
  case round =>
    clear HZ0
    obtain ⟨k,z,hk,rfl,rfl,HZ,HS⟩ := hrel
    by_cases hlt : k < fa.length
    · obtain ⟨x,hx⟩ : ∃ x,fa[k]? = some x := ⟨_,List.getElem?_eq_getElem hlt⟩
      obtain ⟨b1,o1,rfl,-,-,d1⟩ := RdStrs.at H.out hx
      have hxs := N3.out x (List.mem_of_getElem? hx)
      have HF := Lib.hid (show z ++ ((⟨#[44]⟩ : Str) ++ x) = (fa.take (k + 1)).foldl (fun s a => s ++ ((⟨#[44]⟩ : Str) ++ a)) fn by rw [foldl_snoc hx,HZ.out])
      have hzs := HS.out
      clear hx HZ HS
      go_wp2
      go_round
      case rel => exact ⟨k + 1,_,by omega,by go_num,rfl,HF,Lib.hid (by rw [ByteArray.size_append,ByteArray.size_append,show (⟨#[44]⟩ : ByteArray).size = 1 from rfl];omega)⟩
      case measure => simp [intOf];omega
    · have htk : fa.take k = fa := List.take_of_length_le (by omega)
      rw [htk] at HZ
      go_wp2
      go_ret
      exact ⟨by rw [HE.out,← HZ.out];rfl,rfl⟩
theorem key_foldl : ∀ (l : List Str) (z : Str),(∀ a ∈ l,a.size ≤ 12) → (l.foldl (fun s a => s ++ ((⟨#[44]⟩ : Str) ++ a)) z).size ≤ z.size + 13 * l.length
  | [],z,_ => by simp
  | a :: l,z,h => by
    have h1 := key_foldl l (z ++ ((⟨#[44]⟩ : Str) ++ a)) fun y hy => h y (by simp [hy])
    rw [ByteArray.size_append,ByteArray.size_append,show (⟨#[44]⟩ : ByteArray).size = 1 from rfl] at h1
    have h2 := h a (by simp)
    rw [List.foldl_cons,List.length_cons]
    omega
theorem key_size {f : PFact} (h1 : f.name.size ≤ 12) (h2 : f.args.length ≤ 4) (h3 : ∀ a ∈ f.args,a.size ≤ 12) : (keyP f).size ≤ maxLen := by
  have hm : (64 : Nat) ≤ maxLen := by simp [maxLen]
  have h4 : f.name.size + 13 * f.args.length ≤ 64 := by omega
  exact Nat.le_trans (key_foldl f.args f.name h3) (Nat.le_trans h4 hm)
end Go.Proofs.YtiiicochdidolaaGreat
namespace Go.Proofs.YtiiicochdidolaaGreat
open Go.RowKit
theorem meetL_grow : ∀ (ts : List PTerm) (ns : List Str) (l m : Binds),meetL l ts ns = some m → m.length ≤ l.length + ts.length
  | [],ns,l,m,h => by
    have h' : some l = some m := h
    obtain rfl := Option.some.inj h'
    simp
  | t :: ts,[],l,m,h => by
    have h' : (none : Option Binds) = some m := h
    cases h'
  | t :: ts,n :: ns,l,m,h => by
    rw [meetL] at h
    cases hv : valT l t with
    | none =>
      rw [hv] at h
      have := meetL_grow ts ns _ m h
      simp only [List.length_append,List.length_cons,List.length_nil] at this ⊢
      omega
    | some z =>
      rw [hv] at h
      dsimp only at h
      split at h
      · have := meetL_grow ts ns _ m h
        simp only [List.length_cons]
        omega
      · cases h
theorem meetP_grow {a : PAtom} {f : PFact} {l m : Binds} (h : meetP a f l = some m) : m.length ≤ l.length + a.terms.length := by
  unfold meetP at h
  split at h
  · exact meetL_grow _ _ _ _ h
  · cases h
theorem drop_get {α : Type} {l : List α} {n : Nat} {x : α} (h : l[n]? = some x) : l.drop n = x :: l.drop (n + 1) := List.drop_eq_getElem?_toList_append.trans (by rw [h];rfl)
theorem RdBinds.nilS {S : Nat → Prop} {w : World} : RdBinds S w (.slice none 0 0) [] := ⟨none,0,rfl,Nat.le_refl _,Nat.zero_le _,fun _ => rfl,fun i x h => by simp at h⟩
theorem meetKnown {S S2 S3 : Nat → Prop} {a : PAtom} {tv : Value} {f : PFact} {fv lv : Value} {l m : Binds} {w : World} (hm : meetP a f l = some m) (ht : RdTerms S w tv a.terms) (hf : RdStrs S2 w fv f.args) (hl : RdBinds S3 w lv l) (n1 : a.terms.length ≤ 1048576) (n2 : f.args.length ≤ 1048576) (n3 : l.length ≤ 536870912) :
    Calls Tryz.prog 92 #[.agg #[.bool a.neg,.string a.name,tv],.agg #[.string f.name,fv],lv] w fun e w' => (∃ ba bc,e = .returned (.tuple #[.slice ba m.length bc,.bool true]) ∧ RdBinds (fun _ => True) w' (.slice ba m.length bc) m) ∧ Below w.heap.size w w' :=
  (meetCalls a tv f fv lv l w ht hf hl n1 n2 n3).mono fun e w' ⟨h1,h2⟩ => by
    rw [hm] at h2
    obtain ⟨v,he,ho⟩ := h2
    have hr := (ho.read).more RBind.steady (S' := fun _ => True) (fun _ _ _ => trivial)
    obtain ⟨ba,bc,rfl,-,-,-⟩ := id hr.form
    exact ⟨⟨ba,bc,he,hr⟩,h1⟩
theorem meetMiss {S S2 S3 : Nat → Prop} {a : PAtom} {tv : Value} {f : PFact} {fv lv : Value} {l : Binds} {w : World} (hm : meetP a f l = none) (ht : RdTerms S w tv a.terms) (hf : RdStrs S2 w fv f.args) (hl : RdBinds S3 w lv l) (n1 : a.terms.length ≤ 1048576) (n2 : f.args.length ≤ 1048576) (n3 : l.length ≤ 536870912) :
    Calls Tryz.prog 92 #[.agg #[.bool a.neg,.string a.name,tv],.agg #[.string f.name,fv],lv] w fun e w' => e = .returned (.tuple #[.slice none 0 0,.bool false]) ∧ Below w.heap.size w w' :=
  (meetCalls a tv f fv lv l w ht hf hl n1 n2 n3).mono fun e w' ⟨h1,h2⟩ => by
    rw [hm] at h2
    exact ⟨h2,h1⟩
attribute [local go_sem ↓] Go.wp_at_zero Go.wp_at_succ
end Go.Proofs.YtiiicochdidolaaGreat
namespace Go.Proofs.YtiiicochdidolaaGreat
open Go.RowKit Go.ChangeShapes Go.WideShapes Go.Deep
theorem bulk_append {H : Type} (l r : List (DataW H)) : Rows.uptoBulkAll (l ++ r) = Rows.uptoBulkAll l + Rows.uptoBulkAll r := by
  induction l with
  | nil => simp [Rows.uptoBulkAll]
  | cons x l ih => simp only [List.cons_append,Rows.uptoBulkAll,ih];omega
theorem cell_spot {w : World} {a : Addr} {v : Value} (h : w.cell? a = some v) : a.spot = none ∧ a.block < w.heap.size := by
  unfold World.cell? at h
  split at h
  · rename_i c t f hc
    refine ⟨?_,(Array.getElem?_eq_some_iff.1 hc).1⟩
    cases hs : a.spot with
    | none => rfl
    | some s => rw [hs] at h;simp at h
  · cases h
def sizeL {α : Type} (size : α → Nat) (l : List α) : Nat := 1 + (l.map size).sum
theorem sizeL_le {α : Type} {size : α → Nat} (hp : ∀ x,1 ≤ size x) (l : List α) : l.length + 1 ≤ sizeL size l := by
  unfold sizeL
  induction l with
  | nil => simp
  | cons x l ih => have := hp x;simp only [List.map_cons,List.sum_cons,List.length_cons];omega
structure Opens {α : Type} (P : Program) (t : TypeId) (k : Nat) (R : Reader α) (size : α → Nat) : Prop where
  cells : P.cellsOf t = k
  pos : 0 < k
  one : ∀ x,1 ≤ size x
  opn : ∀ {H : Type} {enc : TypeId × Value → H} {w : World} {n : Nat} {cs : List Value} {x : DataW H × List MemPlace},DataW.trod enc P w 0 (fun _ => true) true n t cs = some x → ∃ y,R (fun _ => True) w cs y ∧ size y ≤ Rows.uptoBulk x.1
theorem Opens.slice {α : Type} {P : Program} {t e : TypeId} {k : Nat} {R : Reader α} {size : α → Nat} (h : Opens P e k R size) (ht : P.underlying t = some (.slice e)) {H : Type} {enc : TypeId × Value → H} {w : World} {n : Nat} {cs : List Value} {x : DataW H × List MemPlace}
    (hx : DataW.trod enc P w 0 (fun _ => true) true n t cs = some x) : ∃ v l,cs = [v] ∧ RdSlice k R (fun _ => True) w v l ∧ sizeL size l ≤ Rows.uptoBulk x.1 := by
  rcases open_slice ht hx with ⟨rfl,rfl⟩ | ⟨a,len,cap,m,n',D,Pl,rfl,-,hl,hm,hmm,rfl,hi⟩
  · exact ⟨_,[],rfl,⟨none,0,rfl,Nat.le_refl _,Nat.zero_le _,fun _ => rfl,fun i x hx => by simp at hx⟩,by simp [sizeL,Rows.uptoBulk]⟩
  · simp only [if_true] at hmm
    subst hmm
    have main : ∀ j,j ≤ len → ∃ l : List α,l.length = j ∧ (∀ i y,l[i]? = some y → ∃ cs',w.cells? 0 (a.add (i * P.cellsOf e)) (P.cellsOf e) = some cs' ∧ R (fun _ => True) w cs' y) ∧ (l.map size).sum ≤ Rows.uptoBulkAll ((List.range j).map D) := by
      intro j
      induction j with
      | zero => exact fun _ => ⟨[],rfl,fun i y hy => by simp at hy,by simp⟩
      | succ j ih =>
        intro hj
        obtain ⟨l,h1,h2,h3⟩ := ih (by omega)
        obtain ⟨cs',g1,g2⟩ := hi j (by omega)
        obtain ⟨y,r1,r2⟩ := h.opn g2
        refine ⟨l ++ [y],by simp [h1],fun i z hz => ?_,?_⟩
        · by_cases hij : i < j
          · rw [List.getElem?_append_left (by omega)] at hz;exact h2 i z hz
          · rw [List.getElem?_append_right (by omega)] at hz
            have : i - l.length = 0 := by
              have := (List.getElem?_eq_some_iff.1 hz).1
              simp at this;omega
            rw [this] at hz
            obtain rfl : y = z := by simpa using hz
            obtain rfl : i = j := by omega
            exact ⟨cs',g1,r1⟩
        · rw [List.range_succ,List.map_append (f := D),bulk_append,List.map_append,List.sum_append]
          simp [Rows.uptoBulkAll]
          simp at r2
          omega
    obtain ⟨l,h1,h2,h3⟩ := main len (Nat.le_refl _)
    refine ⟨_,l,rfl,⟨some a,m,by rw [h1],by omega,hm,(fun e => by cases e),fun i y hy => ?_⟩,by simp only [sizeL,Rows.uptoBulk];omega⟩
    obtain ⟨cs',g1,g2⟩ := h2 i y hy
    obtain ⟨-,hlen,hget⟩ := World.cells?_some g1
    rw [h.cells] at hlen hget
    have hk := h.pos
    obtain ⟨b,off,spot⟩ := a
    have hspot : spot = none ∧ b < w.heap.size := by
      obtain ⟨y0,hy0⟩ : ∃ y0,l[0]? = some y0 := ⟨_,List.getElem?_eq_getElem (by have := (List.getElem?_eq_some_iff.1 hy).1;omega)⟩
      obtain ⟨cs0,g3,-⟩ := h2 0 y0 hy0
      obtain ⟨-,hlen0,hget0⟩ := World.cells?_some g3
      rw [h.cells] at hlen0 hget0
      have h0 := hget0 0 hk
      rw [List.getElem?_eq_getElem (by omega)] at h0
      have := cell_spot h0
      simpa [Addr.add] using this
    obtain ⟨rfl,hb⟩ := hspot
    refine ⟨b,off,cs',rfl,trivial,hb,hlen,fun j u hu => ?_,g2⟩
    · have hj : j < k := by rw [← hlen];exact (List.getElem?_eq_some_iff.1 hu).1
      have := hget j hj
      rw [hu] at this
      have hadd : ((⟨b,off,none⟩ : Addr).add (i * k)).add j = ⟨b,off + i * k + j,none⟩ := by
        unfold Addr.add
        split
        · split
          · simp_all
          · simp_all
        · split <;> simp_all <;> omega
      rwa [hadd] at this
theorem Opens.sliceArg {α : Type} {P : Program} {t e : TypeId} {k : Nat} {R : Reader α} {size : α → Nat} (h : Opens P e k R size) (ht : P.underlying t = some (.slice e)) {H : Type} {enc : TypeId × Value → H} {W : World} {r : Reach} {b : Nat} {v : Value} {d : DataW H} {p : List MemPlace}
    (hv : Value.okWide P W r b t v) (hd : DataW.Trod enc P W 0 (fun _ => true) true t v d p) : ∃ l,RdSlice k R (fun _ => True) W v l ∧ sizeL size l ≤ Rows.uptoBulk d := by
  obtain ⟨a,len,cap,rfl⟩ := okWide_slice ht hv
  obtain ⟨n,hn⟩ := hd
  obtain ⟨v',l,e1,hr,hb⟩ := h.slice ht hn
  have e2 : [Value.slice a len cap] = [v'] := e1
  obtain rfl : Value.slice a len cap = v' := by simpa using e2
  exact ⟨l,hr,hb⟩
theorem Opens.intArg {P : Program} {t : TypeId} (h : Opens P t 1 RInt (fun _ => 1)) (ht : P.underlying t = some (.int .i64)) {H : Type} {enc : TypeId × Value → H} {W : World} {r : Reach} {b : Nat} {v : Value} {d : DataW H} {p : List MemPlace}
    (hv : Value.okWide P W r b t v) (hd : DataW.Trod enc P W 0 (fun _ => true) true t v d p) : ∃ n : Int,v = .int .i64 n ∧ 1 ≤ Rows.uptoBulk d := by
  obtain ⟨s,rfl⟩ := okWide_int ht hv
  obtain ⟨n,hn⟩ := hd
  obtain ⟨y,e,hb⟩ := h.opn hn
  exact ⟨_,rfl,hb⟩
def sizeInt (_ : Int) : Nat := 1
theorem openInt : Opens Tryz.prog 3 1 RInt sizeInt where
  cells := by kernel_rfl
  pos := by omega
  one _ := by simp [sizeInt]
  opn h := by
    obtain ⟨s,rfl,rfl,-⟩ := DataW.trod_int Tryz.underlying3 h
    exact ⟨s,rfl,by simp [sizeInt,Rows.uptoBulk]⟩
theorem trodAll_carry {H : Type} {enc : TypeId × Value → H} {P : Program} (hl : laidOutB P = true) {W W' : World} (hb : Below W.heap.size W W') {sp : Nat → Bool} :
    ∀ {ts : List TypeId} {vs : List Value} {ds : List (DataW H)} {ps : List MemPlace},ts.all (fun t => P.readableRec t && decide (t < P.types.size)) = true → (∀ x ∈ ps,x.block < W.heap.size) → (∀ x ∈ ps,sp x.block = true) →
      DataW.TrodAll enc P W 0 (fun _ => true) true ts vs ds ps → DataW.TrodAll enc P W' 0 sp true ts vs ds ps
  | [],_,_,_,_,_,_,h => by
    obtain ⟨rfl,rfl,rfl⟩ := trodAll_nil h
    exact trodAll_mk0
  | t :: ts,_,_,_,ht,hlt,hsp,h => by
    obtain ⟨v,vs1,d,ds1,a,b,rfl,rfl,rfl,h1,h2⟩ := trodAll_cons h
    simp only [List.all_cons,Bool.and_eq_true,decide_eq_true_eq] at ht
    exact ⟨a,b,WideElems.Trod_stays hl ht.1.1 ht.1.2 h1 (fun x hx => hb.same (hlt x (by simp [hx]))) (fun x hx => hsp x (by simp [hx])),
      trodAll_carry hl hb (by simpa using ht.2) (fun x hx => hlt x (by simp [hx])) (fun x hx => hsp x (by simp [hx])) h2,rfl⟩
theorem law_post {H : Type} {enc : TypeId × Value → H} {P : Program} {f : Func} {s : ChangeSpec} {fresh handsOn again : Bool} {W W' : World} {args : Array Value} {ds gs : List (DataW H)} {before : List MemPlace} {tb : TypeId}
    (hW : DataW.Whole enc P f.params.toList s.vars false W args.toList ds gs before) (hv : s.vars = []) (hfn : s.fn H ds = { results := [.lit (.bool true)],args := ds }) (hrt : f.resultTypes = #[tb]) (htb : P.underlying tb = some .bool)
    (hl : laidOutB P = true) (hread : f.params.toList.all (fun t => P.readableRec t && decide (t < P.types.size)) = true) (hb : Below W.heap.size W W') : s.post enc P f false fresh handsOn again W args (.bool true) W' := by
  have hlt := hW.lt
  have hold : ∀ p ∈ before,(fun b => decide (b < W.heap.size)) p.block = true := fun p hp => by simpa using hlt p hp
  have hW' := hW
  obtain ⟨p,q,hA,hV,rfl,hz,hn⟩ := hW
  rw [hv] at hV
  obtain ⟨rfl,rfl⟩ := trodVars_none hV
  have hds : ds ++ ([] : List (DataW H)) = ds := List.append_nil _
  have hargs : ∀ sp : Nat → Bool,(∀ x ∈ p,sp x.block = true) → DataW.TrodAll enc P W' 0 sp true f.params.toList args.toList (s.fn H (ds ++ [])).args p := fun sp hsp => by
    rw [hds,hfn]
    exact trodAll_carry hl hb hread (fun x hx => hlt x (by simp [hx])) hsp hA
  have hres : ∀ (b : Nat) (sp : Nat → Bool) (hd : Bool),DataW.TrodAll enc P W' b sp hd f.resultTypes.toList ((Value.bool true).resultList f.resultTypes.size) (s.fn H (ds ++ [])).results [] := fun b sp hd => by
    rw [hds,hfn,hrt]
    exact trodAll_cons_mk (shut_bool htb _) trodAll_mk0
  have hvars : ∀ sp : Nat → Bool,DataW.TrodVars enc P W' sp s.vars (s.fn H (ds ++ [])).vars [] := fun sp => by
    rw [hds,hfn,hv];rfl
  refine ⟨ds,[],p ++ [],[],p,[],hW',hres _ _ _,hargs _ (fun x hx => hold x (by simp [hx])),hvars _,World.keptBut_mono (fun x hx => ⟨hx,Or.inr (by simpa using hx)⟩) (hb.frame (· ∈ p ++ [])),fun _ => ?_⟩
  refine ⟨ok_one hrt rfl (okWide_bool_mk htb _),_,_,([] ++ p) ++ [],⟨[] ++ p,[],trodAll_append (hargs _ (fun _ _ => rfl)) (hres _ _ _),hvars _,rfl,?_,?_⟩,?_⟩
  · intro b off hp
    have hb' : b < W.heap.size := hlt (.cell b off) (by simpa using hp)
    rw [hb.frozen (p := ⟨b,off,none⟩) hb']
    exact hz b off (by simpa using hp)
  · intro ha;cases ha
  · intro x hx _
    simpa using hx
end Go.Proofs.YtiiicochdidolaaGreat
namespace Go.Proofs.YtiiicochdidolaaGreat
end Go.Proofs.YtiiicochdidolaaGreat
