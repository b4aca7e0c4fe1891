/-
  THE TEXTS DeskR2, RoundW1, one behind the other.
-/
import Derived.Test.YtiiicochdidolaaGreatTk4
import Derived.Test.YtiiicochdidolaaGreatTk10
import Derived.Test.YtiiicochdidolaaGreatTk16
import Derived.Test.YtiiicochdidolaaGreatTk19
import Derived.Test.YtiiicochdidolaaGreatTk23
namespace Go.Proofs.YtiiicochdidolaaGreat
open Go.RowKit
theorem but_grown {B : Nat} {a w w' : World} {row : Option Nat} (h : But B a w) (hg : w.grownBy w' row) (hr : ∀ q,row = some q → a.heap.size ≤ q) : But B a w' :=
  ⟨h.os ▸ hg.os ▸ rfl,h.tape ▸ hg.tape ▸ rfl,h.output ▸ hg.output ▸ rfl,Nat.le_trans h.size hg.size,fun k hk hne => (hg.block k (Nat.lt_of_lt_of_le hk h.size) (fun e => by have := hr k e.symm;omega)).trans (h.block k hk hne)⟩
theorem Rr.grownBy {B : Nat} {s : RdB} {w w' : World} {row : Option Nat} (h : Rr B s w) (hg : w.grownBy w' row) (hr : ∀ q,row = some q → B < q) : Rr B s w' := by
  obtain ⟨v,h1,h2⟩ := h
  exact ⟨v,h1.grown hg (fun e => by have := hr B e.symm;omega),h2.agree RU8.steady ⟨hg.size,fun b hb hl => hg.block b hl (fun e => by have := hr b e.symm;omega)⟩⟩
theorem argsD_stop {s : RdB} (k : Nat) (acc : List Str) (h : s.ok = false) : argsD k s acc = (acc,s) := by cases k <;> simp [argsD,h]
theorem argsD_go {s : RdB} (k : Nat) (acc : List Str) (h : s.ok = true) : argsD (k + 1) s acc = argsD k (textD s).2 (acc ++ [(textD s).1]) := by simp [argsD,h]
theorem listD_stop {s : RdB} (k : Nat) (acc : List PFact) (h : s.ok = false) : listD k s acc = (acc,s) := by cases k <;> simp [listD,h]
theorem listD_go {s : RdB} (k : Nat) (acc : List PFact) (h : s.ok = true) : listD (k + 1) s acc = listD k (factD s).2 (acc ++ [(factD s).1]) := by simp [listD,h]
attribute [local go_sem ↓] Go.wp_at_zero Go.wp_at_succ
set_option maxRecDepth 100000 in
set_option maxHeartbeats 8000000 in
theorem rfactsCalls (B : Nat) (s : RdB) (w : World) (h : Rr B s w) :
    Calls Tryz.prog 42 #[.pointer (some ⟨B,0,none⟩)] w fun e w' => ∃ v,e = .returned v ∧ RdFacts (New w) w' v (factsD s).1 ∧ Rr B (factsD s).2 w' ∧ But B w w' := by
  have hBw := h.lt
  have KB := Lib.hid (byteCalls B s w h)
  have hn := byteD_lt s
  obtain ⟨g,HG⟩ : ∃ g,Hid (factsD s = g) := ⟨_,Lib.hid rfl⟩
  have HG1 := Lib.hid (show listD (byteD s).1 (byteD s).2 [] = g from HG.out)
  rw [HG.out]
  rcases hbd : byteD s with ⟨n,s1⟩
  rw [hbd] at KB HG1 hn
  dsimp only at KB HG1 hn
  clear h hbd HG
  go_enter Tryz.func42,Tryz.ntmps42
  go_wp2_with (go_at_call 41;refine (KB.out).mono ?_;rintro e w1 ⟨rfl,hr1,hb1⟩;have HR1 := Lib.hid hr1;have HB1 := Lib.hid hb1;clear hr1 hb1)
  clear KB
  go_loopw [4,3] (fun i o wr => ∃ (k : Nat) (sk : RdB) (acc : List PFact),i = .int .i64 k ∧ acc.length + k < 256 ∧ Hid (Rr B sk wr) ∧ Hid (But B w wr) ∧ Hid (Owned 2 RFact w.heap.size 38 (New w) wr o acc) ∧ Hid (listD k sk acc = g)) (fun i _ _ => (intOf i).toNat)
  case atStart => exact ⟨n,s1,[],rfl,by simpa using hn,HR1,HB1,Lib.hid Owned.nil,HG1⟩
  case round =>
    clear HR1 HB1 HG1 hn
    obtain ⟨k,sk,acc,rfl,hak,HR,HB,HO,HG⟩ := hrel
    obtain ⟨oa,oc,rfl,-,-,-⟩ := id (HO.out.read RFact.steady).form
    obtain ⟨vr,hvr⟩ : ∃ vr,Blk wr B 109 #[vr,.bool sk.ok] := ⟨_,HR.out.choose_spec.1⟩
    have c1 := hvr.cell 1
    simp only [List.getElem?_toArray,List.getElem?_cons_zero,List.getElem?_cons_succ] at c1
    clear hvr
    cases k with
    | zero =>
      have HE := Lib.hid (show (acc,sk) = g from HG.out)
      go_wp2
      go_ret
      rw [← HE.out]
      exact ⟨_,rfl,(HO.out.read RFact.steady).more RFact.steady (fun b hb _ => hb.elim id id),HR.out,HB.out⟩
    | succ k =>
      have k0 : (0 : Int) < (k : Int) + 1 := by omega
      cases hok : sk.ok with
      | false =>
        have HE := Lib.hid ((listD_stop (k + 1) acc hok).symm.trans HG.out)
        rw [hok] at c1
        go_wp2
        go_ret
        rw [← HE.out]
        exact ⟨_,rfl,(HO.out.read RFact.steady).more RFact.steady (fun b hb _ => hb.elim id id),HR.out,HB.out⟩
      | true =>
        rw [hok] at c1
        have HG2 := Lib.hid ((listD_go k acc hok).symm.trans HG.out)
        clear HG
        have KT := Lib.hid (rtextCalls B sk wr HR.out)
        unfold factD at HG2
        generalize textD sk = ts at *
        obtain ⟨nm,st⟩ := ts
        dsimp only at HG2 KT
        have KB := Lib.hid (fun W (h : Rr B st W) => byteCalls B st W h)
        have hm := byteD_lt st
        generalize byteD st = bt at *
        obtain ⟨m,sb⟩ := bt
        dsimp only at HG2 KB hm
        go_wp2_with (first
          | (go_at_call 41;have hh := HR2.out;clear hh;refine (KB.out _ (HR2.out.alloc _)).mono ?_;rintro e w3 ⟨rfl,hr3,hb3⟩;have HR3 := Lib.hid hr3;have HF3 := Lib.hid ((Blk.new w2 38 #[.string nm,.slice none 0 0]).but hb3 (by have := HR2.out.lt;omega));have HB3 := Lib.hid (((But.refl B w2).alloc (.cells #[.string nm,.slice none 0 0] 38)).trans hb3);clear hr3 hb3)
          | (go_at_call 78;refine (KT.out).mono ?_;rintro e w2 ⟨rfl,hr2,hb2⟩;have HR2 := Lib.hid hr2;have HB2 := Lib.hid (HB.out.trans hb2);have HO2 := Lib.hid (HO.out.butS RFact.steady hb2 hBw (by show ¬ w.heap.size ≤ B;omega));clear hr2 hb2))
        have HZ := Lib.hid (fun q (hq : (Value.slice oa acc.length oc).ownBlock = some q) => HO2.out.row_lt hq)
        have hB2 := HR2.out.lt
        have hw2 := HB2.out.size
        obtain ⟨A,HA⟩ : ∃ A,Hid (argsD m sb [] = A) := ⟨_,Lib.hid rfl⟩
        rw [HA.out] at HG2
        clear KB KT HR2 HO HB HR c1
        go_loopw [6] (fun i wj => ∃ (j : Nat) (sj : RdB) (al : List Str) (av : Value),i = .int .i64 j ∧ al.length + j < 256 ∧ Hid (Rr B sj wj) ∧ Hid (But B w2 wj) ∧ Hid (Blk wj w2.heap.size 38 #[.string nm,av]) ∧ Hid (Owned 1 RStr (w2.heap.size + 1) 9 (fun _ => False) wj av al) ∧ Hid (argsD j sj al = A)) (fun i _ => (intOf i).toNat)
        case atStart => exact ⟨m,sb,[],_,rfl,by simpa using hm,HR3,HB3,HF3,Lib.hid Owned.nil,HA⟩
        case round =>
          clear HR3 HB3 HF3 HA hm
          obtain ⟨j,sj,al,av,rfl,haj,HRJ,HBJ,HFJ,HOJ,HAJ⟩ := hrel
          obtain ⟨aa,ac,rfl,-,-,-⟩ := id (HOJ.out.read RStr.steady).form
          obtain ⟨vr,hvr⟩ : ∃ vr,Blk wr B 109 #[vr,.bool sj.ok] := ⟨_,HRJ.out.choose_spec.1⟩
          have c1 := hvr.cell 1
          have x0 := HFJ.out.cell 0
          have x1 := HFJ.out.cell 1
          have xf := HFJ.out.frozen 1
          simp only [List.getElem?_toArray,List.getElem?_cons_zero,List.getElem?_cons_succ] at c1 x0 x1
          clear hvr
          have jc : (0 : Int) ≤ (j : Int) := by omega
          by_cases hex : j = 0 ∨ sj.ok = false
          · have HE := Lib.hid (show (al,sj) = A from hex.elim (fun e => by subst e;exact HAJ.out) fun e => (argsD_stop j al e).symm.trans HAJ.out)
            have hcs : ¬ (0 : Int) < (j : Int) ∨ ((0 : Int) < (j : Int) ∧ sj.ok = false) := by
              rcases hex with h | h
              · exact .inl (by omega)
              · by_cases h0 : j = 0
                · exact .inl (by omega)
                · exact .inr ⟨by omega,h⟩
            have HOY := Lib.hid (HO2.out.butS RFact.steady HBJ.out hBw (by show ¬ w.heap.size ≤ B;omega))
            rw [← HE.out] at HG2
            have HRA := Lib.hid (show RFact (fun b => New w b ∧ some b ≠ (Value.slice oa acc.length oc).ownBlock) (wr.alloc (.cells #[.string nm,.slice aa al.length ac] 38)) [.string nm,.slice aa al.length ac] ⟨nm,al⟩ from ⟨_,rfl,((HOJ.out.alloc RStr.steady _).read RStr.steady).more RStr.steady (fun q hq _ => hq.elim False.elim fun hq => ⟨by show w.heap.size ≤ q;omega,fun e => by have := HZ.out q e.symm;omega⟩)⟩)
            have hjs := HBJ.out.size
            have hal : acc.length < 1099511627776 := by omega
            rcases hcs with j0 | ⟨j0,hok⟩
            all_goals
              try rw [hok] at c1
              go_wp2_with (at_builtin;refine wpList_append_one (B := w.heap.size) (e := 38) (S := New w) (by rfl) _ _ 24 (by rfl) RFact.steady rowFacts _ acc (by rfl) (HOY.out.alloc RFact.steady _) _ 1 #[.string nm,.slice aa al.length ac] 38 (0,0) ⟨nm,al⟩ (by rfl) (heap_alloc_new _ _) rfl (by simp [Value.oneCell']) HRA.out hal (by simp;omega) ?_;intro v6 w6 hown6 hg6 hat6;have HO6 := Lib.hid hown6;have HB6 := Lib.hid (but_grown ((HB2.out.trans HBJ.out).alloc (.cells #[.string nm,.slice aa al.length ac] 38)) hg6 (fun q hq => (HZ.out q hq).1));have HR6 := Lib.hid ((HRJ.out.alloc (.cells #[.string nm,.slice aa al.length ac] 38)).grownBy hg6 (fun q hq => by have := (HZ.out q hq).1;omega));clear hown6 hg6 hat6)
              go_roundw
              case rel => exact ⟨k,sj,acc ++ [⟨nm,al⟩],by go_num,by simp;omega,HR6,HB6,HO6,HG2⟩
              case measure => simp [intOf]
          · have hok : sj.ok = true := by
              cases h : sj.ok
              · exact absurd (.inr h) hex
              · rfl
            obtain ⟨jj,rfl⟩ : ∃ jj,j = jj + 1 := ⟨j - 1,by omega⟩
            have j1 : (0 : Int) < (jj : Int) + 1 := by omega
            have HA2 := Lib.hid ((argsD_go jj al hok).symm.trans HAJ.out)
            rw [hok] at c1
            have KT := Lib.hid (fun W (h : Rr B sj W) => rtextCalls B sj W h)
            generalize textD sj = tx at *
            obtain ⟨x,sx⟩ := tx
            dsimp only at HA2 KT
            have hal : al.length < 1099511627776 := by omega
            have hz1 := fun q (hq : (Value.slice aa al.length ac).ownBlock = some q) => HOJ.out.row_lt hq
            have hz : some w2.heap.size ≠ (Value.slice aa al.length ac).ownBlock := fun e => by have := (hz1 _ e.symm).1;omega
            have hwj := HBJ.out.size
            have HRD := Lib.hid HRJ.out.drew
            clear hz1 hex HAJ
            go_wp2
            go_region_law
              (first
                | (have hh := HO9.out;clear hh;refine step_append_one (by rfl) _ _ 36 (by rfl) RStr.steady rowStrs _ al (by rfl) (HO9.out.alloc RStr.steady _) _ 1 #[.string x] 9 (0,0) x (by rfl) (heap_alloc_new _ _) rfl (by simp [Value.oneCell']) rfl hal hs9 ?_;intro v10 w10 hown10 hg10 hat10;obtain ⟨xa,xc,rfl,-,-,-⟩ := id (hown10.read RStr.steady).form;have HOX := Lib.hid hown10;have HFX := Lib.hid ((HF9.out.alloc (.cells #[.string x] 9)).grown hg10 hz);have HBX := Lib.hid (but_grown (HB9.out.alloc (.cells #[.string x] 9)) hg10 (fun q hq => hq9 q hq));have HRX := Lib.hid ((HR9.out.alloc (.cells #[.string x] 9)).grownBy hg10 (fun q hq => Nat.lt_of_lt_of_le hB2 (hq9 q hq)));have y2 := HFX.out.cell 1;simp only [List.getElem?_toArray,List.getElem?_cons_zero,List.getElem?_cons_succ] at y2;have yf := HFX.out.frozen 1;clear hown10 hg10 hat10)
                | (go_simp;go_at_call 78;refine (KT.out _ HRD.out).mono ?_;rintro e w9 ⟨rfl,hr9,hb9⟩;have HR9 := Lib.hid hr9;have HB9 := Lib.hid (HBJ.out.drew.trans hb9);have HF9 := Lib.hid (HFJ.out.drew.but hb9 (by omega));have HO9 := Lib.hid ((HOJ.out.drew RStr.steady).butS RStr.steady hb9 (by omega) id);have hq9 : ∀ q,(Value.slice aa al.length ac).ownBlock = some q → w2.heap.size ≤ q := (fun q hq => by have := (HO9.out.row_lt hq).1;omega);have hs9 : w2.heap.size + 1 ≤ (w9.alloc (.cells #[.string x] 9)).heap.size := (by have := HF9.out.lt;simp;omega);have y1 := HF9.out.cell 1;have y3 := (HF9.out.alloc (.cells #[.string x] 9)).cell 1;simp only [List.getElem?_toArray,List.getElem?_cons_zero,List.getElem?_cons_succ] at y1 y3;clear hr9 hb9))
            all_goals
              have HRZ := Lib.hid (HRX.out.setCell (p := ⟨w2.heap.size,1,none⟩) hB2 (.slice xa (al ++ [x]).length xc))
              have HBZ := Lib.hid (HBX.out.setCell (p := ⟨w2.heap.size,1,none⟩) (.inr (Nat.le_refl _)) (.slice xa (al ++ [x]).length xc))
              have HFZ := Lib.hid (HFX.out.set_ 1 (.slice xa (al ++ [x]).length xc))
              have HOZ := Lib.hid (HOX.out.setCell RStr.steady (p := ⟨w2.heap.size,1,none⟩) id (fun e => Nat.not_succ_le_self _ (HOX.out.row_lt e).1) (.slice xa (al ++ [x]).length xc))
              have hlen : (al ++ [x]).length = al.length + 1 := by simp
              rw [hlen] at HRZ HBZ HFZ HOZ
              go_wp2
              go_roundw
              case rel => exact ⟨jj,sx,al ++ [x],_,by go_num,by rw [hlen];omega,HRZ,HBZ,HFZ,HOZ,HA2⟩
              case measure => simp [intOf]
end Go.Proofs.YtiiicochdidolaaGreat
namespace Go.Proofs.YtiiicochdidolaaGreat
open Go.RowKit
structure RunRd (w : World) (r : PRun) (kv nv : Value) : Prop where
  known : RdFacts (fun _ => True) w kv r.known
  new : RdFacts (fun _ => True) w nv r.new
theorem RunRd.up {w w' : World} {r : PRun} {kv nv : Value} (h : RunRd w r kv nv) (hb : Below w.heap.size w w') : RunRd w' r kv nv := ⟨h.known.up hb,h.new.up hb⟩
theorem RdFacts.newer {S : Nat → Prop} {w w' : World} {v : Value} {l : List PFact} (h : RdFacts S w' v l) (hs : ∀ b,S b → w.heap.size ≤ b) : RdFacts (New w) w' v l := h.more RFact.steady (fun b hb _ => hs b hb)
def RunPost (r : PRun × Int) (w : World) (e : Ending) (w' : World) : Prop :=
  Below w.heap.size w w' ∧ ∃ a c b d,e = .returned (.tuple #[.agg #[.slice a r.1.known.length c,.slice b r.1.new.length d,.int .i64 r.1.stratum,.int .i64 r.1.rounds,.bool r.1.done],.int .i64 r.2]) ∧ RdFacts (New w) w' (.slice a r.1.known.length c) r.1.known ∧ RdFacts (New w) w' (.slice b r.1.new.length d) r.1.new
theorem run_ret_err {r : PRun × Int} {n : Int} {w w' : World} (h : r = (zeroRun,n)) (hb : Below w.heap.size w w') : RunPost r w (.returned (.tuple #[.agg #[.slice none 0 0,.slice none 0 0,.int .i64 0,.int .i64 0,.bool false],.int .i64 n])) w' := by
  subst h;exact ⟨hb,none,0,none,0,rfl,RdFacts.nil,RdFacts.nil⟩
theorem run_ret_ok {r : PRun × Int} {k n : List PFact} {s x : Int} {dn : Bool} {w w' : World} {a b : Option Addr} {c d : Nat} (h : r = (⟨k,n,s,x,dn⟩,0)) (hb : Below w.heap.size w w') (h1 : RdFacts (New w) w' (.slice a k.length c) k) (h2 : RdFacts (New w) w' (.slice b n.length d) n) :
    RunPost r w (.returned (.tuple #[.agg #[.slice a k.length c,.slice b n.length d,.int .i64 s,.int .i64 x,.bool dn],.int .i64 0])) w' := by
  subst h;exact ⟨hb,a,c,b,d,rfl,h1,h2⟩
structure RunSmall (r : PRun) : Prop where
  k1 : r.known.length ≤ 1048576
  k2 : ∀ x ∈ r.known,x.args.length ≤ 1048576
  n1 : r.new.length ≤ 1048576
  n2 : ∀ x ∈ r.new,x.args.length ≤ 1048576
theorem range_cases {k l : List PFact} {s x n : Int} {d : Bool} : (rangeBad ⟨k,l,s,x,d⟩ n = true ∧ (x < 0 ∨ ¬ x < 0 ∧ (1000 < x ∨ ¬ 1000 < x ∧ (s < 0 ∨ ¬ s < 0 ∧ (n < s ∨ ¬ n < s ∧ (n = s ∧ d = false ∨ (s == n) = false ∧ d = true)))))) ∨
    (rangeBad ⟨k,l,s,x,d⟩ n = false ∧ ¬ x < 0 ∧ ¬ 1000 < x ∧ ¬ s < 0 ∧ ¬ n < s ∧ (n = s ∧ d = true ∨ (s == n) = false ∧ d = false)) := by
  unfold rangeBad
  dsimp only
  by_cases h1 : x < 0
  · exact .inl ⟨by simp [h1],.inl h1⟩
  by_cases h2 : 1000 < x
  · exact .inl ⟨by simp [h2],.inr ⟨h1,.inl h2⟩⟩
  by_cases h3 : s < 0
  · exact .inl ⟨by simp [h3],.inr ⟨h1,.inr ⟨h2,.inl h3⟩⟩⟩
  by_cases h4 : n < s
  · exact .inl ⟨by simp [h4],.inr ⟨h1,.inr ⟨h2,.inr ⟨h3,.inl h4⟩⟩⟩⟩
  by_cases h5 : n = s
  · subst h5
    cases d
    · exact .inl ⟨by simp,.inr ⟨h1,.inr ⟨h2,.inr ⟨h3,.inr ⟨h4,.inl ⟨rfl,rfl⟩⟩⟩⟩⟩⟩
    · exact .inr ⟨by simp [h1,h2,h3],h1,h2,h3,h4,.inl ⟨rfl,rfl⟩⟩
  · have h6 : (s == n) = false := beq_eq_false_iff_ne.2 fun e => h5 e.symm
    cases d
    · exact .inr ⟨by simp [h1,h2,h3,h4,h6],h1,h2,h3,h4,.inr ⟨h6,rfl⟩⟩
    · exact .inl ⟨by simp [h6],.inr ⟨h1,.inr ⟨h2,.inr ⟨h3,.inr ⟨h4,.inr ⟨h6,rfl⟩⟩⟩⟩⟩⟩
theorem strataTold {S : Nat → Prop} {p : List PRule} {v : Value} {st : List Int} {q : Int × Int} {w : World} (hS : StrataIs p st q) (h : RdRules S w v p) (n1 : p.length ≤ 1048576) (n2 : ∀ r ∈ p,RuleSmall r) (n3 : ∀ r ∈ p,NameSmall r) :
    Calls Tryz.prog 74 #[v] w fun e w' => Below w.heap.size w w' ∧ ∃ a c,e = .returned (.tuple #[.slice a st.length c,.agg #[.int .i64 q.1,.int .i64 q.2]]) ∧ RdInts (fun _ => True) w' (.slice a st.length c) st :=
  (strataCalls p v w h n1 n2 n3).mono fun e w' ⟨hb,v',l',q',he,hr,hs⟩ => by
    obtain ⟨rfl,rfl⟩ := hs.unique hS
    obtain ⟨a,c,rfl,-,-,-⟩ := id hr.form
    exact ⟨hb,a,c,he,hr.more RInt.steady (fun _ _ _ => trivial)⟩
theorem ownReads {S : Nat → Prop} {v : Value} {l : List PFact} {w : World} (h : RdFacts S w v l) (n1 : l.length ≤ 1048576) (n2 : ∀ x ∈ l,x.args.length ≤ 1048576) :
    Calls Tryz.prog 65 #[v] w fun e w' => (∃ a c,e = .returned (.slice a l.length c) ∧ RdFacts (New w) w' (.slice a l.length c) l) ∧ Below w.heap.size w w' :=
  (ownCalls v l w h (by omega) (fun x hx => by have := n2 x hx;omega)).mono fun e w' ⟨⟨v',he,ho⟩,hb⟩ => by
    have h' := (ho.read RFact.steady).more RFact.steady (S' := New w) (fun b hb _ => hb.elim id id)
    obtain ⟨a,c,rfl,-,-,-⟩ := id h'.form
    exact ⟨⟨a,c,he,h'⟩,hb⟩
theorem RdFacts.set_far {S : Nat → Prop} {w : World} {v : Value} {l : List PFact} (h : RdFacts S w v l) {p : Addr} (hp : ¬ S p.block) (u : Value) : RdFacts S (w.setCell p u) v l :=
  h.agree RFact.steady ⟨by simp [World.setCell],fun b hb _ => Below.heap_setCell _ _ _ _ (fun e => hp (by rw [← e];exact hb))⟩
theorem RdFacts.any {S : Nat → Prop} {w : World} {v : Value} {l : List PFact} (h : RdFacts S w v l) : RdFacts (fun _ => True) w v l := h.more RFact.steady (fun _ _ _ => trivial)
set_option maxRecDepth 100000 in
set_option maxHeartbeats 8000000 in
theorem runWrongCalls {S : Nat → Prop} (p : List PRule) (v : Value) (st : List Int) (q : Int × Int) (r : PRun) (kv nv : Value) (w : World) (hS : StrataIs p st q) (h : RdRules S w v p) (hr : RunRd w r kv nv)
    (n1 : p.length ≤ 1048576) (n2 : ∀ r ∈ p,RuleSmall r) (n3 : ∀ r ∈ p,NameSmall r) (ns : RunSmall r) :
    Calls Tryz.prog 43 #[v,.agg #[kv,nv,.int .i64 r.stratum,.int .i64 r.rounds,.bool r.done]] w fun e w' => e = .returned (.int .i64 (runBad st q.1 p r)) ∧ Below w.heap.size w w' := by
  obtain ⟨a,c,rfl,-,-,-⟩ := id h.form
  obtain ⟨ka,kc,rfl,-,-,-⟩ := id hr.known.form
  obtain ⟨na,nc,rfl,-,-,-⟩ := id hr.new.form
  obtain ⟨W0,hW0⟩ : ∃ W0 : World,w.alloc (.cells #[.slice ka r.known.length kc,.slice na r.new.length nc,.int .i64 r.stratum,.int .i64 r.rounds,.bool r.done] 28) = W0 := ⟨_,rfl⟩
  have hb0 : Below w.heap.size w W0 := by subst hW0;exact (Below.refl _ _).alloc (Nat.le_refl _) _
  have hk0 : Blk W0 w.heap.size 28 #[.slice ka r.known.length kc,.slice na r.new.length nc,.int .i64 r.stratum,.int .i64 r.rounds,.bool r.done] := by subst hW0;exact Blk.new w _ _
  have HB0 := Lib.hid hb0
  have HK0 := Lib.hid hk0
  have H := Lib.hid h
  have HR := Lib.hid hr
  have N2 := Lib.hid n2
  have N3 := Lib.hid n3
  have NS := Lib.hid ns
  have HS := Lib.hid hS
  have KS := Lib.hid (strataTold hS (h.up hb0) n1 n2 n3)
  clear h hr n2 n3 ns hb0 hk0 hS
  obtain ⟨q1,q2⟩ := q
  dsimp only at *
  by_cases hq : q1 = 0
  case neg =>
    have g1 : (q1 != 0) = true := by simpa using hq
    have HE := Lib.hid (run_bad1 (st := st) (p := p) (r := r) hq)
    clear hq
    go_enter Tryz.func43,Tryz.ntmps43
    go_wp2_with (go_at_call 74;refine (KS.out).mono ?_;rintro e w1 ⟨hb1,a1,c1,rfl,hr1⟩;have HB1 := Lib.hid (HB0.out.trans (hb1.mono (Below.size HB0.out)));clear hb1 hr1)
    go_ret
    exact ⟨ret_int HE.out.symm,HB1.out.alloc (Below.size HB1.out) _⟩
  obtain ⟨hsl,h16,h5,hz16,-,-⟩ := strata_bd HS.out hq
  have HZ := Lib.hid hz16
  have H5 := Lib.hid h5
  have HSL := Lib.hid hsl
  clear h5 hz16 hsl
  subst hq
  have KF := Lib.hid (fun W (hW : Below w.heap.size w W) => factsCalls p (.slice a p.length c) (.slice ka r.known.length kc) r.known W (H.out.up hW) (HR.out.known.up hW) h16 H5.out N2.out N3.out NS.out.k1 NS.out.k2)
  have KT := Lib.hid (fun W (hW : Below w.heap.size w W) => setCalls (.slice na r.new.length nc) r.new W (HR.out.new.up hW) (by have := NS.out.n1;omega) (fun x hx => by have := NS.out.n2 x hx;omega))
  by_cases hf : (factsBad p r.known).1 = 0
  case neg =>
    have g2 : ((factsBad p r.known).1 != 0) = true := by simpa using hf
    have HE := Lib.hid (run_bad2 (st := st) hf)
    clear hf
    generalize factsBad p r.known = f at *
    obtain ⟨f1,f2⟩ := f
    dsimp only at *
    go_enter Tryz.func43,Tryz.ntmps43
    go_wp2_with (first
      | (go_at_call 75;have hh := HB1.out;clear hh;refine (KF.out _ HB1.out).mono ?_;rintro e w2 ⟨rfl,hb2⟩;have HB2 := Lib.hid (HB1.out.trans (hb2.mono (Below.size HB1.out)));clear hb2)
      | (go_at_call 74;refine (KS.out).mono ?_;rintro e w1 ⟨hb1,a1,c1,rfl,hr1⟩;have HB1 := Lib.hid ((HB0.out.trans (hb1.mono (Below.size HB0.out))).alloc (Nat.le_trans (Below.size HB0.out) hb1.size) (.cells #[.int .i64 0,.int .i64 q2] 49));have HK1 := Lib.hid ((HK0.out.below hb1 HK0.out.lt).alloc (.cells #[.int .i64 0,.int .i64 q2] 49));have c0 := HK1.out.cell 0;simp only [List.getElem?_toArray,List.getElem?_cons_zero] at c0;clear hb1 hr1))
    go_ret
    exact ⟨ret_int HE.out.symm,HB2.out.alloc (Below.size HB2.out) _⟩
  have HGK := Lib.hid (good_of (factsBad_set hf))
  rw [hf] at KF
  generalize hf2 : (factsBad p r.known).2 = f2 at *
  clear hf2
  by_cases hs : (setF r.new).1 = 0
  case neg =>
    have g3 : ((setF r.new).1 != 0) = true := by simpa using hs
    have HE := Lib.hid (run_bad3 (st := st) hf hs)
    clear hf hs
    generalize setF r.new = f at *
    obtain ⟨s1,s2⟩ := f
    dsimp only at *
    go_enter Tryz.func43,Tryz.ntmps43
    go_wp2_with (first
      | (go_at_call 55;have hh := HB2.out;clear hh;refine (KT.out _ HB2.out).mono ?_;rintro e w3 ⟨rfl,hb3⟩;have HB3 := Lib.hid (HB2.out.trans (hb3.mono (Below.size HB2.out)));clear hb3)
      | (go_at_call 75;have hh := HB1.out;clear hh;refine (KF.out _ HB1.out).mono ?_;rintro e w2 ⟨rfl,hb2⟩;have HB2 := Lib.hid ((HB1.out.trans (hb2.mono (Below.size HB1.out))).alloc (Nat.le_trans (Below.size HB1.out) hb2.size) (.cells #[.int .i64 0,.int .i64 f2] 49));have HK2 := Lib.hid ((HK1.out.below hb2 HK1.out.lt).alloc (.cells #[.int .i64 0,.int .i64 f2] 49));have d1 := HK2.out.cell 1;simp only [List.getElem?_toArray,List.getElem?_cons_zero,List.getElem?_cons_succ] at d1;clear hb2 c0)
      | (go_at_call 74;refine (KS.out).mono ?_;rintro e w1 ⟨hb1,a1,c1,rfl,hr1⟩;have HB1 := Lib.hid ((HB0.out.trans (hb1.mono (Below.size HB0.out))).alloc (Nat.le_trans (Below.size HB0.out) hb1.size) (.cells #[.int .i64 0,.int .i64 q2] 49));have HK1 := Lib.hid ((HK0.out.below hb1 HK0.out.lt).alloc (.cells #[.int .i64 0,.int .i64 q2] 49));have c0 := HK1.out.cell 0;simp only [List.getElem?_toArray,List.getElem?_cons_zero] at c0;clear hb1 hr1))
    go_ret
    exact ⟨ret_int HE.out.symm,HB3.out.alloc (Below.size HB3.out) _⟩
  have HGN := Lib.hid (good_of hs)
  have hsz : setF r.new = (0,0) := (good_of hs).set
  rw [hsz] at KT
  have HE := Lib.hid (run_bad4 (st := st) hf hs)
  have KC := Lib.hid (fun W sv (h1 : RdInts (fun _ => True) W sv st) => countCalls sv st W h1 (by rw [HSL.out];omega) (fun z hz => by have := HZ.out z hz;omega))
  have KL := Lib.hid (fun W (hW : Below w.heap.size w W) => lessReads (HR.out.new.up hW) (HR.out.known.up hW) HGK.out.rise NS.out.n1 NS.out.n2 NS.out.k1 NS.out.k2)
  clear hf hs hsz
  generalize countP st = cn at *
  obtain ⟨rk,rn,rs,rr,rd⟩ := r
  dsimp only at *
  rcases range_cases (k := rk) (l := rn) (s := rs) (x := rr) (n := cn) (d := rd) with ⟨hx,hc⟩ | ⟨hx,h1,h2,h3,h4,hc⟩
  · rw [hx,if_pos rfl] at HE
    clear hx
    rcases hc with h1 | ⟨h1,h2 | ⟨h2,h3 | ⟨h3,h4 | ⟨h4,⟨rfl,rfl⟩ | ⟨h5,rfl⟩⟩⟩⟩⟩
    all_goals
      clear KL
      go_enter Tryz.func43,Tryz.ntmps43
      go_wp2_with (first
        | (go_at_call 76;have hh := HB3.out;clear hh;refine (KC.out _ _ HI3.out).mono ?_;rintro e w4 ⟨rfl,rfl⟩;have HB4 := HB3)
        | (go_at_call 55;have hh := HB2.out;clear hh;refine (KT.out _ HB2.out).mono ?_;rintro e w3 ⟨rfl,hb3⟩;have HB3 := Lib.hid ((HB2.out.trans (hb3.mono (Below.size HB2.out))).alloc (Nat.le_trans (Below.size HB2.out) hb3.size) (.cells #[.int .i64 0,.int .i64 0] 49));have HI3 := Lib.hid (HI2.out.up (hb3.alloc hb3.size (.cells #[.int .i64 0,.int .i64 0] 49)));have HK3 := Lib.hid ((HK2.out.below hb3 HK2.out.lt).alloc (.cells #[.int .i64 0,.int .i64 0] 49));have k0 := HK3.out.cell 0;have k1 := HK3.out.cell 1;have k2 := HK3.out.cell 2;have k3 := HK3.out.cell 3;have k4 := HK3.out.cell 4;simp only [List.getElem?_toArray,List.getElem?_cons_zero,List.getElem?_cons_succ] at k0 k1 k2 k3 k4;clear hb3 d1)
        | (go_at_call 75;have hh := HB1.out;clear hh;refine (KF.out _ HB1.out).mono ?_;rintro e w2 ⟨rfl,hb2⟩;have HB2 := Lib.hid ((HB1.out.trans (hb2.mono (Below.size HB1.out))).alloc (Nat.le_trans (Below.size HB1.out) hb2.size) (.cells #[.int .i64 0,.int .i64 f2] 49));have HI2 := Lib.hid (HI1.out.up (hb2.alloc hb2.size (.cells #[.int .i64 0,.int .i64 f2] 49)));have HK2 := Lib.hid ((HK1.out.below hb2 HK1.out.lt).alloc (.cells #[.int .i64 0,.int .i64 f2] 49));have d1 := HK2.out.cell 1;simp only [List.getElem?_toArray,List.getElem?_cons_zero,List.getElem?_cons_succ] at d1;clear hb2 c0)
        | (go_at_call 74;refine (KS.out).mono ?_;rintro e w1 ⟨hb1,a1,c1,rfl,hr1⟩;have HB1 := Lib.hid ((HB0.out.trans (hb1.mono (Below.size HB0.out))).alloc (Nat.le_trans (Below.size HB0.out) hb1.size) (.cells #[.int .i64 0,.int .i64 q2] 49));have HI1 := Lib.hid (hr1.up ((Below.refl _ _).alloc (Nat.le_refl _) (.cells #[.int .i64 0,.int .i64 q2] 49)));have HK1 := Lib.hid ((HK0.out.below hb1 HK0.out.lt).alloc (.cells #[.int .i64 0,.int .i64 q2] 49));have c0 := HK1.out.cell 0;simp only [List.getElem?_toArray,List.getElem?_cons_zero] at c0;clear hb1 hr1))
      go_ret
      exact ⟨ret_int HE.out.symm,HB4.out⟩
  · rw [hx,if_neg (by simp)] at HE
    clear hx
    rcases hc with ⟨rfl,rfl⟩ | ⟨h5,rfl⟩
    all_goals
      by_cases hl : lessF rn rk = []
      · rw [if_neg (by simpa using hl)] at HE
        rw [hl] at KL
        clear hl
        go_enter Tryz.func43,Tryz.ntmps43
        go_wp2_with (first
          | (go_at_call 14;have hh := HB4.out;clear hh;refine (KL.out _ HB4.out).mono ?_;rintro e w5 ⟨⟨a5,c5,rfl,-⟩,hb5⟩;have HB5 := Lib.hid (HB4.out.trans (hb5.mono (Below.size HB4.out)));clear hb5)
          | (go_at_call 76;have hh := HB3.out;clear hh;refine (KC.out _ _ HI3.out).mono ?_;rintro e w4 ⟨rfl,rfl⟩;have HB4 := HB3)
          | (go_at_call 55;have hh := HB2.out;clear hh;refine (KT.out _ HB2.out).mono ?_;rintro e w3 ⟨rfl,hb3⟩;have HB3 := Lib.hid ((HB2.out.trans (hb3.mono (Below.size HB2.out))).alloc (Nat.le_trans (Below.size HB2.out) hb3.size) (.cells #[.int .i64 0,.int .i64 0] 49));have HI3 := Lib.hid (HI2.out.up (hb3.alloc hb3.size (.cells #[.int .i64 0,.int .i64 0] 49)));have HK3 := Lib.hid ((HK2.out.below hb3 HK2.out.lt).alloc (.cells #[.int .i64 0,.int .i64 0] 49));have k0 := HK3.out.cell 0;have k1 := HK3.out.cell 1;have k2 := HK3.out.cell 2;have k3 := HK3.out.cell 3;have k4 := HK3.out.cell 4;simp only [List.getElem?_toArray,List.getElem?_cons_zero,List.getElem?_cons_succ] at k0 k1 k2 k3 k4;clear hb3 d1)
          | (go_at_call 75;have hh := HB1.out;clear hh;refine (KF.out _ HB1.out).mono ?_;rintro e w2 ⟨rfl,hb2⟩;have HB2 := Lib.hid ((HB1.out.trans (hb2.mono (Below.size HB1.out))).alloc (Nat.le_trans (Below.size HB1.out) hb2.size) (.cells #[.int .i64 0,.int .i64 f2] 49));have HI2 := Lib.hid (HI1.out.up (hb2.alloc hb2.size (.cells #[.int .i64 0,.int .i64 f2] 49)));have HK2 := Lib.hid ((HK1.out.below hb2 HK1.out.lt).alloc (.cells #[.int .i64 0,.int .i64 f2] 49));have d1 := HK2.out.cell 1;simp only [List.getElem?_toArray,List.getElem?_cons_zero,List.getElem?_cons_succ] at d1;clear hb2 c0)
          | (go_at_call 74;refine (KS.out).mono ?_;rintro e w1 ⟨hb1,a1,c1,rfl,hr1⟩;have HB1 := Lib.hid ((HB0.out.trans (hb1.mono (Below.size HB0.out))).alloc (Nat.le_trans (Below.size HB0.out) hb1.size) (.cells #[.int .i64 0,.int .i64 q2] 49));have HI1 := Lib.hid (hr1.up ((Below.refl _ _).alloc (Nat.le_refl _) (.cells #[.int .i64 0,.int .i64 q2] 49)));have HK1 := Lib.hid ((HK0.out.below hb1 HK0.out.lt).alloc (.cells #[.int .i64 0,.int .i64 q2] 49));have c0 := HK1.out.cell 0;simp only [List.getElem?_toArray,List.getElem?_cons_zero] at c0;clear hb1 hr1))
        go_ret
        exact ⟨ret_int HE.out.symm,HB5.out⟩
      · rw [if_pos hl] at HE
        have hlp : (0 : Int) < ((lessF rn rk).length : Int) := by have := List.length_pos_iff.2 hl;omega
        clear hl
        generalize (lessF rn rk).length = ll at *
        go_enter Tryz.func43,Tryz.ntmps43
        go_wp2_with (first
          | (go_at_call 14;have hh := HB4.out;clear hh;refine (KL.out _ HB4.out).mono ?_;rintro e w5 ⟨⟨a5,c5,rfl,-⟩,hb5⟩;have HB5 := Lib.hid (HB4.out.trans (hb5.mono (Below.size HB4.out)));clear hb5)
          | (go_at_call 76;have hh := HB3.out;clear hh;refine (KC.out _ _ HI3.out).mono ?_;rintro e w4 ⟨rfl,rfl⟩;have HB4 := HB3)
          | (go_at_call 55;have hh := HB2.out;clear hh;refine (KT.out _ HB2.out).mono ?_;rintro e w3 ⟨rfl,hb3⟩;have HB3 := Lib.hid ((HB2.out.trans (hb3.mono (Below.size HB2.out))).alloc (Nat.le_trans (Below.size HB2.out) hb3.size) (.cells #[.int .i64 0,.int .i64 0] 49));have HI3 := Lib.hid (HI2.out.up (hb3.alloc hb3.size (.cells #[.int .i64 0,.int .i64 0] 49)));have HK3 := Lib.hid ((HK2.out.below hb3 HK2.out.lt).alloc (.cells #[.int .i64 0,.int .i64 0] 49));have k0 := HK3.out.cell 0;have k1 := HK3.out.cell 1;have k2 := HK3.out.cell 2;have k3 := HK3.out.cell 3;have k4 := HK3.out.cell 4;simp only [List.getElem?_toArray,List.getElem?_cons_zero,List.getElem?_cons_succ] at k0 k1 k2 k3 k4;clear hb3 d1)
          | (go_at_call 75;have hh := HB1.out;clear hh;refine (KF.out _ HB1.out).mono ?_;rintro e w2 ⟨rfl,hb2⟩;have HB2 := Lib.hid ((HB1.out.trans (hb2.mono (Below.size HB1.out))).alloc (Nat.le_trans (Below.size HB1.out) hb2.size) (.cells #[.int .i64 0,.int .i64 f2] 49));have HI2 := Lib.hid (HI1.out.up (hb2.alloc hb2.size (.cells #[.int .i64 0,.int .i64 f2] 49)));have HK2 := Lib.hid ((HK1.out.below hb2 HK1.out.lt).alloc (.cells #[.int .i64 0,.int .i64 f2] 49));have d1 := HK2.out.cell 1;simp only [List.getElem?_toArray,List.getElem?_cons_zero,List.getElem?_cons_succ] at d1;clear hb2 c0)
          | (go_at_call 74;refine (KS.out).mono ?_;rintro e w1 ⟨hb1,a1,c1,rfl,hr1⟩;have HB1 := Lib.hid ((HB0.out.trans (hb1.mono (Below.size HB0.out))).alloc (Nat.le_trans (Below.size HB0.out) hb1.size) (.cells #[.int .i64 0,.int .i64 q2] 49));have HI1 := Lib.hid (hr1.up ((Below.refl _ _).alloc (Nat.le_refl _) (.cells #[.int .i64 0,.int .i64 q2] 49)));have HK1 := Lib.hid ((HK0.out.below hb1 HK0.out.lt).alloc (.cells #[.int .i64 0,.int .i64 q2] 49));have c0 := HK1.out.cell 0;simp only [List.getElem?_toArray,List.getElem?_cons_zero] at c0;clear hb1 hr1))
        go_ret
        exact ⟨ret_int HE.out.symm,HB5.out⟩
end Go.Proofs.YtiiicochdidolaaGreat
