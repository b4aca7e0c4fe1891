/-
  THE WALK OF round.heads.
-/
import Derived.Test.YtiiicochdidolaaGreatTk24
namespace Go.Proofs.YtiiicochdidolaaGreat
open Go.RowKit
theorem withReads {S S2 S3 : Nat → Prop} {bv : Value} {body : List PAtom} {fv : Value} {facts : List PFact} {at' : Int} {ov : Value} {other : List PFact} {w : World} (hb : RdAtoms S w bv body) (hf : RdFacts S2 w fv facts) (ho : RdFacts S3 w ov other)
    (n1 : body.length ≤ 1048576) (n2 : ∀ a ∈ body,a.terms.length ≤ 1048576) (n3 : ∀ a ∈ body,∀ t ∈ a.terms,t.name.size ≤ 1048576) (n4 : facts.length ≤ 1048576) (n5 : ∀ x ∈ facts,x.args.length ≤ 1048576) (n6 : other.length ≤ 1048576) (n7 : ∀ x ∈ other,x.args.length ≤ 1048576) :
    Calls Tryz.prog 27 #[bv,fv,.int .i64 at',ov] w fun e w' => (∃ a c,e = .returned (.tuple #[.slice a (withP body facts at' other).1.length c,.int .i64 (withP body facts at' other).2]) ∧ RdBindss (fun b => w.heap.size ≤ b) w' (.slice a (withP body facts at' other).1.length c) (withP body facts at' other).1) ∧ Below w.heap.size w w' := by
  refine (withCalls bv body fv facts at' ov other w hb hf ho n1 n2 n3 n4 n5 n6 n7).mono fun e w' ⟨h1,v,zs,he,hn,hm⟩ => ⟨?_,h1⟩
  have hr := (hn.reads.read RBinds.steady).more RBinds.steady (S' := fun b => w.heap.size ≤ b) (fun b hb _ => hb.elim id id)
  rw [hm] at hr
  obtain ⟨a,c,rfl,-,-,-⟩ := id hr.form
  exact ⟨a,c,he,hr⟩
theorem newP_skip {x : PRule} {K N : List PFact} {i : Nat} {a : PAtom} {b : List PAtom} {o : List PFact} {sm : Bool} (h : a.neg = true) : newP x K N i (a :: b) o sm = newP x K N (i + 1) b o sm := by rw [newP,if_pos h]
theorem newP_err {x : PRule} {K N : List PFact} {i : Nat} {a : PAtom} {b : List PAtom} {o : List PFact} {sm : Bool} (h : a.neg = false) (he : (withP x.body K i N).2 ≠ 0) : newP x K N i (a :: b) o sm = ([],(withP x.body K i N).2) := by
  rw [newP,if_neg (by simp [h]),if_pos he]
theorem newP_next {x : PRule} {K N : List PFact} {i : Nat} {a : PAtom} {b : List PAtom} {o : List PFact} {sm : Bool} (h : a.neg = false) (he : (withP x.body K i N).2 = 0) : newP x K N i (a :: b) o sm = newP x K N (i + 1) b (o ++ fillAll x.head (withP x.body K i N).1) true := by
  rw [newP,if_neg (by simp [h]),if_neg (by simpa using he)]
theorem fillAll_snoc {h : PAtom} {ls : List Binds} {k : Nat} {l : Binds} (hl : ls[k]? = some l) : fillAll h (ls.take (k + 1)) = fillAll h (ls.take k) ++ (fillP h l).toList := filterMap_snoc (f := fun b => fillP h b) hl
theorem fillAll_le (h : PAtom) (ls : List Binds) : (fillAll h ls).length ≤ ls.length := List.length_filterMap_le _ _
theorem fillAll_args {h : PAtom} {ls : List Binds} {x : PFact} (hx : x ∈ fillAll h ls) : x.args.length = h.terms.length := by
  obtain ⟨b,-,hb⟩ := List.mem_filterMap.1 hx
  exact fill_args hb
theorem fillAll_take_le (h : PAtom) (ls : List Binds) (k : Nat) : (fillAll h (ls.take k)).length ≤ k := Nat.le_trans (fillAll_le h _) (by rw [List.length_take];exact Nat.min_le_left _ _)
attribute [local go_sem ↓] Go.wp_at_zero Go.wp_at_succ
set_option maxRecDepth 100000 in
set_option maxHeartbeats 8000000 in
theorem newHeadsCalls {S S2 : Nat → Prop} (x : PRule) (b0 o0 : Nat) (tv bv : Value) (g : Nat) (r : PRun) (kv nv : Value) (w : World) (hx : RuleAt S w b0 o0 x tv bv) (hg : Blk w g 28 #[kv,nv,.int .i64 r.stratum,.int .i64 r.rounds,.bool r.done]) (hk : RdFacts S2 w kv r.known) (hn : RdFacts S2 w nv r.new)
    (hs : RuleSmall x) (h5 : x.body.length ≤ 5) (ns : RunSmall r) :
    Calls Tryz.prog 114 #[.pointer (some ⟨b0,o0,none⟩),.pointer (some ⟨g,0,none⟩)] w (FactsPost (newHeads x r.known r.new) w) := by
  obtain ⟨ta,tc,rfl,-,-,-⟩ := id hx.t.form
  obtain ⟨ba,bc,rfl,-,-,-⟩ := id hx.b.form
  obtain ⟨ka,kc,rfl,-,-,-⟩ := id hk.form
  obtain ⟨na,nc,rfl,-,-,-⟩ := id hn.form
  have HX := Lib.hid hx
  have HG := Lib.hid hg
  have HKN := Lib.hid hk
  have HNW := Lib.hid hn
  have HS := Lib.hid hs
  have NS := Lib.hid ns
  have hn1 := hs.h1
  have hb0 := hx.lt
  have hgl := hg.lt
  obtain ⟨-,c0,c1,c2,c3,-,-⟩ := id hx
  have KW := Lib.hid (fun W (i : Int) (hW : Below w.heap.size w W) => withReads (at' := i) (HX.out.up hW).b (RdFacts.up HKN.out hW) (RdFacts.up HNW.out hW) HS.out.b0 HS.out.b1 HS.out.b2 NS.out.k1 NS.out.k2 NS.out.n1 NS.out.n2)
  clear hx hg hk hn hs ns
  go_enter Tryz.func114,Tryz.ntmps114
  go_wp2
  clear c0 c1 c2 c3
  go_loopw [21,6,7] (fun i v s wr => ∃ (k : Nat) (o : List PFact) (sm : Bool),k ≤ x.body.length ∧ i = .int .i64 k ∧ s = .bool sm ∧ o.length ≤ k * 20000 ∧ Hid (∀ y ∈ o,y.args.length ≤ 1048576) ∧ Hid (Owned 2 RFact w.heap.size 38 (New w) wr v o) ∧ Hid (Below w.heap.size w wr) ∧ Hid (newHeads x r.known r.new = newP x r.known r.new k (x.body.drop k) o sm)) (fun i _ _ _ => x.body.length - (intOf i).toNat)
  case atStart => exact ⟨0,[],false,Nat.zero_le _,rfl,rfl,Nat.le_refl _,Lib.hid (by simp),Lib.hid Owned.nil,Lib.hid (Below.refl _ _),Lib.hid rfl⟩
  case round =>
    obtain ⟨k,o,sm,hk,rfl,rfl,hol,HOA,HO,HB,HE⟩ := hrel
    obtain ⟨va,vc,efm,-,-,-⟩ := (HO.out.read RFact.steady).form
    subst efm
    have hsz := HB.out.size
    by_cases hlt : k < x.body.length
    · obtain ⟨y,hy⟩ : ∃ y,x.body[k]? = some y := ⟨_,List.getElem?_eq_getElem hlt⟩
      obtain ⟨b4,o4,yv,rfl,-,-,e0,e1,e2,hyv⟩ := RdAtoms.at (HX.out.up HB.out).b hy
      obtain ⟨ya,yc,rfl,-,-,-⟩ := id hyv.form
      rw [at_drop hy] at HE
      clear hy hyv
      cases hyn : y.neg
      · rw [hyn] at e0
        obtain ⟨W1,hW1⟩ : ∃ W1 : World,wr.alloc (.cells #[.bool false,.string y.name,.slice ya y.terms.length yc] 60) = W1 := ⟨_,rfl⟩
        have hbx : Below wr.heap.size wr W1 := by subst hW1;exact (Below.refl _ _).alloc (Nat.le_refl _) _
        have t0 : W1.cell? ⟨wr.heap.size,0,none⟩ = some (.bool false) := by subst hW1;simp
        have HB1 := Lib.hid (HB.out.trans (hbx.mono hsz))
        have HO1 := Lib.hid (HO.out.below RFact.steady hbx)
        have HXW := Lib.hid (HX.out.up HB1.out)
        have HGW := Lib.hid (HG.out.below HB1.out hgl)
        have q3 := HXW.out.c3
        have q0 := HGW.out.cell 0
        have q1 := HGW.out.cell 1
        simp only [List.getElem?_toArray,List.getElem?_cons_zero,List.getElem?_cons_succ] at q0 q1
        have KW1 := Lib.hid (fun W hW => KW.out W (k : Int) hW)
        have F1 := Lib.hid (fun he => HE.out.trans (newP_err (i := k) (N := r.new) hyn he))
        have F2 := Lib.hid (fun he => HE.out.trans (newP_next (i := k) (N := r.new) hyn he))
        have HSH := Lib.hid (with_short x.body r.known (k : Int) r.new)
        have hs1 := HB1.out.size
        have hz1 : b0 < W1.heap.size := by omega
        have hz2 : g < W1.heap.size := by omega
        clear hyn HE hbx HXW HGW
        go_wp2_with fail
        clear hW1 e0 e1 e2 t0
        generalize withP x.body r.known (k : Int) r.new = q at *
        obtain ⟨ls,er⟩ := q
        dsimp only at *
        go_region_held3 (fun w' => w'.cell? ⟨b0,o0 + 3,none⟩ = some (.slice (some ⟨b4,o4,none⟩) x.body.length bc) ∧ w'.cell? ⟨g,0,none⟩ = some (.slice ka r.known.length kc) ∧ w'.cell? ⟨g,1,none⟩ = some (.slice na r.new.length nc))
          (first | (refine ⟨?_,?_,?_⟩ <;> (first | (rw [hk2 _ hz1];assumption) | (rw [hk2 _ hz2];assumption))) | go_keep)
          (first
            | (go_at_call 27;refine (KW1.out _ HB1.out.drew).mono ?_;rintro e w5 ⟨⟨a5,c5,rfl,hr5⟩,hb5⟩;have hk2 : ∀ c,c < W1.heap.size → ∀ off,w5.cell? ⟨c,off,none⟩ = W1.cell? ⟨c,off,none⟩ := fun c hc off => cell_below (w := W1.drew) hb5 hc off))
        have HB5 := Lib.hid (show Below w.heap.size w w5 from HB1.out.drew.trans (hb5.mono hs1))
        have HO5 := Lib.hid (show Owned 2 RFact w.heap.size 38 (New w) w5 _ o from (HO1.out.drew RFact.steady).below RFact.steady hb5)
        have HL5 := Lib.hid hr5
        have hs5 : W1.heap.size ≤ w5.heap.size := hb5.size
        clear hb5 hr5 hk2 q0 q1 q3
        by_cases he : er = 0
        case neg =>
          have g1 : (er != 0) = true := by simpa using he
          have HEE := Lib.hid (F1.out he)
          clear he F1 F2
          go_wp2
          go_ret2
          exact facts_err HEE.out HB5.out
        subst he
        have HEE := Lib.hid (F2.out rfl)
        have hll : ls.length ≤ 20000 := HSH.out.1
        have HFA := Lib.hid (show ∀ z ∈ fillAll x.head ls,z.args.length ≤ 1048576 from fun z hz => by rw [fillAll_args hz];exact hn1)
        have HFL := Lib.hid (fillAll_le x.head ls)
        clear F1 F2
        go_wp2
        obtain ⟨wo,hwo⟩ : ∃ wo : World,wo = w5 := ⟨_,rfl⟩
        subst hwo
        have HO5' := Lib.hid (show Owned 2 RFact w.heap.size 38 (New w) wo (.slice va o.length vc) (o ++ fillAll x.head (ls.take 0)) by rw [List.take_zero];show Owned _ _ _ _ _ _ _ (o ++ []);rw [List.append_nil];exact HO5.out)
        have HBB := Lib.hid (Below.refl wo.heap.size wo)
        go_loopw [50,6] (fun i v wz => ∃ j : Nat,j ≤ ls.length ∧ i = .int .i64 j ∧ Hid (Owned 2 RFact w.heap.size 38 (New w) wz v (o ++ fillAll x.head (ls.take j))) ∧ Hid (Below w.heap.size w wz) ∧ wo.heap.size ≤ wz.heap.size ∧ Hid (RdBindss (fun b => W1.drew.heap.size ≤ b ∧ b < wo.heap.size) wz (.slice a5 ls.length c5) ls) ∧ Hid (∀ q,v.ownBlock = some q → q < W1.heap.size ∨ wo.heap.size ≤ q)) (fun i _ _ => ls.length - (intOf i).toNat)
        case atStart => exact ⟨0,Nat.zero_le _,rfl,HO5',HB5,Nat.le_refl _,Lib.hid (HL5.out.more RBinds.steady (fun b hb hl => ⟨hb,hl⟩)),Lib.hid (fun q hq => .inl (HO1.out.row_lt hq).2)⟩
        case round =>
          clear HO5' HB5 HO5 HO1 HBB
          obtain ⟨j,hj,rfl,HO,HB,hso,HL,HQ⟩ := hrel
          obtain ⟨va,vc,efm,-,-,-⟩ := (HO.out.read RFact.steady).form
          subst efm
          by_cases hlj : j < ls.length
          · obtain ⟨l,hl⟩ : ∃ l,ls[j]? = some l := ⟨_,List.getElem?_eq_getElem hlj⟩
            obtain ⟨b1,o1,lv,rfl,-,hbl,d1,hlv⟩ := RdBindss.at' HL.out hl
            have hnl : l.length ≤ 1073741824 := by have := HSH.out.2 l (List.mem_of_getElem? hl);omega
            have HXW := Lib.hid (HX.out.up HB.out)
            have q0 := HXW.out.c0
            have q1 := HXW.out.c1
            have q2 := HXW.out.c2
            have HSN := Lib.hid (fillAll_snoc (h := x.head) hl)
            have HLE := Lib.hid (show (o ++ fillAll x.head (ls.take j)).length ≤ 1048576 by rw [List.length_append];have := fillAll_take_le x.head ls j;omega)
            have hszw := HB.out.size
            clear hl
            cases hfl : fillP x.head l with
            | none =>
              have KF := Lib.hid (fillNone hfl HXW.out.t hlv hn1 hnl)
              have HS1 := Lib.hid (show o ++ fillAll x.head (ls.take (j + 1)) = o ++ fillAll x.head (ls.take j) by rw [HSN.out,hfl];simp)
              clear hfl hlv HSN HLE
              generalize o ++ fillAll x.head (ls.take j) = out at *
              go_wp2_with (go_at_call 31;refine (KF.out).mono ?_;rintro e w7 ⟨rfl,hb7⟩;have HB7 := Lib.hid ((HB.out.trans (hb7.mono hszw)).alloc (Nat.le_trans hszw hb7.size) (.cells #[.string ⟨#[]⟩,.slice none 0 0] 38));have HO7 := Lib.hid ((HO.out.below RFact.steady hb7).alloc RFact.steady (.cells #[.string ⟨#[]⟩,.slice none 0 0] 38));have HL7 := Lib.hid (RdSlice.agree RBinds.steady ((Below.agree hb7).alloc (.cells #[.string ⟨#[]⟩,.slice none 0 0] 38)) HL.out);have hs7 : wo.heap.size ≤ (w7.alloc (.cells #[.string ⟨#[]⟩,.slice none 0 0] 38)).heap.size := (by have := hb7.size;simp;omega);clear hb7)
              go_roundw
              case rel => exact ⟨j + 1,by omega,by go_num,by rw [HS1.out];exact HO7,HB7,hs7,HL7,HQ⟩
              case measure => simp [intOf];omega
            | some f =>
              have KF := Lib.hid (fillKnown hfl HXW.out.t hlv hn1 hnl)
              have HS1 := Lib.hid (show o ++ fillAll x.head (ls.take (j + 1)) = (o ++ fillAll x.head (ls.take j)) ++ [f] by rw [HSN.out,hfl];simp)
              clear hfl hlv HSN
              generalize hout : o ++ fillAll x.head (ls.take j) = out at *
              clear hout
              have hol2 := HLE.out
              go_wp2_with (first
                | (go_at_call 31;refine (KF.out).mono ?_;rintro e w7 ⟨⟨av,ac,rfl,hr7⟩,hb7⟩;have HB7 := Lib.hid (HB.out.trans (hb7.mono hszw));have HO7 := Lib.hid (HO.out.below RFact.steady hb7);have HR7 := Lib.hid hr7;have HL7 := Lib.hid (RdSlice.agree RBinds.steady (Below.agree hb7) HL.out);have hs7 := hb7.size;clear hb7 hr7)
                | (at_builtin;refine wpList_append_one (B := w.heap.size) (e := 38) (S := New w) (by rfl) _ _ 24 (by rfl) RFact.steady rowFacts _ out (by rfl) ((HO7.out.alloc RFact.steady _).alloc RFact.steady _) (w7.heap.size + 1) 1 #[.string f.name,.slice av f.args.length ac] 38 (0,0) f (by rfl) (heap_new_at (by simp)) rfl (by simp [Value.oneCell']) (RFact.behind HO.out hszw (Nat.le_refl _) HR7.out (((Agree.refl _ _).alloc _).alloc _)) (by omega) (by simp;omega) ?_;intro v8 w8 hown8 hg8 hat8;rw [← HS1.out] at hown8;have HO8 := Lib.hid hown8;have HB8 := Lib.hid ((((HB7.out.alloc (by omega) _).alloc (by simp;omega) _).grown hg8 (by simp;omega) (fun q hq => (HO7.out.row_lt hq).1)));have HQ8 := Lib.hid (show ∀ q,v8.ownBlock = some q → q < W1.heap.size ∨ wo.heap.size ≤ q from fun q hq => by rcases hat8 with h | h;(· rw [h] at hq;exact HQ.out q hq);(· rw [h] at hq;injection hq with hq;right;rw [← hq];simp;omega));have HL8 := Lib.hid (RdSlice.agree RBinds.steady (w' := w8) ⟨hg8.size,fun b hb hl => hg8.block b hl (fun e => by have h1 : W1.heap.size ≤ b := hb.1;rcases HQ.out b e.symm with h | h <;> omega)⟩ (RdSlice.agree RBinds.steady (((Agree.refl _ _).alloc _).alloc _) HL7.out));have hs8 : wo.heap.size ≤ w8.heap.size := (by have := hg8.size;simp at this;omega);clear hown8 hg8 hat8))
              go_roundw
              case rel => exact ⟨j + 1,by omega,by go_num,HO8,HB8,hs8,HL8,HQ8⟩
              case measure => simp [intOf];omega
          · have htk : ls.take j = ls := List.take_of_length_le (by omega)
            rw [htk] at HO HQ ⊢
            have hol2 : (o ++ fillAll x.head ls).length ≤ (k + 1) * 20000 := by rw [List.length_append];have := HFL.out;omega
            have HOA2 := Lib.hid (show ∀ z ∈ o ++ fillAll x.head ls,z.args.length ≤ 1048576 from fun z hz => (List.mem_append.1 hz).elim (HOA.out z) (HFA.out z))
            clear htk HOA HFA HFL
            generalize o ++ fillAll x.head ls = out at *
            go_wp2
            go_roundw
            case rel => exact ⟨k + 1,out,true,by omega,by go_num,rfl,hol2,HOA2,HO,HB,HEE⟩
            case measure => simp [intOf];omega
      · rw [hyn] at e0
        have HB1 := Lib.hid (HB.out.alloc hsz (.cells #[.bool true,.string y.name,.slice ya y.terms.length yc] 60))
        have HO1 := Lib.hid (HO.out.alloc RFact.steady (.cells #[.bool true,.string y.name,.slice ya y.terms.length yc] 60))
        have HE1 := Lib.hid (HE.out.trans (newP_skip hyn))
        have hol2 : o.length ≤ (k + 1) * 20000 := by omega
        clear hyn HE
        go_wp2
        go_roundw
        case rel => exact ⟨k + 1,o,sm,by omega,by go_num,rfl,hol2,HOA,HO1,HB1,HE1⟩
        case measure => simp [intOf];omega
    · have HE1 := Lib.hid (show newHeads x r.known r.new = if sm then (o,0) else headsP x r.known by rw [HE.out,List.drop_eq_nil_of_le (by omega)];rfl)
      cases sm
      · have HE2 := Lib.hid (HE1.out.trans (if_neg (by simp)))
        have HXW := Lib.hid (HX.out.up HB.out)
        have HGW := Lib.hid (HG.out.below HB.out hgl)
        have q0 := HXW.out.c0;have q1 := HXW.out.c1;have q2 := HXW.out.c2;have q3 := HXW.out.c3
        have p0 := HGW.out.cell 0
        simp only [List.getElem?_toArray,List.getElem?_cons_zero] at p0
        have KH := Lib.hid (fun W (hW : Below w.heap.size w W) => headsCalls x (.slice ta x.head.terms.length tc) (.slice ba x.body.length bc) (.slice ka r.known.length kc) r.known W (HX.out.up hW).t (HX.out.up hW).b (RdFacts.up HKN.out hW) HS.out NS.out.k1 NS.out.k2)
        clear HE HE1 HXW HGW
        have hz1 : b0 < wr.heap.size := by omega
        have hz2 : g < wr.heap.size := by omega
        go_wp2_with fail
        go_region_held3 (fun w' => w'.cell? ⟨b0,o0,none⟩ = some (.bool x.head.neg) ∧ w'.cell? ⟨b0,o0 + 1,none⟩ = some (.string x.head.name) ∧ w'.cell? ⟨b0,o0 + 2,none⟩ = some (.slice ta x.head.terms.length tc) ∧ w'.cell? ⟨b0,o0 + 3,none⟩ = some (.slice ba x.body.length bc) ∧ w'.cell? ⟨g,0,none⟩ = some (.slice ka r.known.length kc))
          (first | (refine ⟨?_,?_,?_,?_,?_⟩ <;> (first | (rw [hk2 _ hz1];assumption) | (rw [hk2 _ hz2];assumption))) | go_keep)
          (first
            | (go_at_call 13;refine (KH.out _ HB.out.drew).mono ?_;rintro e w5 ⟨hb5,v5,rfl,ho5⟩;obtain ⟨a5,c5,rfl,-,-,-⟩ := id (ho5.read RFact.steady).form;have hk2 : ∀ c,c < wr.heap.size → ∀ off,w5.cell? ⟨c,off,none⟩ = wr.cell? ⟨c,off,none⟩ := fun c hc off => cell_below (w := wr.drew) hb5 hc off))
        have HB5 := Lib.hid (show Below w.heap.size w w5 from HB.out.drew.trans (hb5.mono hsz))
        have HO5 := Lib.hid (show Owned 2 RFact w.heap.size 38 (New w) w5 _ _ from (ho5.lower hsz).moreS RFact.steady fun b hb _ => Nat.le_trans hsz hb)
        clear hb5 ho5 hk2 q0 q1 q2 q3 p0 HO
        generalize headsP x r.known = hp at *
        obtain ⟨hl,er⟩ := hp
        go_wp2
        go_ret2
        exact ⟨HB5.out,_,by rw [HE2.out];rfl,by rw [HE2.out];exact HO5.out⟩
      · have HE2 := Lib.hid (HE1.out.trans (if_pos rfl))
        go_wp2
        go_ret2
        exact facts_ok HE2.out HB.out HO.out
end Go.Proofs.YtiiicochdidolaaGreat
