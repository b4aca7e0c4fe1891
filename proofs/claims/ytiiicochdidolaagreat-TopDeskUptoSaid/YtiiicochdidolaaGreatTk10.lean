/-
  THE TEXTS MatchK, AllS, Clone, FactSort, FactCompact, Sets, Less, one behind the other.
-/
import Derived.Test.YtiiicochdidolaaGreatTk1
import Derived.Test.YtiiicochdidolaaGreatTk5
import Derived.Test.YtiiicochdidolaaGreatTk7
import Derived.Test.YtiiicochdidolaaGreatTk9
import Derived.Lib.AppendZerosOnto
namespace Go.Proofs.YtiiicochdidolaaGreat
open Go.RowKit
theorem allReads {S S2 : Nat → Prop} (bv : Value) (body : List PAtom) (fv : Value) (facts : List PFact) (w : World) (hb : RdAtoms S w bv body) (hf : RdFacts S2 w fv facts)
    (n1 : body.length ≤ 1048576) (n2 : ∀ a ∈ body,a.terms.length ≤ 1048576) (n3 : ∀ a ∈ body,∀ t ∈ a.terms,t.name.size ≤ 1048576) (n4 : facts.length ≤ 1048576) (n5 : ∀ x ∈ facts,x.args.length ≤ 1048576) :
    Calls Tryz.prog 10 #[bv,fv] w fun e w' => (∃ a c,e = .returned (.tuple #[.slice a (allP body facts).1.length c,.int .i64 (allP body facts).2]) ∧ RdBindss (fun b => w.heap.size ≤ b) w' (.slice a (allP body facts).1.length c) (allP body facts).1) ∧ Below w.heap.size w w' := by
  refine (allCalls bv body fv facts w hb hf n1 n2 n3 n4 n5).mono fun e w' ⟨h1,v,zs,he,hn,hm⟩ => ⟨?_,h1⟩
  have hr := (hn.reads.read RBinds.steady).more RBinds.steady (S' := fun b => w.heap.size ≤ b) (fun b hb _ => hb.elim id id)
  rw [hm] at hr
  obtain ⟨a,c,rfl,-,-,-⟩ := id hr.form
  exact ⟨a,c,he,hr⟩
theorem fillKnown {S S2 : Nat → Prop} {a : PAtom} {tv lv : Value} {l : Binds} {w : World} {f : PFact} (hfl : fillP a l = some f) (ht : RdTerms S w tv a.terms) (hl : RdBinds S2 w lv l) (n1 : a.terms.length ≤ 1048576) (n2 : l.length ≤ 1073741824) :
    Calls Tryz.prog 31 #[.agg #[.bool a.neg,.string a.name,tv],lv] w fun e w' => (∃ av ac,e = .returned (.tuple #[.agg #[.string f.name,.slice av f.args.length ac],.bool true]) ∧ RdStrs (New w) w' (.slice av f.args.length ac) f.args) ∧ Below w.heap.size w w' :=
  (fillCalls a tv lv l w ht hl n1 n2).mono fun e w' ⟨h1,h2⟩ => by
    rw [hfl] at h2
    obtain ⟨v,he,hr⟩ := h2
    obtain ⟨av,ac,rfl,-,-,-⟩ := id hr.form
    exact ⟨⟨av,ac,he,hr⟩,h1⟩
theorem fill_args {a : PAtom} {l : Binds} {f : PFact} (h : fillP a l = some f) : f.args.length = a.terms.length := (fillArgs_len (fillP_name h).2).symm
end Go.Proofs.YtiiicochdidolaaGreat
namespace Go.Proofs.YtiiicochdidolaaGreat
theorem goP_short {pick : Nat → List PFact} {c : Nat} : ∀ (body : List PAtom) (i : Nat) (ls out : List Binds),goP pick i ls body = some out → (∀ l ∈ ls,l.length ≤ c) → (∀ a ∈ body,a.terms.length ≤ 4) → ∀ m ∈ out,m.length ≤ c + 4 * body.length
  | [],i,ls,out,h,hc,_,m,hm => by
    obtain rfl := Option.some.inj h
    have := hc m hm
    simp only [List.length_nil];omega
  | a :: b,i,ls,out,h,hc,ht,m,hm => by
    rw [goP] at h
    split at h
    · have := goP_short b (i + 1) ls out h hc (fun x hx => ht x (by simp [hx])) m hm
      simp only [List.length_cons];omega
    · split at h
      · cases h
      · have h1 := ht a (by simp)
        have := goP_short (c := c + a.terms.length) b (i + 1) _ out h (stepP_short hc) (fun x hx => ht x (by simp [hx])) m hm
        simp only [List.length_cons];omega
theorem goP_count {pick : Nat → List PFact} : ∀ (body : List PAtom) (i : Nat) (ls out : List Binds),goP pick i ls body = some out → ls.length ≤ 20000 → out.length ≤ 20000
  | [],i,ls,out,h,hc => by obtain rfl := Option.some.inj h;exact hc
  | a :: b,i,ls,out,h,hc => by
    rw [goP] at h
    split at h
    · exact goP_count b (i + 1) ls out h hc
    · split at h
      · cases h
      · exact goP_count b (i + 1) _ out h (by omega)
theorem notP_count {pick : Nat → List PFact} : ∀ (body : List PAtom) (i : Nat) (ls : List Binds),(notP pick i ls body).length ≤ ls.length
  | [],i,ls => Nat.le_refl _
  | a :: b,i,ls => by
    rw [notP]
    refine Nat.le_trans (notP_count b (i + 1) _) ?_
    split
    · exact List.length_filter_le _ _
    · exact Nat.le_refl _
theorem addC_count {α : Type} [DecidableEq α] {c : α → α → Int} (f : α) : ∀ l : List α,(addC c f l).length ≤ l.length + 1
  | [] => Nat.le_refl _
  | g :: l => by
    unfold addC
    split
    · simp
    · split
      · simp
      · have := addC_count (c := c) f l
        simp only [List.length_cons];omega
theorem ofC_count {α : Type} [DecidableEq α] {c : α → α → Int} : ∀ l : List α,(ofC c l).length ≤ l.length
  | [] => Nat.le_refl _
  | f :: l => by
    have h1 := addC_count (c := c) f (ofC c l)
    have h2 := ofC_count (c := c) l
    show (addC c f (ofC c l)).length ≤ _
    simp only [List.length_cons];omega
theorem with_short (body : List PAtom) (facts : List PFact) (at' : Int) (other : List PFact) : (withP body facts at' other).1.length ≤ 20000 ∧ ∀ m ∈ (withP body facts at' other).1,m.length ≤ 20 := by
  unfold withP
  by_cases h1 : bodyBad body = 0
  case neg => rw [if_pos h1];simp
  rw [if_neg (by simpa using h1)]
  by_cases h2 : (setF facts).1 = 0
  case neg => rw [if_pos h2];simp
  rw [if_neg (by simpa using h2)]
  by_cases h3 : (setF other).1 = 0
  case neg => rw [if_pos h3];simp
  rw [if_neg (by simpa using h3)]
  cases hg : goP (pickP facts other at') 0 [[]] body with
  | none => simp
  | some ls =>
    have g1 := goP_count body 0 _ _ hg (by simp)
    have g2 := goP_short (c := 0) body 0 _ _ hg (by simp) (fun a ha => body_terms h1 ha)
    have g3 := notP_count (pick := pickP facts other at') body 0 ls
    have g4 := body_atoms h1
    dsimp only
    refine ⟨?_,fun m hm => ?_⟩
    · have := ofC_count (c := cmpBinds) ((notP (pickP facts other at') 0 ls body).map (ofC cmpBind))
      rw [List.length_map] at this
      unfold tidyP
      omega
    · obtain ⟨l,hl,rfl⟩ := mem_tidyP.1 hm
      have h5 := ofC_count (c := cmpBind) l
      have h6 := g2 l ((mem_notP body 0 ls l).1 hl).1
      omega
theorem all_short (body : List PAtom) (facts : List PFact) : (allP body facts).1.length ≤ 20000 ∧ ∀ m ∈ (allP body facts).1,m.length ≤ 20 := with_short _ _ _ _
end Go.Proofs.YtiiicochdidolaaGreat
namespace Go.Proofs.YtiiicochdidolaaGreat
open Go.RowKit
theorem rowFacts : RowT Tryz.prog 24 38 2 := RowT.mk' (b := 40) (z := .agg #[.string ⟨#[]⟩,.slice none 0 0]) Tryz.underlying24 (by kernel_rfl) (by omega) rfl (by omega)
set_option maxHeartbeats 400000 in
theorem cloneStr {S : Nat → Prop} (v : Value) (l : List Str) (w : World) (h : RdStrs S w v l) (n1 : l.length ≤ 1073741824) :
    Calls Tryz.prog 33 #[v] w fun e w' => (∃ v',e = .returned v' ∧ RdStrs (New w) w' v' l) ∧ Below w.heap.size w w' := by
  obtain ⟨a,c,rfl,-,-,hnil⟩ := id h.form
  have heq := fun (w : World) (n c n' c' : Nat) => Lib.run_eql_slice_nil (P := Tryz.prog) w 36 9 a n c n' c' Tryz.underlying36
  cases a with
  | none =>
    have hl : l = [] := by
      cases l with
      | nil => rfl
      | cons x r =>
        obtain ⟨b,o,ha,_⟩ := h.at (i := 0) (x := x) rfl
        cases ha
    subst hl
    obtain rfl := hnil rfl
    clear h hnil
    go_enter Tryz.func33,Tryz.ntmps33
    go_wp2
    go_ret
    exact ⟨⟨_,rfl,(Owned.nil (B := w.heap.size) (e := 0) (S := fun _ => False) (R := RStr)).read RStr.steady |>.more RStr.steady (fun b hb _ => hb.elim False.elim id)⟩,Below.refl _ _⟩
  | some ad =>
    clear hnil
    have H := Lib.hid h
    clear h
    go_enter Tryz.func33,Tryz.ntmps33
    go_wp2_with (at_builtin;refine wpList_append_many (B := w.heap.size) (e := 9) (S := fun _ => False) (by rfl) _ _ 36 (by rfl) RStr.steady RStr.one rowStrs _ [] (by rfl) (Owned.made (w := w) (cur := #[]) (cap := 0) (Nat.le_refl _) (Nat.zero_le _) rfl) _ l (by rfl) (H.out.agree RStr.steady (Agree.alloc (Agree.refl _ _) _)) (fun _ _ h => h) ?hl ?hb ?_)
    case hl => simp;omega
    case hb => simp
    · intro v' w' hown hg hat
      try rw [List.nil_append] at hown
      have hown' := Lib.hid hown
      have hg' := Lib.hid hg
      clear hown hg hat
      go_wp2
      go_ret
      refine ⟨⟨_,rfl,(hown'.out.read RStr.steady).more RStr.steady (fun b hb _ => hb.elim False.elim id)⟩,?_⟩
      exact (((Below.refl _ _).alloc (Nat.le_refl _) _).grown hg'.out (by simp) (fun k hk => by cases hk;exact Nat.le_refl _))
theorem RFact.fresh {B : Nat} {w W1 w1 w2 : World} {v v1 : Value} {l : List PFact} {x : PFact} (hown : Owned 2 RFact B 38 (fun b => B ≤ b) w v l) (hB : B ≤ w.heap.size) (hle : w.heap.size ≤ W1.heap.size) (hr1 : RdStrs (New W1) w1 v1 x.args) (ha : Agree (New W1) w1 w2) :
    RFact (fun b => B ≤ b ∧ some b ≠ v.ownBlock) w2 [.string x.name,v1] x :=
  ⟨v1,rfl,(hr1.agree RStr.steady ha).more RStr.steady fun b hb _ => ⟨by omega,fun e => by have := (hown.row_lt e.symm).2;omega⟩⟩
attribute [local go_sem ↓] Go.wp_at_zero Go.wp_at_succ
set_option maxRecDepth 100000 in
set_option maxHeartbeats 2000000 in
theorem ownCalls {S : Nat → Prop} (v : Value) (l : List PFact) (w : World) (h : RdFacts S w v l) (n1 : l.length ≤ 1073741824) (n2 : ∀ x ∈ l,x.args.length ≤ 1073741824) :
    Calls Tryz.prog 65 #[v] w fun e w' => (∃ v',e = .returned v' ∧ Owned 2 RFact w.heap.size 38 (New w) w' v' l) ∧ Below w.heap.size w w' := by
  obtain ⟨a,c,rfl,-,-,-⟩ := id h.form
  have H := Lib.hid h
  have N2 := Lib.hid n2
  clear h n2
  go_enter Tryz.func65,Tryz.ntmps65
  go_wp2
  go_loopw [8,3] (fun i v wr => ∃ k : Nat,k ≤ l.length ∧ i = .int .i64 k ∧ Owned 2 RFact w.heap.size 38 (New w) wr v (l.take k) ∧ Below w.heap.size w wr) (fun i _ _ => l.length - (intOf i).toNat)
  case atStart => exact ⟨0,Nat.zero_le _,rfl,Owned.nil,Below.refl _ _⟩
  case round =>
    obtain ⟨k,hk,rfl,hown,hb⟩ := hrel
    by_cases hlt : k < l.length
    · obtain ⟨x,hx⟩ : ∃ x,l[k]? = some x := ⟨_,List.getElem?_eq_getElem hlt⟩
      have hn2 : x.args.length ≤ 1073741824 := N2.out x (List.mem_of_getElem? hx)
      obtain ⟨b1,o1,av,rfl,-,-,hc1,hc2,hav⟩ := RdFacts.at (H.out.agree RFact.steady (Below.agree hb)) hx
      obtain ⟨aa,ac,rfl,-,-,-⟩ := id hav.form
      have htk : l.take (k + 1) = l.take k ++ [x] := by rw [List.take_add_one,hx];rfl
      have HT := Lib.hid htk
      have hsz := hb.size
      have HB := Lib.hid hb
      have HO := Lib.hid hown
      have HA := Lib.hid hav
      have hlk : (l.take k).length = k := by rw [List.length_take];omega
      have HL := Lib.hid hlk
      clear hb hown hav hx htk hlk
      go_wp2_with fail
      go_region_held3 (fun w' => w'.cell? ⟨wr.heap.size,0,none⟩ = some (.string x.name) ∧ w'.cell? ⟨wr.heap.size,1,none⟩ = some (.slice aa x.args.length ac))
        (first
          | (refine ⟨?_,?_⟩ <;> (rw [hk2];simp))
          | (refine ⟨?_,?_⟩ <;> (rw [hb1.cell (by simp)];simp))
          | go_keep)
        (first
          | (go_at_call 33;refine (cloneStr _ x.args _ (HA.out.agree RStr.steady (((Agree.refl _ _).alloc _).drew)) hn2).mono ?_;rintro e w1 ⟨⟨v1,rfl,hr1⟩,hb1⟩;obtain ⟨a1,c1,rfl,-,-,-⟩ := id hr1.form)
          | (refine step_append_one (by rfl) _ _ 24 (by rfl) RFact.steady rowFacts _ (l.take k) (by rfl) ((((HO.out.alloc RFact.steady _).drew RFact.steady).below RFact.steady hb1).alloc RFact.steady _) _ 1 #[.string x.name,.slice a1 x.args.length c1] 38 (0,0) x (by rfl) (heap_alloc_new _ _) rfl (by simp [Value.oneCell']) (RFact.fresh HO.out hsz (by simp) hr1 ((Agree.refl _ _).alloc _)) (by rw [HL.out];omega) (by have := hb1.size;simp at this ⊢;omega) ?_;intro v2 w2 hown2 hg2 hat2;have hk2 := fun off => kept_cell (c := wr.heap.size) hb1 hg2 (by simp) (fun e => by have := (HO.out.row_lt e).2;omega) off))
      rw [← HT.out] at hown2
      have hB2 : Below w.heap.size w w2 := ((((HB.out.alloc hsz _).drew.trans (hb1.mono (by simp;omega))).alloc (by have := hb1.size;simp at this ⊢;omega) _).grown hg2 (by have := hb1.size;simp at this ⊢;omega) (fun q hq => (HO.out.row_lt hq).1))
      have HO2 := Lib.hid hown2
      have HB2 := Lib.hid hB2
      clear hown2 hB2 hg2 hat2 hk2 hb1 hr1
      go_wp2
      go_roundw
      case rel => exact ⟨k + 1,by omega,by go_num,HO2.out,HB2.out⟩
      case measure => simp [intOf];omega
    · have htk : l.take k = l := List.take_of_length_le (by omega)
      rw [htk] at hown
      have HO := Lib.hid hown
      have HB := Lib.hid hb
      clear hown hb htk
      go_wp2
      go_ret
      exact ⟨⟨_,rfl,HO.out⟩,HB.out⟩
end Go.Proofs.YtiiicochdidolaaGreat
namespace Go.Proofs.YtiiicochdidolaaGreat
open Go.RowKit Go.Shelf Go.Sort
theorem enterCompare : ∀ args w,(callFunc 30 args).run Tryz.prog w = .ok (.enter 30 args) w := enters_of Tryz.func30 (by kernel_rfl) rfl
theorem sortFacts {B : Nat} {S : Nat → Prop} {w : World} {v : Value} {l : List PFact} (hown : Owned 2 RFact B 38 S w v l) (n1 : l.length ≤ 1073741824) (n2 : ∀ x ∈ l,x.args.length ≤ 1073741824) :
    Calls Tryz.prog 66 #[v,.func (.func 30) #[] #[]] w fun en w' => en = .returned (.tuple #[]) ∧ ∃ l',l'.Perm l ∧ l'.Pairwise (fun a b => ¬ cmpFact b a < 0) ∧ Owned 2 RFact B 38 S w' v l' ∧ w.grownBy w' v.ownBlock :=
  sort_owned Tryz.sortFact RFact.steady RFact.one (fun x => x.args.length ≤ 1073741824) Tryz.isAgg38 Tryz.sizeOf38 cmpFact3 30 enterCompare
    (fun W x y cx cy hx hy qx _ => by
      obtain ⟨vx,rfl,rx⟩ := hx
      obtain ⟨vy,rfl,ry⟩ := hy
      exact compareFact x y vx vy W rx ry qx)
    hown n2 (by omega)
end Go.Proofs.YtiiicochdidolaaGreat
namespace Go.Proofs.YtiiicochdidolaaGreat
open Go.RowKit
theorem eqFact {S T : Nat → Prop} (f g : PFact) (va vb : Value) (w : World) (h1 : RdStrs S w va f.args) (h2 : RdStrs T w vb g.args) (n1 : f.args.length ≤ 1073741824) :
    Calls Tryz.prog 68 #[.agg #[.string f.name,va],.agg #[.string g.name,vb]] w fun e w' => e = .returned (.bool (decide (f = g))) ∧ Fresh w w' := by
  obtain ⟨a1,c1,rfl,-,-,-⟩ := id h1.form
  obtain ⟨a2,c2,rfl,-,-,-⟩ := id h2.form
  have K := Lib.hid (fun W (ha : Agree (fun _ => True) w W) => compareFact f g _ _ W ((h1.more RStr.steady (fun _ _ _ => trivial)).agree RStr.steady ha) ((h2.more RStr.steady (fun _ _ _ => trivial)).agree RStr.steady ha) n1)
  have e : decide (f = g) = (cmpFact f g == 0) := by rw [Bool.eq_iff_iff,decide_eq_true_eq,beq_iff_eq,cmpFact3.zero]
  have HE := Lib.hid e
  clear h1 h2 e
  generalize cmpFact f g = q at *
  go_enter Tryz.func68,Tryz.ntmps68
  go_wp2_with (go_at_call 30;refine (K.out _ (((Agree.refl _ _).alloc _).alloc _)).mono ?_;rintro e w1 ⟨rfl,hf1⟩)
  go_ret
  exact ⟨ret_bool HE.out.symm,(((Fresh.refl _).alloc _).alloc _).trans hf1⟩
theorem flatten_take {k : Nat} : ∀ (css : List (List Value)),(∀ cs ∈ css,cs.length = k) → ∀ i,css.flatten.take (i * k) = (css.take i).flatten
  | [],_,i => by simp
  | c :: css,hk,0 => by simp
  | c :: css,hk,i + 1 => by
    have hc : c.length = k := hk c (by simp)
    rw [List.flatten_cons,List.take_succ_cons,List.flatten_cons,List.take_append,hc,List.take_of_length_le (by rw [hc,Nat.add_mul];omega),show (i + 1) * k - k = i * k by rw [Nat.add_mul];omega,flatten_take css (fun c hc => hk c (by simp [hc])) i]
def HalfRow (w : World) (S : Nat → Prop) (g n cap i p : Nat) (B : Nat) (css : List (List Value)) (acc l : List PFact) : Prop :=
  css.length = n ∧ (∀ cs ∈ css,cs.length = 2) ∧ w.ownsRow B 38 2 (.slice (some ⟨g,0,none⟩) n cap) n css.flatten ∧ acc.length = i ∧ i ≤ p ∧
  (∀ q cs x,q < i → css[q]? = some cs → acc[q]? = some x → RFact (fun b => S b ∧ b ≠ g) w cs x) ∧ (∀ q cs x,p ≤ q → css[q]? = some cs → l[q]? = some x → RFact (fun b => S b ∧ b ≠ g) w cs x)
theorem HalfRow.fresh {w w' : World} {S : Nat → Prop} {g n cap i p B : Nat} {css : List (List Value)} {acc l : List PFact} (h : HalfRow w S g n cap i p B css acc l) (hb : Below w.heap.size w w') : HalfRow w' S g n cap i p B css acc l := by
  obtain ⟨h1,h2,h3,h4,h5,h6,h7⟩ := h
  have hg : w.grownBy w' none := ⟨hb.os,hb.tape,hb.output,hb.size,fun k hk _ => hb.block k hk⟩
  exact ⟨h1,h2,h3.kept hg (.inr (by simp [Value.ownBlock])),h4,h5,fun q cs x a b c => RFact.steady.agree (Below.agree hb) (h6 q cs x a b c),fun q cs x a b c => RFact.steady.agree (Below.agree hb) (h7 q cs x a b c)⟩
theorem HalfRow.cellsAt {w : World} {S : Nat → Prop} {g n cap i p B : Nat} {css : List (List Value)} {acc l : List PFact} (h : HalfRow w S g n cap i p B css acc l) {q : Nat} {x : PFact} (hq : p ≤ q) (hx : l[q]? = some x) (hl : l.length = n) :
    ∃ av,css[q]? = some [.string x.name,av] ∧ RdStrs (fun b => S b ∧ b ≠ g) w av x.args ∧ w.cell? ⟨g,q * 2,none⟩ = some (.string x.name) ∧ w.cell? ⟨g,q * 2 + 1,none⟩ = some av := by
  obtain ⟨h1,h2,h3,h4,h5,h6,h7⟩ := h
  have hqn : q < n := by rw [← hl];exact (List.getElem?_eq_some_iff.1 hx).1
  have hcs : css[q]? = some css[q] := List.getElem?_eq_getElem (by omega)
  obtain ⟨av,hc,hr⟩ := h7 q _ x hq hcs hx
  rw [hc] at hcs
  have a0 := flatten_get css h2 q _ 0 _ hcs rfl
  have a1 := flatten_get css h2 q _ 1 _ hcs rfl
  exact ⟨av,hcs,hr,by rw [h3.cellAt _ (by omega)];exact a0,by rw [h3.cellAt _ (by omega)];exact a1⟩
theorem HalfRow.put {w : World} {S : Nat → Prop} {g n cap i p B : Nat} {css : List (List Value)} {acc l : List PFact} (h : HalfRow w S g n cap i p B css acc l) {y : PFact} {c0 c1 : Value} (hy : l[p + 1]? = some y) (hc : css[p + 1]? = some [c0,c1]) :
    HalfRow ((w.setCell ⟨g,i * 2,none⟩ c0).setCell ⟨g,i * 2 + 1,none⟩ c1) S g n cap (i + 1) (p + 1) B (css.set i [c0,c1]) (acc ++ [y]) l := by
  obtain ⟨h1,h2,h3,h4,h5,h6,h7⟩ := h
  have hp1 : p + 1 < css.length := (List.getElem?_eq_some_iff.1 hc).1
  have hag : Agree (fun b => S b ∧ b ≠ g) w ((w.setCell ⟨g,i * 2,none⟩ c0).setCell ⟨g,i * 2 + 1,none⟩ c1) :=
    ⟨by simp [World.setCell],fun b hb _ => (Below.heap_setCell _ _ _ _ hb.2).trans (Below.heap_setCell _ _ _ _ hb.2)⟩
  refine ⟨by simp [h1],?_,?_,by simp [h4],by omega,?_,?_⟩
  · intro cs hcs
    rcases List.mem_or_eq_of_mem_set hcs with hcs | rfl
    · exact h2 cs hcs
    · rfl
  · rw [← flatten_set2 css h2 i c0 c1 (by omega)]
    exact ((h3.stored _ _).1.stored _ _).1
  · intro q cs x hq hcs hx
    by_cases e : q = i
    · subst e
      rw [List.getElem?_set_self (by omega)] at hcs
      rw [List.getElem?_append_right (by omega),h4,Nat.sub_self] at hx
      obtain rfl : [c0,c1] = cs := Option.some.inj hcs
      obtain rfl : y = x := by simpa using hx
      exact RFact.steady.agree hag (h7 (p + 1) _ y (by omega) hc hy)
    · rw [List.getElem?_set_ne (Ne.symm e)] at hcs
      rw [List.getElem?_append_left (by omega)] at hx
      exact RFact.steady.agree hag (h6 q cs x (by omega) hcs hx)
  · intro q cs x hq hcs hx
    rw [List.getElem?_set_ne (by omega)] at hcs
    exact RFact.steady.agree hag (h7 q cs x (by omega) hcs hx)
theorem HalfRow.start {w : World} {S : Nat → Prop} {g n cap B : Nat} {l : List PFact} (h : Owned 2 RFact B 38 S w (.slice (some ⟨g,0,none⟩) n cap) l) (hl : l.length = n) {i : Nat} (hi : i ≤ n) (h1 : 1 ≤ i) :
    ∃ css,HalfRow w S g n cap i (i - 1 + 1) B css (l.take i) l := by
  obtain ⟨css,q1,q2,q3,q4⟩ := h
  rw [hl] at q3 q1
  have hm : ∀ {cs x},RFact (fun b => S b ∧ some b ≠ (Value.slice (some ⟨g,0,none⟩) n cap).ownBlock) w cs x → RFact (fun b => S b ∧ b ≠ g) w cs x := fun hr => RFact.steady.more (fun b hb _ => ⟨hb.1,fun e => hb.2 (by rw [e];rfl)⟩) hr
  refine ⟨css,q1,q2,q3,by rw [List.length_take];omega,by omega,?_,fun q cs x _ hcs hx => hm (q4 q cs x hcs hx)⟩
  intro q cs x hq hcs hx
  rw [List.getElem?_take_of_lt hq] at hx
  exact hm (q4 q cs x hcs hx)
theorem Below.grownBy {w w' : World} (hb : Below w.heap.size w w') (row : Option Nat) : w.grownBy w' row := ⟨hb.os,hb.tape,hb.output,hb.size,fun k hk _ => hb.block k hk⟩
theorem HalfRow.spot {w : World} {S : Nat → Prop} {g n cap i p B : Nat} {css : List (List Value)} {acc l : List PFact} (h : HalfRow w S g n cap i p B css acc l) (hi : i < n) (u : Value) :
    ∃ d0 d1,w.cell? ⟨g,i * 2,none⟩ = some d0 ∧ w.frozen? ⟨g,i * 2,none⟩ = false ∧ w.cell? ⟨g,i * 2 + 1,none⟩ = some d1 ∧ (w.setCell ⟨g,i * 2,none⟩ u).cell? ⟨g,i * 2 + 1,none⟩ = some d1 ∧ (w.setCell ⟨g,i * 2,none⟩ u).frozen? ⟨g,i * 2 + 1,none⟩ = false ∧ w.frozen? ⟨g,i * 2 + 1,none⟩ = false := by
  have ho := h.2.2.1
  have hl : css.flatten.length = n * 2 := ho.1
  have e1 : i * 2 + 1 < n * 2 := by omega
  have c1 : w.cell? ⟨g,i * 2 + 1,none⟩ = some (css.flatten[i * 2 + 1]'(by omega)) := by rw [ho.cellAt _ e1];exact List.getElem?_eq_getElem _
  refine ⟨_,_,by rw [ho.cellAt _ (by omega)];exact List.getElem?_eq_getElem (by omega),ho.frozenAt _,c1,?_,(ho.stored _ _).1.frozenAt _,ho.frozenAt _⟩
  rw [(ho.stored _ _).1.cellAt _ e1,List.getElem?_set_ne (by omega)]
  exact List.getElem?_eq_getElem _
theorem HalfRow.shut {w w' : World} {S : Nat → Prop} {g n cap i p B : Nat} {css : List (List Value)} {acc l : List PFact} (h : HalfRow w S g n cap i p B css acc l) (hi : i ≤ n)
    (ho : w'.ownsRow B 38 2 (.slice (some ⟨g,0,none⟩) i cap) i (css.flatten.take (i * 2))) (hg : w.grownBy w' (some g)) : Owned 2 RFact B 38 S w' (.slice (some ⟨g,0,none⟩) i cap) acc := by
  obtain ⟨h1,h2,h3,h4,h5,h6,h7⟩ := h
  have hfl : css.flatten.take (i * 2) = (css.take i).flatten := by
    rw [flatten_take css h2 i]
  rw [hfl] at ho
  refine ⟨css.take i,by rw [List.length_take];omega,fun cs hcs => h2 cs (List.mem_of_mem_take hcs),by rw [h4];exact ho,fun q cs x hcs hx => ?_⟩
  have hq : q < i := by have := (List.getElem?_eq_some_iff.1 hx).1;omega
  rw [List.getElem?_take_of_lt hq] at hcs
  have r := RFact.steady.agree (w' := w') ⟨hg.size,fun b hb hlt => hg.block b hlt (fun e => hb.2 (Option.some.inj e))⟩ (h6 q cs x hq hcs hx)
  exact RFact.steady.more (fun b hb _ => ⟨hb.1,fun e => hb.2 (Option.some.inj e)⟩) r
attribute [local go_sem ↓] Go.wp_at_zero Go.wp_at_succ
set_option maxRecDepth 100000 in
set_option maxHeartbeats 4000000 in
theorem compactFacts {B : Nat} {S : Nat → Prop} {w : World} {v : Value} {l : List PFact} (hown : Owned 2 RFact B 38 S w v l) (n1 : l.length ≤ 1073741824) (n2 : ∀ x ∈ l,x.args.length ≤ 1073741824) :
    Calls Tryz.prog 67 #[v,.func (.func 68) #[] #[]] w fun en w' => (∃ v',en = .returned v' ∧ Owned 2 RFact B 38 S w' v' (compactL l)) ∧ w.grownBy w' v.ownBlock := by
  by_cases hl2 : l.length < 2
  · have hc : compactL l = l := by
      match l,hl2 with
      | [],_ => rfl
      | [x],_ => rfl
    rw [hc]
    obtain ⟨a,c,rfl,-,-,-⟩ := id (hown.read RFact.steady).form
    have HO := Lib.hid hown
    clear hown
    go_enter Tryz.func67,Tryz.ntmps67
    go_wp2
    go_ret
    exact ⟨⟨_,rfl,HO.out⟩,⟨rfl,rfl,rfl,Nat.le_refl _,fun _ _ _ => rfl⟩⟩
  · have hO := hown
    obtain ⟨css0,-,-,ho,-⟩ := hown
    rcases ho.2 with ⟨_,h0⟩ | ⟨g,cap,cur,rfl,hgB,-,hcap,hcm,-,-⟩
    · omega
    · have HO := Lib.hid hO
      have N2 := Lib.hid n2
      clear hO ho n2
      have hcm' : cap ≤ 9223372036854775807 := by unfold maxLen at hcm;omega
      obtain ⟨n,hn⟩ : ∃ n,l.length = n := ⟨_,rfl⟩
      rw [hn] at hl2 n1 hcap HO ⊢
      have HN := Lib.hid hn
      clear hn
      have hl2' : decide ((n : Int) < 2) = false := by simp;omega
      go_enter Tryz.func67,Tryz.ntmps67
      go_wp2
      go_loopw [5,6,7] (fun ui _ _ wr => ∃ j : Nat,j + 1 ≤ n ∧ ui = .int .i64 ((j : Int) + 1) ∧ Hid (∀ p x y,p + 1 < j + 1 → l[p]? = some x → l[p + 1]? = some y → x ≠ y) ∧ Hid (Owned 2 RFact B 38 S wr (.slice (some ⟨g,0,none⟩) n cap) l) ∧ Hid (Below w.heap.size w wr))
        (fun ui _ _ _ => n - (intOf ui).toNat)
      case atStart => exact ⟨0,by omega,rfl,fun p x y h => by omega,HO,Below.refl _ _⟩
      case round =>
        obtain ⟨j,hj,rfl,hne,hown,hbel⟩ := hrel
        by_cases hlt : j + 1 < n
        · obtain ⟨x,hx⟩ : ∃ x,l[j + 1]? = some x := ⟨_,List.getElem?_eq_getElem (by rw [HN.out];omega)⟩
          obtain ⟨y,hy⟩ : ∃ y,l[j]? = some y := ⟨_,List.getElem?_eq_getElem (by rw [HN.out];omega)⟩
          obtain ⟨g1,o1,av,e1,-,hg1,cx0,cx1,hav⟩ := RdFacts.at (hown.out.read RFact.steady) hx
          obtain ⟨g2,o2,bv,e2,-,-,cy0,cy1,hbv⟩ := RdFacts.at (hown.out.read RFact.steady) hy
          obtain ⟨aa,ac,rfl,-,-,-⟩ := id hav.form
          obtain ⟨ba,bc,rfl,-,-,-⟩ := id hbv.form
          injection e1 with e1;injection e1 with e1 e1' _;injection e2 with e2;injection e2 with e2 e2' _
          subst e1 e1' e2 e2'
          have n2x : x.args.length ≤ 1073741824 := N2.out x (List.mem_of_getElem? hx)
          have K := Lib.hid (fun W (ha : Agree (fun b => S b ∨ B ≤ b) wr W) => eqFact x y _ _ W (hav.agree RStr.steady ha) (hbv.agree RStr.steady ha) n2x)
          have HX := Lib.hid hx
          have HY := Lib.hid hy
          clear hx hy hav hbv n2x
          have i1 : (0 : Int) ≤ (j : Int) := by omega
          have i2 : (j : Int) + 1 < (n : Int) := by omega
          have i3 : (j : Int) < (n : Int) := by omega
          have i4 : (0 : Int) ≤ (j : Int) + 1 := by omega
          have i5 : IntKind.i64.wrap (j : Int) = j := by rw [IntKind.wrap_i64];omega
          simp only [Nat.zero_add] at cx0 cx1 cy0 cy1
          by_cases hxy : x = y
          · have hd : decide (x = y) = true := decide_eq_true hxy
            rw [hd] at K
            have HXY := Lib.hid hxy
            clear hxy hd
            go_wp2_with fail
            go_region_held3 (fun w' => w'.cell? ⟨g,(j + 1) * 2,none⟩ = some (.string x.name) ∧ w'.cell? ⟨g,(j + 1) * 2 + 1,none⟩ = some (.slice aa x.args.length ac) ∧
                w'.cell? ⟨g,j * 2,none⟩ = some (.string y.name) ∧ w'.cell? ⟨g,j * 2 + 1,none⟩ = some (.slice ba y.args.length bc))
              (first | (refine ⟨?_,?_,?_,?_⟩ <;> (rw [hk2 _ hg1];assumption)) | go_keep)
              (first
                | (go_at_call 68;refine (K.out _ (Agree.refl _ _).drew).mono ?_;rintro e w1 ⟨rfl,hf1⟩;have hk2 : ∀ c,c < wr.heap.size → ∀ off,w1.cell? ⟨c,off,none⟩ = wr.cell? ⟨c,off,none⟩ := fun c hc off => cell_below (w := wr.drew) hf1.below hc off))
            have hB2 : Below w.heap.size w w1 := hbel.out.drew.trans (hf1.below.mono hbel.out.size)
            obtain ⟨css,hrow⟩ := HalfRow.start ((hown.out.drew RFact.steady).below RFact.steady hf1.below) HN.out (i := j + 1) (by omega) (by omega)
            have hacc : compactL (l.take (j + 1 + 1)) = l.take (j + 1) := by
              rw [compactL_same HY.out (by rw [← HXY.out];exact HX.out),compactL_apart (j + 1) (by rw [HN.out];omega) hne.out]
            have HR := Lib.hid hrow
            have HB2 := Lib.hid (Below.grownBy hB2 (some g))
            have HACC := Lib.hid hacc
            clear hB2 hrow hacc hf1 hk2 cx0 cx1 cy0 cy1
            go_wp2
            clear HX HY HXY K hg1 hown hbel
            obtain ⟨m,hm⟩ : ∃ m,n - (j + 1) = m := ⟨_,rfl⟩
            obtain ⟨c2,hc2⟩ : ∃ c2,cap - (j + 1) = c2 := ⟨_,rfl⟩
            rw [hm,hc2]
            go_loopw [5,7] (fun ui uk wr2 => ∃ i q : Nat,∃ css acc,q + 1 ≤ m ∧ ui = .int .i64 i ∧ uk = .int .i64 ((q : Int) + 1) ∧ Hid (HalfRow wr2 S g n cap i (j + 1 + q) B css acc l) ∧ Hid (acc = compactL (l.take (j + 1 + q + 1))) ∧ Hid (w.grownBy wr2 (some g)))
              (fun _ uk _ => m - (intOf uk).toNat)
            case atStart => exact ⟨j + 1,0,css,_,by omega,by simp,by simp,HR.out,HACC.out.symm,HB2.out⟩
            case round =>
              obtain ⟨i,q,css,acc,hq,rfl,rfl,hrow,hacc,hbel⟩ := hrel
              by_cases hlt2 : q + 1 < m
              · obtain ⟨x2,hx⟩ : ∃ x2,l[j + 1 + q + 1]? = some x2 := ⟨_,List.getElem?_eq_getElem (by rw [HN.out];omega)⟩
                obtain ⟨y2,hy⟩ : ∃ y2,l[j + 1 + q]? = some y2 := ⟨_,List.getElem?_eq_getElem (by rw [HN.out];omega)⟩
                obtain ⟨av,hcx,hav,cx0,cx1⟩ := hrow.out.cellsAt (q := j + 1 + q + 1) (by omega) hx HN.out
                obtain ⟨bv,hcy,hbv,cy0,cy1⟩ := hrow.out.cellsAt (q := j + 1 + q) (by omega) hy HN.out
                obtain ⟨aa,ac,rfl,-,-,-⟩ := id hav.form
                obtain ⟨ba,bc,rfl,-,-,-⟩ := id hbv.form
                have n2x : x2.args.length ≤ 1073741824 := N2.out x2 (List.mem_of_getElem? hx)
                have K := Lib.hid (fun W (ha : Agree (fun b => S b ∧ b ≠ g) wr W) => eqFact x2 y2 _ _ W (hav.agree RStr.steady ha) (hbv.agree RStr.steady ha) n2x)
                have hg1 : g < wr.heap.size := (hrow.out.2.2.1.lt g rfl).2
                have HX := Lib.hid hx
                have HY := Lib.hid hy
                have HCX := Lib.hid hcx
                clear hx hy hav hbv n2x hcx hcy
                have i1 : (0 : Int) ≤ (q : Int) := by omega
                have i2 : (q : Int) + 1 < (m : Int) := by omega
                have i3 : (q : Int) < (m : Int) := by omega
                have i4 : (0 : Int) ≤ (q : Int) + 1 := by omega
                have i5 : IntKind.i64.wrap (q : Int) = q := by rw [IntKind.wrap_i64];omega
                have e1 : (j + 1 + q + 1) * 2 = (j + 1) * 2 + (q + 1) * 2 := by omega
                have e2 : (j + 1 + q) * 2 = (j + 1) * 2 + q * 2 := by omega
                rw [e1] at cx0 cx1
                rw [e2] at cy0 cy1
                clear e1 e2
                cases hxy : decide (x2 = y2)
                · rw [hxy] at K
                  have HXY := Lib.hid hxy
                  clear hxy
                  go_wp2_with fail
                  go_region_held3 (fun w' => w'.cell? ⟨g,(j + 1) * 2 + (q + 1) * 2,none⟩ = some (.string x2.name) ∧ w'.cell? ⟨g,(j + 1) * 2 + (q + 1) * 2 + 1,none⟩ = some (.slice aa x2.args.length ac) ∧
                      w'.cell? ⟨g,(j + 1) * 2 + q * 2,none⟩ = some (.string y2.name) ∧ w'.cell? ⟨g,(j + 1) * 2 + q * 2 + 1,none⟩ = some (.slice ba y2.args.length bc))
                    (first | (refine ⟨?_,?_,?_,?_⟩ <;> (rw [hk2 _ hg1];assumption)) | go_keep)
                    (first
                      | (go_at_call 68;refine (K.out _ (Agree.refl _ _).drew).mono ?_;rintro e w3 ⟨rfl,hf1⟩;have hk2 : ∀ c,c < wr.heap.size → ∀ off,w3.cell? ⟨c,off,none⟩ = wr.cell? ⟨c,off,none⟩ := fun c hc off => cell_below (w := wr.drew) hf1.below hc off))
                  have hrow3 := hrow.out.fresh (show Below wr.heap.size wr w3 from (Below.refl _ _).drew.trans hf1.below)
                  obtain ⟨d0,d1,s0,s1,s2,s3,s4,s5⟩ := hrow3.spot (show i < n by have := hrow3.2.2.2.2.1;omega) (.string x2.name)
                  have HR3 := Lib.hid (hrow3.put HX.out HCX.out)
                  have HG3 := Lib.hid ((hbel.out.trans (Below.grownBy (show Below wr.heap.size wr w3 from (Below.refl _ _).drew.trans hf1.below) (some g))).trans ((((hrow3.2.2.1.stored (i * 2) (.string x2.name)).2).trans (((hrow3.2.2.1.stored (i * 2) (.string x2.name)).1.stored (i * 2 + 1) (.slice aa x2.args.length ac)).2))))
                  have hin : (i : Int) < n := by have := hrow3.2.2.2.2.1;omega
                  have i6 : (0 : Int) ≤ (i : Int) := by omega
                  clear hrow3 hf1 hk2
                  go_wp2
                  go_roundw
                  case rel =>
                    refine ⟨i + 1,q + 1,_,acc ++ [x2],by omega,by go_num,by go_num,HR3.out,?_,HG3.out⟩
                    rw [show j + 1 + (q + 1) + 1 = j + 1 + q + 2 by omega,compactL_other HY.out HX.out (fun e => of_decide_eq_false HXY.out e.symm),← hacc.out]
                    exact Lib.hid rfl
                  case measure => simp [intOf];omega
                · rw [hxy] at K
                  have HXY := Lib.hid (of_decide_eq_true hxy)
                  clear hxy
                  go_wp2_with fail
                  go_region_held3 (fun w' => w'.cell? ⟨g,(j + 1) * 2 + (q + 1) * 2,none⟩ = some (.string x2.name) ∧ w'.cell? ⟨g,(j + 1) * 2 + (q + 1) * 2 + 1,none⟩ = some (.slice aa x2.args.length ac) ∧
                      w'.cell? ⟨g,(j + 1) * 2 + q * 2,none⟩ = some (.string y2.name) ∧ w'.cell? ⟨g,(j + 1) * 2 + q * 2 + 1,none⟩ = some (.slice ba y2.args.length bc))
                    (first | (refine ⟨?_,?_,?_,?_⟩ <;> (rw [hk2 _ hg1];assumption)) | go_keep)
                    (first
                      | (go_at_call 68;refine (K.out _ (Agree.refl _ _).drew).mono ?_;rintro e w3 ⟨rfl,hf1⟩;have hk2 : ∀ c,c < wr.heap.size → ∀ off,w3.cell? ⟨c,off,none⟩ = wr.cell? ⟨c,off,none⟩ := fun c hc off => cell_below (w := wr.drew) hf1.below hc off))
                  have HR3 := Lib.hid (hrow.out.fresh (show Below wr.heap.size wr w3 from (Below.refl _ _).drew.trans hf1.below))
                  have HG3 := Lib.hid (hbel.out.trans (Below.grownBy (show Below wr.heap.size wr w3 from (Below.refl _ _).drew.trans hf1.below) (some g)))
                  clear hf1 hk2
                  go_wp2
                  go_roundw
                  case rel =>
                    refine ⟨i,q + 1,css,acc,by omega,by go_num,by go_num,?_,?_,HG3.out⟩
                    · obtain ⟨h1,h2,h3,h4,h5,h6,h7⟩ := HR3.out
                      exact ⟨h1,h2,h3,h4,by omega,h6,fun q' cs x hq' => h7 q' cs x (by omega)⟩
                    · rw [show j + 1 + (q + 1) + 1 = j + 1 + q + 2 by omega,compactL_same HY.out (by rw [← HXY.out];exact HX.out),← hacc.out]
                      exact Lib.hid rfl
                  case measure => simp [intOf];omega
              · have hqm : q + 1 = m := by omega
                have hin : i ≤ n := by have := hrow.out.2.2.2.2.1;omega
                have hin' : (i : Int) ≤ n := by omega
                have hic : i ≠ cap := by have := hrow.out.2.2.2.2.1;omega
                have hic' : cap ≠ i := fun e => hic e.symm
                have hic2 : i < cap := by omega
                have hic3 : (i : Int) < cap := by omega
                have i6 : (0 : Int) ≤ (i : Int) := by omega
                have hacc' : acc = compactL l := by rw [hacc.out,List.take_of_length_le (by rw [HN.out];omega)]
                have HA := Lib.hid hacc'
                clear hacc'
                go_wp2
                obtain ⟨w5,hrun5,hown5,hg5⟩ := run_clear_own (P := Tryz.prog) (t := 24) (ty := 0) (k := 2) (by omega) Tryz.underlying24 Tryz.zeroValue38 rfl (by simp [Value.cells,Value.oneCell']) hrow.out.2.2.1 i (cap - i) hin
                have HO5 := Lib.hid (hrow.out.shut hin hown5 hg5)
                have HG5 := Lib.hid (hbel.out.trans hg5)
                clear hown5 hg5
                rw [hrun5]
                go_wp2
                go_ret
                exact ⟨⟨_,rfl,by rw [← HA.out];exact HO5.out⟩,HG5.out⟩
          · have hd : decide (x = y) = false := decide_eq_false hxy
            rw [hd] at K
            have HXY := Lib.hid hxy
            clear hxy hd
            go_wp2_with fail
            go_region_held3 (fun w' => w'.cell? ⟨g,(j + 1) * 2,none⟩ = some (.string x.name) ∧ w'.cell? ⟨g,(j + 1) * 2 + 1,none⟩ = some (.slice aa x.args.length ac) ∧
                w'.cell? ⟨g,j * 2,none⟩ = some (.string y.name) ∧ w'.cell? ⟨g,j * 2 + 1,none⟩ = some (.slice ba y.args.length bc))
              (first | (refine ⟨?_,?_,?_,?_⟩ <;> (rw [hk2 _ hg1];assumption)) | go_keep)
              (first
                | (go_at_call 68;refine (K.out _ (Agree.refl _ _).drew).mono ?_;rintro e w1 ⟨rfl,hf1⟩;have hk2 : ∀ c,c < wr.heap.size → ∀ off,w1.cell? ⟨c,off,none⟩ = wr.cell? ⟨c,off,none⟩ := fun c hc off => cell_below (w := wr.drew) hf1.below hc off))
            have HB2 := Lib.hid (hbel.out.drew.trans (hf1.below.mono hbel.out.size))
            have HO2 := Lib.hid ((hown.out.drew RFact.steady).below RFact.steady hf1.below)
            clear hf1 hk2 cx0 cx1 cy0 cy1
            go_wp2
            go_roundw
            case rel =>
              refine ⟨j + 1,by omega,by go_num,?_,HO2.out,HB2.out⟩
              intro p a b hp ha hb
              by_cases hpj : p = j
              · subst hpj
                rw [HY.out] at ha
                rw [HX.out] at hb
                obtain rfl := Option.some.inj ha
                obtain rfl := Option.some.inj hb
                exact fun e => HXY.out e.symm
              · exact hne.out p a b (by omega) ha hb
            case measure => simp [intOf];omega
        · have hjn : j + 1 = n := by omega
          have hc : compactL l = l := by
            have := compactL_apart (l := l) (j + 1) (by rw [HN.out];omega) hne.out
            rwa [List.take_of_length_le (by rw [HN.out];omega)] at this
          have HC := Lib.hid hc
          clear hc
          go_wp2
          go_ret
          exact ⟨⟨_,rfl,by rw [HC.out];exact hown.out⟩,Below.grownBy hbel.out _⟩
end Go.Proofs.YtiiicochdidolaaGreat
namespace Go.Proofs.YtiiicochdidolaaGreat
open Go.RowKit
theorem wpList_append_run {P : Program} {ops : Array Oper} {rest : List Oper} {o : Oper} {a : Act} {w : World} {Q : Exit → Act → World → Prop} (hgd : o.guard = none) (s x : Operand) (t tn : TypeId)
    (ho : o.op = .call { callee := .builtin .append,args := #[s,x],argTypes := #[t,tn] }) (v u v' : Value) (w' : World) (hs : a.eval s = v) (hx : a.eval x = u)
    (hrun : (Builtin.append_ #[t,tn] o.type #[v,u]).run P w = .ok v' w') (h : wpList P ops Q rest (a.put o.dst v') w') : wpList P ops Q (o :: rest) a w :=
  wpList_plain hgd fun K hK => by
    unfold Oper.wp execOp
    simp only [ho,resolve,invoke,builtin,Sem.run_bind,Sem.run_pure,Result.andThen_ok,List.map_toArray,List.map_cons,List.map_nil,hs,hx,hrun]
    exact hK _ _ h
set_option maxRecDepth 100000 in
set_option maxHeartbeats 1000000 in
theorem growFacts {S : Nat → Prop} (w : World) (n : Nat) (hn : n ≤ 4294967296) :
    Calls Tryz.prog 134 #[.slice none 0 0,.int .i64 n] w fun e w' => (∃ v',e = .returned v' ∧ Owned 2 RFact w.heap.size 38 S w' v' []) ∧ Below w.heap.size w w' := by
  by_cases h0 : n = 0
  · subst h0
    go_enter Tryz.func134,Tryz.ntmps134
    go_wp2
    go_ret
    exact ⟨⟨_,rfl,Owned.nil⟩,Below.refl _ _⟩
  · have i1 : (0 : Int) < (n : Int) := by omega
    have i2 : ¬ ((n : Int) < 0) := by omega
    have i3 : IntKind.i64.wrap (n : Int) = n := by rw [IntKind.wrap_i64];omega
    obtain ⟨i,z,hi,hz,hsize,hby,hzs⟩ := rowFacts.ex
    have hb : i.bytes = 40 := by
      have e : (Tryz.prog.info? 38).map (·.bytes) = some 40 := by kernel_rfl
      rw [hi] at e
      exact Option.some.inj e
    have hrun := Lib.run_append_grow_zeros (P := Tryz.prog) w 24 3 24 38 i z .i64 .i64 Tryz.underlying24 Tryz.underlying3 hi hz none 0 0 [] (run_firstCells_none _ _ _ _ _) n (by omega) (by omega) (by omega) (by omega) (by rw [hb];omega)
      (growslice_fits (by omega) (by rw [hb];omega))
    obtain ⟨G,hG⟩ : ∃ G,G = grownCap w (0 + n) 0 38 := ⟨_,rfl⟩
    have hGn : 0 + n ≤ G := by rw [hG];exact grownCap_ge w _ _ _
    have hGm : G ≤ maxLen := by rw [hG];exact grownCap_le_maxLen w _ _ _ (by unfold maxLen;omega)
    rw [← hG] at hrun
    clear hG
    obtain ⟨cur,hcur⟩ : ∃ cur,cur = (#[] : Array Value) ++ Builtin.zeroCells z.cells n ++ Builtin.zeroCells z.cells (G - (0 + n)) := ⟨_,rfl⟩
    have hsz : cur.size = G * 2 := by
      rw [hcur]
      simp only [Array.size_append,size_zeroCells,hzs]
      simp;omega
    rw [show ([] : List Value).toArray = #[] from rfl,← hcur] at hrun
    have HC := Lib.hid hcur
    have HS := Lib.hid hsz
    clear hcur hsz hi hz hzs hsize hby hb
    rw [Nat.zero_add] at hrun hGn
    have hG63 : G ≤ 9223372036854775807 := by unfold maxLen at hGm;omega
    have HR := Lib.hid hrun
    clear hrun
    go_enter Tryz.func134,Tryz.ntmps134
    go_wp2_with (at_builtin;refine wpList_append_run (by rfl) _ _ 24 3 (by rfl) _ _ _ _ (by rfl) (by rfl) HR.out ?_)
    go_wp2
    go_ret
    exact ⟨⟨_,rfl,Owned.made (w := w.drew) (Nat.le_refl _) hGm HS.out⟩,((Below.refl _ _).drew).alloc (Nat.le_refl _) _⟩
theorem Owned.base {α : Type} {k : Nat} {R : Reader α} {B B' : Nat} {e : TypeId} {S : Nat → Prop} {w : World} {v : Value} {l : List α} (h : Owned k R B e S w v l) (hb : B' ≤ B) : Owned k R B' e S w v l := by
  obtain ⟨css,h1,h2,ho,h3⟩ := h
  refine ⟨css,h1,h2,⟨ho.1,?_⟩,h3⟩
  rcases ho.2 with hn | ⟨g,cap,cur,rfl,hg,rest⟩
  · exact .inl hn
  · exact .inr ⟨g,cap,cur,rfl,Nat.le_trans hb hg,rest⟩
def two {α : Type} (a b : List α) (k : Nat) : List α := ([a,b].take k).flatten
theorem RdSlice.old {α : Type} {k : Nat} {R : Reader α} (hR : Steady R) {S : Nat → Prop} {w w' : World} {v : Value} {l : List α} (h : RdSlice k R S w v l) (hb : Below w.heap.size w w') : RdSlice k R (fun b => b < w.heap.size) w' v l :=
  (h.more hR (fun _ _ h => h)).agree hR (Below.agree hb)
set_option maxRecDepth 100000 in
set_option maxHeartbeats 2000000 in
theorem concatFacts {S T : Nat → Prop} (w : World) (va vb : Value) (a b : List PFact) (g : Nat) (ha : RdFacts S w va a) (hb : RdFacts T w vb b) (c0 : w.cell? ⟨g,0,none⟩ = some va) (c1 : w.cell? ⟨g,1,none⟩ = some vb) (hg : g < w.heap.size)
    (n1 : a.length ≤ 1073741824) (n2 : b.length ≤ 1073741824) :
    Calls Tryz.prog 112 #[.slice (some ⟨g,0,none⟩) 2 2] w fun e w' => (∃ v',e = .returned v' ∧ Owned 2 RFact w.heap.size 38 (fun q => q < w.heap.size) w' v' (a ++ b)) ∧ Below w.heap.size w w' := by
  obtain ⟨aa,ac,rfl,-,-,-⟩ := id ha.form
  obtain ⟨ba,bc,rfl,-,-,-⟩ := id hb.form
  have HA := Lib.hid (fun W (h : Below w.heap.size w W) => ha.old RFact.steady h)
  have HB := Lib.hid (fun W (h : Below w.heap.size w W) => hb.old RFact.steady h)
  clear ha hb
  go_enter Tryz.func112,Tryz.ntmps112
  go_wp2
  go_loop [3,11,5] (fun us uk _ => ∃ k : Nat,k ≤ 2 ∧ uk = .int .i64 k ∧ us = .int .i64 ((two a b k).length : Int)) (fun _ uk _ => 2 - (intOf uk).toNat)
  case atStart => exact ⟨0,by omega,rfl,rfl⟩
  case round =>
    obtain ⟨k,hk,rfl,rfl⟩ := hrel
    rcases (show k = 0 ∨ k = 1 ∨ k = 2 by omega) with rfl | rfl | rfl
    · have e0 : ((two a b 0).length : Int) = 0 := by simp [two]
      have z0 : ((0 : Nat) : Int) = 0 := rfl
      rw [e0,z0]
      go_wp2
      go_round
      case rel => exact ⟨1,by omega,by go_num,by simp [two]⟩
      case measure => simp [intOf]
    · have e1 : (two a b 1).length = a.length := by simp [two]
      rw [e1]
      go_wp2
      go_round
      case rel => exact ⟨2,by omega,by go_num,by simp [two]⟩
      case measure => simp [intOf]
    · have e2 : (two a b 2).length = a.length + b.length := by simp [two]
      rw [e2]
      have HG := Lib.hid (growFacts (S := fun q => q < w.heap.size) w (a.length + b.length) (by omega))
      go_wp2_with (go_at_call 134;refine (HG.out).mono ?_;rintro e w1 ⟨⟨v1,rfl,ho1⟩,hb1⟩)
      have HO := Lib.hid ho1
      have HW := Lib.hid hb1
      have hg1 : g < w1.heap.size := Nat.lt_of_lt_of_le hg hb1.size
      clear ho1 hb1
      go_wp2
      go_loopw [27,6,8] (fun uk uv _ wr => ∃ k : Nat,k ≤ 2 ∧ uk = .int .i64 k ∧ Hid (Owned 2 RFact w.heap.size 38 (fun q => q < w.heap.size) wr uv (two a b k)) ∧ Hid (Below w.heap.size w wr)) (fun uk _ _ _ => 2 - (intOf uk).toNat)
      case atStart => exact ⟨0,by omega,rfl,HO,HW⟩
      case round =>
        obtain ⟨k,hk,rfl,hown,hbel⟩ := hrel
        have d0 := (cell_below hbel.out hg 0).trans c0
        have d1 := (cell_below hbel.out hg 1).trans c1
        rcases (show k = 0 ∨ k = 1 ∨ k = 2 by omega) with rfl | rfl | rfl
        · have z0 : ((0 : Nat) : Int) = 0 := rfl
          rw [z0]
          go_wp2_with (at_builtin;refine wpList_append_many (B := w.heap.size) (e := 38) (S := fun q => q < w.heap.size) (by rfl) _ _ 24 (by rfl) RFact.steady RFact.one rowFacts _ (two a b 0) (by rfl) hown.out _ a (by rfl) (HA.out _ hbel.out) (fun cs x hr => RFact.steady.more (fun q hq _ => ⟨hq,fun e => by have := (hown.out.row_lt e.symm).1;omega⟩) hr) (by simp [two];omega) hbel.out.size ?_;intro v' w' hown' hg' hat';have HO' := Lib.hid hown';have HB' := Lib.hid (hbel.out.grown hg' hbel.out.size (fun q hq => (hown.out.row_lt hq).1));clear hown' hg' hat')
          go_wp2
          go_roundw
          case rel => exact ⟨1,by omega,by go_num,by simpa [two] using HO',HB'⟩
          case measure => simp [intOf]
        · have z0 : ((1 : Nat) : Int) = 1 := rfl
          rw [z0]
          go_wp2_with (at_builtin;refine wpList_append_many (B := w.heap.size) (e := 38) (S := fun q => q < w.heap.size) (by rfl) _ _ 24 (by rfl) RFact.steady RFact.one rowFacts _ (two a b 1) (by rfl) hown.out _ b (by rfl) (HB.out _ hbel.out) (fun cs x hr => RFact.steady.more (fun q hq _ => ⟨hq,fun e => by have := (hown.out.row_lt e.symm).1;omega⟩) hr) (by simp [two];omega) hbel.out.size ?_;intro v' w' hown' hg' hat';have HO' := Lib.hid hown';have HB' := Lib.hid (hbel.out.grown hg' hbel.out.size (fun q hq => (hown.out.row_lt hq).1));clear hown' hg' hat')
          go_wp2
          go_roundw
          case rel => exact ⟨2,by omega,by go_num,by simpa [two] using HO',HB'⟩
          case measure => simp [intOf]
        · have z0 : ((2 : Nat) : Int) = 2 := rfl
          rw [z0]
          go_wp2
          go_ret
          exact ⟨⟨_,rfl,by simpa [two] using hown.out⟩,hbel.out⟩
set_option maxHeartbeats 2000000 in
theorem ofCalls {S : Nat → Prop} (v : Value) (l : List PFact) (w : World) (h : RdFacts S w v l) (n1 : l.length ≤ 1073741824) (n2 : ∀ x ∈ l,x.args.length ≤ 1073741824) :
    Calls Tryz.prog 32 #[v] w fun e w' => (∃ v',e = .returned v' ∧ Owned 2 RFact w.heap.size 38 (New w) w' v' (ofF l)) ∧ Below w.heap.size w w' := by
  obtain ⟨a,c,rfl,-,-,-⟩ := id h.form
  have K := Lib.hid (ownCalls _ l w h n1 n2)
  have N2 := Lib.hid n2
  clear h n2
  go_enter Tryz.func32,Tryz.ntmps32
  go_wp2_with (first
    | (go_at_call 65;refine (K.out).mono ?_;rintro e w1 ⟨⟨v1,rfl,ho1⟩,hb1⟩;obtain ⟨a1,c1,rfl,-,-,-⟩ := id (ho1.read RFact.steady).form)
    | (go_at_call 66;refine (sortFacts ho1 n1 N2.out).mono ?_;rintro e w2 ⟨rfl,l2,hp,hs,ho2,hg2⟩;have HC := Lib.hid (compact_of hp hs);have HP := Lib.hid hp;have HB := Lib.hid (hb1.grown hg2 hb1.size (fun k hk => (ho1.row_lt hk).1));clear hs hp hg2 ho1 hb1)
    | (go_at_call 67;refine (compactFacts ho2 (by rw [HP.out.length_eq];exact n1) (fun x hx => N2.out x (HP.out.mem_iff.1 hx))).mono ?_;rintro e w3 ⟨⟨v3,rfl,ho3⟩,hg3⟩;have HO := Lib.hid ho3;have HB3 := Lib.hid (HB.out.grown hg3 HB.out.size (fun k hk => (ho2.row_lt hk).1));clear ho3 hg3 ho2))
  go_ret
  rw [HC.out] at HO
  exact ⟨⟨_,rfl,HO.out⟩,HB3.out⟩
set_option maxHeartbeats 2000000 in
theorem joinCalls {S T : Nat → Prop} (va vb : Value) (a b : List PFact) (w : World) (ha : RdFacts S w va a) (hb : RdFacts T w vb b) (n1 : a.length + b.length ≤ 1073741824) (n2 : ∀ x ∈ a,x.args.length ≤ 1073741824) (n3 : ∀ x ∈ b,x.args.length ≤ 1073741824) :
    Calls Tryz.prog 80 #[va,vb] w fun e w' => (∃ v',e = .returned v' ∧ Owned 2 RFact w.heap.size 38 (New w) w' v' (joinF a b)) ∧ Below w.heap.size w w' := by
  obtain ⟨aa,ac,rfl,-,-,-⟩ := id ha.form
  obtain ⟨ba,bc,rfl,-,-,-⟩ := id hb.form
  have HA := Lib.hid ha
  have HB := Lib.hid hb
  have N := Lib.hid (fun x (hx : x ∈ a ++ b) => (List.mem_append.1 hx).elim (n2 x) (n3 x))
  clear ha hb n2 n3
  go_enter Tryz.func80,Tryz.ntmps80
  go_wp2_with (first
    | (go_at_call 112;refine (concatFacts (S := fun _ => True) (T := fun _ => True) _ _ _ a b w.heap.size ((HA.out.more RFact.steady (fun _ _ _ => trivial)).agree RFact.steady ((Agree.refl _ _).alloc _)) ((HB.out.more RFact.steady (fun _ _ _ => trivial)).agree RFact.steady ((Agree.refl _ _).alloc _)) (by simp) (by simp) (by simp) (by omega) (by omega)).mono ?_;rintro e w1 ⟨⟨v1,rfl,ho1⟩,hb1⟩;have HR := Lib.hid (ho1.read RFact.steady);have HB1 := Lib.hid (((Below.refl w.heap.size w).alloc (Nat.le_refl _) _).trans (hb1.mono (by simp)));clear ho1 hb1)
    | (go_at_call 32;refine (ofCalls _ (a ++ b) _ HR.out (by simp;omega) N.out).mono ?_;rintro e w2 ⟨⟨v2,rfl,ho2⟩,hb2⟩;have HO := Lib.hid ho2;have HB2 := Lib.hid (HB1.out.trans (hb2.mono HB1.out.size));clear ho2 hb2))
  go_ret
  exact ⟨⟨_,rfl,Owned.base (HO.out.moreS RFact.steady (fun b hb _ => Nat.le_trans HB1.out.size hb)) HB1.out.size⟩,HB2.out⟩
end Go.Proofs.YtiiicochdidolaaGreat
namespace Go.Proofs.YtiiicochdidolaaGreat
open Go.RowKit
theorem lessF_snoc (a b : List PFact) (x : PFact) : lessF (a ++ [x]) b = if memF x b then lessF a b else lessF a b ++ [x] := by
  unfold lessF
  rw [List.filter_append]
  cases h : memF x b <;> simp [h]
attribute [local go_sem ↓] Go.wp_at_zero Go.wp_at_succ
set_option maxRecDepth 100000 in
set_option maxHeartbeats 4000000 in
theorem lessCalls {S T : Nat → Prop} (va vb : Value) (l m : List PFact) (w : World) (h : RdFacts S w va l) (hm : RdFacts T w vb m) (hs : Rising m) (n1 : l.length ≤ 1073741824) (n2 : ∀ x ∈ l,x.args.length ≤ 1073741824) (n3 : m.length ≤ 1073741824) (n4 : ∀ x ∈ m,x.args.length ≤ 1073741824) :
    Calls Tryz.prog 14 #[va,vb] w fun e w' => (∃ v',e = .returned v' ∧ Owned 2 RFact w.heap.size 38 (New w) w' v' (lessF l m)) ∧ Below w.heap.size w w' := by
  obtain ⟨a,c,rfl,-,-,-⟩ := id h.form
  obtain ⟨b,d,rfl,-,-,-⟩ := id hm.form
  have H := Lib.hid h
  have N2 := Lib.hid n2
  have K := Lib.hid (fun W (x : PFact) (av : Value) (hW : Below w.heap.size w W) (hx : RdStrs (fun _ => True) W av x.args) => inFact _ m x av W ((hm.more RFact.steady (fun _ _ _ => trivial)).agree RFact.steady (Below.agree (S := fun _ => True) hW)) hx hs n3 n4)
  clear h n2 hm hs n4
  go_enter Tryz.func14,Tryz.ntmps14
  go_wp2
  go_loopw [10,5] (fun i v wr => ∃ k : Nat,k ≤ l.length ∧ i = .int .i64 k ∧ Hid (Owned 2 RFact w.heap.size 38 (New w) wr v (lessF (l.take k) m)) ∧ Hid (Below w.heap.size w wr)) (fun i _ _ => l.length - (intOf i).toNat)
  case atStart => exact ⟨0,Nat.zero_le _,rfl,Owned.nil,Below.refl _ _⟩
  case round =>
    obtain ⟨k,hk,rfl,HO,HB⟩ := hrel
    by_cases hlt : k < l.length
    · obtain ⟨x,hx⟩ : ∃ x,l[k]? = some x := ⟨_,List.getElem?_eq_getElem hlt⟩
      have hn2 : x.args.length ≤ 1073741824 := N2.out x (List.mem_of_getElem? hx)
      obtain ⟨b1,o1,av,rfl,-,-,hc1,hc2,hav⟩ := RdFacts.at ((H.out.more RFact.steady (S' := fun _ => True) (fun _ _ _ => trivial)).agree RFact.steady (Below.agree HB.out)) hx
      obtain ⟨aa,ac,rfl,-,-,-⟩ := id hav.form
      have HT := Lib.hid (show lessF (l.take (k + 1)) m = if memF x m then lessF (l.take k) m else lessF (l.take k) m ++ [x] by rw [List.take_add_one,hx];exact lessF_snoc (l.take k) m x)
      have HA := Lib.hid hav
      have hsz := HB.out.size
      have hll : (lessF (l.take k) m).length ≤ k := by
        refine Nat.le_trans (List.length_filter_le _ _) ?_
        rw [List.length_take];exact Nat.min_le_left _ _
      have HLL := Lib.hid hll
      clear hav hx hll
      cases hmem : memF x m
      · have HM := Lib.hid hmem
        clear hmem
        go_wp2_with (go_at_call 12;refine (K.out _ x _ (HB.out.alloc hsz _) (HA.out.agree RStr.steady ((Agree.refl _ _).alloc _))).mono ?_;rintro e w0 ⟨rfl,hf0⟩;rw [HM.out])
        have hB0 : Below w.heap.size w w0 := (HB.out.alloc hsz _).trans (hf0.below.mono (by simp;omega))
        have HB0 := Lib.hid hB0
        have HO0 := Lib.hid ((HO.out.alloc RFact.steady (.cells #[.string x.name,.slice aa x.args.length ac] 38)).below RFact.steady hf0.below)
        have HA0 := Lib.hid ((HA.out.agree RStr.steady ((Agree.refl _ _).alloc (.cells #[.string x.name,.slice aa x.args.length ac] 38))).agree RStr.steady (Below.agree hf0.below))
        have hs0 : wr.heap.size < w0.heap.size := by have := hf0.below.size;simp at this;omega
        have d0 : w0.cell? ⟨wr.heap.size,0,none⟩ = some (.string x.name) := by rw [cell_below hf0.below (by simp)];simp
        have d1 : w0.cell? ⟨wr.heap.size,1,none⟩ = some (.slice aa x.args.length ac) := by rw [cell_below hf0.below (by simp)];simp
        have hsz0 := hB0.size
        clear hB0 hf0
        go_wp2_with fail
        go_region_held3 (fun w' => w'.cell? ⟨wr.heap.size,0,none⟩ = some (.string x.name) ∧ w'.cell? ⟨wr.heap.size,1,none⟩ = some (.slice aa x.args.length ac))
          (first
            | (refine ⟨?_,?_⟩ <;> (rw [hk2];simpa using by assumption))
            | (refine ⟨?_,?_⟩ <;> (rw [cell_below hb1 (by simpa using hs0)];assumption))
            | go_keep)
          (first
            | (go_at_call 33;refine (cloneStr _ x.args _ (HA0.out.agree RStr.steady ((Agree.refl _ _).drew)) hn2).mono ?_;rintro e w1 ⟨⟨v1,rfl,hr1⟩,hb1⟩;obtain ⟨a1,c1,rfl,-,-,-⟩ := id hr1.form)
            | (refine step_append_one (by rfl) _ _ 24 (by rfl) RFact.steady rowFacts _ (lessF (l.take k) m) (by rfl) (((HO0.out.drew RFact.steady).below RFact.steady hb1).alloc RFact.steady _) _ 1 #[.string x.name,.slice a1 x.args.length c1] 38 (0,0) x (by rfl) (heap_alloc_new _ _) rfl (by simp [Value.oneCell']) (RFact.fresh HO0.out hsz0 (Nat.le_refl _) hr1 ((Agree.refl _ _).alloc _)) (by have := HLL.out;omega) (by have := hb1.size;simp at this ⊢;omega) ?_;intro v2 w2 hown2 hg2 hat2;have hk2 := fun off => kept_cell (c := wr.heap.size) hb1 hg2 (by simpa using hs0) (fun e => by have := (HO.out.row_lt e).2;omega) off))
        have HO2 := Lib.hid (show Owned 2 RFact w.heap.size 38 (New w) w2 v2 (lessF (l.take (k + 1)) m) by rw [HT.out,HM.out];exact hown2)
        have HB2 := Lib.hid (show Below w.heap.size w w2 from (((HB0.out.drew.trans (hb1.mono hsz0)).alloc (by have := hb1.size;simp at this ⊢;omega) _).grown hg2 (by have := hb1.size;simp at this ⊢;omega) (fun q hq => (HO.out.row_lt hq).1)))
        clear hown2 hg2 hat2 hk2 hb1 hr1
        go_wp2
        go_roundw
        case rel => exact ⟨k + 1,by omega,by go_num,HO2.out,HB2.out⟩
        case measure => simp [intOf];omega
      · have HM := Lib.hid hmem
        clear hmem
        go_wp2_with (go_at_call 12;refine (K.out _ x _ (HB.out.alloc hsz _) (HA.out.agree RStr.steady ((Agree.refl _ _).alloc _))).mono ?_;rintro e w0 ⟨rfl,hf0⟩;rw [HM.out])
        have HB0 := Lib.hid ((HB.out.alloc hsz _).trans (hf0.below.mono (by simp;omega)))
        have HO0 := Lib.hid (show Owned 2 RFact w.heap.size 38 (New w) w0 _ (lessF (l.take (k + 1)) m) by rw [HT.out,HM.out];exact ((HO.out.alloc RFact.steady (.cells #[.string x.name,.slice aa x.args.length ac] 38)).below RFact.steady hf0.below))
        clear hf0
        go_wp2
        go_roundw
        case rel => exact ⟨k + 1,by omega,by go_num,HO0.out,HB0.out⟩
        case measure => simp [intOf];omega
    · have htk : l.take k = l := List.take_of_length_le (by omega)
      rw [htk] at HO
      clear htk
      go_wp2
      go_ret
      exact ⟨⟨_,rfl,HO.out⟩,HB.out⟩
end Go.Proofs.YtiiicochdidolaaGreat
