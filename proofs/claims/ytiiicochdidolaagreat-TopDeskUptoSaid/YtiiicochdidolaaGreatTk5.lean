/-
  THE TEXTS MatchQ, Cmp, In, SetW, MatchL, one behind the other.
-/
import Derived.Test.YtiiicochdidolaaGreatTk1
import Derived.Test.YtiiicochdidolaaGreatTk3
import Derived.Test.YtiiicochdidolaaGreatTk4
import Derived.Deep.QuietTactic
import Derived.BigQuiet
namespace Go.Proofs.YtiiicochdidolaaGreat
theorem mem_varsF (v : Str) : ∀ (l : List PTerm) (acc : List Str),v ∈ varsF acc l ↔ v ∈ acc ∨ ∃ t ∈ l,t.var = true ∧ t.name = v
  | [],acc => by simp [varsF]
  | t :: l,acc => by
    rw [varsF,mem_varsF v l]
    have h : v ∈ (if t.var && !memS t.name acc then acc ++ [t.name] else acc) ↔ v ∈ acc ∨ (t.var = true ∧ t.name = v) := by
      by_cases ht : t.var = true
      · by_cases hm : memS t.name acc = true
        · rw [if_neg (by simp [hm])]
          constructor
          · exact .inl
          · rintro (h | ⟨-,rfl⟩)
            · exact h
            · exact (memS_iff _ _).1 hm
        · rw [if_pos (by simp [ht,hm])]
          simp only [List.mem_append,List.mem_singleton]
          constructor
          · rintro (h | h)
            · exact .inl h
            · exact .inr ⟨ht,h.symm⟩
          · rintro (h | ⟨-,h⟩)
            · exact .inl h
            · exact .inr h.symm
      · rw [if_neg (by simp [ht])]
        constructor
        · exact .inl
        · rintro (h | ⟨h,-⟩)
          · exact h
          · exact absurd h ht
    rw [h]
    constructor
    · rintro ((h | h) | ⟨u,hu,h⟩)
      · exact .inl h
      · exact .inr ⟨t,by simp,h⟩
      · exact .inr ⟨u,by simp [hu],h⟩
    · rintro (k | ⟨u,hu,k⟩)
      · exact .inl (.inl k)
      · rcases List.mem_cons.1 hu with e | hu
        · rw [e] at k;exact .inl (.inr k)
        · exact .inr ⟨u,hu,k⟩
theorem mem_varsOf (v : Str) (a : PAtom) : v ∈ varsOf a ↔ ∃ t ∈ a.terms,t.var = true ∧ t.name = v := by
  unfold varsOf;rw [mem_varsF];simp
theorem mem_heldOf (v : Str) (l : List PAtom) : v ∈ heldOf l ↔ ∃ a ∈ l,a.neg = false ∧ v ∈ varsOf a := by
  unfold heldOf
  rw [List.mem_flatMap]
  constructor
  · rintro ⟨a,ha,h⟩
    cases hn : a.neg
    · rw [hn] at h;exact ⟨a,ha,hn,by simpa using h⟩
    · rw [hn] at h;simp at h
  · rintro ⟨a,ha,hn,h⟩
    exact ⟨a,ha,by rw [hn];simpa using h⟩
theorem body_free {l : List PAtom} (h : bodyBad l = 0) {a : PAtom} (ha : a ∈ l) {v : Str} (hv : v ∈ varsOf a) : v ∈ heldOf l := by
  unfold bodyBad at h
  split at h
  · exact absurd h (by decide)
  · split at h
    · rename_i h1;exact absurd h h1
    · split at h
      · rename_i h1
        unfold freeIn at h1
        rw [List.all_eq_true] at h1
        have := h1 a ha
        rw [List.all_eq_true] at this
        exact (memS_iff _ _).1 (this v hv)
      · exact absurd h (by decide)
theorem body_atoms {l : List PAtom} (h : bodyBad l = 0) : l.length ≤ 5 := by
  unfold bodyBad at h
  split at h
  · exact absurd h (by decide)
  · omega
section
variable {pick : Nat → List PFact}
theorem mem_stepP {ls : List Binds} {a : PAtom} {fs : List PFact} {m : Binds} : m ∈ stepP ls a fs ↔ ∃ l ∈ ls,∃ f ∈ fs,meetP a f l = some m := by
  unfold stepP
  simp [List.mem_flatMap,List.mem_filterMap]
theorem goP_sound : ∀ (body : List PAtom) (i : Nat) (ls out : List Binds),goP pick i ls body = some out → (∀ l ∈ ls,Nd l) →
    ∀ m ∈ out,∃ l ∈ ls,Nd m ∧ SubB l m ∧ (∀ v,v ∈ Vs m ↔ v ∈ Vs l ∨ ∃ a ∈ body,a.neg = false ∧ v ∈ varsOf a) ∧
      ∀ j a,body[j]? = some a → a.neg = false → ∃ f,fillP a m = some f ∧ f ∈ pick (i + j)
  | [],i,ls,out,h,hn,m,hm => by
    obtain rfl := Option.some.inj h
    exact ⟨m,hm,hn m hm,fun v n h => h,by simp,by simp⟩
  | a :: b,i,ls,out,h,hn,m,hm => by
    unfold goP at h
    cases hneg : a.neg
    · rw [if_neg (by simp [hneg])] at h
      split at h
      · cases h
      · have hn1 : ∀ l ∈ stepP ls a (pick i),Nd l := fun l hl => by
          obtain ⟨l0,h0,f,hf,hm⟩ := mem_stepP.1 hl
          unfold meetP at hm
          split at hm
          · rename_i hc;exact (meetL_spec _ _ _ _ hc.2 (hn l0 h0) hm).1
          · cases hm
        obtain ⟨l1,hl1,g1,g2,g3,g4⟩ := goP_sound b (i + 1) _ out h hn1 m hm
        obtain ⟨l0,h0,f,hf,hmt⟩ := mem_stepP.1 hl1
        unfold meetP at hmt
        split at hmt
        · rename_i hc
          obtain ⟨k1,k2,k3,k4⟩ := meetL_spec _ _ _ _ hc.2 (hn l0 h0) hmt
          refine ⟨l0,h0,g1,k2.trans g2,fun v => ?_,fun j x hx hxn => ?_⟩
          · rw [g3,k4]
            constructor
            · rintro ((h | h) | ⟨x,hx,h⟩)
              · exact .inl h
              · exact .inr ⟨a,by simp,hneg,(mem_varsOf v a).2 h⟩
              · exact .inr ⟨x,by simp [hx],h⟩
            · rintro (h | ⟨x,hx,h⟩)
              · exact .inl (.inl h)
              · rcases List.mem_cons.1 hx with e | hx
                · rw [e] at h;exact .inl (.inr ((mem_varsOf v a).1 h.2))
                · exact .inr ⟨x,hx,h⟩
          · cases j with
            | zero =>
              obtain rfl : a = x := by simpa using hx
              refine ⟨f,?_,hf⟩
              refine g2.fillP ?_
              unfold fillP
              rw [k3,hc.1]
              rfl
            | succ j =>
              obtain ⟨f',h1,h2⟩ := g4 j x (by simpa using hx) hxn
              exact ⟨f',h1,by rw [show i + (j + 1) = i + 1 + j by omega];exact h2⟩
        · cases hmt
    · rw [if_pos (by simp [hneg])] at h
      obtain ⟨l1,hl1,g1,g2,g3,g4⟩ := goP_sound b (i + 1) ls out h hn m hm
      refine ⟨l1,hl1,g1,g2,fun v => ?_,fun j x hx hxn => ?_⟩
      · rw [g3]
        constructor
        · rintro (h | ⟨x,hx,h⟩)
          · exact .inl h
          · exact .inr ⟨x,by simp [hx],h⟩
        · rintro (h | ⟨x,hx,h⟩)
          · exact .inl h
          · rcases List.mem_cons.1 hx with e | hx
            · rw [e,hneg] at h;cases h.1
            · exact .inr ⟨x,hx,h⟩
      · cases j with
        | zero =>
          obtain rfl : a = x := by simpa using hx
          rw [hneg] at hxn;cases hxn
        | succ j =>
          obtain ⟨f',h1,h2⟩ := g4 j x (by simpa using hx) hxn
          exact ⟨f',h1,by rw [show i + (j + 1) = i + 1 + j by omega];exact h2⟩
theorem goP_full : ∀ (body : List PAtom) (i : Nat) (ls out : List Binds) (e : Binds),goP pick i ls body = some out →
    (∀ j a,body[j]? = some a → a.neg = false → ∃ f,fillP a e = some f ∧ f ∈ pick (i + j)) → (∃ l ∈ ls,SubB l e) → ∃ m ∈ out,SubB m e
  | [],i,ls,out,e,h,_,hs => by obtain rfl := Option.some.inj h;exact hs
  | a :: b,i,ls,out,e,h,hf,⟨l,hl,hs⟩ => by
    have hf' : ∀ j x,b[j]? = some x → x.neg = false → ∃ f,fillP x e = some f ∧ f ∈ pick (i + 1 + j) := fun j x hx hn => by
      obtain ⟨f,h1,h2⟩ := hf (j + 1) x (by simpa using hx) hn
      exact ⟨f,h1,by rw [show i + 1 + j = i + (j + 1) by omega];exact h2⟩
    unfold goP at h
    cases hneg : a.neg
    · rw [if_neg (by simp [hneg])] at h
      split at h
      · cases h
      · refine goP_full b (i + 1) _ out e h hf' ?_
        obtain ⟨f,h1,h2⟩ := hf 0 a rfl hneg
        obtain ⟨k1,k2⟩ := fillP_name h1
        obtain ⟨m,hm,hsm⟩ := meetL_full a.terms f.args l e k2 hs
        refine ⟨m,mem_stepP.2 ⟨l,hl,f,h2,?_⟩,hsm⟩
        unfold meetP
        rw [if_pos ⟨k1,fillArgs_len k2⟩]
        exact hm
    · rw [if_pos (by simp [hneg])] at h
      exact goP_full b (i + 1) ls out e h hf' ⟨l,hl,hs⟩
theorem mem_notP : ∀ (body : List PAtom) (i : Nat) (ls : List Binds) (l : Binds),l ∈ notP pick i ls body ↔ l ∈ ls ∧ ∀ j a,body[j]? = some a → a.neg = true → hitP a (pick (i + j)) l = false
  | [],i,ls,l => by simp [notP]
  | a :: b,i,ls,l => by
    unfold notP
    rw [mem_notP b]
    cases hneg : a.neg
    · rw [if_neg (by simp)]
      constructor
      · rintro ⟨h1,h2⟩
        refine ⟨h1,fun j x hx hn => ?_⟩
        cases j with
        | zero => obtain rfl : a = x := by simpa using hx
                  rw [hneg] at hn;cases hn
        | succ j => rw [show i + (j + 1) = i + 1 + j by omega];exact h2 j x (by simpa using hx) hn
      · rintro ⟨h1,h2⟩
        exact ⟨h1,fun j x hx hn => by rw [show i + 1 + j = i + (j + 1) by omega];exact h2 (j + 1) x (by simpa using hx) hn⟩
    · rw [if_pos rfl]
      simp only [List.mem_filter,Bool.not_eq_true']
      constructor
      · rintro ⟨⟨h1,h3⟩,h2⟩
        refine ⟨h1,fun j x hx hn => ?_⟩
        cases j with
        | zero => obtain rfl : a = x := by simpa using hx
                  exact h3
        | succ j => rw [show i + (j + 1) = i + 1 + j by omega];exact h2 j x (by simpa using hx) hn
      · rintro ⟨h1,h2⟩
        exact ⟨⟨h1,h2 0 a rfl hneg⟩,fun j x hx hn => by rw [show i + 1 + j = i + (j + 1) by omega];exact h2 (j + 1) x (by simpa using hx) hn⟩
end
theorem fillP_same {l m : Binds} (h : ∀ v,getB v l = getB v m) (a : PAtom) : fillP a l = fillP a m := by
  have hv : ∀ t,valT l t = valT m t := fun t => by unfold valT;rw [h]
  have : ∀ ts,fillArgs l ts = fillArgs m ts := fun ts => by
    induction ts with
    | nil => rfl
    | cons t ts ih => unfold fillArgs;rw [hv,ih]
  unfold fillP
  rw [this]
theorem nd_inj {l : Binds} (h : Nd l) {a b : PBind} (ha : a ∈ l) (hb : b ∈ l) (hv : a.var = b.var) : a = b := by
  have h1 := getB_of_mem h (v := a.var) (n := a.name) ha
  have h2 := getB_of_mem h (v := b.var) (n := b.name) hb
  rw [hv,h2] at h1
  obtain ⟨av,an⟩ := a
  obtain ⟨bv,bn⟩ := b
  simp only [Option.some.injEq] at h1 hv
  rw [h1,hv]
theorem nd_ofC {l : Binds} (h : Nd l) : Nd (ofC cmpBind l) := by
  show (List.map _ _).Nodup
  unfold List.Nodup
  rw [List.pairwise_map]
  refine (risingC_nodup cmpBind3 (ofC_rising cmpBind3 l)).imp_of_mem fun {a b} ha hb hne hv => hne ?_
  exact nd_inj h ((mem_ofC cmpBind3 _ _).1 ha) ((mem_ofC cmpBind3 _ _).1 hb) hv
theorem getB_ofC {l : Binds} (h : Nd l) (v : Str) : getB v (ofC cmpBind l) = getB v l := getB_same (nd_ofC h) h (fun x => mem_ofC cmpBind3 x l) v
theorem vs_ofC {l : Binds} (v : Str) : v ∈ Vs (ofC cmpBind l) ↔ v ∈ Vs l := by
  unfold Vs
  simp only [List.mem_map,mem_ofC cmpBind3]
theorem length_addC {α : Type} [DecidableEq α] {c : α → α → Int} (f : α) : ∀ l : List α,f ∉ l → (addC c f l).length = l.length + 1
  | [],_ => rfl
  | g :: l,h => by
    unfold addC
    split
    · rfl
    · rw [if_neg (fun e => h (by simp [e]))]
      rw [List.length_cons,length_addC f l (fun hm => h (by simp [hm])),List.length_cons]
theorem length_ofC {α : Type} [DecidableEq α] {c : α → α → Int} (h3 : Cmp3 c) : ∀ l : List α,l.Nodup → (ofC c l).length = l.length
  | [],_ => rfl
  | f :: l,h => by
    rw [List.nodup_cons] at h
    show (addC c f (ofC c l)).length = _
    rw [length_addC f _ (fun hm => h.1 ((mem_ofC h3 _ _).1 hm)),length_ofC h3 l h.2,List.length_cons]
theorem nd_nodup {l : Binds} (h : Nd l) : l.Nodup := by
  have h' : (l.map (·.var)).Pairwise (· ≠ ·) := h
  rw [List.pairwise_map] at h'
  exact h'.imp fun hne e => hne (by rw [e])
def Told (pick : Nat → List PFact) (body : List PAtom) (m : Binds) : Prop :=
  RisingC cmpBind m ∧ Nd m ∧ (∀ v,v ∈ Vs m ↔ ∃ a ∈ body,v ∈ varsOf a) ∧ ∀ j a,body[j]? = some a → ∃ f,fillP a m = some f ∧ memF f (pick j) = !a.neg
theorem mem_tidyP {ls : List Binds} {m : Binds} : m ∈ tidyP ls ↔ ∃ l ∈ ls,ofC cmpBind l = m := by
  unfold tidyP
  rw [mem_ofC cmpBinds3,List.mem_map]
theorem tidyP_rising (ls : List Binds) : RisingC cmpBinds (tidyP ls) := ofC_rising cmpBinds3 _
theorem told_iff {pick : Nat → List PFact} {body : List PAtom} {ls : List Binds} (hb : bodyBad body = 0) (hg : goP pick 0 [[]] body = some ls) (m : Binds) :
    m ∈ tidyP (notP pick 0 ls body) ↔ Told pick body m := by
  have hvars : ∀ v,(∃ a ∈ body,a.neg = false ∧ v ∈ varsOf a) ↔ ∃ a ∈ body,v ∈ varsOf a := fun v => by
    constructor
    · rintro ⟨a,ha,-,h⟩;exact ⟨a,ha,h⟩
    · rintro ⟨a,ha,h⟩;exact (mem_heldOf v body).1 (body_free hb ha h)
  have hnd : ∀ l ∈ [([] : Binds)],Nd l := fun l hl => by
    obtain rfl := List.mem_singleton.1 hl
    exact List.Pairwise.nil
  rw [mem_tidyP]
  constructor
  · rintro ⟨l,hl,rfl⟩
    obtain ⟨h1,h2⟩ := (mem_notP body 0 ls l).1 hl
    obtain ⟨l0,h0,g1,-,g3,g4⟩ := goP_sound body 0 _ _ hg hnd l h1
    obtain rfl := List.mem_singleton.1 h0
    have hV : ∀ v,v ∈ Vs l ↔ ∃ a ∈ body,v ∈ varsOf a := fun v => by
      rw [g3,hvars]
      constructor
      · rintro (h | h)
        · simp [Vs] at h
        · exact h
      · exact .inr
    refine ⟨ofC_rising cmpBind3 l,nd_ofC g1,fun v => (vs_ofC v).trans (hV v),fun j a ha => ?_⟩
    rw [fillP_same (getB_ofC g1)]
    cases hn : a.neg
    · obtain ⟨f,k1,k2⟩ := g4 j a ha hn
      exact ⟨f,k1,by rw [(memF_iff _ _).2 (by simpa using k2)];rfl⟩
    · have hm := List.mem_of_getElem? ha
      obtain ⟨ns,hns⟩ := fillArgs_some (l := l) (ts := a.terms) fun t ht hv => (hV _).2 ⟨a,hm,(mem_varsOf _ a).2 ⟨t,ht,hv,rfl⟩⟩
      have hf : fillP a l = some ⟨a.name,ns⟩ := by unfold fillP;rw [hns];rfl
      refine ⟨_,hf,?_⟩
      have := h2 j a ha hn
      unfold hitP at this
      rw [hf] at this
      simpa using this
  · rintro ⟨h1,h2,h3,h4⟩
    obtain ⟨l,hl,hs⟩ := goP_full body 0 _ _ m hg (fun j a ha hn => by
      obtain ⟨f,k1,k2⟩ := h4 j a ha
      rw [hn] at k2
      exact ⟨f,k1,by simpa using (memF_iff _ _).1 k2⟩) ⟨[],by simp,fun v n h => by simp [getB] at h⟩
    obtain ⟨l0,h0,g1,-,g3,g4⟩ := goP_sound body 0 _ _ hg hnd l hl
    obtain rfl := List.mem_singleton.1 h0
    have hV : ∀ v,v ∈ Vs l ↔ v ∈ Vs m := fun v => by
      rw [g3,hvars,h3]
      constructor
      · rintro (h | h)
        · simp [Vs] at h
        · exact h
      · exact .inr
    have hmem : ∀ x,x ∈ l ↔ x ∈ m := fun x => by
      constructor
      · intro hx
        exact getB_mem (hs _ _ (getB_of_mem g1 (v := x.var) (n := x.name) hx))
      · intro hx
        have hv : x.var ∈ Vs l := (hV _).2 (List.mem_map.2 ⟨x,hx,rfl⟩)
        cases hg : getB x.var l with
        | none => exact absurd hv (getB_none.1 hg)
        | some n =>
          have k1 := hs _ _ hg
          rw [getB_of_mem h2 (v := x.var) (n := x.name) hx] at k1
          obtain rfl := Option.some.inj k1
          exact getB_mem hg
    refine ⟨l,(mem_notP body 0 ls l).2 ⟨hl,fun j a ha hn => ?_⟩,risingC_ext cmpBind3 (ofC_rising cmpBind3 l) h1 fun x => (mem_ofC cmpBind3 x l).trans (hmem x)⟩
    obtain ⟨f,k1,k2⟩ := h4 j a ha
    unfold hitP
    rw [fillP_same (fun v => getB_same g1 h2 hmem v),k1]
    simpa [hn] using k2
end Go.Proofs.YtiiicochdidolaaGreat
namespace Go.Proofs.YtiiicochdidolaaGreat
open Go.RowKit
theorem isNaNStr (x : Str) (w : World) : Calls Tryz.prog 102 #[.string x] w fun e w' => e = .returned (.bool false) ∧ w = w' := by
  go_enter Tryz.func102,Tryz.ntmps102
  go_wp2
  go_ret
  exact ⟨by simp,rfl⟩
theorem isNaNInt (x : Int) (w : World) : Calls Tryz.prog 103 #[.int .i64 x] w fun e w' => e = .returned (.bool false) ∧ w = w' := by
  go_enter Tryz.func103,Tryz.ntmps103
  go_wp2
  go_ret
  exact ⟨by simp,rfl⟩
set_option maxHeartbeats 400000 in
theorem compareStr (x y : Str) (w : World) : Calls Tryz.prog 61 #[.string x,.string y] w fun e w' => e = .returned (.int .i64 (cmpStr x y)) ∧ w = w' := by
  by_cases h1 : strLt x y = true
  · have g1 : Op.bytesLess x.toList y.toList = true := h1
    have e : cmpStr x y = -1 := by simp [cmpStr,h1]
    rw [e]
    clear e h1
    go_enter Tryz.func61,Tryz.ntmps61
    go_wp2_with (go_at_call 102;refine (isNaNStr _ _).mono ?_;rintro e w' ⟨rfl,rfl⟩)
    go_ret
    exact ⟨rfl,rfl⟩
  · have g1 : Op.bytesLess x.toList y.toList = false := by simpa [strLt] using h1
    by_cases h2 : strLt y x = true
    · have g2 : (x.toList == y.toList) = false := by
        rw [beq_eq_false_iff_ne]
        intro he
        have := toList_inj he
        subst this
        rw [strLt_irrefl] at h2
        cases h2
      have e : cmpStr x y = 1 := by simp [cmpStr,h1,h2]
      rw [e]
      clear e h1 h2
      go_enter Tryz.func61,Tryz.ntmps61
      go_wp2_with (go_at_call 102;refine (isNaNStr _ _).mono ?_;rintro e w' ⟨rfl,rfl⟩)
      go_ret
      exact ⟨rfl,rfl⟩
    · have he : x = y := strLt_tri (by simpa using h1) (by simpa using h2)
      have g2 : (x.toList == y.toList) = true := by rw [he];exact beq_self_eq_true _
      have e : cmpStr x y = 0 := by simp [cmpStr,h1,h2]
      rw [e]
      clear e h1 h2 he
      go_enter Tryz.func61,Tryz.ntmps61
      go_wp2_with (go_at_call 102;refine (isNaNStr _ _).mono ?_;rintro e w' ⟨rfl,rfl⟩)
      go_ret
      exact ⟨rfl,rfl⟩
set_option maxHeartbeats 400000 in
theorem compareInt (x y : Int) (w : World) : Calls Tryz.prog 62 #[.int .i64 x,.int .i64 y] w fun e w' => e = .returned (.int .i64 (cmpInt x y)) ∧ w = w' := by
  unfold cmpInt
  by_cases h1 : x < y
  · rw [if_pos h1]
    go_enter Tryz.func62,Tryz.ntmps62
    go_wp2_with (go_at_call 103;refine (isNaNInt _ _).mono ?_;rintro e w' ⟨rfl,rfl⟩)
    go_ret
    exact ⟨rfl,rfl⟩
  · rw [if_neg h1]
    by_cases h2 : y < x
    · rw [if_pos h2]
      go_enter Tryz.func62,Tryz.ntmps62
      go_wp2_with (go_at_call 103;refine (isNaNInt _ _).mono ?_;rintro e w' ⟨rfl,rfl⟩)
      go_ret
      exact ⟨rfl,rfl⟩
    · rw [if_neg h2]
      go_enter Tryz.func62,Tryz.ntmps62
      go_wp2_with (go_at_call 103;refine (isNaNInt _ _).mono ?_;rintro e w' ⟨rfl,rfl⟩)
      go_ret
      exact ⟨rfl,rfl⟩
theorem cmpStrs_drop_cons {x : Str} {l : List Str} {k : Nat} (h : l[k]? = some x) : l.drop k = x :: l.drop (k + 1) := by
  obtain ⟨hk,rfl⟩ := List.getElem?_eq_some_iff.1 h
  exact List.drop_eq_getElem_cons hk
set_option maxHeartbeats 1000000 in
theorem slicesCompare {S T : Nat → Prop} (v1 v2 : Value) (l1 l2 : List Str) (w : World) (h1 : RdStrs S w v1 l1) (h2 : RdStrs T w v2 l2) (n1 : l1.length ≤ 1073741824) :
    Calls Tryz.prog 63 #[v1,v2] w fun e w' => e = .returned (.int .i64 (cmpStrs l1 l2)) ∧ w = w' := by
  obtain ⟨a1,c1,rfl,-,-,-⟩ := h1.form
  obtain ⟨a2,c2,rfl,-,-,-⟩ := h2.form
  have H1 := Lib.hid h1
  have H2 := Lib.hid h2
  clear h1 h2
  go_enter Tryz.func63,Tryz.ntmps63
  go_wp2
  go_loop [11,5,6,7,8] (fun i _ _ _ _ => ∃ k : Nat,k ≤ l1.length ∧ k ≤ l2.length ∧ i = .int .i64 k ∧ cmpStrs l1 l2 = cmpStrs (l1.drop k) (l2.drop k)) (fun i _ _ _ _ => l1.length - (intOf i).toNat)
  case atStart => exact ⟨0,Nat.zero_le _,Nat.zero_le _,rfl,rfl⟩
  case round =>
    obtain ⟨k,hk,hk2,rfl,hr⟩ := hrel
    have HR := Lib.hid hr
    clear hr
    by_cases hlt : k < l1.length
    · obtain ⟨x,hx⟩ : ∃ x,l1[k]? = some x := ⟨_,List.getElem?_eq_getElem hlt⟩
      obtain ⟨b1,o1,rfl,-,-,hc1⟩ := H1.out.at hx
      have HX := Lib.hid hx
      clear hx
      by_cases hlt2 : k < l2.length
      · obtain ⟨y,hy⟩ : ∃ y,l2[k]? = some y := ⟨_,List.getElem?_eq_getElem hlt2⟩
        obtain ⟨b2,o2,rfl,-,-,hc2⟩ := H2.out.at hy
        have HY := Lib.hid hy
        clear hy
        by_cases hz : cmpStr x y = 0
        · have gz : (cmpStr x y != 0) = false := by simp [hz]
          have HZ := Lib.hid hz
          clear hz
          go_wp2_with (go_at_call 61;refine (compareStr _ _ _).mono ?_;rintro e w' ⟨rfl,rfl⟩)
          go_round
          case rel =>
            refine ⟨k + 1,by omega,by omega,by go_num,?_⟩
            rw [HR.out,cmpStrs_drop_cons HX.out,cmpStrs_drop_cons HY.out]
            simp [cmpStrs,HZ.out]
          case measure => simp [intOf];omega
        · have gz : (cmpStr x y != 0) = true := by simp [hz]
          have HZ := Lib.hid hz
          clear hz
          go_wp2_with (go_at_call 61;refine (compareStr _ _ _).mono ?_;rintro e w' ⟨rfl,rfl⟩)
          go_ret
          refine ⟨ret_int ?_,rfl⟩
          rw [HR.out,cmpStrs_drop_cons HX.out,cmpStrs_drop_cons HY.out]
          simp [cmpStrs,HZ.out]
      · go_wp2
        go_ret
        refine ⟨ret_int ?_,rfl⟩
        rw [HR.out,cmpStrs_drop_cons HX.out,List.drop_eq_nil_of_le (by omega : l2.length ≤ k)]
        simp [cmpStrs]
    · by_cases hlt2 : k < l2.length
      · go_wp2
        go_ret
        refine ⟨ret_int ?_,rfl⟩
        rw [HR.out,List.drop_eq_nil_of_le (by omega : l1.length ≤ k)]
        obtain ⟨y,hy⟩ : ∃ y,l2[k]? = some y := ⟨_,List.getElem?_eq_getElem hlt2⟩
        rw [cmpStrs_drop_cons hy]
        simp [cmpStrs]
      · go_wp2
        go_ret
        refine ⟨ret_int ?_,rfl⟩
        rw [HR.out,List.drop_eq_nil_of_le (by omega : l1.length ≤ k),List.drop_eq_nil_of_le (by omega : l2.length ≤ k)]
        simp [cmpStrs]
theorem orInt_drop_cons {x : Int} {l : List Int} {k : Nat} (h : l[k]? = some x) : l.drop k = x :: l.drop (k + 1) := by
  obtain ⟨hk,rfl⟩ := List.getElem?_eq_some_iff.1 h
  exact List.drop_eq_getElem_cons hk
set_option maxHeartbeats 400000 in
theorem cmpOr {S : Nat → Prop} (v : Value) (l : List Int) (w : World) (h : RdInts S w v l) (n1 : l.length ≤ 1073741824) :
    Calls Tryz.prog 60 #[v] w fun e w' => e = .returned (.int .i64 (orInt l)) ∧ w = w' := by
  obtain ⟨a,c,rfl,-,-,-⟩ := h.form
  have H := Lib.hid h
  clear h
  go_enter Tryz.func60,Tryz.ntmps60
  go_wp2
  go_loop [8,5] (fun i _ => ∃ k : Nat,k ≤ l.length ∧ i = .int .i64 k ∧ orInt l = orInt (l.drop k)) (fun i _ => l.length - (intOf i).toNat)
  case atStart => exact ⟨0,Nat.zero_le _,rfl,rfl⟩
  case round =>
    obtain ⟨k,hk,rfl,hr⟩ := hrel
    have HR := Lib.hid hr
    clear hr
    by_cases hlt : k < l.length
    · obtain ⟨x,hx⟩ : ∃ x,l[k]? = some x := ⟨_,List.getElem?_eq_getElem hlt⟩
      obtain ⟨b,o,rfl,-,-,hc⟩ := H.out.at hx
      have HX := Lib.hid hx
      clear hx
      by_cases hz : x = 0
      · subst hz
        go_wp2
        go_round
        case rel =>
          refine ⟨k + 1,by omega,by go_num,?_⟩
          rw [HR.out,orInt_drop_cons HX.out]
          simp [orInt]
        case measure => simp [intOf];omega
      · have gz : (x != 0) = true := by simp [hz]
        have HZ := Lib.hid hz
        clear hz
        go_wp2
        go_ret
        refine ⟨ret_int ?_,rfl⟩
        rw [HR.out,orInt_drop_cons HX.out]
        simp [orInt,HZ.out]
    · go_wp2
      go_ret
      refine ⟨ret_int ?_,rfl⟩
      rw [HR.out,List.drop_eq_nil_of_le (by omega : l.length ≤ k)]
      rfl
theorem cmpOr3 (p q r : Int) (w : World) (b : Nat) (h : w.heap[b]? = some (.cells #[.int .i64 p,.int .i64 q,.int .i64 r] 3 (0,0))) :
    Calls Tryz.prog 60 #[.slice (some ⟨b,0,none⟩) 3 3] w fun e w' => e = .returned (.int .i64 (orInt [p,q,r])) ∧ w = w' :=
  cmpOr (S := fun _ => True) _ [p,q,r] w (RdInts.block rfl h trivial (by unfold maxLen;omega)) (by simp)
attribute [local go_sem ↓] Go.wp_at_zero Go.wp_at_succ
set_option maxHeartbeats 2000000 in
theorem compareFact {S T : Nat → Prop} (f g : PFact) (va vb : Value) (w : World) (h1 : RdStrs S w va f.args) (h2 : RdStrs T w vb g.args) (n1 : f.args.length ≤ 1073741824) :
    Calls Tryz.prog 30 #[.agg #[.string f.name,va],.agg #[.string g.name,vb]] w fun e w' => e = .returned (.int .i64 (cmpFact f g)) ∧ Fresh w w' := by
  have K3 : ∀ w',Agree (fun _ => True) w w' → Calls Tryz.prog 63 #[va,vb] w' fun e w'' => e = .returned (.int .i64 (cmpStrs f.args g.args)) ∧ w' = w'' :=
    fun w' ha => slicesCompare va vb f.args g.args w' ((h1.more RStr.steady (fun _ _ _ => trivial)).agree RStr.steady ha) ((h2.more RStr.steady (fun _ _ _ => trivial)).agree RStr.steady ha) n1
  obtain ⟨a1,c1,rfl,-,-,-⟩ := h1.form
  obtain ⟨a2,c2,rfl,-,-,-⟩ := h2.form
  have e3 : cmpFact f g = orInt [cmpStr f.name g.name,cmpInt f.args.length g.args.length,cmpStrs f.args g.args] := rfl
  rw [e3]
  clear e3 h1 h2
  have HK := Lib.hid K3
  clear K3
  generalize cmpStrs f.args g.args = r3 at *
  go_enter Tryz.func30,Tryz.ntmps30
  go_wp2_with fail
  go_region_held3 (fun w' => w'.cell? ⟨w.heap.size,0,none⟩ = some (.string f.name) ∧ w'.cell? ⟨w.heap.size,1,none⟩ = some (.slice a1 f.args.length c1) ∧
      w'.cell? ⟨w.heap.size + 1,0,none⟩ = some (.string g.name) ∧ w'.cell? ⟨w.heap.size + 1,1,none⟩ = some (.slice a2 g.args.length c2)) (go_keep)
    (first
      | (go_at_call 61;refine (compareStr _ _ _).mono ?_;rintro e w' ⟨rfl,rfl⟩)
      | (go_at_call 62;refine (compareInt _ _ _).mono ?_;rintro e w' ⟨rfl,rfl⟩)
      | (go_at_call 63;refine (HK.out _ ?_).mono ?_;(exact ((Agree.refl _ _).alloc _).alloc _);rintro e w' ⟨rfl,rfl⟩)
      | (go_at_call 60;refine (cmpOr3 (cmpStr f.name g.name) (cmpInt f.args.length g.args.length) r3 _ _ ?_).mono ?_;(exact heap_new_at (by simp));rintro e w' ⟨rfl,rfl⟩))
  go_wp2
  go_ret
  exact ⟨rfl,((((Fresh.refl _).alloc _).alloc _).alloc _).drew⟩
end Go.Proofs.YtiiicochdidolaaGreat
namespace Go.Proofs.YtiiicochdidolaaGreat
open Go.RowKit
attribute [local go_sem ↓] Go.wp_at_zero Go.wp_at_succ
set_option maxRecDepth 100000 in
set_option maxHeartbeats 2000000 in
theorem searchFact {S T : Nat → Prop} (v : Value) (l : List PFact) (f : PFact) (av : Value) (w : World) (h : RdFacts S w v l) (hf : RdStrs T w av f.args) (hs : Rising l)
    (n1 : l.length ≤ 1073741824) (n2 : ∀ x ∈ l,x.args.length ≤ 1073741824) :
    Calls Tryz.prog 29 #[v,.agg #[.string f.name,av],.func (.func 30) #[] #[]] w fun e w' => (∃ i : Int,e = .returned (.tuple #[.int .i64 i,.bool (memF f l)])) ∧ Fresh w w' := by
  obtain ⟨a,c,rfl,-,-,-⟩ := id h.form
  obtain ⟨fa,fc,rfl,-,-,-⟩ := id hf.form
  have H := Lib.hid h
  have HF := Lib.hid hf
  have N2 := Lib.hid n2
  have HS := Lib.hid hs
  clear h hf n2 hs
  have hW : Hid (Agree (fun _ => True) w (w.alloc (.cells #[.string f.name,.slice fa f.args.length fc] 38))) := (Agree.refl _ _).alloc _
  have hc0 : (w.alloc (.cells #[.string f.name,.slice fa f.args.length fc] 38)).cell? ⟨w.heap.size,0,none⟩ = some (.string f.name) := by simp
  have hc1 : (w.alloc (.cells #[.string f.name,.slice fa f.args.length fc] 38)).cell? ⟨w.heap.size,1,none⟩ = some (.slice fa f.args.length fc) := by simp
  have hw0 : Hid (Fresh w (w.alloc (.cells #[.string f.name,.slice fa f.args.length fc] 38))) := (Fresh.refl _).alloc _
  have hcs : w.heap.size < (w.alloc (.cells #[.string f.name,.slice fa f.args.length fc] 38)).heap.size := by simp
  go_enter Tryz.func29,Tryz.ntmps29
  go_wp2
  generalize w.alloc (.cells #[.string f.name,.slice fa f.args.length fc] 38) = w0 at *
  go_loopw [9,10,11] (fun ui uj _ wr => ∃ i j : Nat,i ≤ j ∧ j ≤ l.length ∧ ui = .int .i64 i ∧ uj = .int .i64 j ∧ Hid (∀ a x,a < i → l[a]? = some x → cmpFact x f < 0) ∧ Hid (∀ a x,j ≤ a → l[a]? = some x → 0 ≤ cmpFact x f) ∧ Fresh w0 wr)
    (fun ui uj _ _ => (intOf uj - intOf ui).toNat)
  case atStart => exact ⟨0,l.length,Nat.zero_le _,Nat.le_refl _,rfl,rfl,fun a x h => by omega,fun a x h hx => by have := (List.getElem?_eq_some_iff.1 hx).1;omega,Fresh.refl _⟩
  case round =>
    obtain ⟨i,j,hij,hj,rfl,rfl,hlo,hhi,hfr⟩ := hrel
    have hwr : Hid (Agree (fun _ => True) w wr) := hW.out.trans (Below.agree hfr.below)
    have hd0 := (cell_below hfr.below hcs 0).trans hc0
    have hd1 := (cell_below hfr.below hcs 1).trans hc1
    have hds : w.heap.size < wr.heap.size := Nat.lt_of_lt_of_le hcs hfr.below.size
    have HFR := Lib.hid hfr
    clear hfr hc0 hc1 hcs hW
    by_cases hlt : i < j
    · obtain ⟨m,hm⟩ : ∃ m : Nat,((i : Int) + j) / 2 = m := ⟨(i + j) / 2,by omega⟩
      have hm1 : i ≤ m := by omega
      have hm2 : m < j := by omega
      obtain ⟨x,hx⟩ : ∃ x,l[m]? = some x := ⟨_,List.getElem?_eq_getElem (by omega)⟩
      have hn2 : x.args.length ≤ 1073741824 := N2.out x (List.mem_of_getElem? hx)
      obtain ⟨b1,o1,xv,rfl,-,hb1,hx0,hx1,hxv⟩ := RdFacts.at ((H.out.more RFact.steady (fun _ _ _ => trivial)).agree RFact.steady hwr.out) hx
      obtain ⟨xa,xc,rfl,-,-,-⟩ := id hxv.form
      have K := Lib.hid (fun W (ha : Agree (fun _ => True) wr W) => compareFact x f (.slice xa x.args.length xc) (.slice fa f.args.length fc) W (hxv.agree RStr.steady ha) ((HF.out.more RStr.steady (fun _ _ _ => trivial)).agree RStr.steady (hwr.out.trans ha)) hn2)
      obtain ⟨q,hq⟩ : ∃ q,cmpFact x f = q := ⟨_,rfl⟩
      rw [hq] at K
      have HX := Lib.hid hx
      have HQ := Lib.hid hq
      have i1 : (0 : Int) ≤ (m : Int) := by omega
      have i2 : (m : Int) < (l.length : Int) := by omega
      clear hxv hx hq hwr
      by_cases hz : q < 0
      · go_wp2_with fail
        go_region_held3 (fun w' => w'.cell? ⟨b1,o1 + m * 2,none⟩ = some (.string x.name) ∧ w'.cell? ⟨b1,o1 + m * 2 + 1,none⟩ = some (.slice xa x.args.length xc) ∧
            w'.cell? ⟨w.heap.size,0,none⟩ = some (.string f.name) ∧ w'.cell? ⟨w.heap.size,1,none⟩ = some (.slice fa f.args.length fc))
          (first | (refine ⟨?_,?_,?_,?_⟩ <;> (first | (rw [hk2 _ hb1];assumption) | (rw [hk2 _ hds];assumption))) | go_keep)
          (first
            | (go_at_call 30;refine (K.out _ (Agree.refl _ _).drew).mono ?_;rintro e w1 ⟨rfl,hf1⟩;have hk2 : ∀ c,c < wr.heap.size → ∀ off,w1.cell? ⟨c,off,none⟩ = wr.cell? ⟨c,off,none⟩ := fun c hc off => cell_below (w := wr.drew) hf1.below hc off))
        have HF2 : Hid (Fresh w0 w1) := (HFR.out.drew).trans hf1
        clear hf1 hk2 hd0 hd1 hx0 hx1
        go_wp2
        go_roundw
        case rel =>
          refine ⟨m + 1,j,by omega,hj,by go_num,rfl,?_,hhi,HF2.out⟩
          intro a y ha hy
          by_cases e : a = m
          · subst e
            rw [HX.out] at hy
            injection hy with hy
            rw [← hy,HQ.out];exact hz
          · have h1 : ltF y x = true := by
              have := HS.out
              obtain ⟨_,rfl⟩ := List.getElem?_eq_some_iff.1 hy
              obtain ⟨_,rfl⟩ := List.getElem?_eq_some_iff.1 HX.out
              exact List.pairwise_iff_getElem.1 this a m _ _ (by omega)
            have h2 : cmpFact y x < 0 := by simpa [ltF] using h1
            exact cmpFact3.trans _ _ _ h2 (by rw [HQ.out];exact hz)
        case measure => simp [intOf];omega
      · go_wp2_with fail
        go_region_held3 (fun w' => w'.cell? ⟨b1,o1 + m * 2,none⟩ = some (.string x.name) ∧ w'.cell? ⟨b1,o1 + m * 2 + 1,none⟩ = some (.slice xa x.args.length xc) ∧
            w'.cell? ⟨w.heap.size,0,none⟩ = some (.string f.name) ∧ w'.cell? ⟨w.heap.size,1,none⟩ = some (.slice fa f.args.length fc))
          (first | (refine ⟨?_,?_,?_,?_⟩ <;> (first | (rw [hk2 _ hb1];assumption) | (rw [hk2 _ hds];assumption))) | go_keep)
          (first
            | (go_at_call 30;refine (K.out _ (Agree.refl _ _).drew).mono ?_;rintro e w1 ⟨rfl,hf1⟩;have hk2 : ∀ c,c < wr.heap.size → ∀ off,w1.cell? ⟨c,off,none⟩ = wr.cell? ⟨c,off,none⟩ := fun c hc off => cell_below (w := wr.drew) hf1.below hc off))
        have HF2 : Hid (Fresh w0 w1) := (HFR.out.drew).trans hf1
        clear hf1 hk2 hd0 hd1 hx0 hx1
        go_wp2
        go_roundw
        case rel =>
          refine ⟨i,m,by omega,by omega,rfl,rfl,hlo,?_,HF2.out⟩
          intro a y ha hy
          by_cases e : a = m
          · subst e
            rw [HX.out] at hy
            injection hy with hy
            rw [← hy,HQ.out];omega
          · have h1 : ltF x y = true := by
              have := HS.out
              obtain ⟨_,rfl⟩ := List.getElem?_eq_some_iff.1 hy
              obtain ⟨_,rfl⟩ := List.getElem?_eq_some_iff.1 HX.out
              exact List.pairwise_iff_getElem.1 this m a _ _ (by omega)
            have h2 : cmpFact x y < 0 := by simpa [ltF] using h1
            refine Int.not_lt.1 fun h3 => ?_
            have := cmpFact3.trans _ _ _ h2 h3
            rw [HQ.out] at this
            omega
        case measure => simp [intOf];omega
    · obtain rfl : i = j := by omega
      by_cases hin : i < l.length
      · obtain ⟨x,hx⟩ : ∃ x,l[i]? = some x := ⟨_,List.getElem?_eq_getElem (by omega)⟩
        have hn2 : x.args.length ≤ 1073741824 := N2.out x (List.mem_of_getElem? hx)
        obtain ⟨b1,o1,xv,rfl,-,hb1,hx0,hx1,hxv⟩ := RdFacts.at ((H.out.more RFact.steady (fun _ _ _ => trivial)).agree RFact.steady hwr.out) hx
        obtain ⟨xa,xc,rfl,-,-,-⟩ := id hxv.form
        have K := Lib.hid (fun W (ha : Agree (fun _ => True) wr W) => compareFact x f (.slice xa x.args.length xc) (.slice fa f.args.length fc) W (hxv.agree RStr.steady ha) ((HF.out.more RStr.steady (fun _ _ _ => trivial)).agree RStr.steady (hwr.out.trans ha)) hn2)
        have hmem : memF f l = (cmpFact x f == 0) := by
          rw [Bool.eq_iff_iff,memF_iff,beq_iff_eq,cmpFact3.zero]
          constructor
          · intro hfm
            obtain ⟨p,hp⟩ := List.mem_iff_getElem?.1 hfm
            by_cases h1 : p < i
            · have := hlo.out p f h1 hp;rw [cmpFact3.self] at this;omega
            · by_cases h2 : p = i
              · subst h2;rw [hx] at hp;exact Option.some.inj hp
              · have h3 : ltF x f = true := by
                  have := HS.out
                  obtain ⟨_,rfl⟩ := List.getElem?_eq_some_iff.1 hp
                  obtain ⟨_,rfl⟩ := List.getElem?_eq_some_iff.1 hx
                  exact List.pairwise_iff_getElem.1 this i p _ _ (by omega)
                have h4 : cmpFact x f < 0 := by simpa [ltF] using h3
                have := hhi.out i x (Nat.le_refl _) hx
                omega
          · intro e;subst e;exact List.mem_of_getElem? hx
        obtain ⟨q,hq⟩ : ∃ q,cmpFact x f = q := ⟨_,rfl⟩
        rw [hq] at K hmem
        have HM := Lib.hid hmem
        have i1 : (0 : Int) ≤ (i : Int) := by omega
        have i2 : (i : Int) < (l.length : Int) := by omega
        have i3 : decide ((i : Int) < (l.length : Int)) = true := decide_eq_true i2
        have i4 : decide (i < l.length) = true := decide_eq_true hin
        clear hxv hx hq hwr hmem
        go_wp2_with fail
        go_region_held3 (fun w' => w'.cell? ⟨b1,o1 + i * 2,none⟩ = some (.string x.name) ∧ w'.cell? ⟨b1,o1 + i * 2 + 1,none⟩ = some (.slice xa x.args.length xc) ∧
            w'.cell? ⟨w.heap.size,0,none⟩ = some (.string f.name) ∧ w'.cell? ⟨w.heap.size,1,none⟩ = some (.slice fa f.args.length fc))
          (first | (refine ⟨?_,?_,?_,?_⟩ <;> (first | (rw [hk2 _ hb1];assumption) | (rw [hk2 _ hds];assumption))) | go_keep)
          (first
            | (go_at_call 30;refine (K.out _ (Agree.refl _ _).drew).mono ?_;rintro e w1 ⟨rfl,hf1⟩;have hk2 : ∀ c,c < wr.heap.size → ∀ off,w1.cell? ⟨c,off,none⟩ = wr.cell? ⟨c,off,none⟩ := fun c hc off => cell_below (w := wr.drew) hf1.below hc off))
        have HF2 : Hid (Fresh w0 w1) := (HFR.out.drew).trans hf1
        clear hf1 hk2 hd0 hd1 hx0 hx1
        go_wp2
        go_ret2
        exact ⟨⟨i,by rw [HM.out];rfl⟩,(hw0.out).trans HF2.out⟩
      · have hmem : memF f l = false := by
          rw [← Bool.not_eq_true,memF_iff]
          intro hfm
          obtain ⟨p,hp⟩ := List.mem_iff_getElem?.1 hfm
          have := hlo.out p f (by have := (List.getElem?_eq_some_iff.1 hp).1;omega) hp
          rw [cmpFact3.self] at this;omega
        have HM := Lib.hid hmem
        clear hmem
        have i3 : decide ((i : Int) < (l.length : Int)) = false := decide_eq_false (by omega)
        have i4 : decide (i < l.length) = false := decide_eq_false hin
        go_wp2_with fail
        go_quiet (fail)
        go_wp2
        go_ret2
        exact ⟨⟨i,by rw [HM.out];rfl⟩,(hw0.out).trans (HFR.out.trans ⟨nq,#[],by simp⟩)⟩
theorem inFact {S T : Nat → Prop} (v : Value) (l : List PFact) (f : PFact) (av : Value) (w : World) (h : RdFacts S w v l) (hf : RdStrs T w av f.args) (hs : Rising l)
    (n1 : l.length ≤ 1073741824) (n2 : ∀ x ∈ l,x.args.length ≤ 1073741824) :
    Calls Tryz.prog 12 #[v,.agg #[.string f.name,av]] w fun e w' => e = .returned (.bool (memF f l)) ∧ Fresh w w' := by
  obtain ⟨a,c,rfl,-,-,-⟩ := id h.form
  obtain ⟨fa,fc,rfl,-,-,-⟩ := id hf.form
  have K := Lib.hid (fun W (ha : Agree (fun _ => True) w W) => searchFact (.slice a l.length c) l f (.slice fa f.args.length fc) W ((h.more RFact.steady (fun _ _ _ => trivial)).agree RFact.steady ha) ((hf.more RStr.steady (fun _ _ _ => trivial)).agree RStr.steady ha) hs n1 n2)
  clear h hf hs n2
  go_enter Tryz.func12,Tryz.ntmps12
  go_wp2_with (go_at_call 29;refine (K.out _ ((Agree.refl _ _).alloc _)).mono ?_;rintro e w1 ⟨⟨i,rfl⟩,hf1⟩)
  go_ret
  exact ⟨rfl,((Fresh.refl _).alloc _).trans hf1⟩
end Go.Proofs.YtiiicochdidolaaGreat
namespace Go.Proofs.YtiiicochdidolaaGreat
open Go.RowKit
def badAt (l : List PFact) (i : Nat) : Int :=
  match l[i]? with
  | none => 0
  | some f => if wrongF f ≠ 0 then wrongF f else match i with
    | 0 => 0
    | j + 1 => match l[j]? with
      | none => 0
      | some g => if cmpFact g f < 0 then 0 else 2
def setF (l : List PFact) : Int × Int :=
  if 200 < l.length then (5,0) else match (List.range l.length).find? (fun i => badAt l i != 0) with
    | none => (0,0)
    | some i => (badAt l i,(i : Int))
theorem setF_many {l : List PFact} (h : 200 < l.length) : setF l = (5,0) := by simp [setF,h]
theorem setF_at {l : List PFact} (h : ¬ 200 < l.length) {i : Nat} (hi : i < l.length) (h0 : ∀ j,j < i → badAt l j = 0) (hb : badAt l i ≠ 0) : setF l = (badAt l i,(i : Int)) := by
  have : (List.range l.length).find? (fun i => badAt l i != 0) = some i := by
    rw [List.find?_range_eq_some]
    refine ⟨by simpa using hb,by simpa using hi,fun j hj => by simp [h0 j hj]⟩
  simp [setF,h,this]
theorem setF_ok {l : List PFact} (h : ¬ 200 < l.length) (h0 : ∀ j,j < l.length → badAt l j = 0) : setF l = (0,0) := by
  have : (List.range l.length).find? (fun i => badAt l i != 0) = none := by
    rw [List.find?_range_eq_none]
    intro j hj;simp [h0 j (by simpa using hj)]
  simp [setF,h,this]
theorem badAt_wrong {l : List PFact} {i : Nat} {f : PFact} (h : l[i]? = some f) (hw : wrongF f ≠ 0) : badAt l i = wrongF f := by simp [badAt,h,hw]
theorem badAt_zero {l : List PFact} {f : PFact} (h : l[0]? = some f) (hw : wrongF f = 0) : badAt l 0 = 0 := by simp [badAt,h,hw]
theorem badAt_succ {l : List PFact} {i : Nat} {f g : PFact} (h : l[i + 1]? = some f) (k : l[i]? = some g) (hw : wrongF f = 0) : badAt l (i + 1) = if cmpFact g f < 0 then 0 else 2 := by simp [badAt,h,k,hw]
theorem past_cell {w w' : World} {o : Obj} (h : Below (w.alloc o).heap.size (w.alloc o) w') {c : Nat} (hc : c < w.heap.size) (off : Nat) : w'.cell? ⟨c,off,none⟩ = w.cell? ⟨c,off,none⟩ :=
  (cell_below h (by simp;omega) off).trans (World.cell?_of_block (Below.heap_alloc _ _ _ hc))
theorem past_frozen {w w' : World} {o : Obj} (h : Below (w.alloc o).heap.size (w.alloc o) w') {c : Nat} (hc : c < w.heap.size) (off : Nat) : w'.frozen? ⟨c,off,none⟩ = w.frozen? ⟨c,off,none⟩ :=
  (h.frozen (p := ⟨c,off,none⟩) (by simp;omega)).trans (World.frozen?_of_block (Below.heap_alloc _ _ _ hc))
attribute [local go_sem ↓] Go.wp_at_zero Go.wp_at_succ
set_option maxRecDepth 100000 in
set_option maxHeartbeats 4000000 in
theorem setCalls {S : Nat → Prop} (v : Value) (l : List PFact) (w : World) (h : RdFacts S w v l) (n1 : l.length ≤ 1073741824) (n2 : ∀ x ∈ l,x.args.length ≤ 1073741824) :
    Calls Tryz.prog 55 #[v] w fun e w' => e = .returned (.agg #[.int .i64 (setF l).1,.int .i64 (setF l).2]) ∧ Below w.heap.size w w' := by
  obtain ⟨a,c,rfl,-,-,-⟩ := id h.form
  have H := Lib.hid h
  have N2 := Lib.hid n2
  clear h n2
  by_cases hmany : 200 < l.length
  · have hs := setF_many hmany
    obtain ⟨q,hq⟩ : ∃ q,setF l = q := ⟨_,rfl⟩
    rw [hq] at hs ⊢
    subst hs
    have i1 : (200 : Int) < (l.length : Int) := by omega
    go_enter Tryz.func55,Tryz.ntmps55
    go_wp2
    refine bodyPost_ret (v := .agg #[.int .i64 5,.int .i64 0]) (by simp [results,Tryz.results55,go_sem]) rfl ⟨rfl,?_⟩
    exact (Below.refl _ _).alloc (Nat.le_refl _) _
  · have i0 : ¬ ((200 : Int) < (l.length : Int)) := by omega
    go_enter Tryz.func55,Tryz.ntmps55
    go_wp2
    have c0 : (w.alloc (.cells #[.int .i64 0,.int .i64 0] 49)).cell? ⟨w.heap.size,0,none⟩ = some (.int .i64 0) := by simp
    have c1 : (w.alloc (.cells #[.int .i64 0,.int .i64 0] 49)).cell? ⟨w.heap.size,1,none⟩ = some (.int .i64 0) := by simp
    have f0 : (w.alloc (.cells #[.int .i64 0,.int .i64 0] 49)).frozen? ⟨w.heap.size,0,none⟩ = false := by simp
    have f1 : (w.alloc (.cells #[.int .i64 0,.int .i64 0] 49)).frozen? ⟨w.heap.size,1,none⟩ = false := by simp
    have hz0 : w.heap.size < (w.alloc (.cells #[.int .i64 0,.int .i64 0] 49)).heap.size := by simp
    have HB := Lib.hid ((Below.refl w.heap.size w).alloc (Nat.le_refl _) (.cells #[.int .i64 0,.int .i64 0] 49))
    generalize w.alloc (.cells #[.int .i64 0,.int .i64 0] 49) = w0 at *
    go_loopw [12] (fun i wr => ∃ k : Nat,k ≤ l.length ∧ i = .int .i64 k ∧ Hid (Below w.heap.size w wr) ∧ w.heap.size < wr.heap.size ∧ Hid (∀ j,j < k → badAt l j = 0) ∧ wr.cell? ⟨w.heap.size,0,none⟩ = some (.int .i64 0) ∧ wr.cell? ⟨w.heap.size,1,none⟩ = some (.int .i64 0) ∧ wr.frozen? ⟨w.heap.size,0,none⟩ = false ∧ wr.frozen? ⟨w.heap.size,1,none⟩ = false) (fun i _ => l.length - (intOf i).toNat)
    case atStart => exact ⟨0,Nat.zero_le _,rfl,HB,hz0,fun j hj => by omega,c0,c1,f0,f1⟩
    case round =>
      obtain ⟨k,hk,rfl,HB,hsz,HZ,c0,c1,f0,f1⟩ := hrel
      by_cases hlt : k < l.length
      · obtain ⟨x,hx⟩ : ∃ x,l[k]? = some x := ⟨_,List.getElem?_eq_getElem hlt⟩
        have hn2 : x.args.length ≤ 1073741824 := N2.out x (List.mem_of_getElem? hx)
        obtain ⟨b1,o1,av,rfl,-,hb1,hc1,hc2,hav⟩ := RdFacts.at ((H.out.more RFact.steady (S' := fun _ => True) (fun _ _ _ => trivial)).agree RFact.steady (Below.agree HB.out)) hx
        obtain ⟨aa,ac,rfl,-,-,-⟩ := id hav.form
        have HA := Lib.hid hav
        have HX := Lib.hid hx
        have hW := wrongFact x _ (wr.alloc (.cells #[.string x.name,.slice aa x.args.length ac] 38)) (hav.agree RStr.steady ((Agree.refl _ _).alloc _)) (by omega)
        clear hav hx
        by_cases hz : wrongF x = 0
        · rw [hz] at hW
          have HW := Lib.hid hW
          have HZX := Lib.hid hz
          clear hW hz
          rcases k with _ | j
          · have z0 : ((0 : Nat) : Int) = 0 := rfl
            have HBZ := Lib.hid (badAt_zero HX.out HZX.out)
            have HZ1 := Lib.hid (show ∀ j,j < 1 → badAt l j = 0 from fun j hj => (show j = 0 by omega) ▸ HBZ.out)
            simp only [Nat.zero_mul,Nat.add_zero] at hc1 hc2
            rw [z0]
            go_wp2_with (go_at_call 79;refine (HW.out).mono ?_;rintro e w1 ⟨rfl,hf1⟩;have d0 := (past_cell hf1.below hsz 0).trans c0;have d1 := (past_cell hf1.below hsz 1).trans c1;have g0 := (past_frozen hf1.below hsz 0).trans f0;have g1 := (past_frozen hf1.below hsz 1).trans f1;have HB1 := Lib.hid ((HB.out.alloc (Nat.le_of_lt hsz) _).trans (hf1.below.mono (by simp;omega)));have hs1 : w.heap.size < w1.heap.size := (by have := hf1.below.size;simp at this;omega);clear hf1)
            go_quiet (fail)
            go_wp2
            go_roundw
            case rel => exact ⟨1,by omega,by go_num,Lib.hid ⟨HB1.out.os,HB1.out.tape,HB1.out.output,HB1.out.size,HB1.out.block⟩,hs1,HZ1,d0,d1,g0,g1⟩
            case measure => simp [intOf];omega
          · obtain ⟨y,hy⟩ : ∃ y,l[j]? = some y := ⟨_,List.getElem?_eq_getElem (by omega)⟩
            have hn2y : y.args.length ≤ 1073741824 := N2.out y (List.mem_of_getElem? hy)
            obtain ⟨b2,o2,yv,e2,-,-,hd1,hd2,hyv⟩ := RdFacts.at ((H.out.more RFact.steady (S' := fun _ => True) (fun _ _ _ => trivial)).agree RFact.steady (Below.agree HB.out)) hy
            injection e2 with e2;injection e2 with e2 e2' _
            subst e2 e2'
            obtain ⟨ya,yc,rfl,-,-,-⟩ := id hyv.form
            have HY := Lib.hid hyv
            have HBS := Lib.hid (badAt_succ HX.out hy HZX.out)
            have i1 : (0 : Int) ≤ (j : Int) := by omega
            have i2 : (j : Int) + 1 < (l.length : Int) := by omega
            have i3 : (j : Int) < (l.length : Int) := by omega
            have i4 : (0 : Int) ≤ (j : Int) + 1 := by omega
            have i5 : IntKind.i64.wrap (j : Int) = j := by rw [IntKind.wrap_i64];omega
            have i6 : (0 : Int) < (j : Int) + 1 := by omega
            have e1 : ((j + 1 : Nat) : Int) = (j : Int) + 1 := by omega
            have K := Lib.hid (fun W (ha : Agree (fun _ => True) wr W) => compareFact y x (.slice ya y.args.length yc) (.slice aa x.args.length ac) W (HY.out.agree RStr.steady ha) (HA.out.agree RStr.steady ha) hn2y)
            clear hyv hy
            obtain ⟨q,hq⟩ : ∃ q,cmpFact y x = q := ⟨_,rfl⟩
            rw [hq] at K HBS
            clear hq
            rw [e1]
            by_cases hlt2 : q < 0
            · have HL := Lib.hid hlt2
              have hq0 : (0 ≤ q) = False := by simp;omega
              clear hlt2
              go_wp2_with (go_at_call 79;refine (HW.out).mono ?_;rintro e w1 ⟨rfl,hf1⟩;have d0 := (past_cell hf1.below hsz 0).trans c0;have d1 := (past_cell hf1.below hsz 1).trans c1;have g0 := (past_frozen hf1.below hsz 0).trans f0;have g1 := (past_frozen hf1.below hsz 1).trans f1;have HB1 := Lib.hid ((HB.out.alloc (Nat.le_of_lt hsz) _).trans (hf1.below.mono (by simp;omega)));have hs1 : w.heap.size < w1.heap.size := (by have := hf1.below.size;simp at this;omega);have hx0 : w1.cell? ⟨wr.heap.size,0,none⟩ = some (.string x.name) := (cell_below hf1.below (by simp) 0).trans (by simp);have hx1 : w1.cell? ⟨wr.heap.size,1,none⟩ = some (.slice aa x.args.length ac) := (cell_below hf1.below (by simp) 1).trans (by simp);have hsx : wr.heap.size < w1.heap.size := (by have := hf1.below.size;simp at this;omega);have hb2 : b1 < w1.heap.size := (by omega);have hy0 := (past_cell hf1.below hb1 (o1 + j * 2)).trans hd1;have hy1 := (past_cell hf1.below hb1 (o1 + j * 2 + 1)).trans hd2;have HAG := Lib.hid (show Agree (fun _ => True) wr w1 from ((Agree.refl _ _).alloc _).trans (Below.agree hf1.below));clear hf1)
              go_region_held3 (fun w' => w'.cell? ⟨b1,o1 + j * 2,none⟩ = some (.string y.name) ∧ w'.cell? ⟨b1,o1 + j * 2 + 1,none⟩ = some (.slice ya y.args.length yc) ∧
                  w'.cell? ⟨wr.heap.size,0,none⟩ = some (.string x.name) ∧ w'.cell? ⟨wr.heap.size,1,none⟩ = some (.slice aa x.args.length ac))
                (first | (refine ⟨?_,?_,?_,?_⟩ <;> (first | (rw [hk2 _ hb2];assumption) | (rw [hk2 _ hsx];assumption))) | go_keep)
                (first
                  | (go_at_call 30;refine (K.out _ HAG.out.drew).mono ?_;rintro e w2 ⟨rfl,hf2⟩;have hk2 : ∀ c,c < w1.heap.size → ∀ off,w2.cell? ⟨c,off,none⟩ = w1.cell? ⟨c,off,none⟩ := fun c hc off => cell_below (w := w1.drew) hf2.below hc off))
              have HB2 := Lib.hid (HB1.out.drew.trans (hf2.below.mono HB1.out.size))
              have m0 := (hk2 _ hs1 0).trans d0
              have m1 := (hk2 _ hs1 1).trans d1
              have m2 := (hf2.below.frozen (p := ⟨w.heap.size,0,none⟩) hs1).trans g0
              have m3 := (hf2.below.frozen (p := ⟨w.heap.size,1,none⟩) hs1).trans g1
              have hs2 : w.heap.size < w2.heap.size := Nat.lt_of_lt_of_le hs1 hf2.below.size
              clear hf2 hk2 hx0 hx1 hy0 hy1
              go_wp2
              go_roundw
              case rel =>
                refine ⟨j + 1 + 1,by omega,by go_num,HB2.out,hs2,fun i hi => ?_,m0,m1,m2,m3⟩
                by_cases e : i = j + 1
                · subst e;rw [HBS.out,if_pos HL.out]
                · exact HZ.out i (by omega)
              case measure => simp [intOf];omega
            · have HL := Lib.hid hlt2
              have hq0 : (0 ≤ q) = True := by simp;omega
              have hs := setF_at hmany hlt HZ.out (by rw [HBS.out,if_neg HL.out];decide)
              rw [HBS.out,if_neg HL.out] at hs
              have HS := Lib.hid hs
              clear hlt2 hs
              go_wp2_with (go_at_call 79;refine (HW.out).mono ?_;rintro e w1 ⟨rfl,hf1⟩;have d0 := (past_cell hf1.below hsz 0).trans c0;have d1 := (past_cell hf1.below hsz 1).trans c1;have g0 := (past_frozen hf1.below hsz 0).trans f0;have g1 := (past_frozen hf1.below hsz 1).trans f1;have HB1 := Lib.hid ((HB.out.alloc (Nat.le_of_lt hsz) _).trans (hf1.below.mono (by simp;omega)));have hs1 : w.heap.size < w1.heap.size := (by have := hf1.below.size;simp at this;omega);have hx0 : w1.cell? ⟨wr.heap.size,0,none⟩ = some (.string x.name) := (cell_below hf1.below (by simp) 0).trans (by simp);have hx1 : w1.cell? ⟨wr.heap.size,1,none⟩ = some (.slice aa x.args.length ac) := (cell_below hf1.below (by simp) 1).trans (by simp);have hsx : wr.heap.size < w1.heap.size := (by have := hf1.below.size;simp at this;omega);have hb2 : b1 < w1.heap.size := (by omega);have hy0 := (past_cell hf1.below hb1 (o1 + j * 2)).trans hd1;have hy1 := (past_cell hf1.below hb1 (o1 + j * 2 + 1)).trans hd2;have HAG := Lib.hid (show Agree (fun _ => True) wr w1 from ((Agree.refl _ _).alloc _).trans (Below.agree hf1.below));clear hf1)
              go_region_held3 (fun w' => w'.cell? ⟨b1,o1 + j * 2,none⟩ = some (.string y.name) ∧ w'.cell? ⟨b1,o1 + j * 2 + 1,none⟩ = some (.slice ya y.args.length yc) ∧
                  w'.cell? ⟨wr.heap.size,0,none⟩ = some (.string x.name) ∧ w'.cell? ⟨wr.heap.size,1,none⟩ = some (.slice aa x.args.length ac))
                (first | (refine ⟨?_,?_,?_,?_⟩ <;> (first | (rw [hk2 _ hb2];assumption) | (rw [hk2 _ hsx];assumption))) | go_keep)
                (first
                  | (go_at_call 30;refine (K.out _ HAG.out.drew).mono ?_;rintro e w2 ⟨rfl,hf2⟩;have hk2 : ∀ c,c < w1.heap.size → ∀ off,w2.cell? ⟨c,off,none⟩ = w1.cell? ⟨c,off,none⟩ := fun c hc off => cell_below (w := w1.drew) hf2.below hc off))
              have HB2 := Lib.hid (HB1.out.drew.trans (hf2.below.mono HB1.out.size))
              have m0 := (hk2 _ hs1 0).trans d0
              have m1 := (hk2 _ hs1 1).trans d1
              have m2 := (hf2.below.frozen (p := ⟨w.heap.size,0,none⟩) hs1).trans g0
              have m3 := (hf2.below.frozen (p := ⟨w.heap.size,1,none⟩) hs1).trans g1
              clear hf2 hk2 hx0 hx1 hy0 hy1
              go_wp2
              refine bodyPost_ret (v := .agg #[.int .i64 2,.int .i64 ((j + 1 : Nat) : Int)]) (by simp [results,Tryz.results55,go_sem,m0,m1]) rfl ⟨by rw [HS.out],?_⟩
              exact (HB2.out.setCell (Nat.le_refl _) _).setCell (Nat.le_refl _) _
        · have hne : (wrongF x != 0) = true := by simpa using hz
          have hs := setF_at hmany hlt HZ.out (by rw [badAt_wrong HX.out hz];exact hz)
          rw [badAt_wrong HX.out hz] at hs
          have HS := Lib.hid hs
          have HW := Lib.hid hW
          clear hs hW
          generalize wrongF x = q at *
          go_wp2_with (go_at_call 79;refine (HW.out).mono ?_;rintro e w1 ⟨rfl,hf1⟩;have d0 := (past_cell hf1.below hsz 0).trans c0;have d1 := (past_cell hf1.below hsz 1).trans c1;have g0 := (past_frozen hf1.below hsz 0).trans f0;have g1 := (past_frozen hf1.below hsz 1).trans f1;have HB1 := Lib.hid ((HB.out.alloc (Nat.le_of_lt hsz) _).trans (hf1.below.mono (by simp;omega)));clear hf1)
          refine bodyPost_ret (v := .agg #[.int .i64 q,.int .i64 k]) (by simp [results,Tryz.results55,go_sem,d0,d1]) rfl ⟨by rw [HS.out],?_⟩
          exact (HB1.out.setCell (Nat.le_refl _) _).setCell (Nat.le_refl _) _
      · have HS := Lib.hid (setF_ok hmany (fun j hj => HZ.out j (by omega)))
        go_wp2
        refine bodyPost_ret (v := .agg #[.int .i64 0,.int .i64 0]) (by simp [results,Tryz.results55,go_sem,c0,c1]) rfl ⟨by rw [HS.out],?_⟩
        exact (HB.out.setCell (Nat.le_refl _) _).setCell (Nat.le_refl _) _
end Go.Proofs.YtiiicochdidolaaGreat
namespace Go.Proofs.YtiiicochdidolaaGreat
def pickP (facts other : List PFact) (at' : Int) (i : Nat) : List PFact := if (i : Int) = at' then other else facts
theorem pickP_all (facts other : List PFact) : pickP facts other (-1) = fun _ => facts := by
  funext i;unfold pickP;rw [if_neg (by omega)]
def withP (body : List PAtom) (facts : List PFact) (at' : Int) (other : List PFact) : List Binds × Int :=
  if bodyBad body ≠ 0 then ([],bodyBad body)
  else if (setF facts).1 ≠ 0 then ([],(setF facts).1)
  else if (setF other).1 ≠ 0 then ([],(setF other).1)
  else match goP (pickP facts other at') 0 [[]] body with
    | none => ([],4)
    | some ls => (tidyP (notP (pickP facts other at') 0 ls body),0)
def allP (body : List PAtom) (facts : List PFact) : List Binds × Int := withP body facts (-1) []
theorem setF_zero {l : List PFact} (h : (setF l).1 = 0) : l.length ≤ 200 ∧ ∀ i,i < l.length → badAt l i = 0 := by
  by_cases h1 : 200 < l.length
  · rw [setF_many h1] at h;exact absurd h (by decide)
  · refine ⟨by omega,fun i hi => Classical.byContradiction fun hb => ?_⟩
    unfold setF at h
    rw [if_neg h1] at h
    cases hf : (List.range l.length).find? (fun i => badAt l i != 0) with
    | none =>
      rw [List.find?_range_eq_none] at hf
      have := hf i (by simpa using hi)
      simp at this
      exact hb this
    | some j =>
      rw [hf] at h
      rw [List.find?_range_eq_some] at hf
      have := hf.1
      simp at this
      exact this h
theorem setF_set {l : List PFact} (h : (setF l).1 = 0) : l.length ≤ 200 ∧ Rising l ∧ ∀ f ∈ l,wrongF f = 0 := by
  obtain ⟨h1,h2⟩ := setF_zero h
  have hw : ∀ i f,l[i]? = some f → wrongF f = 0 := fun i f hf => Classical.byContradiction fun hb => by
    have := h2 i (List.getElem?_eq_some_iff.1 hf).1
    rw [badAt_wrong hf hb] at this
    exact hb this
  have hs : ∀ i f g,l[i]? = some f → l[i + 1]? = some g → cmpFact f g < 0 := fun i f g hf hg => by
    have := h2 (i + 1) (List.getElem?_eq_some_iff.1 hg).1
    rw [badAt_succ hg hf (hw _ _ hg)] at this
    split at this
    · assumption
    · exact absurd this (by decide)
  refine ⟨h1,?_,fun f hf => ?_⟩
  · have key : ∀ d i f g,l[i]? = some f → l[i + d + 1]? = some g → cmpFact f g < 0 := fun d => by
      induction d with
      | zero => exact fun i f g hf hg => hs i f g hf hg
      | succ d ih =>
        intro i f g hf hg
        obtain ⟨m,hm⟩ : ∃ m,l[i + d + 1]? = some m := ⟨_,List.getElem?_eq_getElem (by have := (List.getElem?_eq_some_iff.1 hg).1;omega)⟩
        exact cmpFact3.trans _ _ _ (ih i f m hf hm) (hs _ m g hm hg)
    refine List.pairwise_iff_getElem.2 fun i j hi hj hij => ?_
    simp only [ltF,decide_eq_true_eq]
    refine key (j - i - 1) i _ _ (List.getElem?_eq_getElem hi) ?_
    rw [show i + (j - i - 1) + 1 = j by omega]
    exact List.getElem?_eq_getElem hj
  · obtain ⟨i,hi⟩ := List.mem_iff_getElem?.1 hf
    exact hw i f hi
theorem setF_nil : setF [] = (0,0) := rfl
theorem withP_cases (body : List PAtom) (facts : List PFact) (at' : Int) (other : List PFact) :
    ((withP body facts at' other).2 ≠ 0 ∧ (withP body facts at' other).1 = []) ∨
    ((withP body facts at' other).2 = 0 ∧ bodyBad body = 0 ∧ (setF facts).1 = 0 ∧ (setF other).1 = 0 ∧ RisingC cmpBinds (withP body facts at' other).1 ∧ ∀ m,m ∈ (withP body facts at' other).1 ↔ Told (pickP facts other at') body m) := by
  unfold withP
  by_cases h1 : bodyBad body = 0
  · rw [if_neg (by simpa using h1)]
    by_cases h2 : (setF facts).1 = 0
    · rw [if_neg (by simpa using h2)]
      by_cases h3 : (setF other).1 = 0
      · rw [if_neg (by simpa using h3)]
        cases hg : goP (pickP facts other at') 0 [[]] body with
        | none => exact .inl ⟨(by decide : (4 : Int) ≠ 0),rfl⟩
        | some ls => exact .inr ⟨rfl,h1,h2,h3,tidyP_rising _,told_iff h1 hg⟩
      · rw [if_pos h3];exact .inl ⟨h3,rfl⟩
    · rw [if_pos h2];exact .inl ⟨h2,rfl⟩
  · rw [if_pos h1];exact .inl ⟨h1,rfl⟩
theorem allP_cases (body : List PAtom) (facts : List PFact) :
    ((allP body facts).2 ≠ 0 ∧ (allP body facts).1 = []) ∨
    ((allP body facts).2 = 0 ∧ bodyBad body = 0 ∧ (setF facts).1 = 0 ∧ RisingC cmpBinds (allP body facts).1 ∧ ∀ m,m ∈ (allP body facts).1 ↔ Told (fun _ => facts) body m) := by
  rcases withP_cases body facts (-1) [] with h | ⟨h1,h2,h3,-,h4,h5⟩
  · exact .inl h
  · exact .inr ⟨h1,h2,h3,h4,fun m => by have := h5 m;rwa [pickP_all] at this⟩
end Go.Proofs.YtiiicochdidolaaGreat
