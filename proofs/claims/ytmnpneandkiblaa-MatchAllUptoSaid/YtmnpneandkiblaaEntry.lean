/-
  THE ENTRY: from the row's reading of an argument to 'RdSlice': 'Opens'; and the row's end: what was below the heap's size is as it was.
-/
import Derived.Test.YtmnpneandkiblaaBase
import Derived.Test.YtmnpneandkiblaaRows
import Derived.ProofKit
import Derived.OpenShut
import Derived.JoinedCond
import Derived.Carry
import Derived.Deep.Strs
import Derived.Deep.Slices
namespace Go.Proofs.Ytmnpneandkiblaa
open Go.RowKit Go.ChangeShapes Go.WideShapes Go.Deep

theorem bulk_append {H : Type} (l r : List (DataW H)) : Rows.uptoBulkAll (l ++ r) = Rows.uptoBulkAll l + Rows.uptoBulkAll r := by
  induction l with
  | nil => simp [Rows.uptoBulkAll]
  | cons x l ih => simp only [List.cons_append, Rows.uptoBulkAll, ih]; omega

theorem cell_spot {w : World} {a : Addr} {v : Value} (h : w.cell? a = some v) : a.spot = none ∧ a.block < w.heap.size := by
  unfold World.cell? at h
  split at h
  · rename_i c t f hc
    refine ⟨?_, (Array.getElem?_eq_some_iff.1 hc).1⟩
    cases hs : a.spot with
    | none => rfl
    | some s => rw [hs] at h; simp at h
  · cases h

/-- How much a list of values is. -/
def sizeL {α : Type} (size : α → Nat) (l : List α) : Nat := 1 + (l.map size).sum
theorem sizeL_le {α : Type} {size : α → Nat} (hp : ∀ x, 1 ≤ size x) (l : List α) : l.length + 1 ≤ sizeL size l := by
  unfold sizeL
  induction l with
  | nil => simp
  | cons x l ih => have := hp x; simp only [List.map_cons, List.sum_cons, List.length_cons]; omega
theorem sizeL_mem {α : Type} {size : α → Nat} {l : List α} {x : α} (h : x ∈ l) : size x ≤ sizeL size l := by
  unfold sizeL
  induction l with
  | nil => cases h
  | cons y l ih =>
    simp only [List.map_cons, List.sum_cons]
    rcases List.mem_cons.1 h with rfl | h
    · omega
    · have := ih h; omega

/-- What the row's reading of a type gives. -/
structure Opens {α : Type} (P : Program) (t : TypeId) (k : Nat) (R : Reader α) (size : α → Nat) : Prop where
  cells : P.cellsOf t = k
  pos : 0 < k
  one : ∀ x, 1 ≤ size x
  opn : ∀ {H : Type} {enc : TypeId × Value → H} {w : World} {n : Nat} {cs : List Value} {x : DataW H × List MemPlace}, DataW.trod enc P w 0 (fun _ => true) true n t cs = some x → ∃ y, R (fun _ => True) w cs y ∧ size y ≤ Rows.uptoBulk x.1

theorem Opens.slice {α : Type} {P : Program} {t e : TypeId} {k : Nat} {R : Reader α} {size : α → Nat} (h : Opens P e k R size) (ht : P.underlying t = some (.slice e)) {H : Type} {enc : TypeId × Value → H} {w : World} {n : Nat} {cs : List Value} {x : DataW H × List MemPlace}
    (hx : DataW.trod enc P w 0 (fun _ => true) true n t cs = some x) : ∃ v l, cs = [v] ∧ RdSlice k R (fun _ => True) w v l ∧ sizeL size l ≤ Rows.uptoBulk x.1 := by
  rcases open_slice ht hx with ⟨rfl, rfl⟩ | ⟨a, len, cap, m, n', D, Pl, rfl, -, hl, hm, hmm, rfl, hi⟩
  · exact ⟨_, [], rfl, ⟨none, 0, rfl, Nat.le_refl _, Nat.zero_le _, fun _ => rfl, fun i x hx => by simp at hx⟩, by simp [sizeL, Rows.uptoBulk]⟩
  · simp only [if_true] at hmm
    subst hmm
    have main : ∀ j, j ≤ len → ∃ l : List α, l.length = j ∧ (∀ i y, l[i]? = some y → ∃ cs', w.cells? 0 (a.add (i * P.cellsOf e)) (P.cellsOf e) = some cs' ∧ R (fun _ => True) w cs' y) ∧ (l.map size).sum ≤ Rows.uptoBulkAll ((List.range j).map D) := by
      intro j
      induction j with
      | zero => exact fun _ => ⟨[], rfl, fun i y hy => by simp at hy, by simp⟩
      | succ j ih =>
        intro hj
        obtain ⟨l, h1, h2, h3⟩ := ih (by omega)
        obtain ⟨cs', g1, g2⟩ := hi j (by omega)
        obtain ⟨y, r1, r2⟩ := h.opn g2
        refine ⟨l ++ [y], by simp [h1], fun i z hz => ?_, ?_⟩
        · by_cases hij : i < j
          · rw [List.getElem?_append_left (by omega)] at hz; exact h2 i z hz
          · rw [List.getElem?_append_right (by omega)] at hz
            have : i - l.length = 0 := by
              have := (List.getElem?_eq_some_iff.1 hz).1
              simp at this; omega
            rw [this] at hz
            obtain rfl : y = z := by simpa using hz
            obtain rfl : i = j := by omega
            exact ⟨cs', g1, r1⟩
        · rw [List.range_succ, List.map_append (f := D), bulk_append, List.map_append, List.sum_append]
          simp [Rows.uptoBulkAll]
          simp at r2
          omega
    obtain ⟨l, h1, h2, h3⟩ := main len (Nat.le_refl _)
    refine ⟨_, l, rfl, ⟨some a, m, by rw [h1], by omega, hm, (fun e => by cases e), fun i y hy => ?_⟩, by simp only [sizeL, Rows.uptoBulk]; omega⟩
    obtain ⟨cs', g1, g2⟩ := h2 i y hy
    obtain ⟨-, hlen, hget⟩ := World.cells?_some g1
    rw [h.cells] at hlen hget
    have hk := h.pos
    obtain ⟨b, off, spot⟩ := a
    have hspot : spot = none ∧ b < w.heap.size := by
      obtain ⟨y0, hy0⟩ : ∃ y0, l[0]? = some y0 := ⟨_, List.getElem?_eq_getElem (by have := (List.getElem?_eq_some_iff.1 hy).1; omega)⟩
      obtain ⟨cs0, g3, -⟩ := h2 0 y0 hy0
      obtain ⟨-, hlen0, hget0⟩ := World.cells?_some g3
      rw [h.cells] at hlen0 hget0
      have h0 := hget0 0 hk
      rw [List.getElem?_eq_getElem (by omega)] at h0
      have := cell_spot h0
      simpa [Addr.add] using this
    obtain ⟨rfl, hb⟩ := hspot
    refine ⟨b, off, cs', rfl, trivial, hb, hlen, fun j u hu => ?_, g2⟩
    · have hj : j < k := by rw [← hlen]; exact (List.getElem?_eq_some_iff.1 hu).1
      have := hget j hj
      rw [hu] at this
      have hadd : ((⟨b, off, none⟩ : Addr).add (i * k)).add j = ⟨b, off + i * k + j, none⟩ := by
        unfold Addr.add
        split
        · split
          · simp_all
          · simp_all
        · split <;> simp_all <;> omega
      rwa [hadd] at this

/-- A struct that is an argument. -/
theorem Opens.arg {α : Type} {P : Program} {t : TypeId} {k : Nat} {R : Reader α} {size : α → Nat} (h : Opens P t k R size) {fs : Array Field} (ht : P.underlying t = some (.struct fs)) {H : Type} {enc : TypeId × Value → H} {W : World} {r : Reach} {b : Nat} {v : Value} {d : DataW H} {p : List MemPlace}
    (hv : Value.okWide P W r b t v) (hd : DataW.Trod enc P W 0 (fun _ => true) true t v d p) : ∃ x cs, v = .agg cs ∧ R (fun _ => True) W cs.toList x ∧ size x ≤ Rows.uptoBulk d := by
  obtain ⟨cs, rfl, -⟩ := okWide_struct ht hv
  obtain ⟨n, hn⟩ := hd
  obtain ⟨x, hr, hb⟩ := h.opn hn
  exact ⟨x, cs, rfl, hr, hb⟩
/-- A slice that is an argument. -/
theorem Opens.sliceArg {α : Type} {P : Program} {t e : TypeId} {k : Nat} {R : Reader α} {size : α → Nat} (h : Opens P e k R size) (ht : P.underlying t = some (.slice e)) {H : Type} {enc : TypeId × Value → H} {W : World} {r : Reach} {b : Nat} {v : Value} {d : DataW H} {p : List MemPlace}
    (hv : Value.okWide P W r b t v) (hd : DataW.Trod enc P W 0 (fun _ => true) true t v d p) : ∃ l, RdSlice k R (fun _ => True) W v l ∧ sizeL size l ≤ Rows.uptoBulk d := by
  obtain ⟨a, len, cap, rfl⟩ := okWide_slice ht hv
  obtain ⟨n, hn⟩ := hd
  obtain ⟨v', l, e1, hr, hb⟩ := h.slice ht hn
  have e2 : [Value.slice a len cap] = [v'] := e1
  obtain rfl : Value.slice a len cap = v' := by simpa using e2
  exact ⟨l, hr, hb⟩

theorem Opens.factArg {P : Program} {t : TypeId} {size : PFact → Nat} (h : Opens P t 2 RFact size) {fs : Array Field} (ht : P.underlying t = some (.struct fs)) {H : Type} {enc : TypeId × Value → H} {W : World} {r : Reach} {b : Nat} {v : Value} {d : DataW H} {p : List MemPlace}
    (hv : Value.okWide P W r b t v) (hd : DataW.Trod enc P W 0 (fun _ => true) true t v d p) : ∃ (f : PFact) (av : Value), v = .agg #[.string f.name, av] ∧ RdStrs (fun _ => True) W av f.args ∧ size f ≤ Rows.uptoBulk d := by
  obtain ⟨f, cs, rfl, ⟨av, e, hr⟩, hb⟩ := h.arg ht hv hd
  exact ⟨f, av, by rw [← Array.toArray_toList (xs := cs), e], hr, hb⟩

theorem Opens.strArg {P : Program} {t : TypeId} (h : Opens P t 1 RStr (fun s => s.size + 1)) (ht : P.underlying t = some .string) {H : Type} {enc : TypeId × Value → H} {W : World} {r : Reach} {b : Nat} {v : Value} {d : DataW H} {p : List MemPlace}
    (hv : Value.okWide P W r b t v) (hd : DataW.Trod enc P W 0 (fun _ => true) true t v d p) : ∃ s : Str, v = .string s ∧ s.size + 1 ≤ Rows.uptoBulk d := by
  obtain ⟨s, rfl⟩ := okWide_string ht hv
  obtain ⟨n, hn⟩ := hd
  obtain ⟨y, e, hb⟩ := h.opn hn
  have e' : [Value.string s] = [.string y] := e
  obtain rfl : s = y := by simpa using e'
  exact ⟨_, rfl, hb⟩
theorem Opens.intArg {P : Program} {t : TypeId} (h : Opens P t 1 RInt (fun _ => 1)) (ht : P.underlying t = some (.int .i64)) {H : Type} {enc : TypeId × Value → H} {W : World} {r : Reach} {b : Nat} {v : Value} {d : DataW H} {p : List MemPlace}
    (hv : Value.okWide P W r b t v) (hd : DataW.Trod enc P W 0 (fun _ => true) true t v d p) : ∃ n : Int, v = .int .i64 n ∧ 1 ≤ Rows.uptoBulk d := by
  obtain ⟨s, rfl⟩ := okWide_int ht hv
  obtain ⟨n, hn⟩ := hd
  obtain ⟨y, e, hb⟩ := h.opn hn
  exact ⟨_, rfl, hb⟩

theorem list2 {l : List Value} (h : l.length = 2) : ∃ a b, l = [a, b] := match l, h with | [a, b], _ => ⟨a, b, rfl⟩
theorem list3 {l : List Value} (h : l.length = 3) : ∃ a b c, l = [a, b, c] := match l, h with | [a, b, c], _ => ⟨a, b, c, rfl⟩
theorem list4 {l : List Value} (h : l.length = 4) : ∃ a b c d, l = [a, b, c, d] := match l, h with | [a, b, c, d], _ => ⟨a, b, c, d, rfl⟩
def sizeStr (s : Str) : Nat := s.size + 1
def sizeInt (_ : Int) : Nat := 1
def sizeFact (f : PFact) : Nat := 1 + sizeStr f.name + sizeL sizeStr f.args
def sizeTerm (f : PTerm) : Nat := 2 + sizeStr f.name
def sizeAtom (f : PAtom) : Nat := 2 + sizeStr f.name + sizeL sizeTerm f.terms
def sizeRule (f : PRule) : Nat := 1 + sizeAtom f.head + sizeL sizeAtom f.body
def sizeBind (f : PBind) : Nat := 1 + sizeStr f.var + sizeStr f.name

theorem openStr : Opens Try.prog 9 1 RStr sizeStr where
  cells := by kernel_rfl
  pos := by omega
  one _ := by simp only [sizeStr]; omega
  opn h := by
    obtain ⟨s, rfl, rfl, -⟩ := DataW.trod_string Try.underlying9 h
    refine ⟨s, rfl, ?_⟩
    have : s.data.toList.length = s.size := by rw [Array.length_toList]; rfl
    simp only [sizeStr, Rows.uptoBulk]; omega
theorem openInt : Opens Try.prog 3 1 RInt sizeInt where
  cells := by kernel_rfl
  pos := by omega
  one _ := by simp [sizeInt]
  opn h := by
    obtain ⟨s, rfl, rfl, -⟩ := DataW.trod_int Try.underlying3 h
    exact ⟨s, rfl, by simp [sizeInt, Rows.uptoBulk]⟩
theorem openFact : Opens Try.prog 41 2 RFact sizeFact where
  cells := by kernel_rfl
  pos := by omega
  one _ := by simp only [sizeFact]; omega
  opn {H enc w n cs x} h := by
    obtain ⟨y0, y1, n, rfl, hl, h0, h1⟩ := trod_struct2 Try.underlying41 h
    rw [show Try.prog.cellsOf 41 = 2 by kernel_rfl] at hl
    obtain ⟨c0, c1, rfl⟩ := list2 hl
    rw [show Try.prog.cellsOf 9 = 1 by kernel_rfl] at h0
    rw [show Try.prog.cellsOf 39 = 1 by kernel_rfl] at h1
    obtain ⟨s, e0, b0⟩ := openStr.opn h0
    obtain ⟨v, l, e1, hr, b1⟩ := openStr.slice Try.underlying39 h1
    obtain rfl : c0 = .string s := by simpa [RStr] using e0
    obtain rfl : c1 = v := by simpa using e1
    exact ⟨⟨s, l⟩, ⟨_, rfl, hr⟩, by simp only [sizeFact, Rows.uptoBulk, Rows.uptoBulkAll]; omega⟩
theorem openTerm : Opens Try.prog 71 2 RTerm sizeTerm where
  cells := by kernel_rfl
  pos := by omega
  one _ := by simp only [sizeTerm]; omega
  opn {H enc w n cs x} h := by
    obtain ⟨y0, y1, n, rfl, hl, h0, h1⟩ := trod_struct2 Try.underlying71 h
    rw [show Try.prog.cellsOf 71 = 2 by kernel_rfl] at hl
    obtain ⟨c0, c1, rfl⟩ := list2 hl
    rw [show Try.prog.cellsOf 4 = 1 by kernel_rfl] at h0
    rw [show Try.prog.cellsOf 9 = 1 by kernel_rfl] at h1
    obtain ⟨b, e0, rfl⟩ := DataW.trod_bool Try.underlying4 h0
    obtain ⟨s, e1, b1⟩ := openStr.opn h1
    obtain rfl : c0 = .bool b := by simpa using e0
    obtain rfl : c1 = .string s := by simpa [RStr] using e1
    exact ⟨⟨b, s⟩, rfl, by simp only [sizeTerm, Rows.uptoBulk, Rows.uptoBulkAll]; omega⟩
theorem openAtom : Opens Try.prog 38 3 RAtom sizeAtom where
  cells := by kernel_rfl
  pos := by omega
  one _ := by simp only [sizeAtom]; omega
  opn {H enc w n cs x} h := by
    obtain ⟨y0, y1, y2, n, rfl, hl, h0, h1, h2⟩ := trod_struct3 Try.underlying38 h
    rw [show Try.prog.cellsOf 38 = 3 by kernel_rfl] at hl
    obtain ⟨c0, c1, c2, rfl⟩ := list3 hl
    rw [show Try.prog.cellsOf 4 = 1 by kernel_rfl] at h0
    rw [show Try.prog.cellsOf 9 = 1 by kernel_rfl] at h1
    rw [show Try.prog.cellsOf 36 = 1 by kernel_rfl] at h2
    obtain ⟨b, e0, rfl⟩ := DataW.trod_bool Try.underlying4 h0
    obtain ⟨s, e1, b1⟩ := openStr.opn h1
    obtain ⟨v, l, e2, hr, b2⟩ := openTerm.slice Try.underlying36 h2
    obtain rfl : c0 = .bool b := by simpa using e0
    obtain rfl : c1 = .string s := by simpa [RStr] using e1
    obtain rfl : c2 = v := by simpa using e2
    exact ⟨⟨b, s, l⟩, ⟨_, rfl, hr⟩, by simp only [sizeAtom, Rows.uptoBulk, Rows.uptoBulkAll]; omega⟩
theorem openBind : Opens Try.prog 34 2 RBind sizeBind where
  cells := by kernel_rfl
  pos := by omega
  one _ := by simp only [sizeBind]; omega
  opn {H enc w n cs x} h := by
    obtain ⟨y0, y1, n, rfl, hl, h0, h1⟩ := trod_struct2 Try.underlying34 h
    rw [show Try.prog.cellsOf 34 = 2 by kernel_rfl] at hl
    obtain ⟨c0, c1, rfl⟩ := list2 hl
    rw [show Try.prog.cellsOf 9 = 1 by kernel_rfl] at h0 h1
    obtain ⟨s, e0, b0⟩ := openStr.opn h0
    obtain ⟨s', e1, b1⟩ := openStr.opn h1
    obtain rfl : c0 = .string s := by simpa [RStr] using e0
    obtain rfl : c1 = .string s' := by simpa [RStr] using e1
    exact ⟨⟨s, s'⟩, rfl, by simp only [sizeBind, Rows.uptoBulk, Rows.uptoBulkAll]; omega⟩

/-! ### The row's end -/
theorem trodAll_carry {H : Type} {enc : TypeId × Value → H} {P : Program} (hl : laidOutB P = true) {W W' : World} (hb : Below W.heap.size W W') {sp : Nat → Bool} :
    ∀ {ts : List TypeId} {vs : List Value} {ds : List (DataW H)} {ps : List MemPlace}, ts.all (fun t => P.readableRec t && decide (t < P.types.size)) = true → (∀ x ∈ ps, x.block < W.heap.size) → (∀ x ∈ ps, sp x.block = true) →
      DataW.TrodAll enc P W 0 (fun _ => true) true ts vs ds ps → DataW.TrodAll enc P W' 0 sp true ts vs ds ps
  | [], _, _, _, _, _, _, h => by
    obtain ⟨rfl, rfl, rfl⟩ := trodAll_nil h
    exact trodAll_mk0
  | t :: ts, _, _, _, ht, hlt, hsp, h => by
    obtain ⟨v, vs1, d, ds1, a, b, rfl, rfl, rfl, h1, h2⟩ := trodAll_cons h
    simp only [List.all_cons, Bool.and_eq_true, decide_eq_true_eq] at ht
    exact ⟨a, b, WideElems.Trod_stays hl ht.1.1 ht.1.2 h1 (fun x hx => hb.same (hlt x (by simp [hx]))) (fun x hx => hsp x (by simp [hx])),
      trodAll_carry hl hb (by simpa using ht.2) (fun x hx => hlt x (by simp [hx])) (fun x hx => hsp x (by simp [hx])) h2, rfl⟩

/-- A law's end: it has answered true; nothing below the heap's old size has turned. -/
theorem law_post {H : Type} {enc : TypeId × Value → H} {P : Program} {f : Func} {s : ChangeSpec} {fresh handsOn again : Bool} {W W' : World} {args : Array Value} {ds gs : List (DataW H)} {before : List MemPlace} {tb : TypeId}
    (hW : DataW.Whole enc P f.params.toList s.vars false W args.toList ds gs before) (hv : s.vars = []) (hfn : s.fn H ds = { results := [.lit (.bool true)], args := ds }) (hrt : f.resultTypes = #[tb]) (htb : P.underlying tb = some .bool)
    (hl : laidOutB P = true) (hread : f.params.toList.all (fun t => P.readableRec t && decide (t < P.types.size)) = true) (hb : Below W.heap.size W W') : s.post enc P f false fresh handsOn again W args (.bool true) W' := by
  have hlt := hW.lt
  have hold : ∀ p ∈ before, (fun b => decide (b < W.heap.size)) p.block = true := fun p hp => by simpa using hlt p hp
  have hW' := hW
  obtain ⟨p, q, hA, hV, rfl, hz, hn⟩ := hW
  rw [hv] at hV
  obtain ⟨rfl, rfl⟩ := trodVars_none hV
  have hds : ds ++ ([] : List (DataW H)) = ds := List.append_nil _
  have hargs : ∀ sp : Nat → Bool, (∀ x ∈ p, sp x.block = true) → DataW.TrodAll enc P W' 0 sp true f.params.toList args.toList (s.fn H (ds ++ [])).args p := fun sp hsp => by
    rw [hds, hfn]
    exact trodAll_carry hl hb hread (fun x hx => hlt x (by simp [hx])) hsp hA
  have hres : ∀ (b : Nat) (sp : Nat → Bool) (hd : Bool), DataW.TrodAll enc P W' b sp hd f.resultTypes.toList ((Value.bool true).resultList f.resultTypes.size) (s.fn H (ds ++ [])).results [] := fun b sp hd => by
    rw [hds, hfn, hrt]
    exact trodAll_cons_mk (shut_bool htb _) trodAll_mk0
  have hvars : ∀ sp : Nat → Bool, DataW.TrodVars enc P W' sp s.vars (s.fn H (ds ++ [])).vars [] := fun sp => by
    rw [hds, hfn, hv]; rfl
  refine ⟨ds, [], p ++ [], [], p, [], hW', hres _ _ _, hargs _ (fun x hx => hold x (by simp [hx])), hvars _, World.keptBut_mono (fun x hx => ⟨hx, Or.inr (by simpa using hx)⟩) (hb.frame (· ∈ p ++ [])), fun _ => ?_⟩
  refine ⟨ok_one hrt rfl (okWide_bool_mk htb _), _, _, ([] ++ p) ++ [], ⟨[] ++ p, [], trodAll_append (hargs _ (fun _ _ => rfl)) (hres _ _ _), hvars _, rfl, ?_, ?_⟩, ?_⟩
  · intro b off hp
    have hb' : b < W.heap.size := hlt (.cell b off) (by simpa using hp)
    rw [hb.frozen (p := ⟨b, off, none⟩) hb']
    exact hz b off (by simpa using hp)
  · intro ha; cases ha
  · intro x hx _
    simpa using hx
end Go.Proofs.Ytmnpneandkiblaa
