/-
  THE TEXTS Entry, RulesIn, NaiveK, RoundW1, RoundW2, one behind the other.
-/
import Derived.Test.YtgoaiohkodbadaaGreatPk1
import Derived.Test.YtgoaiohkodbadaaGreatPk10
import Derived.Test.YtgoaiohkodbadaaGreatPk14
import Derived.Test.YtgoaiohkodbadaaGreatRows
import Derived.ProofKit
import Derived.OpenShut
import Derived.JoinedCond
import Derived.Carry
import Derived.Deep.Strs
import Derived.Deep.Slices
import Derived.Test.YtgoaiohkodbadaaGreatChecked
/-
  THE ENTRY: from the row's reading of an argument to 'RdSlice': 'Opens'; and the row's end: what was below the heap's size is as it was.
-/
namespace Go.Proofs.YtgoaiohkodbadaaGreat
open Go.RowKit Go.ChangeShapes Go.WideShapes Go.Deep

theorem bulk_append {H : Type} (l r : List (DataW H)) : Rows.uptoBulkAll (l ++ r) = Rows.uptoBulkAll l + Rows.uptoBulkAll r := by
  induction l with
  | nil => simp [Rows.uptoBulkAll]
  | cons x l ih => simp only [List.cons_append, Rows.uptoBulkAll, ih]; omega

theorem cell_spot {w : World} {a : Addr} {v : Value} (h : w.cell? a = some v) : a.spot = none ∧ a.block < w.heap.size := by
  unfold World.cell? at h
  split at h
  · rename_i c t f hc
    refine ⟨?_, (Array.getElem?_eq_some_iff.1 hc).1⟩
    cases hs : a.spot with
    | none => rfl
    | some s => rw [hs] at h; simp at h
  · cases h

/-- How much a list of values is. -/
def sizeL {α : Type} (size : α → Nat) (l : List α) : Nat := 1 + (l.map size).sum
theorem sizeL_le {α : Type} {size : α → Nat} (hp : ∀ x, 1 ≤ size x) (l : List α) : l.length + 1 ≤ sizeL size l := by
  unfold sizeL
  induction l with
  | nil => simp
  | cons x l ih => have := hp x; simp only [List.map_cons, List.sum_cons, List.length_cons]; omega
theorem sizeL_mem {α : Type} {size : α → Nat} {l : List α} {x : α} (h : x ∈ l) : size x ≤ sizeL size l := by
  unfold sizeL
  induction l with
  | nil => cases h
  | cons y l ih =>
    simp only [List.map_cons, List.sum_cons]
    rcases List.mem_cons.1 h with rfl | h
    · omega
    · have := ih h; omega

/-- What the row's reading of a type gives. -/
structure Opens {α : Type} (P : Program) (t : TypeId) (k : Nat) (R : Reader α) (size : α → Nat) : Prop where
  cells : P.cellsOf t = k
  pos : 0 < k
  one : ∀ x, 1 ≤ size x
  opn : ∀ {H : Type} {enc : TypeId × Value → H} {w : World} {n : Nat} {cs : List Value} {x : DataW H × List MemPlace}, DataW.trod enc P w 0 (fun _ => true) true n t cs = some x → ∃ y, R (fun _ => True) w cs y ∧ size y ≤ Rows.uptoBulk x.1

theorem Opens.slice {α : Type} {P : Program} {t e : TypeId} {k : Nat} {R : Reader α} {size : α → Nat} (h : Opens P e k R size) (ht : P.underlying t = some (.slice e)) {H : Type} {enc : TypeId × Value → H} {w : World} {n : Nat} {cs : List Value} {x : DataW H × List MemPlace}
    (hx : DataW.trod enc P w 0 (fun _ => true) true n t cs = some x) : ∃ v l, cs = [v] ∧ RdSlice k R (fun _ => True) w v l ∧ sizeL size l ≤ Rows.uptoBulk x.1 := by
  rcases open_slice ht hx with ⟨rfl, rfl⟩ | ⟨a, len, cap, m, n', D, Pl, rfl, -, hl, hm, hmm, rfl, hi⟩
  · exact ⟨_, [], rfl, ⟨none, 0, rfl, Nat.le_refl _, Nat.zero_le _, fun _ => rfl, fun i x hx => by simp at hx⟩, by simp [sizeL, Rows.uptoBulk]⟩
  · simp only [if_true] at hmm
    subst hmm
    have main : ∀ j, j ≤ len → ∃ l : List α, l.length = j ∧ (∀ i y, l[i]? = some y → ∃ cs', w.cells? 0 (a.add (i * P.cellsOf e)) (P.cellsOf e) = some cs' ∧ R (fun _ => True) w cs' y) ∧ (l.map size).sum ≤ Rows.uptoBulkAll ((List.range j).map D) := by
      intro j
      induction j with
      | zero => exact fun _ => ⟨[], rfl, fun i y hy => by simp at hy, by simp⟩
      | succ j ih =>
        intro hj
        obtain ⟨l, h1, h2, h3⟩ := ih (by omega)
        obtain ⟨cs', g1, g2⟩ := hi j (by omega)
        obtain ⟨y, r1, r2⟩ := h.opn g2
        refine ⟨l ++ [y], by simp [h1], fun i z hz => ?_, ?_⟩
        · by_cases hij : i < j
          · rw [List.getElem?_append_left (by omega)] at hz; exact h2 i z hz
          · rw [List.getElem?_append_right (by omega)] at hz
            have : i - l.length = 0 := by
              have := (List.getElem?_eq_some_iff.1 hz).1
              simp at this; omega
            rw [this] at hz
            obtain rfl : y = z := by simpa using hz
            obtain rfl : i = j := by omega
            exact ⟨cs', g1, r1⟩
        · rw [List.range_succ, List.map_append (f := D), bulk_append, List.map_append, List.sum_append]
          simp [Rows.uptoBulkAll]
          simp at r2
          omega
    obtain ⟨l, h1, h2, h3⟩ := main len (Nat.le_refl _)
    refine ⟨_, l, rfl, ⟨some a, m, by rw [h1], by omega, hm, (fun e => by cases e), fun i y hy => ?_⟩, by simp only [sizeL, Rows.uptoBulk]; omega⟩
    obtain ⟨cs', g1, g2⟩ := h2 i y hy
    obtain ⟨-, hlen, hget⟩ := World.cells?_some g1
    rw [h.cells] at hlen hget
    have hk := h.pos
    obtain ⟨b, off, spot⟩ := a
    have hspot : spot = none ∧ b < w.heap.size := by
      obtain ⟨y0, hy0⟩ : ∃ y0, l[0]? = some y0 := ⟨_, List.getElem?_eq_getElem (by have := (List.getElem?_eq_some_iff.1 hy).1; omega)⟩
      obtain ⟨cs0, g3, -⟩ := h2 0 y0 hy0
      obtain ⟨-, hlen0, hget0⟩ := World.cells?_some g3
      rw [h.cells] at hlen0 hget0
      have h0 := hget0 0 hk
      rw [List.getElem?_eq_getElem (by omega)] at h0
      have := cell_spot h0
      simpa [Addr.add] using this
    obtain ⟨rfl, hb⟩ := hspot
    refine ⟨b, off, cs', rfl, trivial, hb, hlen, fun j u hu => ?_, g2⟩
    · have hj : j < k := by rw [← hlen]; exact (List.getElem?_eq_some_iff.1 hu).1
      have := hget j hj
      rw [hu] at this
      have hadd : ((⟨b, off, none⟩ : Addr).add (i * k)).add j = ⟨b, off + i * k + j, none⟩ := by
        unfold Addr.add
        split
        · split
          · simp_all
          · simp_all
        · split <;> simp_all <;> omega
      rwa [hadd] at this

/-- A struct that is an argument. -/
theorem Opens.arg {α : Type} {P : Program} {t : TypeId} {k : Nat} {R : Reader α} {size : α → Nat} (h : Opens P t k R size) {fs : Array Field} (ht : P.underlying t = some (.struct fs)) {H : Type} {enc : TypeId × Value → H} {W : World} {r : Reach} {b : Nat} {v : Value} {d : DataW H} {p : List MemPlace}
    (hv : Value.okWide P W r b t v) (hd : DataW.Trod enc P W 0 (fun _ => true) true t v d p) : ∃ x cs, v = .agg cs ∧ R (fun _ => True) W cs.toList x ∧ size x ≤ Rows.uptoBulk d := by
  obtain ⟨cs, rfl, -⟩ := okWide_struct ht hv
  obtain ⟨n, hn⟩ := hd
  obtain ⟨x, hr, hb⟩ := h.opn hn
  exact ⟨x, cs, rfl, hr, hb⟩
/-- A slice that is an argument. -/
theorem Opens.sliceArg {α : Type} {P : Program} {t e : TypeId} {k : Nat} {R : Reader α} {size : α → Nat} (h : Opens P e k R size) (ht : P.underlying t = some (.slice e)) {H : Type} {enc : TypeId × Value → H} {W : World} {r : Reach} {b : Nat} {v : Value} {d : DataW H} {p : List MemPlace}
    (hv : Value.okWide P W r b t v) (hd : DataW.Trod enc P W 0 (fun _ => true) true t v d p) : ∃ l, RdSlice k R (fun _ => True) W v l ∧ sizeL size l ≤ Rows.uptoBulk d := by
  obtain ⟨a, len, cap, rfl⟩ := okWide_slice ht hv
  obtain ⟨n, hn⟩ := hd
  obtain ⟨v', l, e1, hr, hb⟩ := h.slice ht hn
  have e2 : [Value.slice a len cap] = [v'] := e1
  obtain rfl : Value.slice a len cap = v' := by simpa using e2
  exact ⟨l, hr, hb⟩

theorem Opens.factArg {P : Program} {t : TypeId} {size : PFact → Nat} (h : Opens P t 2 RFact size) {fs : Array Field} (ht : P.underlying t = some (.struct fs)) {H : Type} {enc : TypeId × Value → H} {W : World} {r : Reach} {b : Nat} {v : Value} {d : DataW H} {p : List MemPlace}
    (hv : Value.okWide P W r b t v) (hd : DataW.Trod enc P W 0 (fun _ => true) true t v d p) : ∃ (f : PFact) (av : Value), v = .agg #[.string f.name, av] ∧ RdStrs (fun _ => True) W av f.args ∧ size f ≤ Rows.uptoBulk d := by
  obtain ⟨f, cs, rfl, ⟨av, e, hr⟩, hb⟩ := h.arg ht hv hd
  exact ⟨f, av, by rw [← Array.toArray_toList (xs := cs), e], hr, hb⟩

theorem Opens.strArg {P : Program} {t : TypeId} (h : Opens P t 1 RStr (fun s => s.size + 1)) (ht : P.underlying t = some .string) {H : Type} {enc : TypeId × Value → H} {W : World} {r : Reach} {b : Nat} {v : Value} {d : DataW H} {p : List MemPlace}
    (hv : Value.okWide P W r b t v) (hd : DataW.Trod enc P W 0 (fun _ => true) true t v d p) : ∃ s : Str, v = .string s ∧ s.size + 1 ≤ Rows.uptoBulk d := by
  obtain ⟨s, rfl⟩ := okWide_string ht hv
  obtain ⟨n, hn⟩ := hd
  obtain ⟨y, e, hb⟩ := h.opn hn
  have e' : [Value.string s] = [.string y] := e
  obtain rfl : s = y := by simpa using e'
  exact ⟨_, rfl, hb⟩
theorem Opens.intArg {P : Program} {t : TypeId} (h : Opens P t 1 RInt (fun _ => 1)) (ht : P.underlying t = some (.int .i64)) {H : Type} {enc : TypeId × Value → H} {W : World} {r : Reach} {b : Nat} {v : Value} {d : DataW H} {p : List MemPlace}
    (hv : Value.okWide P W r b t v) (hd : DataW.Trod enc P W 0 (fun _ => true) true t v d p) : ∃ n : Int, v = .int .i64 n ∧ 1 ≤ Rows.uptoBulk d := by
  obtain ⟨s, rfl⟩ := okWide_int ht hv
  obtain ⟨n, hn⟩ := hd
  obtain ⟨y, e, hb⟩ := h.opn hn
  exact ⟨_, rfl, hb⟩

theorem list2 {l : List Value} (h : l.length = 2) : ∃ a b, l = [a, b] := match l, h with | [a, b], _ => ⟨a, b, rfl⟩
theorem list3 {l : List Value} (h : l.length = 3) : ∃ a b c, l = [a, b, c] := match l, h with | [a, b, c], _ => ⟨a, b, c, rfl⟩
theorem list4 {l : List Value} (h : l.length = 4) : ∃ a b c d, l = [a, b, c, d] := match l, h with | [a, b, c, d], _ => ⟨a, b, c, d, rfl⟩
def sizeStr (s : Str) : Nat := s.size + 1
def sizeInt (_ : Int) : Nat := 1
def sizeFact (f : PFact) : Nat := 1 + sizeStr f.name + sizeL sizeStr f.args
def sizeTerm (f : PTerm) : Nat := 2 + sizeStr f.name
def sizeAtom (f : PAtom) : Nat := 2 + sizeStr f.name + sizeL sizeTerm f.terms
def sizeRule (f : PRule) : Nat := 1 + sizeAtom f.head + sizeL sizeAtom f.body
def sizeBind (f : PBind) : Nat := 1 + sizeStr f.var + sizeStr f.name

theorem openStr : Opens Tryz.prog 9 1 RStr sizeStr where
  cells := by kernel_rfl
  pos := by omega
  one _ := by simp only [sizeStr]; omega
  opn h := by
    obtain ⟨s, rfl, rfl, -⟩ := DataW.trod_string Tryz.underlying9 h
    refine ⟨s, rfl, ?_⟩
    have : s.data.toList.length = s.size := by rw [Array.length_toList]; rfl
    simp only [sizeStr, Rows.uptoBulk]; omega
theorem openInt : Opens Tryz.prog 3 1 RInt sizeInt where
  cells := by kernel_rfl
  pos := by omega
  one _ := by simp [sizeInt]
  opn h := by
    obtain ⟨s, rfl, rfl, -⟩ := DataW.trod_int Tryz.underlying3 h
    exact ⟨s, rfl, by simp [sizeInt, Rows.uptoBulk]⟩
theorem openFact : Opens Tryz.prog 27 2 RFact sizeFact where
  cells := by kernel_rfl
  pos := by omega
  one _ := by simp only [sizeFact]; omega
  opn {H enc w n cs x} h := by
    obtain ⟨y0, y1, n, rfl, hl, h0, h1⟩ := trod_struct2 Tryz.underlying27 h
    rw [show Tryz.prog.cellsOf 27 = 2 by kernel_rfl] at hl
    obtain ⟨c0, c1, rfl⟩ := list2 hl
    rw [show Tryz.prog.cellsOf 9 = 1 by kernel_rfl] at h0
    rw [show Tryz.prog.cellsOf 25 = 1 by kernel_rfl] at h1
    obtain ⟨s, e0, b0⟩ := openStr.opn h0
    obtain ⟨v, l, e1, hr, b1⟩ := openStr.slice Tryz.underlying25 h1
    obtain rfl : c0 = .string s := by simpa [RStr] using e0
    obtain rfl : c1 = v := by simpa using e1
    exact ⟨⟨s, l⟩, ⟨_, rfl, hr⟩, by simp only [sizeFact, Rows.uptoBulk, Rows.uptoBulkAll]; omega⟩
theorem openTerm : Opens Tryz.prog 182 2 RTerm sizeTerm where
  cells := by kernel_rfl
  pos := by omega
  one _ := by simp only [sizeTerm]; omega
  opn {H enc w n cs x} h := by
    obtain ⟨y0, y1, n, rfl, hl, h0, h1⟩ := trod_struct2 Tryz.underlying182 h
    rw [show Tryz.prog.cellsOf 182 = 2 by kernel_rfl] at hl
    obtain ⟨c0, c1, rfl⟩ := list2 hl
    rw [show Tryz.prog.cellsOf 4 = 1 by kernel_rfl] at h0
    rw [show Tryz.prog.cellsOf 9 = 1 by kernel_rfl] at h1
    obtain ⟨b, e0, rfl⟩ := DataW.trod_bool Tryz.underlying4 h0
    obtain ⟨s, e1, b1⟩ := openStr.opn h1
    obtain rfl : c0 = .bool b := by simpa using e0
    obtain rfl : c1 = .string s := by simpa [RStr] using e1
    exact ⟨⟨b, s⟩, rfl, by simp only [sizeTerm, Rows.uptoBulk, Rows.uptoBulkAll]; omega⟩
theorem openAtom : Opens Tryz.prog 76 3 RAtom sizeAtom where
  cells := by kernel_rfl
  pos := by omega
  one _ := by simp only [sizeAtom]; omega
  opn {H enc w n cs x} h := by
    obtain ⟨y0, y1, y2, n, rfl, hl, h0, h1, h2⟩ := trod_struct3 Tryz.underlying76 h
    rw [show Tryz.prog.cellsOf 76 = 3 by kernel_rfl] at hl
    obtain ⟨c0, c1, c2, rfl⟩ := list3 hl
    rw [show Tryz.prog.cellsOf 4 = 1 by kernel_rfl] at h0
    rw [show Tryz.prog.cellsOf 9 = 1 by kernel_rfl] at h1
    rw [show Tryz.prog.cellsOf 74 = 1 by kernel_rfl] at h2
    obtain ⟨b, e0, rfl⟩ := DataW.trod_bool Tryz.underlying4 h0
    obtain ⟨s, e1, b1⟩ := openStr.opn h1
    obtain ⟨v, l, e2, hr, b2⟩ := openTerm.slice Tryz.underlying74 h2
    obtain rfl : c0 = .bool b := by simpa using e0
    obtain rfl : c1 = .string s := by simpa [RStr] using e1
    obtain rfl : c2 = v := by simpa using e2
    exact ⟨⟨b, s, l⟩, ⟨_, rfl, hr⟩, by simp only [sizeAtom, Rows.uptoBulk, Rows.uptoBulkAll]; omega⟩
theorem openRule : Opens Tryz.prog 78 4 RRule sizeRule where
  cells := by kernel_rfl
  pos := by omega
  one _ := by simp only [sizeRule]; omega
  opn {H enc w n cs x} h := by
    obtain ⟨y0, y1, n, rfl, hl, h0, h1⟩ := trod_struct2 Tryz.underlying78 h
    rw [show Tryz.prog.cellsOf 78 = 4 by kernel_rfl] at hl
    obtain ⟨c0, c1, c2, c3, rfl⟩ := list4 hl
    rw [show Tryz.prog.cellsOf 76 = 3 by kernel_rfl] at h0
    rw [show Tryz.prog.cellsOf 63 = 1 by kernel_rfl] at h1
    obtain ⟨a, ⟨tv, e0, hr0⟩, b0⟩ := openAtom.opn h0
    obtain ⟨v, l, e1, hr, b1⟩ := openAtom.slice Tryz.underlying63 h1
    obtain ⟨rfl, rfl, rfl⟩ : c0 = .bool a.neg ∧ c1 = .string a.name ∧ c2 = tv := by simpa using e0
    obtain rfl : c3 = v := by simpa using e1
    exact ⟨⟨a, l⟩, ⟨_, _, rfl, hr0, hr⟩, by simp only [sizeRule, Rows.uptoBulk, Rows.uptoBulkAll]; omega⟩
theorem openBind : Opens Tryz.prog 185 2 RBind sizeBind where
  cells := by kernel_rfl
  pos := by omega
  one _ := by simp only [sizeBind]; omega
  opn {H enc w n cs x} h := by
    obtain ⟨y0, y1, n, rfl, hl, h0, h1⟩ := trod_struct2 Tryz.underlying185 h
    rw [show Tryz.prog.cellsOf 185 = 2 by kernel_rfl] at hl
    obtain ⟨c0, c1, rfl⟩ := list2 hl
    rw [show Tryz.prog.cellsOf 9 = 1 by kernel_rfl] at h0 h1
    obtain ⟨s, e0, b0⟩ := openStr.opn h0
    obtain ⟨s', e1, b1⟩ := openStr.opn h1
    obtain rfl : c0 = .string s := by simpa [RStr] using e0
    obtain rfl : c1 = .string s' := by simpa [RStr] using e1
    exact ⟨⟨s, s'⟩, rfl, by simp only [sizeBind, Rows.uptoBulk, Rows.uptoBulkAll]; omega⟩

/-! ### The row's end -/
theorem trodAll_carry {H : Type} {enc : TypeId × Value → H} {P : Program} (hl : laidOutB P = true) {W W' : World} (hb : Below W.heap.size W W') {sp : Nat → Bool} :
    ∀ {ts : List TypeId} {vs : List Value} {ds : List (DataW H)} {ps : List MemPlace}, ts.all (fun t => P.readableRec t && decide (t < P.types.size)) = true → (∀ x ∈ ps, x.block < W.heap.size) → (∀ x ∈ ps, sp x.block = true) →
      DataW.TrodAll enc P W 0 (fun _ => true) true ts vs ds ps → DataW.TrodAll enc P W' 0 sp true ts vs ds ps
  | [], _, _, _, _, _, _, h => by
    obtain ⟨rfl, rfl, rfl⟩ := trodAll_nil h
    exact trodAll_mk0
  | t :: ts, _, _, _, ht, hlt, hsp, h => by
    obtain ⟨v, vs1, d, ds1, a, b, rfl, rfl, rfl, h1, h2⟩ := trodAll_cons h
    simp only [List.all_cons, Bool.and_eq_true, decide_eq_true_eq] at ht
    exact ⟨a, b, WideElems.Trod_stays hl ht.1.1 ht.1.2 h1 (fun x hx => hb.same (hlt x (by simp [hx]))) (fun x hx => hsp x (by simp [hx])),
      trodAll_carry hl hb (by simpa using ht.2) (fun x hx => hlt x (by simp [hx])) (fun x hx => hsp x (by simp [hx])) h2, rfl⟩

/-- A law's end: it has answered true; nothing below the heap's old size has turned. -/
theorem law_post {H : Type} {enc : TypeId × Value → H} {P : Program} {f : Func} {s : ChangeSpec} {fresh handsOn again : Bool} {W W' : World} {args : Array Value} {ds gs : List (DataW H)} {before : List MemPlace} {tb : TypeId}
    (hW : DataW.Whole enc P f.params.toList s.vars false W args.toList ds gs before) (hv : s.vars = []) (hfn : s.fn H ds = { results := [.lit (.bool true)], args := ds }) (hrt : f.resultTypes = #[tb]) (htb : P.underlying tb = some .bool)
    (hl : laidOutB P = true) (hread : f.params.toList.all (fun t => P.readableRec t && decide (t < P.types.size)) = true) (hb : Below W.heap.size W W') : s.post enc P f false fresh handsOn again W args (.bool true) W' := by
  have hlt := hW.lt
  have hold : ∀ p ∈ before, (fun b => decide (b < W.heap.size)) p.block = true := fun p hp => by simpa using hlt p hp
  have hW' := hW
  obtain ⟨p, q, hA, hV, rfl, hz, hn⟩ := hW
  rw [hv] at hV
  obtain ⟨rfl, rfl⟩ := trodVars_none hV
  have hds : ds ++ ([] : List (DataW H)) = ds := List.append_nil _
  have hargs : ∀ sp : Nat → Bool, (∀ x ∈ p, sp x.block = true) → DataW.TrodAll enc P W' 0 sp true f.params.toList args.toList (s.fn H (ds ++ [])).args p := fun sp hsp => by
    rw [hds, hfn]
    exact trodAll_carry hl hb hread (fun x hx => hlt x (by simp [hx])) hsp hA
  have hres : ∀ (b : Nat) (sp : Nat → Bool) (hd : Bool), DataW.TrodAll enc P W' b sp hd f.resultTypes.toList ((Value.bool true).resultList f.resultTypes.size) (s.fn H (ds ++ [])).results [] := fun b sp hd => by
    rw [hds, hfn, hrt]
    exact trodAll_cons_mk (shut_bool htb _) trodAll_mk0
  have hvars : ∀ sp : Nat → Bool, DataW.TrodVars enc P W' sp s.vars (s.fn H (ds ++ [])).vars [] := fun sp => by
    rw [hds, hfn, hv]; rfl
  refine ⟨ds, [], p ++ [], [], p, [], hW', hres _ _ _, hargs _ (fun x hx => hold x (by simp [hx])), hvars _, World.keptBut_mono (fun x hx => ⟨hx, Or.inr (by simpa using hx)⟩) (hb.frame (· ∈ p ++ [])), fun _ => ?_⟩
  refine ⟨ok_one hrt rfl (okWide_bool_mk htb _), _, _, ([] ++ p) ++ [], ⟨[] ++ p, [], trodAll_append (hargs _ (fun _ _ => rfl)) (hres _ _ _), hvars _, rfl, ?_, ?_⟩, ?_⟩
  · intro b off hp
    have hb' : b < W.heap.size := hlt (.cell b off) (by simpa using hp)
    rw [hb.frozen (p := ⟨b, off, none⟩) hb']
    exact hz b off (by simpa using hp)
  · intro ha; cases ha
  · intro x hx _
    simpa using hx
end Go.Proofs.YtgoaiohkodbadaaGreat

/-
  PLAIN: rules of little bulk are small.
-/
namespace Go.Proofs.YtgoaiohkodbadaaGreat

theorem atom_small {a : PAtom} : a.name.size ≤ sizeAtom a ∧ a.terms.length ≤ sizeAtom a ∧ ∀ t ∈ a.terms, t.name.size ≤ sizeAtom a := by
  have h2 := sizeL_le (size := sizeTerm) openTerm.one a.terms
  refine ⟨by simp only [sizeAtom, sizeStr]; omega, by simp only [sizeAtom]; omega, fun t ht => ?_⟩
  have h1 := sizeL_mem (size := sizeTerm) ht
  have h3 : t.name.size ≤ sizeTerm t := by simp only [sizeTerm, sizeStr]; omega
  simp only [sizeAtom]; omega
theorem rules_small {p : List PRule} (h : sizeL sizeRule p ≤ 1048576) : p.length ≤ 1048576 ∧ (∀ r ∈ p, RuleSmall r) ∧ ∀ r ∈ p, NameSmall r := by
  have l := sizeL_le (size := sizeRule) openRule.one p
  have hr : ∀ r ∈ p, sizeAtom r.head ≤ 1048576 ∧ sizeL sizeAtom r.body ≤ 1048576 := fun r hr => by
    have h1 := sizeL_mem (size := sizeRule) hr
    simp only [sizeRule] at h1
    constructor <;> omega
  have hb : ∀ r ∈ p, ∀ a ∈ r.body, sizeAtom a ≤ 1048576 := fun r h1 a ha => by
    have h2 := sizeL_mem (size := sizeAtom) ha
    have h3 := (hr r h1).2
    omega
  refine ⟨by omega, fun r h1 => ?_, fun r h1 => ?_⟩
  · have h2 := (hr r h1).1
    have h3 := sizeL_le (size := sizeAtom) openAtom.one r.body
    have h4 := (hr r h1).2
    obtain ⟨g1, g2, g3⟩ := atom_small (a := r.head)
    refine ⟨by omega, fun t ht => by have := g3 t ht; omega, by omega, fun a ha => ?_, fun a ha t ht => ?_⟩
    · have := hb r h1 a ha
      have := (atom_small (a := a)).2.1
      omega
    · have := hb r h1 a ha
      have := (atom_small (a := a)).2.2 t ht
      omega
  · have h2 := (hr r h1).1
    have := (atom_small (a := r.head)).1
    refine ⟨by omega, fun a ha => ?_⟩
    have := hb r h1 a ha
    have := (atom_small (a := a)).1
    omega
end Go.Proofs.YtgoaiohkodbadaaGreat

/-
  WHAT THE LAWS OF CHAPTER 5 CALL, its answers being known.
-/
namespace Go.Proofs.YtgoaiohkodbadaaGreat
open Go.RowKit Go.ChangeShapes Go.WideShapes Go.Deep

theorem fix_nil {ps : List (PRule × Int)} {n : Int} : ∀ {k : Nat} {o : List PFact}, (fixP ps n k o).2 ≠ 0 → (fixP ps n k o).1 = []
  | 0, o, h => absurd rfl h
  | k + 1, o, h => by
    rw [fixP] at h ⊢
    split
    · rfl
    · rename_i h1
      rw [if_neg h1] at h
      split
      · rename_i h2; rw [if_pos h2] at h; exact absurd rfl h
      · rename_i h2; rw [if_neg h2] at h; exact fix_nil h
theorem run_nil {ps : List (PRule × Int)} : ∀ {k : Nat} {i : Int} {o : List PFact}, (runP ps k i o).2 ≠ 0 → (runP ps k i o).1 = []
  | 0, _, o, h => absurd rfl h
  | k + 1, i, o, h => by
    rw [runP] at h ⊢
    split
    · rfl
    · rename_i h1; rw [if_neg h1] at h; exact run_nil h
theorem naive_nil {st : List Int} {q : Int} {p : List PRule} {l : List PFact} (h : (naiveP st q p l).2 ≠ 0) : (naiveP st q p l).1 = [] := by
  unfold naiveP at h ⊢
  split
  · rfl
  · rename_i h1
    rw [if_neg h1] at h
    split
    · rfl
    · rename_i h2; rw [if_neg h2] at h; exact run_nil h
theorem less_nil {l m : List PFact} (h : ∀ x ∈ l, x ∈ m) : lessF l m = [] := List.filter_eq_nil_iff.2 fun x hx => by rw [(memF_iff x m).2 (h x hx)]; decide
theorem good_args {l : List PFact} (h : ∀ f ∈ l, wrongF f = 0) : ∀ x ∈ l, x.args.length ≤ 1048576 := fun x hx => by have := (wrongF_zero.1 (h x hx)).2.1; omega

/-- naive.All, read. -/
theorem naiveReads {S S3 : Nat → Prop} (p : List PRule) (v fv : Value) (st : List Int) (q : Int × Int) (l : List PFact) (w : World) (hS : StrataIs p st q) (h : RdRules S w v p) (hf : RdFacts S3 w fv l)
    (n1 : p.length ≤ 1048576) (n2 : ∀ r ∈ p, RuleSmall r) (n3 : ∀ r ∈ p, NameSmall r) (n4 : l.length ≤ 1048576) (n5 : ∀ x ∈ l, x.args.length ≤ 1048576) :
    Calls Tryz.prog 46 #[v, fv] w fun e w' => (∃ a c, e = .returned (.tuple #[.slice a (naiveP st q.1 p l).1.length c, .int .i64 (naiveP st q.1 p l).2]) ∧ RdFacts (fun _ => True) w' (.slice a (naiveP st q.1 p l).1.length c) (naiveP st q.1 p l).1) ∧ Below w.heap.size w w' :=
  naiveKnown rfl hS rfl h hf n1 n2 n3 n4 n5
/-- naive.Heads, read. -/
theorem headsReads {S S2 S3 : Nat → Prop} (x : PRule) (tv bv fv : Value) (facts : List PFact) (w : World) (ht : RdTerms S w tv x.head.terms) (hb : RdAtoms S2 w bv x.body) (hf : RdFacts S3 w fv facts)
    (hs : RuleSmall x) (n4 : facts.length ≤ 1048576) (n5 : ∀ x ∈ facts, x.args.length ≤ 1048576) :
    Calls Tryz.prog 34 #[.agg #[.bool x.head.neg, .string x.head.name, tv, bv], fv] w fun e w' => (∃ a c, e = .returned (.tuple #[.slice a (headsP x facts).1.length c, .int .i64 (headsP x facts).2]) ∧ RdFacts (fun _ => True) w' (.slice a (headsP x facts).1.length c) (headsP x facts).1) ∧ Below w.heap.size w w' :=
  (headsCalls x tv bv fv facts w ht hb hf hs n4 n5).mono fun e w' ⟨hb, v', he, ho⟩ => by
    have h' := (ho.read RFact.steady).more RFact.steady (S' := fun _ => True) (fun _ _ _ => trivial)
    obtain ⟨a, c, rfl, -, -, -⟩ := id h'.form
    exact ⟨⟨a, c, he, h'⟩, hb⟩
/-- fact.Less, read. -/
theorem lessReads {S T : Nat → Prop} {va vb : Value} {l m : List PFact} {w : World} (h : RdFacts S w va l) (hm : RdFacts T w vb m) (hs : Rising m) (n1 : l.length ≤ 1048576) (n2 : ∀ x ∈ l, x.args.length ≤ 1048576) (n3 : m.length ≤ 1048576) (n4 : ∀ x ∈ m, x.args.length ≤ 1048576) :
    Calls Tryz.prog 35 #[va, vb] w fun e w' => (∃ a c, e = .returned (.slice a (lessF l m).length c) ∧ RdFacts (fun _ => True) w' (.slice a (lessF l m).length c) (lessF l m)) ∧ Below w.heap.size w w' :=
  (lessCalls va vb l m w h hm hs (by omega) (fun x hx => by have := n2 x hx; omega) (by omega) (fun x hx => by have := n4 x hx; omega)).mono fun e w' ⟨⟨v', he, ho⟩, hb⟩ => by
    have h' := (ho.read RFact.steady).more RFact.steady (S' := fun _ => True) (fun _ _ _ => trivial)
    obtain ⟨a, c, rfl, -, -, -⟩ := id h'.form
    exact ⟨⟨a, c, he, h'⟩, hb⟩
theorem lessNone {S T : Nat → Prop} {va vb : Value} {l m : List PFact} {w : World} (hlm : ∀ x ∈ l, x ∈ m) (h : RdFacts S w va l) (hm : RdFacts T w vb m) (hs : Rising m) (n1 : l.length ≤ 1048576) (n2 : ∀ x ∈ l, x.args.length ≤ 1048576) (n3 : m.length ≤ 1048576) (n4 : ∀ x ∈ m, x.args.length ≤ 1048576) :
    Calls Tryz.prog 35 #[va, vb] w fun e w' => (∃ a c, e = .returned (.slice a 0 c)) ∧ Below w.heap.size w w' :=
  (lessReads h hm hs n1 n2 n3 n4).mono fun e w' ⟨⟨a, c, he, _⟩, hb⟩ => ⟨⟨a, c, by rw [he, less_nil hlm]; rfl⟩, hb⟩
theorem joinReads {S T : Nat → Prop} {va vb : Value} {a b : List PFact} {w : World} (ha : RdFacts S w va a) (hb : RdFacts T w vb b) (n1 : a.length ≤ 1048576) (n1' : b.length ≤ 1048576) (n2 : ∀ x ∈ a, x.args.length ≤ 1048576) (n3 : ∀ x ∈ b, x.args.length ≤ 1048576) :
    Calls Tryz.prog 101 #[va, vb] w fun e w' => (∃ q c, e = .returned (.slice q (joinF a b).length c) ∧ RdFacts (fun _ => True) w' (.slice q (joinF a b).length c) (joinF a b)) ∧ Below w.heap.size w w' :=
  (joinCalls va vb a b w ha hb (by omega) (fun x hx => by have := n2 x hx; omega) (fun x hx => by have := n3 x hx; omega)).mono fun e w' ⟨⟨v', he, ho⟩, hb⟩ => by
    have h' := (ho.read RFact.steady).more RFact.steady (S' := fun _ => True) (fun _ _ _ => trivial)
    obtain ⟨q, c, rfl, -, -, -⟩ := id h'.form
    exact ⟨⟨q, c, he, h'⟩, hb⟩
/-- A rule of a program, where it lies. -/
theorem RdRules.pick {S : Nat → Prop} {w : World} {a : Option Addr} {n cap : Nat} {l : List PRule} (h : RdRules S w (.slice a n cap) l) {i : Nat} {x : PRule} (hx : l[i]? = some x) :
    ∃ b o ta tc ba bc, a = some ⟨b, o, none⟩ ∧ RuleAt S w b (o + i * 4) x (.slice ta x.head.terms.length tc) (.slice ba x.body.length bc) := by
  obtain ⟨b1, o1, tv, bv, rfl, -, hb1, d0, d1, d2, d3, htv, hbv⟩ := RdRules.at h hx
  obtain ⟨ta, tc, rfl, -, -, -⟩ := id htv.form
  obtain ⟨ba, bc, rfl, -, -, -⟩ := id hbv.form
  exact ⟨b1, o1, ta, tc, ba, bc, rfl, hb1, d0, d1, d2, d3, htv, hbv⟩
theorem Opens.ruleArg {P : Program} {t : TypeId} {size : PRule → Nat} (h : Opens P t 4 RRule size) {fs : Array Field} (ht : P.underlying t = some (.struct fs)) {H : Type} {enc : TypeId × Value → H} {W : World} {r : Reach} {b : Nat} {v : Value} {d : DataW H} {p : List MemPlace}
    (hv : Value.okWide P W r b t v) (hd : DataW.Trod enc P W 0 (fun _ => true) true t v d p) : ∃ (x : PRule) (tv bv : Value), v = .agg #[.bool x.head.neg, .string x.head.name, tv, bv] ∧ RdTerms (fun _ => True) W tv x.head.terms ∧ RdAtoms (fun _ => True) W bv x.body ∧ size x ≤ Rows.uptoBulk d := by
  obtain ⟨f, cs, rfl, ⟨tv, bv, e, h1, h2⟩, hb⟩ := h.arg ht hv hd
  exact ⟨f, tv, bv, by rw [← Array.toArray_toList (xs := cs), e], h1, h2, hb⟩
theorem rule_small {r : PRule} (h : sizeRule r ≤ 1048576) : RuleSmall r := by
  simp only [sizeRule] at h
  have h3 := sizeL_le (size := sizeAtom) openAtom.one r.body
  obtain ⟨g1, g2, g3⟩ := atom_small (a := r.head)
  have hb : ∀ a ∈ r.body, sizeAtom a ≤ 1048576 := fun a ha => by have h2 := sizeL_mem (size := sizeAtom) ha; omega
  exact ⟨by omega, fun t ht => by have := g3 t ht; omega, by omega, fun a ha => by have := hb a ha; have := (atom_small (a := a)).2.1; omega, fun a ha t ht => by have := hb a ha; have := (atom_small (a := a)).2.2 t ht; omega⟩
end Go.Proofs.YtgoaiohkodbadaaGreat

/-
  THE WALK OF round.Wrong.
-/
namespace Go.Proofs.YtgoaiohkodbadaaGreat
open Go.RowKit

/-- A run as a value. -/
def runV (r : PRun) (kv nv : Value) : Value := .agg #[kv, nv, .int .i64 r.stratum, .int .i64 r.rounds, .bool r.done]
structure RunRd (w : World) (r : PRun) (kv nv : Value) : Prop where
  known : RdFacts (fun _ => True) w kv r.known
  new : RdFacts (fun _ => True) w nv r.new
theorem RunRd.up {w w' : World} {r : PRun} {kv nv : Value} (h : RunRd w r kv nv) (hb : Below w.heap.size w w') : RunRd w' r kv nv := ⟨h.known.up hb, h.new.up hb⟩
/-- Read in new memory. -/
theorem RdFacts.newer {S : Nat → Prop} {w w' : World} {v : Value} {l : List PFact} (h : RdFacts S w' v l) (hs : ∀ b, S b → w.heap.size ≤ b) : RdFacts (New w) w' v l := h.more RFact.steady (fun b hb _ => hs b hb)
/-- A run, and an error, that a call answers. -/
def RunPost (r : PRun × Int) (w : World) (e : Ending) (w' : World) : Prop :=
  Below w.heap.size w w' ∧ ∃ a c b d, e = .returned (.tuple #[.agg #[.slice a r.1.known.length c, .slice b r.1.new.length d, .int .i64 r.1.stratum, .int .i64 r.1.rounds, .bool r.1.done], .int .i64 r.2]) ∧ RdFacts (New w) w' (.slice a r.1.known.length c) r.1.known ∧ RdFacts (New w) w' (.slice b r.1.new.length d) r.1.new
theorem run_ret_err {r : PRun × Int} {n : Int} {w w' : World} (h : r = (zeroRun, n)) (hb : Below w.heap.size w w') : RunPost r w (.returned (.tuple #[.agg #[.slice none 0 0, .slice none 0 0, .int .i64 0, .int .i64 0, .bool false], .int .i64 n])) w' := by
  subst h; exact ⟨hb, none, 0, none, 0, rfl, RdFacts.nil, RdFacts.nil⟩
theorem run_ret_ok {r : PRun × Int} {k n : List PFact} {s x : Int} {dn : Bool} {w w' : World} {a b : Option Addr} {c d : Nat} (h : r = (⟨k, n, s, x, dn⟩, 0)) (hb : Below w.heap.size w w') (h1 : RdFacts (New w) w' (.slice a k.length c) k) (h2 : RdFacts (New w) w' (.slice b n.length d) n) :
    RunPost r w (.returned (.tuple #[.agg #[.slice a k.length c, .slice b n.length d, .int .i64 s, .int .i64 x, .bool dn], .int .i64 0])) w' := by
  subst h; exact ⟨hb, a, c, b, d, rfl, h1, h2⟩
/-- Small lists. -/
structure RunSmall (r : PRun) : Prop where
  k1 : r.known.length ≤ 1048576
  k2 : ∀ x ∈ r.known, x.args.length ≤ 1048576
  n1 : r.new.length ≤ 1048576
  n2 : ∀ x ∈ r.new, x.args.length ≤ 1048576

theorem range_cases {k l : List PFact} {s x n : Int} {d : Bool} : (rangeBad ⟨k, l, s, x, d⟩ n = true ∧ (x < 0 ∨ ¬ x < 0 ∧ (1000 < x ∨ ¬ 1000 < x ∧ (s < 0 ∨ ¬ s < 0 ∧ (n < s ∨ ¬ n < s ∧ (n = s ∧ d = false ∨ (s == n) = false ∧ d = true)))))) ∨
    (rangeBad ⟨k, l, s, x, d⟩ n = false ∧ ¬ x < 0 ∧ ¬ 1000 < x ∧ ¬ s < 0 ∧ ¬ n < s ∧ (n = s ∧ d = true ∨ (s == n) = false ∧ d = false)) := by
  unfold rangeBad
  dsimp only
  by_cases h1 : x < 0
  · exact .inl ⟨by simp [h1], .inl h1⟩
  by_cases h2 : 1000 < x
  · exact .inl ⟨by simp [h2], .inr ⟨h1, .inl h2⟩⟩
  by_cases h3 : s < 0
  · exact .inl ⟨by simp [h3], .inr ⟨h1, .inr ⟨h2, .inl h3⟩⟩⟩
  by_cases h4 : n < s
  · exact .inl ⟨by simp [h4], .inr ⟨h1, .inr ⟨h2, .inr ⟨h3, .inl h4⟩⟩⟩⟩
  by_cases h5 : n = s
  · subst h5
    cases d
    · exact .inl ⟨by simp, .inr ⟨h1, .inr ⟨h2, .inr ⟨h3, .inr ⟨h4, .inl ⟨rfl, rfl⟩⟩⟩⟩⟩⟩
    · exact .inr ⟨by simp [h1, h2, h3], h1, h2, h3, h4, .inl ⟨rfl, rfl⟩⟩
  · have h6 : (s == n) = false := beq_eq_false_iff_ne.2 fun e => h5 e.symm
    cases d
    · exact .inr ⟨by simp [h1, h2, h3, h4, h6], h1, h2, h3, h4, .inr ⟨h6, rfl⟩⟩
    · exact .inl ⟨by simp [h6], .inr ⟨h1, .inr ⟨h2, .inr ⟨h3, .inr ⟨h4, .inr ⟨h6, rfl⟩⟩⟩⟩⟩⟩

/-- check.Strata, told. -/
theorem strataTold {S : Nat → Prop} {p : List PRule} {v : Value} {st : List Int} {q : Int × Int} {w : World} (hS : StrataIs p st q) (h : RdRules S w v p) (n1 : p.length ≤ 1048576) (n2 : ∀ r ∈ p, RuleSmall r) (n3 : ∀ r ∈ p, NameSmall r) :
    Calls Tryz.prog 52 #[v] w fun e w' => Below w.heap.size w w' ∧ ∃ a c, e = .returned (.tuple #[.slice a st.length c, .agg #[.int .i64 q.1, .int .i64 q.2]]) ∧ RdInts (fun _ => True) w' (.slice a st.length c) st :=
  (strataCalls p v w h n1 n2 n3).mono fun e w' ⟨hb, v', l', q', he, hr, hs⟩ => by
    obtain ⟨rfl, rfl⟩ := hs.unique hS
    obtain ⟨a, c, rfl, -, -, -⟩ := id hr.form
    exact ⟨hb, a, c, he, hr.more RInt.steady (fun _ _ _ => trivial)⟩
/-- fact.Own, read. -/
theorem ownReads {S : Nat → Prop} {v : Value} {l : List PFact} {w : World} (h : RdFacts S w v l) (n1 : l.length ≤ 1048576) (n2 : ∀ x ∈ l, x.args.length ≤ 1048576) :
    Calls Tryz.prog 54 #[v] w fun e w' => (∃ a c, e = .returned (.slice a l.length c) ∧ RdFacts (New w) w' (.slice a l.length c) l) ∧ Below w.heap.size w w' :=
  (ownCalls v l w h (by omega) (fun x hx => by have := n2 x hx; omega)).mono fun e w' ⟨⟨v', he, ho⟩, hb⟩ => by
    have h' := (ho.read RFact.steady).more RFact.steady (S' := New w) (fun b hb _ => hb.elim id id)
    obtain ⟨a, c, rfl, -, -, -⟩ := id h'.form
    exact ⟨⟨a, c, he, h'⟩, hb⟩
/-- A store into another block. -/
theorem RdFacts.set_far {S : Nat → Prop} {w : World} {v : Value} {l : List PFact} (h : RdFacts S w v l) {p : Addr} (hp : ¬ S p.block) (u : Value) : RdFacts S (w.setCell p u) v l :=
  h.agree RFact.steady ⟨by simp [World.setCell], fun b hb _ => Below.heap_setCell _ _ _ _ (fun e => hp (by rw [← e]; exact hb))⟩
theorem RdFacts.new {w W W' : World} {v : Value} {l : List PFact} (h : RdFacts (New W) W' v l) (hw : w.heap.size ≤ W.heap.size) : RdFacts (New w) W' v l := h.more RFact.steady (fun _ hb _ => Nat.le_trans hw hb)
theorem RdFacts.any {S : Nat → Prop} {w : World} {v : Value} {l : List PFact} (h : RdFacts S w v l) : RdFacts (fun _ => True) w v l := h.more RFact.steady (fun _ _ _ => trivial)

set_option maxRecDepth 100000 in
set_option maxHeartbeats 8000000 in
theorem runWrongCalls {S : Nat → Prop} (p : List PRule) (v : Value) (st : List Int) (q : Int × Int) (r : PRun) (kv nv : Value) (w : World) (hS : StrataIs p st q) (h : RdRules S w v p) (hr : RunRd w r kv nv)
    (n1 : p.length ≤ 1048576) (n2 : ∀ r ∈ p, RuleSmall r) (n3 : ∀ r ∈ p, NameSmall r) (ns : RunSmall r) :
    Calls Tryz.prog 64 #[v, .agg #[kv, nv, .int .i64 r.stratum, .int .i64 r.rounds, .bool r.done]] w fun e w' => e = .returned (.int .i64 (runBad st q.1 p r)) ∧ Below w.heap.size w w' := by
  obtain ⟨a, c, rfl, -, -, -⟩ := id h.form
  obtain ⟨ka, kc, rfl, -, -, -⟩ := id hr.known.form
  obtain ⟨na, nc, rfl, -, -, -⟩ := id hr.new.form
  obtain ⟨W0, hW0⟩ : ∃ W0 : World, w.alloc (.cells #[.slice ka r.known.length kc, .slice na r.new.length nc, .int .i64 r.stratum, .int .i64 r.rounds, .bool r.done] 40) = W0 := ⟨_, rfl⟩
  have hb0 : Below w.heap.size w W0 := by subst hW0; exact (Below.refl _ _).alloc (Nat.le_refl _) _
  have hk0 : Blk W0 w.heap.size 40 #[.slice ka r.known.length kc, .slice na r.new.length nc, .int .i64 r.stratum, .int .i64 r.rounds, .bool r.done] := by subst hW0; exact Blk.new w _ _
  have HB0 := Lib.hid hb0
  have HK0 := Lib.hid hk0
  have H := Lib.hid h
  have HR := Lib.hid hr
  have N2 := Lib.hid n2
  have N3 := Lib.hid n3
  have NS := Lib.hid ns
  have HS := Lib.hid hS
  have KS := Lib.hid (strataTold hS (h.up hb0) n1 n2 n3)
  clear h hr n2 n3 ns hb0 hk0 hS
  obtain ⟨q1, q2⟩ := q
  dsimp only at *
  by_cases hq : q1 = 0
  case neg =>
    have g1 : (q1 != 0) = true := by simpa using hq
    have HE := Lib.hid (run_bad1 (st := st) (p := p) (r := r) hq)
    clear hq
    go_enter Tryz.func64, Tryz.ntmps64
    go_wp2_with (go_at_call 52; refine (KS.out).mono ?_; rintro e w1 ⟨hb1, a1, c1, rfl, hr1⟩; have HB1 := Lib.hid (HB0.out.trans (hb1.mono (Below.size HB0.out))); clear hb1 hr1)
    go_ret
    exact ⟨ret_int HE.out.symm, HB1.out.alloc (Below.size HB1.out) _⟩
  obtain ⟨hsl, h16, h5, hz16, -, -⟩ := strata_bd HS.out hq
  have HZ := Lib.hid hz16
  have H5 := Lib.hid h5
  have HSL := Lib.hid hsl
  clear h5 hz16 hsl
  subst hq
  have KF := Lib.hid (fun W (hW : Below w.heap.size w W) => factsCalls p (.slice a p.length c) (.slice ka r.known.length kc) r.known W (H.out.up hW) (HR.out.known.up hW) h16 H5.out N2.out N3.out NS.out.k1 NS.out.k2)
  have KT := Lib.hid (fun W (hW : Below w.heap.size w W) => setCalls (.slice na r.new.length nc) r.new W (HR.out.new.up hW) (by have := NS.out.n1; omega) (fun x hx => by have := NS.out.n2 x hx; omega))
  by_cases hf : (factsBad p r.known).1 = 0
  case neg =>
    have g2 : ((factsBad p r.known).1 != 0) = true := by simpa using hf
    have HE := Lib.hid (run_bad2 (st := st) hf)
    clear hf
    generalize factsBad p r.known = f at *
    obtain ⟨f1, f2⟩ := f
    dsimp only at *
    go_enter Tryz.func64, Tryz.ntmps64
    go_wp2_with (first
      | (go_at_call 86; have hh := HB1.out; clear hh; refine (KF.out _ HB1.out).mono ?_; rintro e w2 ⟨rfl, hb2⟩; have HB2 := Lib.hid (HB1.out.trans (hb2.mono (Below.size HB1.out))); clear hb2)
      | (go_at_call 52; refine (KS.out).mono ?_; rintro e w1 ⟨hb1, a1, c1, rfl, hr1⟩; have HB1 := Lib.hid ((HB0.out.trans (hb1.mono (Below.size HB0.out))).alloc (Nat.le_trans (Below.size HB0.out) hb1.size) (.cells #[.int .i64 0, .int .i64 q2] 65)); have HK1 := Lib.hid ((HK0.out.below hb1 HK0.out.lt).alloc (.cells #[.int .i64 0, .int .i64 q2] 65)); have c0 := HK1.out.cell 0; simp only [List.getElem?_toArray, List.getElem?_cons_zero] at c0; clear hb1 hr1))
    go_ret
    exact ⟨ret_int HE.out.symm, HB2.out.alloc (Below.size HB2.out) _⟩
  have HGK := Lib.hid (good_of (factsBad_set hf))
  rw [hf] at KF
  generalize hf2 : (factsBad p r.known).2 = f2 at *
  clear hf2
  by_cases hs : (setF r.new).1 = 0
  case neg =>
    have g3 : ((setF r.new).1 != 0) = true := by simpa using hs
    have HE := Lib.hid (run_bad3 (st := st) hf hs)
    clear hf hs
    generalize setF r.new = f at *
    obtain ⟨s1, s2⟩ := f
    dsimp only at *
    go_enter Tryz.func64, Tryz.ntmps64
    go_wp2_with (first
      | (go_at_call 111; have hh := HB2.out; clear hh; refine (KT.out _ HB2.out).mono ?_; rintro e w3 ⟨rfl, hb3⟩; have HB3 := Lib.hid (HB2.out.trans (hb3.mono (Below.size HB2.out))); clear hb3)
      | (go_at_call 86; have hh := HB1.out; clear hh; refine (KF.out _ HB1.out).mono ?_; rintro e w2 ⟨rfl, hb2⟩; have HB2 := Lib.hid ((HB1.out.trans (hb2.mono (Below.size HB1.out))).alloc (Nat.le_trans (Below.size HB1.out) hb2.size) (.cells #[.int .i64 0, .int .i64 f2] 65)); have HK2 := Lib.hid ((HK1.out.below hb2 HK1.out.lt).alloc (.cells #[.int .i64 0, .int .i64 f2] 65)); have d1 := HK2.out.cell 1; simp only [List.getElem?_toArray, List.getElem?_cons_zero, List.getElem?_cons_succ] at d1; clear hb2 c0)
      | (go_at_call 52; refine (KS.out).mono ?_; rintro e w1 ⟨hb1, a1, c1, rfl, hr1⟩; have HB1 := Lib.hid ((HB0.out.trans (hb1.mono (Below.size HB0.out))).alloc (Nat.le_trans (Below.size HB0.out) hb1.size) (.cells #[.int .i64 0, .int .i64 q2] 65)); have HK1 := Lib.hid ((HK0.out.below hb1 HK0.out.lt).alloc (.cells #[.int .i64 0, .int .i64 q2] 65)); have c0 := HK1.out.cell 0; simp only [List.getElem?_toArray, List.getElem?_cons_zero] at c0; clear hb1 hr1))
    go_ret
    exact ⟨ret_int HE.out.symm, HB3.out.alloc (Below.size HB3.out) _⟩
  have HGN := Lib.hid (good_of hs)
  have hsz : setF r.new = (0, 0) := (good_of hs).set
  rw [hsz] at KT
  have HE := Lib.hid (run_bad4 (st := st) hf hs)
  have KC := Lib.hid (fun W sv (h1 : RdInts (fun _ => True) W sv st) => countCalls sv st W h1 (by rw [HSL.out]; omega) (fun z hz => by have := HZ.out z hz; omega))
  have KL := Lib.hid (fun W (hW : Below w.heap.size w W) => lessReads (HR.out.new.up hW) (HR.out.known.up hW) HGK.out.rise NS.out.n1 NS.out.n2 NS.out.k1 NS.out.k2)
  clear hf hs hsz
  generalize countP st = cn at *
  obtain ⟨rk, rn, rs, rr, rd⟩ := r
  dsimp only at *
  rcases range_cases (k := rk) (l := rn) (s := rs) (x := rr) (n := cn) (d := rd) with ⟨hx, hc⟩ | ⟨hx, h1, h2, h3, h4, hc⟩
  · rw [hx, if_pos rfl] at HE
    clear hx
    rcases hc with h1 | ⟨h1, h2 | ⟨h2, h3 | ⟨h3, h4 | ⟨h4, ⟨rfl, rfl⟩ | ⟨h5, rfl⟩⟩⟩⟩⟩
    all_goals
      clear KL
      go_enter Tryz.func64, Tryz.ntmps64
      go_wp2_with (first
        | (go_at_call 55; have hh := HB3.out; clear hh; refine (KC.out _ _ HI3.out).mono ?_; rintro e w4 ⟨rfl, rfl⟩; have HB4 := HB3)
        | (go_at_call 111; have hh := HB2.out; clear hh; refine (KT.out _ HB2.out).mono ?_; rintro e w3 ⟨rfl, hb3⟩; have HB3 := Lib.hid ((HB2.out.trans (hb3.mono (Below.size HB2.out))).alloc (Nat.le_trans (Below.size HB2.out) hb3.size) (.cells #[.int .i64 0, .int .i64 0] 65)); have HI3 := Lib.hid (HI2.out.up (hb3.alloc hb3.size (.cells #[.int .i64 0, .int .i64 0] 65))); have HK3 := Lib.hid ((HK2.out.below hb3 HK2.out.lt).alloc (.cells #[.int .i64 0, .int .i64 0] 65)); have k0 := HK3.out.cell 0; have k1 := HK3.out.cell 1; have k2 := HK3.out.cell 2; have k3 := HK3.out.cell 3; have k4 := HK3.out.cell 4; simp only [List.getElem?_toArray, List.getElem?_cons_zero, List.getElem?_cons_succ] at k0 k1 k2 k3 k4; clear hb3 d1)
        | (go_at_call 86; have hh := HB1.out; clear hh; refine (KF.out _ HB1.out).mono ?_; rintro e w2 ⟨rfl, hb2⟩; have HB2 := Lib.hid ((HB1.out.trans (hb2.mono (Below.size HB1.out))).alloc (Nat.le_trans (Below.size HB1.out) hb2.size) (.cells #[.int .i64 0, .int .i64 f2] 65)); have HI2 := Lib.hid (HI1.out.up (hb2.alloc hb2.size (.cells #[.int .i64 0, .int .i64 f2] 65))); have HK2 := Lib.hid ((HK1.out.below hb2 HK1.out.lt).alloc (.cells #[.int .i64 0, .int .i64 f2] 65)); have d1 := HK2.out.cell 1; simp only [List.getElem?_toArray, List.getElem?_cons_zero, List.getElem?_cons_succ] at d1; clear hb2 c0)
        | (go_at_call 52; refine (KS.out).mono ?_; rintro e w1 ⟨hb1, a1, c1, rfl, hr1⟩; have HB1 := Lib.hid ((HB0.out.trans (hb1.mono (Below.size HB0.out))).alloc (Nat.le_trans (Below.size HB0.out) hb1.size) (.cells #[.int .i64 0, .int .i64 q2] 65)); have HI1 := Lib.hid (hr1.up ((Below.refl _ _).alloc (Nat.le_refl _) (.cells #[.int .i64 0, .int .i64 q2] 65))); have HK1 := Lib.hid ((HK0.out.below hb1 HK0.out.lt).alloc (.cells #[.int .i64 0, .int .i64 q2] 65)); have c0 := HK1.out.cell 0; simp only [List.getElem?_toArray, List.getElem?_cons_zero] at c0; clear hb1 hr1))
      go_ret
      exact ⟨ret_int HE.out.symm, HB4.out⟩
  · rw [hx, if_neg (by simp)] at HE
    clear hx
    rcases hc with ⟨rfl, rfl⟩ | ⟨h5, rfl⟩
    all_goals
      by_cases hl : lessF rn rk = []
      · rw [if_neg (by simpa using hl)] at HE
        rw [hl] at KL
        clear hl
        go_enter Tryz.func64, Tryz.ntmps64
        go_wp2_with (first
          | (go_at_call 35; have hh := HB4.out; clear hh; refine (KL.out _ HB4.out).mono ?_; rintro e w5 ⟨⟨a5, c5, rfl, -⟩, hb5⟩; have HB5 := Lib.hid (HB4.out.trans (hb5.mono (Below.size HB4.out))); clear hb5)
          | (go_at_call 55; have hh := HB3.out; clear hh; refine (KC.out _ _ HI3.out).mono ?_; rintro e w4 ⟨rfl, rfl⟩; have HB4 := HB3)
          | (go_at_call 111; have hh := HB2.out; clear hh; refine (KT.out _ HB2.out).mono ?_; rintro e w3 ⟨rfl, hb3⟩; have HB3 := Lib.hid ((HB2.out.trans (hb3.mono (Below.size HB2.out))).alloc (Nat.le_trans (Below.size HB2.out) hb3.size) (.cells #[.int .i64 0, .int .i64 0] 65)); have HI3 := Lib.hid (HI2.out.up (hb3.alloc hb3.size (.cells #[.int .i64 0, .int .i64 0] 65))); have HK3 := Lib.hid ((HK2.out.below hb3 HK2.out.lt).alloc (.cells #[.int .i64 0, .int .i64 0] 65)); have k0 := HK3.out.cell 0; have k1 := HK3.out.cell 1; have k2 := HK3.out.cell 2; have k3 := HK3.out.cell 3; have k4 := HK3.out.cell 4; simp only [List.getElem?_toArray, List.getElem?_cons_zero, List.getElem?_cons_succ] at k0 k1 k2 k3 k4; clear hb3 d1)
          | (go_at_call 86; have hh := HB1.out; clear hh; refine (KF.out _ HB1.out).mono ?_; rintro e w2 ⟨rfl, hb2⟩; have HB2 := Lib.hid ((HB1.out.trans (hb2.mono (Below.size HB1.out))).alloc (Nat.le_trans (Below.size HB1.out) hb2.size) (.cells #[.int .i64 0, .int .i64 f2] 65)); have HI2 := Lib.hid (HI1.out.up (hb2.alloc hb2.size (.cells #[.int .i64 0, .int .i64 f2] 65))); have HK2 := Lib.hid ((HK1.out.below hb2 HK1.out.lt).alloc (.cells #[.int .i64 0, .int .i64 f2] 65)); have d1 := HK2.out.cell 1; simp only [List.getElem?_toArray, List.getElem?_cons_zero, List.getElem?_cons_succ] at d1; clear hb2 c0)
          | (go_at_call 52; refine (KS.out).mono ?_; rintro e w1 ⟨hb1, a1, c1, rfl, hr1⟩; have HB1 := Lib.hid ((HB0.out.trans (hb1.mono (Below.size HB0.out))).alloc (Nat.le_trans (Below.size HB0.out) hb1.size) (.cells #[.int .i64 0, .int .i64 q2] 65)); have HI1 := Lib.hid (hr1.up ((Below.refl _ _).alloc (Nat.le_refl _) (.cells #[.int .i64 0, .int .i64 q2] 65))); have HK1 := Lib.hid ((HK0.out.below hb1 HK0.out.lt).alloc (.cells #[.int .i64 0, .int .i64 q2] 65)); have c0 := HK1.out.cell 0; simp only [List.getElem?_toArray, List.getElem?_cons_zero] at c0; clear hb1 hr1))
        go_ret
        exact ⟨ret_int HE.out.symm, HB5.out⟩
      · rw [if_pos hl] at HE
        have hlp : (0 : Int) < ((lessF rn rk).length : Int) := by have := List.length_pos_iff.2 hl; omega
        clear hl
        generalize (lessF rn rk).length = ll at *
        go_enter Tryz.func64, Tryz.ntmps64
        go_wp2_with (first
          | (go_at_call 35; have hh := HB4.out; clear hh; refine (KL.out _ HB4.out).mono ?_; rintro e w5 ⟨⟨a5, c5, rfl, -⟩, hb5⟩; have HB5 := Lib.hid (HB4.out.trans (hb5.mono (Below.size HB4.out))); clear hb5)
          | (go_at_call 55; have hh := HB3.out; clear hh; refine (KC.out _ _ HI3.out).mono ?_; rintro e w4 ⟨rfl, rfl⟩; have HB4 := HB3)
          | (go_at_call 111; have hh := HB2.out; clear hh; refine (KT.out _ HB2.out).mono ?_; rintro e w3 ⟨rfl, hb3⟩; have HB3 := Lib.hid ((HB2.out.trans (hb3.mono (Below.size HB2.out))).alloc (Nat.le_trans (Below.size HB2.out) hb3.size) (.cells #[.int .i64 0, .int .i64 0] 65)); have HI3 := Lib.hid (HI2.out.up (hb3.alloc hb3.size (.cells #[.int .i64 0, .int .i64 0] 65))); have HK3 := Lib.hid ((HK2.out.below hb3 HK2.out.lt).alloc (.cells #[.int .i64 0, .int .i64 0] 65)); have k0 := HK3.out.cell 0; have k1 := HK3.out.cell 1; have k2 := HK3.out.cell 2; have k3 := HK3.out.cell 3; have k4 := HK3.out.cell 4; simp only [List.getElem?_toArray, List.getElem?_cons_zero, List.getElem?_cons_succ] at k0 k1 k2 k3 k4; clear hb3 d1)
          | (go_at_call 86; have hh := HB1.out; clear hh; refine (KF.out _ HB1.out).mono ?_; rintro e w2 ⟨rfl, hb2⟩; have HB2 := Lib.hid ((HB1.out.trans (hb2.mono (Below.size HB1.out))).alloc (Nat.le_trans (Below.size HB1.out) hb2.size) (.cells #[.int .i64 0, .int .i64 f2] 65)); have HI2 := Lib.hid (HI1.out.up (hb2.alloc hb2.size (.cells #[.int .i64 0, .int .i64 f2] 65))); have HK2 := Lib.hid ((HK1.out.below hb2 HK1.out.lt).alloc (.cells #[.int .i64 0, .int .i64 f2] 65)); have d1 := HK2.out.cell 1; simp only [List.getElem?_toArray, List.getElem?_cons_zero, List.getElem?_cons_succ] at d1; clear hb2 c0)
          | (go_at_call 52; refine (KS.out).mono ?_; rintro e w1 ⟨hb1, a1, c1, rfl, hr1⟩; have HB1 := Lib.hid ((HB0.out.trans (hb1.mono (Below.size HB0.out))).alloc (Nat.le_trans (Below.size HB0.out) hb1.size) (.cells #[.int .i64 0, .int .i64 q2] 65)); have HI1 := Lib.hid (hr1.up ((Below.refl _ _).alloc (Nat.le_refl _) (.cells #[.int .i64 0, .int .i64 q2] 65))); have HK1 := Lib.hid ((HK0.out.below hb1 HK0.out.lt).alloc (.cells #[.int .i64 0, .int .i64 q2] 65)); have c0 := HK1.out.cell 0; simp only [List.getElem?_toArray, List.getElem?_cons_zero] at c0; clear hb1 hr1))
        go_ret
        exact ⟨ret_int HE.out.symm, HB5.out⟩
end Go.Proofs.YtgoaiohkodbadaaGreat

/-
  THE WALK OF round.Begin.
-/
namespace Go.Proofs.YtgoaiohkodbadaaGreat
open Go.RowKit

set_option maxRecDepth 100000 in
set_option maxHeartbeats 8000000 in
theorem beginCalls {S S2 : Nat → Prop} (p : List PRule) (v fv : Value) (st : List Int) (q : Int × Int) (l : List PFact) (w : World) (hS : StrataIs p st q) (h : RdRules S w v p) (hf : RdFacts S2 w fv l)
    (n1 : p.length ≤ 1048576) (n2 : ∀ r ∈ p, RuleSmall r) (n3 : ∀ r ∈ p, NameSmall r) (n4 : l.length ≤ 1048576) (n5 : ∀ x ∈ l, x.args.length ≤ 1048576) :
    Calls Tryz.prog 36 #[v, fv] w (RunPost (beginP st q.1 p l) w) := by
  obtain ⟨a, c, rfl, -, -, -⟩ := id h.form
  obtain ⟨fa, fc, rfl, -, -, -⟩ := id hf.form
  obtain ⟨W0, hW0⟩ : ∃ W0 : World, w.alloc (.cells #[.slice none 0 0, .slice none 0 0, .int .i64 0, .int .i64 0, .bool false] 40) = W0 := ⟨_, rfl⟩
  have hb0 : Below w.heap.size w W0 := by subst hW0; exact (Below.refl _ _).alloc (Nat.le_refl _) _
  have hk0 : Blk W0 w.heap.size 40 #[.slice none 0 0, .slice none 0 0, .int .i64 0, .int .i64 0, .bool false] := by subst hW0; exact Blk.new w _ _
  have HB0 := Lib.hid hb0
  have HK0 := Lib.hid hk0
  have H := Lib.hid h
  have HFA := Lib.hid hf
  have N2 := Lib.hid n2
  have N3 := Lib.hid n3
  have N5 := Lib.hid n5
  have HS := Lib.hid hS
  have KS := Lib.hid (strataTold hS (h.up hb0) n1 n2 n3)
  clear h hf n2 n3 n5 hb0 hk0 hS
  obtain ⟨q1, q2⟩ := q
  dsimp only at *
  by_cases hq : q1 = 0
  case neg =>
    have g1 : (q1 != 0) = true := by simpa using hq
    have HE := Lib.hid (show beginP st q1 p l = (zeroRun, q1) by unfold beginP; rw [if_pos hq])
    clear hq
    go_enter Tryz.func36, Tryz.ntmps36
    go_wp2_with (go_at_call 52; refine (KS.out).mono ?_; rintro e w1 ⟨hb1, a1, c1, rfl, hr1⟩; have HB1 := Lib.hid (HB0.out.trans (hb1.mono (Below.size HB0.out))); have HK1 := Lib.hid (HK0.out.below hb1 HK0.out.lt); clear hb1 hr1)
    have hlt1 := HK1.out.lt
    have hne1 : w1.heap.size ≠ w.heap.size := by omega
    have hne2 : w.heap.size ≠ w1.heap.size := by omega
    have HF2 := Lib.hid (HK1.out.alloc (.cells #[.int .i64 q1, .int .i64 q2] 65))
    have HB2 := Lib.hid (HB1.out.alloc HB1.out.size (.cells #[.int .i64 q1, .int .i64 q2] 65))
    have HN2 := Lib.hid (Blk.new w1 65 #[.int .i64 q1, .int .i64 q2])
    generalize w1.alloc (.cells #[.int .i64 q1, .int .i64 q2] 65) = w2 at *
    have k0 := HN2.out.cell 0; have k1 := HN2.out.cell 1
    have c0 := HF2.out.cell 0; have c1 := HF2.out.cell 1; have c2 := HF2.out.cell 2; have c3 := HF2.out.cell 3; have c4 := HF2.out.cell 4
    have f0 := HF2.out.frozen 0; have f1 := HF2.out.frozen 1; have f2 := HF2.out.frozen 2; have f3 := HF2.out.frozen 3; have f4 := HF2.out.frozen 4
    simp only [List.getElem?_toArray, List.getElem?_cons_zero, List.getElem?_cons_succ] at c0 c1 c2 c3 c4 k0 k1
    go_region_held3 (fun w' => w'.cell? ⟨w1.heap.size, 0, none⟩ = some (.int .i64 q1)) (first | go_keep | (show _ = _; simp [hne1, hne2]; assumption)) (fail)
    go_wp2
    refine bodyPost_ret (v := .tuple #[.agg #[.slice none 0 0, .slice none 0 0, .int .i64 0, .int .i64 0, .bool false], .int .i64 q1]) (by simp [results, Tryz.results36, go_sem, c0, c1, c2, c3, c4]) rfl (run_ret_err HE.out ?_)
    exact (((((HB2.out.drew).setCell (Nat.le_refl _) _).setCell (Nat.le_refl _) _).setCell (Nat.le_refl _) _).setCell (Nat.le_refl _) _).setCell (Nat.le_refl _) _
  obtain ⟨hsl, h16, h5, hz16, -, -⟩ := strata_bd HS.out hq
  have HZ := Lib.hid hz16
  have H5 := Lib.hid h5
  have HSL := Lib.hid hsl
  clear h5 hz16 hsl
  subst hq
  have KF := Lib.hid (fun W (hW : Below w.heap.size w W) => factsCalls p (.slice a p.length c) (.slice fa l.length fc) l W (H.out.up hW) (HFA.out.up hW) h16 H5.out N2.out N3.out n4 N5.out)
  by_cases hf : (factsBad p l).1 = 0
  case neg =>
    have g2 : ((factsBad p l).1 != 0) = true := by simpa using hf
    have HE := Lib.hid (show beginP st 0 p l = (zeroRun, (factsBad p l).1) by unfold beginP; rw [if_neg (by simp), if_pos hf])
    clear hf
    generalize factsBad p l = f at *
    obtain ⟨q1, q2'⟩ := f
    dsimp only at *
    go_enter Tryz.func36, Tryz.ntmps36
    go_wp2_with (first
      | (go_at_call 86; have hh := HB1.out; clear hh; refine (KF.out _ HB1.out).mono ?_; rintro e w2 ⟨rfl, hb2⟩; have HB2 := Lib.hid (HB1.out.trans (hb2.mono (Below.size HB1.out))); have HK2 := Lib.hid (HK1.out.below hb2 HK1.out.lt); clear hb2)
      | (go_at_call 52; refine (KS.out).mono ?_; rintro e w1 ⟨hb1, a1, c1, rfl, hr1⟩; have HB1 := Lib.hid ((HB0.out.trans (hb1.mono (Below.size HB0.out))).alloc (Nat.le_trans (Below.size HB0.out) hb1.size) (.cells #[.int .i64 0, .int .i64 q2] 65)); have HK1 := Lib.hid ((HK0.out.below hb1 HK0.out.lt).alloc (.cells #[.int .i64 0, .int .i64 q2] 65)); clear hb1 hr1))
    have hlt1 := HK2.out.lt
    have hne1 : w2.heap.size ≠ w.heap.size := by omega
    have hne2 : w.heap.size ≠ w2.heap.size := by omega
    have HF3 := Lib.hid (HK2.out.alloc (.cells #[.int .i64 q1, .int .i64 q2'] 65))
    have HB3 := Lib.hid (HB2.out.alloc HB2.out.size (.cells #[.int .i64 q1, .int .i64 q2'] 65))
    have HN3 := Lib.hid (Blk.new w2 65 #[.int .i64 q1, .int .i64 q2'])
    generalize w2.alloc (.cells #[.int .i64 q1, .int .i64 q2'] 65) = w3 at *
    have k0 := HN3.out.cell 0; have k1 := HN3.out.cell 1
    have c0 := HF3.out.cell 0; have c1 := HF3.out.cell 1; have c2 := HF3.out.cell 2; have c3 := HF3.out.cell 3; have c4 := HF3.out.cell 4
    have f0 := HF3.out.frozen 0; have f1 := HF3.out.frozen 1; have f2 := HF3.out.frozen 2; have f3 := HF3.out.frozen 3; have f4 := HF3.out.frozen 4
    simp only [List.getElem?_toArray, List.getElem?_cons_zero, List.getElem?_cons_succ] at c0 c1 c2 c3 c4 k0 k1
    go_region_held3 (fun w' => w'.cell? ⟨w2.heap.size, 0, none⟩ = some (.int .i64 q1)) (first | go_keep | (show _ = _; simp [hne1, hne2]; assumption)) (fail)
    go_wp2
    refine bodyPost_ret (v := .tuple #[.agg #[.slice none 0 0, .slice none 0 0, .int .i64 0, .int .i64 0, .bool false], .int .i64 q1]) (by simp [results, Tryz.results36, go_sem, c0, c1, c2, c3, c4]) rfl (run_ret_err HE.out ?_)
    exact (((((HB3.out.drew).setCell (Nat.le_refl _) _).setCell (Nat.le_refl _) _).setCell (Nat.le_refl _) _).setCell (Nat.le_refl _) _).setCell (Nat.le_refl _) _
  have HE := Lib.hid (show beginP st 0 p l = (⟨l, l, 0, 0, countP st == 0⟩, 0) by unfold beginP; rw [if_neg (by simp), if_neg (by simpa using hf)])
  rw [hf] at KF
  generalize (factsBad p l).2 = f2 at *
  have KO := Lib.hid (fun W (hW : Below w.heap.size w W) => ownReads (HFA.out.up hW) n4 N5.out)
  have KC := Lib.hid (fun W sv (h1 : RdInts (fun _ => True) W sv st) => countCalls sv st W h1 (by rw [HSL.out]; omega) (fun z hz => by have := HZ.out z hz; omega))
  clear hf
  obtain ⟨dn, hdn⟩ : ∃ dn, (countP st == 0) = dn := ⟨_, rfl⟩
  rw [hdn] at HE
  generalize countP st = cn at *
  go_enter Tryz.func36, Tryz.ntmps36
  go_wp2_with (first
    | (go_at_call 55; have hh := HR4.out; clear hh; refine (KC.out _ _ HI4.out).mono ?_; rintro e w5 ⟨rfl, rfl⟩; have c0 := HK4.out.cell 0; have c1 := HK4.out.cell 1; have c2 := HK4.out.cell 2; have c3 := HK4.out.cell 3; have c4 := HK4.out.cell 4; have z0 := HK4.out.frozen 0; have z1 := HK4.out.frozen 1; have z2 := HK4.out.frozen 2; have z3 := HK4.out.frozen 3; have z4 := HK4.out.frozen 4; simp only [List.getElem?_toArray, List.getElem?_cons_zero, List.getElem?_cons_succ] at c0 c1 c2 c3 c4)
    | (go_at_call 54; have hh := HR3.out; clear hh; refine (KO.out _ HB3.out).mono ?_; rintro e w4 ⟨⟨a4, c4', rfl, hr4⟩, hb4⟩; have HB4 := Lib.hid (HB3.out.trans (hb4.mono (Below.size HB3.out))); have HK4 := Lib.hid (HK3.out.below hb4 HK3.out.lt); have HR4 := Lib.hid hr4; have HQ4 := Lib.hid (HR3.out.agree RFact.steady (Below.agree hb4)); have hs3 := HK3.out.lt; have hs2 := HK2.out.lt; have HI4 := Lib.hid (HI3.out.up hb4); clear hr4 hb4)
    | (go_at_call 54; have hh := HB2.out; clear hh; refine (KO.out _ HB2.out).mono ?_; rintro e w3 ⟨⟨a3, c3', rfl, hr3⟩, hb3⟩; have HB3 := Lib.hid (HB2.out.trans (hb3.mono (Below.size HB2.out))); have HK3 := Lib.hid (HK2.out.below hb3 HK2.out.lt); have HR3 := Lib.hid hr3; have HI3 := Lib.hid (HI2.out.up hb3); clear hr3 hb3)
    | (go_at_call 86; have hh := HB1.out; clear hh; refine (KF.out _ HB1.out).mono ?_; rintro e w2 ⟨rfl, hb2⟩; have HB2 := Lib.hid ((HB1.out.trans (hb2.mono (Below.size HB1.out))).alloc (Nat.le_trans (Below.size HB1.out) hb2.size) (.cells #[.int .i64 0, .int .i64 f2] 65)); have HK2 := Lib.hid ((HK1.out.below hb2 HK1.out.lt).alloc (.cells #[.int .i64 0, .int .i64 f2] 65)); have HI2 := Lib.hid (HI1.out.up (hb2.alloc hb2.size (.cells #[.int .i64 0, .int .i64 f2] 65))); clear hb2)
    | (go_at_call 52; refine (KS.out).mono ?_; rintro e w1 ⟨hb1, a1, c1, rfl, hr1⟩; have HB1 := Lib.hid ((HB0.out.trans (hb1.mono (Below.size HB0.out))).alloc (Nat.le_trans (Below.size HB0.out) hb1.size) (.cells #[.int .i64 0, .int .i64 q2] 65)); have HK1 := Lib.hid ((HK0.out.below hb1 HK0.out.lt).alloc (.cells #[.int .i64 0, .int .i64 q2] 65)); have HI1 := Lib.hid (hr1.up ((Below.refl _ _).alloc (Nat.le_refl _) (.cells #[.int .i64 0, .int .i64 q2] 65))); clear hb1 hr1))
  refine bodyPost_ret (v := .tuple #[.agg #[.slice a3 l.length c3', .slice a4 l.length c4', .int .i64 0, .int .i64 0, .bool dn], .int .i64 0]) (by simp [results, Tryz.results36, go_sem, c0, c1, c2, c3, c4]) rfl (run_ret_ok HE.out ?_ ?_ ?_)
  · exact ((((HB4.out.setCell (Nat.le_refl _) _).setCell (Nat.le_refl _) _).setCell (Nat.le_refl _) _).setCell (Nat.le_refl _) _).setCell (Nat.le_refl _) _
  · have hn : ¬ New (w2.alloc (.cells #[.int .i64 0, .int .i64 f2] 65)) w.heap.size := fun h => by have h' : (w2.alloc (.cells #[.int .i64 0, .int .i64 f2] 65)).heap.size ≤ w.heap.size := h; simp at h'; omega
    exact RdFacts.newer (RdFacts.set_far (RdFacts.set_far (RdFacts.set_far (RdFacts.set_far (RdFacts.set_far HQ4.out hn _) hn _) hn _) hn _) hn _) (fun b hb => Nat.le_trans (Below.size HB2.out) hb)
  · have hn : ¬ New w3 w.heap.size := fun h => by have h' : w3.heap.size ≤ w.heap.size := h; omega
    exact RdFacts.newer (RdFacts.set_far (RdFacts.set_far (RdFacts.set_far (RdFacts.set_far (RdFacts.set_far HR4.out hn _) hn _) hn _) hn _) hn _) (fun b hb => Nat.le_trans (Below.size HB3.out) hb)
end Go.Proofs.YtgoaiohkodbadaaGreat
