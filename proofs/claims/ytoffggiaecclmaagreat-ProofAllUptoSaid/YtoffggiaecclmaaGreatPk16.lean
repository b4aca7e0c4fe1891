/-
  THE TEXTS Entry, RulesIn, NaiveK, ProofChk, ProofF, one behind the other.
-/
import Derived.Test.YtoffggiaecclmaaGreatPk2
import Derived.Test.YtoffggiaecclmaaGreatPk4
import Derived.Test.YtoffggiaecclmaaGreatPk11
import Derived.Test.YtoffggiaecclmaaGreatPk13
import Derived.Test.YtoffggiaecclmaaGreatPk15
import Derived.Test.YtoffggiaecclmaaGreatRows
import Derived.ProofKit
import Derived.OpenShut
import Derived.JoinedCond
import Derived.Carry
import Derived.Deep.Strs
import Derived.Deep.Slices
import Derived.Test.YtoffggiaecclmaaGreatChecked
/-
  THE ENTRY: from the row's reading of an argument to 'RdSlice': 'Opens'; and the row's end: what was below the heap's size is as it was.
-/
namespace Go.Proofs.YtoffggiaecclmaaGreat
open Go.RowKit Go.ChangeShapes Go.WideShapes Go.Deep

theorem bulk_append {H : Type} (l r : List (DataW H)) : Rows.uptoBulkAll (l ++ r) = Rows.uptoBulkAll l + Rows.uptoBulkAll r := by
  induction l with
  | nil => simp [Rows.uptoBulkAll]
  | cons x l ih => simp only [List.cons_append, Rows.uptoBulkAll, ih]; omega

theorem cell_spot {w : World} {a : Addr} {v : Value} (h : w.cell? a = some v) : a.spot = none ∧ a.block < w.heap.size := by
  unfold World.cell? at h
  split at h
  · rename_i c t f hc
    refine ⟨?_, (Array.getElem?_eq_some_iff.1 hc).1⟩
    cases hs : a.spot with
    | none => rfl
    | some s => rw [hs] at h; simp at h
  · cases h

/-- How much a list of values is. -/
def sizeL {α : Type} (size : α → Nat) (l : List α) : Nat := 1 + (l.map size).sum
theorem sizeL_le {α : Type} {size : α → Nat} (hp : ∀ x, 1 ≤ size x) (l : List α) : l.length + 1 ≤ sizeL size l := by
  unfold sizeL
  induction l with
  | nil => simp
  | cons x l ih => have := hp x; simp only [List.map_cons, List.sum_cons, List.length_cons]; omega
theorem sizeL_mem {α : Type} {size : α → Nat} {l : List α} {x : α} (h : x ∈ l) : size x ≤ sizeL size l := by
  unfold sizeL
  induction l with
  | nil => cases h
  | cons y l ih =>
    simp only [List.map_cons, List.sum_cons]
    rcases List.mem_cons.1 h with rfl | h
    · omega
    · have := ih h; omega

/-- What the row's reading of a type gives. -/
structure Opens {α : Type} (P : Program) (t : TypeId) (k : Nat) (R : Reader α) (size : α → Nat) : Prop where
  cells : P.cellsOf t = k
  pos : 0 < k
  one : ∀ x, 1 ≤ size x
  opn : ∀ {H : Type} {enc : TypeId × Value → H} {w : World} {n : Nat} {cs : List Value} {x : DataW H × List MemPlace}, DataW.trod enc P w 0 (fun _ => true) true n t cs = some x → ∃ y, R (fun _ => True) w cs y ∧ size y ≤ Rows.uptoBulk x.1

theorem Opens.slice {α : Type} {P : Program} {t e : TypeId} {k : Nat} {R : Reader α} {size : α → Nat} (h : Opens P e k R size) (ht : P.underlying t = some (.slice e)) {H : Type} {enc : TypeId × Value → H} {w : World} {n : Nat} {cs : List Value} {x : DataW H × List MemPlace}
    (hx : DataW.trod enc P w 0 (fun _ => true) true n t cs = some x) : ∃ v l, cs = [v] ∧ RdSlice k R (fun _ => True) w v l ∧ sizeL size l ≤ Rows.uptoBulk x.1 := by
  rcases open_slice ht hx with ⟨rfl, rfl⟩ | ⟨a, len, cap, m, n', D, Pl, rfl, -, hl, hm, hmm, rfl, hi⟩
  · exact ⟨_, [], rfl, ⟨none, 0, rfl, Nat.le_refl _, Nat.zero_le _, fun _ => rfl, fun i x hx => by simp at hx⟩, by simp [sizeL, Rows.uptoBulk]⟩
  · simp only [if_true] at hmm
    subst hmm
    have main : ∀ j, j ≤ len → ∃ l : List α, l.length = j ∧ (∀ i y, l[i]? = some y → ∃ cs', w.cells? 0 (a.add (i * P.cellsOf e)) (P.cellsOf e) = some cs' ∧ R (fun _ => True) w cs' y) ∧ (l.map size).sum ≤ Rows.uptoBulkAll ((List.range j).map D) := by
      intro j
      induction j with
      | zero => exact fun _ => ⟨[], rfl, fun i y hy => by simp at hy, by simp⟩
      | succ j ih =>
        intro hj
        obtain ⟨l, h1, h2, h3⟩ := ih (by omega)
        obtain ⟨cs', g1, g2⟩ := hi j (by omega)
        obtain ⟨y, r1, r2⟩ := h.opn g2
        refine ⟨l ++ [y], by simp [h1], fun i z hz => ?_, ?_⟩
        · by_cases hij : i < j
          · rw [List.getElem?_append_left (by omega)] at hz; exact h2 i z hz
          · rw [List.getElem?_append_right (by omega)] at hz
            have : i - l.length = 0 := by
              have := (List.getElem?_eq_some_iff.1 hz).1
              simp at this; omega
            rw [this] at hz
            obtain rfl : y = z := by simpa using hz
            obtain rfl : i = j := by omega
            exact ⟨cs', g1, r1⟩
        · rw [List.range_succ, List.map_append (f := D), bulk_append, List.map_append, List.sum_append]
          simp [Rows.uptoBulkAll]
          simp at r2
          omega
    obtain ⟨l, h1, h2, h3⟩ := main len (Nat.le_refl _)
    refine ⟨_, l, rfl, ⟨some a, m, by rw [h1], by omega, hm, (fun e => by cases e), fun i y hy => ?_⟩, by simp only [sizeL, Rows.uptoBulk]; omega⟩
    obtain ⟨cs', g1, g2⟩ := h2 i y hy
    obtain ⟨-, hlen, hget⟩ := World.cells?_some g1
    rw [h.cells] at hlen hget
    have hk := h.pos
    obtain ⟨b, off, spot⟩ := a
    have hspot : spot = none ∧ b < w.heap.size := by
      obtain ⟨y0, hy0⟩ : ∃ y0, l[0]? = some y0 := ⟨_, List.getElem?_eq_getElem (by have := (List.getElem?_eq_some_iff.1 hy).1; omega)⟩
      obtain ⟨cs0, g3, -⟩ := h2 0 y0 hy0
      obtain ⟨-, hlen0, hget0⟩ := World.cells?_some g3
      rw [h.cells] at hlen0 hget0
      have h0 := hget0 0 hk
      rw [List.getElem?_eq_getElem (by omega)] at h0
      have := cell_spot h0
      simpa [Addr.add] using this
    obtain ⟨rfl, hb⟩ := hspot
    refine ⟨b, off, cs', rfl, trivial, hb, hlen, fun j u hu => ?_, g2⟩
    · have hj : j < k := by rw [← hlen]; exact (List.getElem?_eq_some_iff.1 hu).1
      have := hget j hj
      rw [hu] at this
      have hadd : ((⟨b, off, none⟩ : Addr).add (i * k)).add j = ⟨b, off + i * k + j, none⟩ := by
        unfold Addr.add
        split
        · split
          · simp_all
          · simp_all
        · split <;> simp_all <;> omega
      rwa [hadd] at this

/-- A struct that is an argument. -/
theorem Opens.arg {α : Type} {P : Program} {t : TypeId} {k : Nat} {R : Reader α} {size : α → Nat} (h : Opens P t k R size) {fs : Array Field} (ht : P.underlying t = some (.struct fs)) {H : Type} {enc : TypeId × Value → H} {W : World} {r : Reach} {b : Nat} {v : Value} {d : DataW H} {p : List MemPlace}
    (hv : Value.okWide P W r b t v) (hd : DataW.Trod enc P W 0 (fun _ => true) true t v d p) : ∃ x cs, v = .agg cs ∧ R (fun _ => True) W cs.toList x ∧ size x ≤ Rows.uptoBulk d := by
  obtain ⟨cs, rfl, -⟩ := okWide_struct ht hv
  obtain ⟨n, hn⟩ := hd
  obtain ⟨x, hr, hb⟩ := h.opn hn
  exact ⟨x, cs, rfl, hr, hb⟩
/-- A slice that is an argument. -/
theorem Opens.sliceArg {α : Type} {P : Program} {t e : TypeId} {k : Nat} {R : Reader α} {size : α → Nat} (h : Opens P e k R size) (ht : P.underlying t = some (.slice e)) {H : Type} {enc : TypeId × Value → H} {W : World} {r : Reach} {b : Nat} {v : Value} {d : DataW H} {p : List MemPlace}
    (hv : Value.okWide P W r b t v) (hd : DataW.Trod enc P W 0 (fun _ => true) true t v d p) : ∃ l, RdSlice k R (fun _ => True) W v l ∧ sizeL size l ≤ Rows.uptoBulk d := by
  obtain ⟨a, len, cap, rfl⟩ := okWide_slice ht hv
  obtain ⟨n, hn⟩ := hd
  obtain ⟨v', l, e1, hr, hb⟩ := h.slice ht hn
  have e2 : [Value.slice a len cap] = [v'] := e1
  obtain rfl : Value.slice a len cap = v' := by simpa using e2
  exact ⟨l, hr, hb⟩

theorem Opens.factArg {P : Program} {t : TypeId} {size : PFact → Nat} (h : Opens P t 2 RFact size) {fs : Array Field} (ht : P.underlying t = some (.struct fs)) {H : Type} {enc : TypeId × Value → H} {W : World} {r : Reach} {b : Nat} {v : Value} {d : DataW H} {p : List MemPlace}
    (hv : Value.okWide P W r b t v) (hd : DataW.Trod enc P W 0 (fun _ => true) true t v d p) : ∃ (f : PFact) (av : Value), v = .agg #[.string f.name, av] ∧ RdStrs (fun _ => True) W av f.args ∧ size f ≤ Rows.uptoBulk d := by
  obtain ⟨f, cs, rfl, ⟨av, e, hr⟩, hb⟩ := h.arg ht hv hd
  exact ⟨f, av, by rw [← Array.toArray_toList (xs := cs), e], hr, hb⟩

theorem Opens.strArg {P : Program} {t : TypeId} (h : Opens P t 1 RStr (fun s => s.size + 1)) (ht : P.underlying t = some .string) {H : Type} {enc : TypeId × Value → H} {W : World} {r : Reach} {b : Nat} {v : Value} {d : DataW H} {p : List MemPlace}
    (hv : Value.okWide P W r b t v) (hd : DataW.Trod enc P W 0 (fun _ => true) true t v d p) : ∃ s : Str, v = .string s ∧ s.size + 1 ≤ Rows.uptoBulk d := by
  obtain ⟨s, rfl⟩ := okWide_string ht hv
  obtain ⟨n, hn⟩ := hd
  obtain ⟨y, e, hb⟩ := h.opn hn
  have e' : [Value.string s] = [.string y] := e
  obtain rfl : s = y := by simpa using e'
  exact ⟨_, rfl, hb⟩
theorem Opens.intArg {P : Program} {t : TypeId} (h : Opens P t 1 RInt (fun _ => 1)) (ht : P.underlying t = some (.int .i64)) {H : Type} {enc : TypeId × Value → H} {W : World} {r : Reach} {b : Nat} {v : Value} {d : DataW H} {p : List MemPlace}
    (hv : Value.okWide P W r b t v) (hd : DataW.Trod enc P W 0 (fun _ => true) true t v d p) : ∃ n : Int, v = .int .i64 n ∧ 1 ≤ Rows.uptoBulk d := by
  obtain ⟨s, rfl⟩ := okWide_int ht hv
  obtain ⟨n, hn⟩ := hd
  obtain ⟨y, e, hb⟩ := h.opn hn
  exact ⟨_, rfl, hb⟩

theorem list2 {l : List Value} (h : l.length = 2) : ∃ a b, l = [a, b] := match l, h with | [a, b], _ => ⟨a, b, rfl⟩
theorem list3 {l : List Value} (h : l.length = 3) : ∃ a b c, l = [a, b, c] := match l, h with | [a, b, c], _ => ⟨a, b, c, rfl⟩
theorem list4 {l : List Value} (h : l.length = 4) : ∃ a b c d, l = [a, b, c, d] := match l, h with | [a, b, c, d], _ => ⟨a, b, c, d, rfl⟩
def sizeStr (s : Str) : Nat := s.size + 1
def sizeInt (_ : Int) : Nat := 1
def sizeFact (f : PFact) : Nat := 1 + sizeStr f.name + sizeL sizeStr f.args
def sizeTerm (f : PTerm) : Nat := 2 + sizeStr f.name
def sizeAtom (f : PAtom) : Nat := 2 + sizeStr f.name + sizeL sizeTerm f.terms
def sizeRule (f : PRule) : Nat := 1 + sizeAtom f.head + sizeL sizeAtom f.body
def sizeBind (f : PBind) : Nat := 1 + sizeStr f.var + sizeStr f.name

theorem openStr : Opens Tryz.prog 9 1 RStr sizeStr where
  cells := by kernel_rfl
  pos := by omega
  one _ := by simp only [sizeStr]; omega
  opn h := by
    obtain ⟨s, rfl, rfl, -⟩ := DataW.trod_string Tryz.underlying9 h
    refine ⟨s, rfl, ?_⟩
    have : s.data.toList.length = s.size := by rw [Array.length_toList]; rfl
    simp only [sizeStr, Rows.uptoBulk]; omega
theorem openInt : Opens Tryz.prog 3 1 RInt sizeInt where
  cells := by kernel_rfl
  pos := by omega
  one _ := by simp [sizeInt]
  opn h := by
    obtain ⟨s, rfl, rfl, -⟩ := DataW.trod_int Tryz.underlying3 h
    exact ⟨s, rfl, by simp [sizeInt, Rows.uptoBulk]⟩
theorem openFact : Opens Tryz.prog 27 2 RFact sizeFact where
  cells := by kernel_rfl
  pos := by omega
  one _ := by simp only [sizeFact]; omega
  opn {H enc w n cs x} h := by
    obtain ⟨y0, y1, n, rfl, hl, h0, h1⟩ := trod_struct2 Tryz.underlying27 h
    rw [show Tryz.prog.cellsOf 27 = 2 by kernel_rfl] at hl
    obtain ⟨c0, c1, rfl⟩ := list2 hl
    rw [show Tryz.prog.cellsOf 9 = 1 by kernel_rfl] at h0
    rw [show Tryz.prog.cellsOf 25 = 1 by kernel_rfl] at h1
    obtain ⟨s, e0, b0⟩ := openStr.opn h0
    obtain ⟨v, l, e1, hr, b1⟩ := openStr.slice Tryz.underlying25 h1
    obtain rfl : c0 = .string s := by simpa [RStr] using e0
    obtain rfl : c1 = v := by simpa using e1
    exact ⟨⟨s, l⟩, ⟨_, rfl, hr⟩, by simp only [sizeFact, Rows.uptoBulk, Rows.uptoBulkAll]; omega⟩
theorem openTerm : Opens Tryz.prog 118 2 RTerm sizeTerm where
  cells := by kernel_rfl
  pos := by omega
  one _ := by simp only [sizeTerm]; omega
  opn {H enc w n cs x} h := by
    obtain ⟨y0, y1, n, rfl, hl, h0, h1⟩ := trod_struct2 Tryz.underlying118 h
    rw [show Tryz.prog.cellsOf 118 = 2 by kernel_rfl] at hl
    obtain ⟨c0, c1, rfl⟩ := list2 hl
    rw [show Tryz.prog.cellsOf 4 = 1 by kernel_rfl] at h0
    rw [show Tryz.prog.cellsOf 9 = 1 by kernel_rfl] at h1
    obtain ⟨b, e0, rfl⟩ := DataW.trod_bool Tryz.underlying4 h0
    obtain ⟨s, e1, b1⟩ := openStr.opn h1
    obtain rfl : c0 = .bool b := by simpa using e0
    obtain rfl : c1 = .string s := by simpa [RStr] using e1
    exact ⟨⟨b, s⟩, rfl, by simp only [sizeTerm, Rows.uptoBulk, Rows.uptoBulkAll]; omega⟩
theorem openAtom : Opens Tryz.prog 88 3 RAtom sizeAtom where
  cells := by kernel_rfl
  pos := by omega
  one _ := by simp only [sizeAtom]; omega
  opn {H enc w n cs x} h := by
    obtain ⟨y0, y1, y2, n, rfl, hl, h0, h1, h2⟩ := trod_struct3 Tryz.underlying88 h
    rw [show Tryz.prog.cellsOf 88 = 3 by kernel_rfl] at hl
    obtain ⟨c0, c1, c2, rfl⟩ := list3 hl
    rw [show Tryz.prog.cellsOf 4 = 1 by kernel_rfl] at h0
    rw [show Tryz.prog.cellsOf 9 = 1 by kernel_rfl] at h1
    rw [show Tryz.prog.cellsOf 86 = 1 by kernel_rfl] at h2
    obtain ⟨b, e0, rfl⟩ := DataW.trod_bool Tryz.underlying4 h0
    obtain ⟨s, e1, b1⟩ := openStr.opn h1
    obtain ⟨v, l, e2, hr, b2⟩ := openTerm.slice Tryz.underlying86 h2
    obtain rfl : c0 = .bool b := by simpa using e0
    obtain rfl : c1 = .string s := by simpa [RStr] using e1
    obtain rfl : c2 = v := by simpa using e2
    exact ⟨⟨b, s, l⟩, ⟨_, rfl, hr⟩, by simp only [sizeAtom, Rows.uptoBulk, Rows.uptoBulkAll]; omega⟩
theorem openRule : Opens Tryz.prog 91 4 RRule sizeRule where
  cells := by kernel_rfl
  pos := by omega
  one _ := by simp only [sizeRule]; omega
  opn {H enc w n cs x} h := by
    obtain ⟨y0, y1, n, rfl, hl, h0, h1⟩ := trod_struct2 Tryz.underlying91 h
    rw [show Tryz.prog.cellsOf 91 = 4 by kernel_rfl] at hl
    obtain ⟨c0, c1, c2, c3, rfl⟩ := list4 hl
    rw [show Tryz.prog.cellsOf 88 = 3 by kernel_rfl] at h0
    rw [show Tryz.prog.cellsOf 89 = 1 by kernel_rfl] at h1
    obtain ⟨a, ⟨tv, e0, hr0⟩, b0⟩ := openAtom.opn h0
    obtain ⟨v, l, e1, hr, b1⟩ := openAtom.slice Tryz.underlying89 h1
    obtain ⟨rfl, rfl, rfl⟩ : c0 = .bool a.neg ∧ c1 = .string a.name ∧ c2 = tv := by simpa using e0
    obtain rfl : c3 = v := by simpa using e1
    exact ⟨⟨a, l⟩, ⟨_, _, rfl, hr0, hr⟩, by simp only [sizeRule, Rows.uptoBulk, Rows.uptoBulkAll]; omega⟩
theorem openBind : Opens Tryz.prog 116 2 RBind sizeBind where
  cells := by kernel_rfl
  pos := by omega
  one _ := by simp only [sizeBind]; omega
  opn {H enc w n cs x} h := by
    obtain ⟨y0, y1, n, rfl, hl, h0, h1⟩ := trod_struct2 Tryz.underlying116 h
    rw [show Tryz.prog.cellsOf 116 = 2 by kernel_rfl] at hl
    obtain ⟨c0, c1, rfl⟩ := list2 hl
    rw [show Tryz.prog.cellsOf 9 = 1 by kernel_rfl] at h0 h1
    obtain ⟨s, e0, b0⟩ := openStr.opn h0
    obtain ⟨s', e1, b1⟩ := openStr.opn h1
    obtain rfl : c0 = .string s := by simpa [RStr] using e0
    obtain rfl : c1 = .string s' := by simpa [RStr] using e1
    exact ⟨⟨s, s'⟩, rfl, by simp only [sizeBind, Rows.uptoBulk, Rows.uptoBulkAll]; omega⟩

/-! ### The row's end -/
theorem trodAll_carry {H : Type} {enc : TypeId × Value → H} {P : Program} (hl : laidOutB P = true) {W W' : World} (hb : Below W.heap.size W W') {sp : Nat → Bool} :
    ∀ {ts : List TypeId} {vs : List Value} {ds : List (DataW H)} {ps : List MemPlace}, ts.all (fun t => P.readableRec t && decide (t < P.types.size)) = true → (∀ x ∈ ps, x.block < W.heap.size) → (∀ x ∈ ps, sp x.block = true) →
      DataW.TrodAll enc P W 0 (fun _ => true) true ts vs ds ps → DataW.TrodAll enc P W' 0 sp true ts vs ds ps
  | [], _, _, _, _, _, _, h => by
    obtain ⟨rfl, rfl, rfl⟩ := trodAll_nil h
    exact trodAll_mk0
  | t :: ts, _, _, _, ht, hlt, hsp, h => by
    obtain ⟨v, vs1, d, ds1, a, b, rfl, rfl, rfl, h1, h2⟩ := trodAll_cons h
    simp only [List.all_cons, Bool.and_eq_true, decide_eq_true_eq] at ht
    exact ⟨a, b, WideElems.Trod_stays hl ht.1.1 ht.1.2 h1 (fun x hx => hb.same (hlt x (by simp [hx]))) (fun x hx => hsp x (by simp [hx])),
      trodAll_carry hl hb (by simpa using ht.2) (fun x hx => hlt x (by simp [hx])) (fun x hx => hsp x (by simp [hx])) h2, rfl⟩

/-- A law's end: it has answered true; nothing below the heap's old size has turned. -/
theorem law_post {H : Type} {enc : TypeId × Value → H} {P : Program} {f : Func} {s : ChangeSpec} {fresh handsOn again : Bool} {W W' : World} {args : Array Value} {ds gs : List (DataW H)} {before : List MemPlace} {tb : TypeId}
    (hW : DataW.Whole enc P f.params.toList s.vars false W args.toList ds gs before) (hv : s.vars = []) (hfn : s.fn H ds = { results := [.lit (.bool true)], args := ds }) (hrt : f.resultTypes = #[tb]) (htb : P.underlying tb = some .bool)
    (hl : laidOutB P = true) (hread : f.params.toList.all (fun t => P.readableRec t && decide (t < P.types.size)) = true) (hb : Below W.heap.size W W') : s.post enc P f false fresh handsOn again W args (.bool true) W' := by
  have hlt := hW.lt
  have hold : ∀ p ∈ before, (fun b => decide (b < W.heap.size)) p.block = true := fun p hp => by simpa using hlt p hp
  have hW' := hW
  obtain ⟨p, q, hA, hV, rfl, hz, hn⟩ := hW
  rw [hv] at hV
  obtain ⟨rfl, rfl⟩ := trodVars_none hV
  have hds : ds ++ ([] : List (DataW H)) = ds := List.append_nil _
  have hargs : ∀ sp : Nat → Bool, (∀ x ∈ p, sp x.block = true) → DataW.TrodAll enc P W' 0 sp true f.params.toList args.toList (s.fn H (ds ++ [])).args p := fun sp hsp => by
    rw [hds, hfn]
    exact trodAll_carry hl hb hread (fun x hx => hlt x (by simp [hx])) hsp hA
  have hres : ∀ (b : Nat) (sp : Nat → Bool) (hd : Bool), DataW.TrodAll enc P W' b sp hd f.resultTypes.toList ((Value.bool true).resultList f.resultTypes.size) (s.fn H (ds ++ [])).results [] := fun b sp hd => by
    rw [hds, hfn, hrt]
    exact trodAll_cons_mk (shut_bool htb _) trodAll_mk0
  have hvars : ∀ sp : Nat → Bool, DataW.TrodVars enc P W' sp s.vars (s.fn H (ds ++ [])).vars [] := fun sp => by
    rw [hds, hfn, hv]; rfl
  refine ⟨ds, [], p ++ [], [], p, [], hW', hres _ _ _, hargs _ (fun x hx => hold x (by simp [hx])), hvars _, World.keptBut_mono (fun x hx => ⟨hx, Or.inr (by simpa using hx)⟩) (hb.frame (· ∈ p ++ [])), fun _ => ?_⟩
  refine ⟨ok_one hrt rfl (okWide_bool_mk htb _), _, _, ([] ++ p) ++ [], ⟨[] ++ p, [], trodAll_append (hargs _ (fun _ _ => rfl)) (hres _ _ _), hvars _, rfl, ?_, ?_⟩, ?_⟩
  · intro b off hp
    have hb' : b < W.heap.size := hlt (.cell b off) (by simpa using hp)
    rw [hb.frozen (p := ⟨b, off, none⟩) hb']
    exact hz b off (by simpa using hp)
  · intro ha; cases ha
  · intro x hx _
    simpa using hx
end Go.Proofs.YtoffggiaecclmaaGreat

/-
  PLAIN: rules of little bulk are small.
-/
namespace Go.Proofs.YtoffggiaecclmaaGreat

theorem atom_small {a : PAtom} : a.name.size ≤ sizeAtom a ∧ a.terms.length ≤ sizeAtom a ∧ ∀ t ∈ a.terms, t.name.size ≤ sizeAtom a := by
  have h2 := sizeL_le (size := sizeTerm) openTerm.one a.terms
  refine ⟨by simp only [sizeAtom, sizeStr]; omega, by simp only [sizeAtom]; omega, fun t ht => ?_⟩
  have h1 := sizeL_mem (size := sizeTerm) ht
  have h3 : t.name.size ≤ sizeTerm t := by simp only [sizeTerm, sizeStr]; omega
  simp only [sizeAtom]; omega
theorem rules_small {p : List PRule} (h : sizeL sizeRule p ≤ 1048576) : p.length ≤ 1048576 ∧ (∀ r ∈ p, RuleSmall r) ∧ ∀ r ∈ p, NameSmall r := by
  have l := sizeL_le (size := sizeRule) openRule.one p
  have hr : ∀ r ∈ p, sizeAtom r.head ≤ 1048576 ∧ sizeL sizeAtom r.body ≤ 1048576 := fun r hr => by
    have h1 := sizeL_mem (size := sizeRule) hr
    simp only [sizeRule] at h1
    constructor <;> omega
  have hb : ∀ r ∈ p, ∀ a ∈ r.body, sizeAtom a ≤ 1048576 := fun r h1 a ha => by
    have h2 := sizeL_mem (size := sizeAtom) ha
    have h3 := (hr r h1).2
    omega
  refine ⟨by omega, fun r h1 => ?_, fun r h1 => ?_⟩
  · have h2 := (hr r h1).1
    have h3 := sizeL_le (size := sizeAtom) openAtom.one r.body
    have h4 := (hr r h1).2
    obtain ⟨g1, g2, g3⟩ := atom_small (a := r.head)
    refine ⟨by omega, fun t ht => by have := g3 t ht; omega, by omega, fun a ha => ?_, fun a ha t ht => ?_⟩
    · have := hb r h1 a ha
      have := (atom_small (a := a)).2.1
      omega
    · have := hb r h1 a ha
      have := (atom_small (a := a)).2.2 t ht
      omega
  · have h2 := (hr r h1).1
    have := (atom_small (a := r.head)).1
    refine ⟨by omega, fun a ha => ?_⟩
    have := hb r h1 a ha
    have := (atom_small (a := a)).1
    omega
end Go.Proofs.YtoffggiaecclmaaGreat

/-
  WHAT THE LAWS OF CHAPTER 5 CALL, its answers being known.
-/
namespace Go.Proofs.YtoffggiaecclmaaGreat
open Go.RowKit Go.ChangeShapes Go.WideShapes Go.Deep

theorem fix_nil {ps : List (PRule × Int)} {n : Int} : ∀ {k : Nat} {o : List PFact}, (fixP ps n k o).2 ≠ 0 → (fixP ps n k o).1 = []
  | 0, o, h => absurd rfl h
  | k + 1, o, h => by
    rw [fixP] at h ⊢
    split
    · rfl
    · rename_i h1
      rw [if_neg h1] at h
      split
      · rename_i h2; rw [if_pos h2] at h; exact absurd rfl h
      · rename_i h2; rw [if_neg h2] at h; exact fix_nil h
theorem run_nil {ps : List (PRule × Int)} : ∀ {k : Nat} {i : Int} {o : List PFact}, (runP ps k i o).2 ≠ 0 → (runP ps k i o).1 = []
  | 0, _, o, h => absurd rfl h
  | k + 1, i, o, h => by
    rw [runP] at h ⊢
    split
    · rfl
    · rename_i h1; rw [if_neg h1] at h; exact run_nil h
theorem naive_nil {st : List Int} {q : Int} {p : List PRule} {l : List PFact} (h : (naiveP st q p l).2 ≠ 0) : (naiveP st q p l).1 = [] := by
  unfold naiveP at h ⊢
  split
  · rfl
  · rename_i h1
    rw [if_neg h1] at h
    split
    · rfl
    · rename_i h2; rw [if_neg h2] at h; exact run_nil h
theorem less_nil {l m : List PFact} (h : ∀ x ∈ l, x ∈ m) : lessF l m = [] := List.filter_eq_nil_iff.2 fun x hx => by rw [(memF_iff x m).2 (h x hx)]; decide
theorem good_args {l : List PFact} (h : ∀ f ∈ l, wrongF f = 0) : ∀ x ∈ l, x.args.length ≤ 1048576 := fun x hx => by have := (wrongF_zero.1 (h x hx)).2.1; omega

/-- naive.All, read. -/
theorem naiveReads {S S3 : Nat → Prop} (p : List PRule) (v fv : Value) (st : List Int) (q : Int × Int) (l : List PFact) (w : World) (hS : StrataIs p st q) (h : RdRules S w v p) (hf : RdFacts S3 w fv l)
    (n1 : p.length ≤ 1048576) (n2 : ∀ r ∈ p, RuleSmall r) (n3 : ∀ r ∈ p, NameSmall r) (n4 : l.length ≤ 1048576) (n5 : ∀ x ∈ l, x.args.length ≤ 1048576) :
    Calls Tryz.prog 8 #[v, fv] w fun e w' => (∃ a c, e = .returned (.tuple #[.slice a (naiveP st q.1 p l).1.length c, .int .i64 (naiveP st q.1 p l).2]) ∧ RdFacts (fun _ => True) w' (.slice a (naiveP st q.1 p l).1.length c) (naiveP st q.1 p l).1) ∧ Below w.heap.size w w' :=
  naiveKnown rfl hS rfl h hf n1 n2 n3 n4 n5
/-- naive.Heads, read. -/
theorem headsReads {S S2 S3 : Nat → Prop} (x : PRule) (tv bv fv : Value) (facts : List PFact) (w : World) (ht : RdTerms S w tv x.head.terms) (hb : RdAtoms S2 w bv x.body) (hf : RdFacts S3 w fv facts)
    (hs : RuleSmall x) (n4 : facts.length ≤ 1048576) (n5 : ∀ x ∈ facts, x.args.length ≤ 1048576) :
    Calls Tryz.prog 41 #[.agg #[.bool x.head.neg, .string x.head.name, tv, bv], fv] w fun e w' => (∃ a c, e = .returned (.tuple #[.slice a (headsP x facts).1.length c, .int .i64 (headsP x facts).2]) ∧ RdFacts (fun _ => True) w' (.slice a (headsP x facts).1.length c) (headsP x facts).1) ∧ Below w.heap.size w w' :=
  (headsCalls x tv bv fv facts w ht hb hf hs n4 n5).mono fun e w' ⟨hb, v', he, ho⟩ => by
    have h' := (ho.read RFact.steady).more RFact.steady (S' := fun _ => True) (fun _ _ _ => trivial)
    obtain ⟨a, c, rfl, -, -, -⟩ := id h'.form
    exact ⟨⟨a, c, he, h'⟩, hb⟩
/-- fact.Less, read. -/
theorem lessReads {S T : Nat → Prop} {va vb : Value} {l m : List PFact} {w : World} (h : RdFacts S w va l) (hm : RdFacts T w vb m) (hs : Rising m) (n1 : l.length ≤ 1048576) (n2 : ∀ x ∈ l, x.args.length ≤ 1048576) (n3 : m.length ≤ 1048576) (n4 : ∀ x ∈ m, x.args.length ≤ 1048576) :
    Calls Tryz.prog 24 #[va, vb] w fun e w' => (∃ a c, e = .returned (.slice a (lessF l m).length c) ∧ RdFacts (fun _ => True) w' (.slice a (lessF l m).length c) (lessF l m)) ∧ Below w.heap.size w w' :=
  (lessCalls va vb l m w h hm hs (by omega) (fun x hx => by have := n2 x hx; omega) (by omega) (fun x hx => by have := n4 x hx; omega)).mono fun e w' ⟨⟨v', he, ho⟩, hb⟩ => by
    have h' := (ho.read RFact.steady).more RFact.steady (S' := fun _ => True) (fun _ _ _ => trivial)
    obtain ⟨a, c, rfl, -, -, -⟩ := id h'.form
    exact ⟨⟨a, c, he, h'⟩, hb⟩
theorem lessNone {S T : Nat → Prop} {va vb : Value} {l m : List PFact} {w : World} (hlm : ∀ x ∈ l, x ∈ m) (h : RdFacts S w va l) (hm : RdFacts T w vb m) (hs : Rising m) (n1 : l.length ≤ 1048576) (n2 : ∀ x ∈ l, x.args.length ≤ 1048576) (n3 : m.length ≤ 1048576) (n4 : ∀ x ∈ m, x.args.length ≤ 1048576) :
    Calls Tryz.prog 24 #[va, vb] w fun e w' => (∃ a c, e = .returned (.slice a 0 c)) ∧ Below w.heap.size w w' :=
  (lessReads h hm hs n1 n2 n3 n4).mono fun e w' ⟨⟨a, c, he, _⟩, hb⟩ => ⟨⟨a, c, by rw [he, less_nil hlm]; rfl⟩, hb⟩
theorem joinReads {S T : Nat → Prop} {va vb : Value} {a b : List PFact} {w : World} (ha : RdFacts S w va a) (hb : RdFacts T w vb b) (n1 : a.length ≤ 1048576) (n1' : b.length ≤ 1048576) (n2 : ∀ x ∈ a, x.args.length ≤ 1048576) (n3 : ∀ x ∈ b, x.args.length ≤ 1048576) :
    Calls Tryz.prog 42 #[va, vb] w fun e w' => (∃ q c, e = .returned (.slice q (joinF a b).length c) ∧ RdFacts (fun _ => True) w' (.slice q (joinF a b).length c) (joinF a b)) ∧ Below w.heap.size w w' :=
  (joinCalls va vb a b w ha hb (by omega) (fun x hx => by have := n2 x hx; omega) (fun x hx => by have := n3 x hx; omega)).mono fun e w' ⟨⟨v', he, ho⟩, hb⟩ => by
    have h' := (ho.read RFact.steady).more RFact.steady (S' := fun _ => True) (fun _ _ _ => trivial)
    obtain ⟨q, c, rfl, -, -, -⟩ := id h'.form
    exact ⟨⟨q, c, he, h'⟩, hb⟩
/-- A rule of a program, where it lies. -/
theorem RdRules.pick {S : Nat → Prop} {w : World} {a : Option Addr} {n cap : Nat} {l : List PRule} (h : RdRules S w (.slice a n cap) l) {i : Nat} {x : PRule} (hx : l[i]? = some x) :
    ∃ b o ta tc ba bc, a = some ⟨b, o, none⟩ ∧ RuleAt S w b (o + i * 4) x (.slice ta x.head.terms.length tc) (.slice ba x.body.length bc) := by
  obtain ⟨b1, o1, tv, bv, rfl, -, hb1, d0, d1, d2, d3, htv, hbv⟩ := RdRules.at h hx
  obtain ⟨ta, tc, rfl, -, -, -⟩ := id htv.form
  obtain ⟨ba, bc, rfl, -, -, -⟩ := id hbv.form
  exact ⟨b1, o1, ta, tc, ba, bc, rfl, hb1, d0, d1, d2, d3, htv, hbv⟩
theorem Opens.ruleArg {P : Program} {t : TypeId} {size : PRule → Nat} (h : Opens P t 4 RRule size) {fs : Array Field} (ht : P.underlying t = some (.struct fs)) {H : Type} {enc : TypeId × Value → H} {W : World} {r : Reach} {b : Nat} {v : Value} {d : DataW H} {p : List MemPlace}
    (hv : Value.okWide P W r b t v) (hd : DataW.Trod enc P W 0 (fun _ => true) true t v d p) : ∃ (x : PRule) (tv bv : Value), v = .agg #[.bool x.head.neg, .string x.head.name, tv, bv] ∧ RdTerms (fun _ => True) W tv x.head.terms ∧ RdAtoms (fun _ => True) W bv x.body ∧ size x ≤ Rows.uptoBulk d := by
  obtain ⟨f, cs, rfl, ⟨tv, bv, e, h1, h2⟩, hb⟩ := h.arg ht hv hd
  exact ⟨f, tv, bv, by rw [← Array.toArray_toList (xs := cs), e], h1, h2, hb⟩
theorem rule_small {r : PRule} (h : sizeRule r ≤ 1048576) : RuleSmall r := by
  simp only [sizeRule] at h
  have h3 := sizeL_le (size := sizeAtom) openAtom.one r.body
  obtain ⟨g1, g2, g3⟩ := atom_small (a := r.head)
  have hb : ∀ a ∈ r.body, sizeAtom a ≤ 1048576 := fun a ha => by have h2 := sizeL_mem (size := sizeAtom) ha; omega
  exact ⟨by omega, fun t ht => by have := g3 t ht; omega, by omega, fun a ha => by have := hb a ha; have := (atom_small (a := a)).2.1; omega, fun a ha t ht => by have := hb a ha; have := (atom_small (a := a)).2.2 t ht; omega⟩
end Go.Proofs.YtoffggiaecclmaaGreat

/-
  THE WALK OF proof.Check.
-/
namespace Go.Proofs.YtoffggiaecclmaaGreat
open Go.RowKit

/-- Rows of an ordinary size, wherever in a proof. -/
def smallN : Nat → PProof → Prop
  | 0, _ => True
  | n + 1, x => x.fact.args.length ≤ 1048576 ∧ x.kids.length ≤ 1048576 ∧ ∀ k ∈ x.kids, smallN n k
theorem oneCalls {p : List PRule} {told M : List PFact} (hpl : p.length ≤ 1048576) (hpt : ∀ r ∈ p, r.head.terms.length ≤ 4 ∧ r.body.length ≤ 5 ∧ ∀ a ∈ r.body, a.terms.length ≤ 4)
    (ut : Rising told) (ut1 : told.length ≤ 1073741824) (ut2 : ∀ x ∈ told, x.args.length ≤ 1073741824) (um : Rising M) (um1 : M.length ≤ 1073741824) (um2 : ∀ x ∈ M, x.args.length ≤ 1073741824) :
    ∀ (n : Nat) {S S2 S3 S4 : Nat → Prop} (C b off : Nat) (pv tv mv av kv : Value) (x : PProof) (w : World), Blk w C 54 #[pv, tv, mv] → RdRules S w pv p → RdFacts S2 w tv told → RdFacts S3 w mv M → PrfAt w b off x.fact x.rule av kv → RdProofs n S4 w kv x.kids → smallN (n + 1) x →
      Calls Tryz.prog 16 #[.pointer (some ⟨C, 0, none⟩), .pointer (some ⟨b, off, none⟩)] w fun e w' => e = .returned (.int .i64 (oneN p told M (n + 1) x)) ∧ Below w.heap.size w w'
  | 0, S, S2, S3, S4, C, b, off, pv, tv, mv, av, kv, x, w, hC, hp, ht, hm, hX, hk, hs => by
    obtain ⟨ka, kc, rfl, -, -, -⟩ := id hk.form
    have h0 := hk.zero
    obtain ⟨f, rl, ks⟩ := x
    exact oneWalk p told M (oneN p told M 0) C b off pv tv mv av ka kc f rl ks w hC hp ht hm hX (fun i k hik => by have h1 : ks = [] := h0; rw [h1] at hik; simp at hik) hs.1 hs.2.1 hpl hpt ut ut1 ut2 um um1 um2
  | n + 1, S, S2, S3, S4, C, b, off, pv, tv, mv, av, kv, x, w, hC, hp, ht, hm, hX, hk, hs => by
    obtain ⟨ka, kc, rfl, -, -, -⟩ := id hk.form
    obtain ⟨f, rl, ks⟩ := x
    refine oneWalk p told M (oneN p told M (n + 1)) C b off pv tv mv av ka kc f rl ks w hC hp ht hm hX (fun i k hik => ?_) hs.1 hs.2.1 hpl hpt ut ut1 ut2 um um1 um2
    obtain ⟨b', off', av', kv', ha, -, hb, d0, d1, d2, d3, hra, hrk⟩ := RdProofs.at hk hik
    have hks := hs.2.2 k (List.mem_of_getElem? hik)
    have hP : PrfAt w b' (off' + i * 4) k.fact k.rule av' kv' := ⟨hb, d0, d1, d2, d3, hra.more RStr.steady (fun _ _ _ => trivial)⟩
    exact ⟨b', off', av', kv', ha, hP, hks.1, fun W hW => oneCalls hpl hpt ut ut1 ut2 um um1 um2 n C b' (off' + i * 4) pv tv mv av' kv' k W (hC.below hW hC.lt) (hp.up hW) (RdFacts.up ht hW) (RdFacts.up hm hW) (hP.up hW) (RdSlice.agree (RProofN.steady n) (Below.agree hW) hrk) hks⟩
/-- Rules with which nothing is wrong are small. -/
theorem rules_terms {p : List PRule} (h : ∀ r ∈ p, ruleBad r = 0) : ∀ r ∈ p, r.head.terms.length ≤ 4 ∧ r.body.length ≤ 5 ∧ ∀ a ∈ r.body, a.terms.length ≤ 4 := fun r hr => by
  obtain ⟨h1, -, h3, -⟩ := ruleBad_zero (h r hr)
  exact ⟨(atomBad_zero h1).2.1, body_atoms h3, fun a ha => body_terms h3 ha⟩
theorem check_err {st : List Int} {q : Int} {p : List PRule} {told : List PFact} {n : Nat} {x : PProof} (h : (naiveP st q p told).2 ≠ 0) : checkN st q p told n x = (naiveP st q p told).2 := by unfold checkN; rw [if_pos h]
theorem check_much {st : List Int} {q : Int} {p : List PRule} {told : List PFact} {n : Nat} {x : PProof} (h : (naiveP st q p told).2 = 0) (h2 : 400 < cntN n x ∨ 60 < depN n x) : checkN st q p told n x = 4 := by unfold checkN; rw [if_neg (by simpa using h), if_pos h2]
theorem check_one {st : List Int} {q : Int} {p : List PRule} {told : List PFact} {n : Nat} {x : PProof} (h : (naiveP st q p told).2 = 0) (h2 : ¬ (400 < cntN n x ∨ 60 < depN n x)) : checkN st q p told n x = oneN p told (naiveP st q p told).1 n x := by unfold checkN; rw [if_neg (by simpa using h), if_neg h2]

set_option maxRecDepth 100000 in
set_option maxHeartbeats 8000000 in
theorem checkCalls {S S3 S4 S5 : Nat → Prop} (p : List PRule) (v fv : Value) (st : List Int) (q : Int × Int) (l : List PFact) (n : Nat) (x : PProof) (av kv : Value) (w : World) (hS : StrataIs p st q) (h : RdRules S w v p) (hf : RdFacts S3 w fv l) (ha : RdStrs S4 w av x.fact.args) (hk : RdProofs n S5 w kv x.kids) (hs : smallN (n + 1) x) (hc : cntN (n + 1) x ≤ 1048576)
    (n1 : p.length ≤ 1048576) (n2 : ∀ r ∈ p, RuleSmall r) (n3 : ∀ r ∈ p, NameSmall r) (n4 : l.length ≤ 1048576) (n5 : ∀ x ∈ l, x.args.length ≤ 1048576) :
    Calls Tryz.prog 7 #[v, fv, .agg #[.string x.fact.name, av, .int .i64 x.rule, kv]] w fun e w' => e = .returned (.int .i64 (checkN st q.1 p l (n + 1) x)) ∧ Below w.heap.size w w' := by
  obtain ⟨a, c, rfl, -, -, -⟩ := id h.form
  obtain ⟨fa, fc, rfl, -, -, -⟩ := id hf.form
  obtain ⟨aa, ac, rfl, -, -, -⟩ := id ha.form
  obtain ⟨ka, kc, rfl, -, -, -⟩ := id hk.form
  obtain ⟨W0, hW0⟩ : ∃ W0 : World, w.alloc (.cells #[.string x.fact.name, .slice aa x.fact.args.length ac, .int .i64 x.rule, .slice ka x.kids.length kc] 30) = W0 := ⟨_, rfl⟩
  have HB0 := Lib.hid (show Below w.heap.size w W0 by subst hW0; exact (Below.refl _ _).alloc (Nat.le_refl _) _)
  have HK0 := Lib.hid (show Blk W0 w.heap.size 30 #[.string x.fact.name, .slice aa x.fact.args.length ac, .int .i64 x.rule, .slice ka x.kids.length kc] by subst hW0; exact Blk.new w _ _)
  have KN := Lib.hid (naiveReads p (.slice a p.length c) (.slice fa l.length fc) st q l W0 hS (h.up HB0.out) (RdFacts.up hf HB0.out) n1 n2 n3 n4 n5)
  have H := Lib.hid h
  have HF := Lib.hid hf
  have HA := Lib.hid ha
  have HKD := Lib.hid hk
  have HSM := Lib.hid hs
  have HFO := Lib.hid (naive_follows hS (l := l))
  have N5 := Lib.hid n5
  have E1 := Lib.hid (check_err (st := st) (q := q.1) (p := p) (told := l) (n := n + 1) (x := x))
  have E2 := Lib.hid (check_much (st := st) (q := q.1) (p := p) (told := l) (n := n + 1) (x := x))
  have E3 := Lib.hid (check_one (st := st) (q := q.1) (p := p) (told := l) (n := n + 1) (x := x))
  generalize checkN st q.1 p l (n + 1) x = R at *
  clear h hf ha hk hs n2 n3 n5 hS
  generalize naiveP st q.1 p l = r at *
  obtain ⟨m, e0⟩ := r
  dsimp only at *
  by_cases he : e0 = 0
  case neg =>
    have g1 : (e0 != 0) = true := by simpa using he
    have HE := Lib.hid (E1.out he)
    clear he E1 E2 E3 HFO
    go_enter Tryz.func7, Tryz.ntmps7
    go_wp2_with (go_at_call 8; refine (KN.out).mono ?_; rintro e w2 ⟨⟨a2, c2, rfl, hr2⟩, hb2⟩; have HB2 := Lib.hid (HB0.out.trans (hb2.mono HB0.out.size)); clear hr2 hb2)
    go_ret
    refine ⟨?_, HB2.out⟩
    rw [HE.out]
    rfl
  subst he
  obtain ⟨hF, hset, hR⟩ := HFO.out rfl
  have HG := Lib.hid (good_of hset)
  have HFL := Lib.hid hF
  have HPT := Lib.hid (rules_terms hR)
  clear hF hset hR HFO E1
  have KZ := Lib.hid (fun W (hW : Below w.heap.size w W) => sizeCalls n x (.string x.fact.name) (.slice aa x.fact.args.length ac) (.slice ka x.kids.length kc) x.rule W (RdSlice.agree (RProofN.steady n) (Below.agree hW) HKD.out) hc)
  generalize hcn : cntN (n + 1) x = cn at *
  generalize hdn : depN (n + 1) x = dn at *
  by_cases hbig : 400 < cn ∨ 60 < dn
  · have HE := Lib.hid (E2.out rfl hbig)
    have hcs : (400 : Int) < (cn : Int) ∨ ¬ (400 : Int) < (cn : Int) ∧ (60 : Int) < (dn : Int) := by omega
    clear hbig E2 E3 hcn hdn
    rcases hcs with h1 | ⟨h1, h2⟩
    all_goals
      go_enter Tryz.func7, Tryz.ntmps7
      go_wp2_with (first
        | (go_at_call 15; have hh := HB2.out; clear hh; refine (KZ.out _ HB2.out).mono ?_; rintro e w3 ⟨rfl, hb3⟩; have HB3 := Lib.hid (HB2.out.trans (hb3.mono HB2.out.size)); clear hb3)
        | (go_at_call 8; refine (KN.out).mono ?_; rintro e w2 ⟨⟨a2, c2, rfl, hr2⟩, hb2⟩; have HB2 := Lib.hid (HB0.out.trans (hb2.mono HB0.out.size)); have hk2 := HK0.out.below hb2 HK0.out.lt; have k0 := hk2.cell 0; have k1 := hk2.cell 1; have k2 := hk2.cell 2; have k3 := hk2.cell 3; simp only [List.getElem?_toArray, List.getElem?_cons_zero, List.getElem?_cons_succ] at k0 k1 k2 k3; clear hr2 hb2 hk2))
      go_ret
      refine ⟨?_, HB3.out⟩
      rw [HE.out]
      rfl
  have HE := Lib.hid (E3.out rfl hbig)
  have h1 : ¬ (400 : Int) < (cn : Int) := by omega
  have h2 : ¬ (60 : Int) < (dn : Int) := by omega
  clear hbig E2 E3 hcn hdn
  go_enter Tryz.func7, Tryz.ntmps7
  go_wp2_with (first
    | (go_at_call 16; have hh := HB3.out; clear hh; refine (oneCalls n1 HPT.out HG.out.rise (Nat.le_trans HG.out.len (by decide)) (fun z hz => Nat.le_trans (N5.out z hz) (by decide)) HFL.out.rise (Nat.le_trans HFL.out.len (by decide)) (fun z hz => by have := (wrongF_zero.1 (HFL.out.good z hz)).2.1; omega) n w3.heap.size w.heap.size 0 _ _ _ _ _ x _ (Blk.new w3 _ _) (H.out.up HB4.out) (RdFacts.up HF.out HB4.out) HR4.out HX4.out (RdSlice.agree (RProofN.steady n) (Below.agree HB4.out) HKD.out) HSM.out).mono ?_; rintro e w5 ⟨rfl, hb5⟩; have HB5 := Lib.hid (HB4.out.trans (hb5.mono HB4.out.size)); clear hb5)
    | (go_at_call 15; have hh := HB2.out; clear hh; refine (KZ.out _ HB2.out).mono ?_; rintro e w3 ⟨rfl, hb3⟩; have HB3 := Lib.hid (HB2.out.trans (hb3.mono HB2.out.size)); have HK3 := Lib.hid (HK2.out.below hb3 HK2.out.lt); have HB4 := Lib.hid (HB3.out.alloc HB3.out.size (.cells #[.slice a p.length c, .slice fa l.length fc, .slice a2 m.length c2] 54)); have HR4 := Lib.hid (RdFacts.up (RdFacts.up HR2.out hb3) ((Below.refl w3.heap.size w3).alloc (Nat.le_refl _) (.cells #[.slice a p.length c, .slice fa l.length fc, .slice a2 m.length c2] 54))); have HK4 := HK3.out.alloc (.cells #[.slice a p.length c, .slice fa l.length fc, .slice a2 m.length c2] 54); have HX4 := Lib.hid (show PrfAt (w3.alloc (.cells #[.slice a p.length c, .slice fa l.length fc, .slice a2 m.length c2] 54)) w.heap.size 0 x.fact x.rule (.slice aa x.fact.args.length ac) (.slice ka x.kids.length kc) from ⟨HK4.lt, HK4.cell 0, HK4.cell 1, HK4.cell 2, HK4.cell 3, HA.out.up HB4.out⟩); clear hb3 HK4)
    | (go_at_call 8; refine (KN.out).mono ?_; rintro e w2 ⟨⟨a2, c2, rfl, hr2⟩, hb2⟩; have HB2 := Lib.hid (HB0.out.trans (hb2.mono HB0.out.size)); have HR2 := Lib.hid hr2; have HK2 := Lib.hid (HK0.out.below hb2 HK0.out.lt); have k0 := HK2.out.cell 0; have k1 := HK2.out.cell 1; have k2 := HK2.out.cell 2; have k3 := HK2.out.cell 3; simp only [List.getElem?_toArray, List.getElem?_cons_zero, List.getElem?_cons_succ] at k0 k1 k2 k3; clear hr2 hb2))
  go_ret
  refine ⟨?_, HB5.out⟩
  rw [HE.out]
  rfl
end Go.Proofs.YtoffggiaecclmaaGreat

/-
  PLAIN: how a proof is found (chapter 7).
-/
namespace Go.Proofs.YtoffggiaecclmaaGreat

/-- A term, an atom, a body, its variables being what they stand for. -/
def subT (b : Binds) (t : PTerm) : PTerm := if t.var then (match getB t.name b with
  | some n => ⟨false, n⟩
  | none => t) else t
def subA (b : Binds) (a : PAtom) : PAtom := ⟨a.neg, a.name, a.terms.map (subT b)⟩
def subBody (b : Binds) (l : List PAtom) : List PAtom := l.map (subA b)
/-- What a rule's body is made of, by binds. -/
def kidsOf (body : List PAtom) (b : Binds) : List PFact := body.filterMap fun a => if a.neg then none else fillP a b
def ageOf (age : Str → Option Int) (f : PFact) : Int := (age (keyP f)).getD 0
def olderP (age : Str → Option Int) (f k : PFact) : Bool := decide (ageOf age k < ageOf age f)
/-- (*finder).rule. -/
def ruleG (age : Str → Option Int) (M : List PFact) (r : PRule) (f : PFact) : Option (List PFact) := match meetP r.head f [] with
  | none => none
  | some s => if (allP (subBody s r.body) M).2 ≠ 0 then none else ((allP (subBody s r.body) M).1.find? fun b => (kidsOf (subBody s r.body) b).all (olderP age f)).map (kidsOf (subBody s r.body))
def pickRule (age : Str → Option Int) (M : List PFact) (f : PFact) : Nat → List PRule → Option (Nat × List PFact)
  | _, [] => none
  | i, r :: p => match ruleG age M r f with
    | some ks => some (i, ks)
    | none => pickRule age M f (i + 1) p
def kidsAcc (F : Nat → PFact → Option PProof × Nat) : List PProof → Nat → List PFact → Option (List PProof) × Nat
  | xs, s, [] => (some xs, s)
  | xs, s, k :: l => match F s k with
    | (none, s') => (none, s')
    | (some x, s') => kidsAcc F (xs ++ [x]) s' l
/-- (*finder).find: n: how much deeper it may go; s: how many were looked for. -/
def findN (p : List PRule) (told M : List PFact) (age : Str → Option Int) : Nat → Nat → PFact → Nat → Option PProof × Nat
  | 0, s, _, _ => (none, s)
  | n + 1, s, f, d => if 400 < s + 1 ∨ 60 < d then (none, s + 1) else if memF f told then (some (.mk f (-1) []), s + 1) else match pickRule age M f 0 p with
    | none => (none, s + 1)
    | some (i, ks) => match kidsAcc (fun s k => findN p told M age n s k (d + 1)) [] (s + 1) ks with
      | (none, s') => (none, s')
      | (some xs, s') => (some (.mk f i xs), s')
end Go.Proofs.YtoffggiaecclmaaGreat
