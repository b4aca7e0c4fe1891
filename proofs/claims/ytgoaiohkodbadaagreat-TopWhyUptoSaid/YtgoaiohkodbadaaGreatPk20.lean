/-
  HOW A PROOF LIES IN MEMORY; the walks of proof.Size and proof.key.
-/
import Derived.Test.YtgoaiohkodbadaaGreatPk14
import Derived.Test.YtgoaiohkodbadaaGreatPk16
import Derived.Lib.MinMax
namespace Go.Proofs.YtgoaiohkodbadaaGreat
open Go.RowKit

/-- A proof no deeper than n. -/
def RProofN : Nat → Reader PProof
  | 0 => fun _ _ _ _ => False
  | n + 1 => fun S w cs x => ∃ av kv, cs = [.string x.fact.name, av, .int .i64 x.rule, kv] ∧ RdStrs S w av x.fact.args ∧ RdSlice 4 (RProofN n) S w kv x.kids
theorem RProofN.steady : ∀ n, Steady (RProofN n)
  | 0 => ⟨fun _ h => h, fun _ h => h⟩
  | n + 1 => ⟨fun h ⟨av, kv, hc, r, q⟩ => ⟨av, kv, hc, r.agree RStr.steady h, q.agree (RProofN.steady n) h⟩, fun h ⟨av, kv, hc, r, q⟩ => ⟨av, kv, hc, r.more RStr.steady h, q.more (RProofN.steady n) h⟩⟩
theorem RProofN.mono : ∀ {n m : Nat} {S : Nat → Prop} {w : World} {cs : List Value} {x : PProof}, n ≤ m → RProofN n S w cs x → RProofN m S w cs x
  | 0, _, _, _, _, _, _, h => h.elim
  | n + 1, 0, _, _, _, _, h, _ => absurd h (by omega)
  | n + 1, m + 1, S, w, cs, x, h, ⟨av, kv, hc, r, a, c, hv, h1, h2, h0, h3⟩ => ⟨av, kv, hc, r, a, c, hv, h1, h2, h0, fun i y hy =>
    let ⟨b, off, ks, ha, hS, hb, hk, hg, hr⟩ := h3 i y hy
    ⟨b, off, ks, ha, hS, hb, hk, hg, RProofN.mono (Nat.le_of_succ_le_succ h) hr⟩⟩
abbrev RdProofs (n : Nat) := RdSlice 4 (RProofN n)
/-- Proof i's cells. -/
theorem RdProofs.at {n : Nat} {S : Nat → Prop} {w : World} {a : Option Addr} {m cap : Nat} {l : List PProof} (h : RdProofs (n + 1) S w (.slice a m cap) l) {i : Nat} {x : PProof} (hx : l[i]? = some x) :
    ∃ b off av kv, a = some ⟨b, off, none⟩ ∧ S b ∧ b < w.heap.size ∧ w.cell? ⟨b, off + i * 4, none⟩ = some (.string x.fact.name) ∧ w.cell? ⟨b, off + i * 4 + 1, none⟩ = some av ∧ w.cell? ⟨b, off + i * 4 + 2, none⟩ = some (.int .i64 x.rule) ∧ w.cell? ⟨b, off + i * 4 + 3, none⟩ = some kv ∧ RdStrs S w av x.fact.args ∧ RdProofs n S w kv x.kids := by
  obtain ⟨a', cap', hv, _, _, _, h3⟩ := h
  obtain ⟨b, off, cs, ha, hS, hb, hk, hc, av, kv, rfl, hq, hp⟩ := h3 i x hx
  injection hv with e1 e2 e3
  subst e1
  exact ⟨b, off, av, kv, ha, hS, hb, by simpa using hc 0 _ rfl, by simpa using hc 1 _ rfl, by simpa using hc 2 _ rfl, by simpa using hc 3 _ rfl, hq, hp⟩
theorem RdProofs.zero {S : Nat → Prop} {w : World} {v : Value} {l : List PProof} (h : RdProofs 0 S w v l) : l = [] := by
  obtain ⟨a', cap', hv, _, _, _, h3⟩ := h
  cases l with
  | nil => rfl
  | cons x l => obtain ⟨b, off, cs, -, -, -, -, -, hr⟩ := h3 0 x rfl; exact hr.elim

/-! ### Size -/
def sumBy (c : PProof → Nat) (l : List PProof) : Nat := (l.map c).sum
def maxBy (d : PProof → Nat) (l : List PProof) : Nat := (l.map d).foldl max 0
theorem sumBy_snoc {c : PProof → Nat} {l : List PProof} {k : Nat} {x : PProof} (h : l[k]? = some x) : sumBy c (l.take (k + 1)) = sumBy c (l.take k) + c x := by
  unfold sumBy; rw [List.take_add_one, h, List.map_append, List.sum_append]; simp
theorem maxBy_snoc {d : PProof → Nat} {l : List PProof} {k : Nat} {x : PProof} (h : l[k]? = some x) : maxBy d (l.take (k + 1)) = max (maxBy d (l.take k)) (d x) := by
  unfold maxBy; rw [List.take_add_one, h, List.map_append, List.foldl_append]; rfl
theorem sumBy_le (c : PProof → Nat) : ∀ (l : List PProof) (k : Nat), sumBy c (l.take k) ≤ sumBy c l
  | [], k => by simp
  | x :: l, 0 => by simp [sumBy]
  | x :: l, k + 1 => by have := sumBy_le c l k; unfold sumBy at *; rw [List.take_succ_cons, List.map_cons, List.map_cons, List.sum_cons, List.sum_cons]; omega
theorem maxBy_lt (d : PProof → Nat) {B : Nat} : ∀ {l : List PProof}, (∀ x ∈ l, d x ≤ B) → ∀ k, maxBy d (l.take k) ≤ B := by
  have main : ∀ (l : List PProof) (z : Nat), z ≤ B → (∀ x ∈ l, d x ≤ B) → (l.map d).foldl max z ≤ B := by
    intro l
    induction l with
    | nil => intro z hz _; exact hz
    | cons x l ih => intro z hz h; rw [List.map_cons, List.foldl_cons]; exact ih _ (Nat.max_le.2 ⟨hz, h x (by simp)⟩) fun y hy => h y (by simp [hy])
  exact fun {l} h k => main (l.take k) 0 (Nat.zero_le _) fun x hx => h x (List.mem_of_mem_take hx)

attribute [local go_sem ↓] Go.wp_at_zero Go.wp_at_succ
set_option maxRecDepth 100000 in
set_option maxHeartbeats 4000000 in
theorem sizeWalk (c d : PProof → Nat) (nm av : Value) (rl : Int) (ka : Option Addr) (kc : Nat) (ks : List PProof) (w : World)
    (K : ∀ (i : Nat) (k : PProof), ks[i]? = some k → ∃ b off a1 n1 c1 a2 n2 c2, ka = some ⟨b, off, none⟩ ∧ b < w.heap.size ∧ w.cell? ⟨b, off + i * 4, none⟩ = some (.string k.fact.name) ∧ w.cell? ⟨b, off + i * 4 + 1, none⟩ = some (.slice a1 n1 c1) ∧ w.cell? ⟨b, off + i * 4 + 2, none⟩ = some (.int .i64 k.rule) ∧ w.cell? ⟨b, off + i * 4 + 3, none⟩ = some (.slice a2 n2 c2) ∧
      ∀ W, Below w.heap.size w W → Calls Tryz.prog 13 #[.agg #[.string k.fact.name, .slice a1 n1 c1, .int .i64 k.rule, .slice a2 n2 c2]] W fun e w' => e = .returned (.tuple #[.int .i64 (c k : Int), .int .i64 (d k : Int)]) ∧ Below W.heap.size W w')
    (hn : ks.length ≤ 1048576) (hc : sumBy c ks ≤ 1048576) (hd : ∀ k ∈ ks, d k ≤ 1048576) :
    Calls Tryz.prog 13 #[.agg #[nm, av, .int .i64 rl, .slice ka ks.length kc]] w fun e w' => e = .returned (.tuple #[.int .i64 ((1 + sumBy c ks : Nat) : Int), .int .i64 ((maxBy d ks + 1 : Nat) : Int)]) ∧ Below w.heap.size w w' := by
  have HK := Lib.hid K
  have HD := Lib.hid hd
  have HB0 := Lib.hid ((Below.refl w.heap.size w).alloc (Nat.le_refl _) (.cells #[nm, av, .int .i64 rl, .slice ka ks.length kc] 30))
  clear K hd
  go_enter Tryz.func13, Tryz.ntmps13
  go_wp2
  go_loopw [13, 4, 5] (fun i n m wr => ∃ k : Nat, k ≤ ks.length ∧ i = .int .i64 k ∧ n = .int .i64 ((1 + sumBy c (ks.take k) : Nat) : Int) ∧ m = .int .i64 ((maxBy d (ks.take k) : Nat) : Int) ∧ Hid (Below w.heap.size w wr)) (fun i _ _ _ => ks.length - (intOf i).toNat)
  case atStart => exact ⟨0, Nat.zero_le _, rfl, by simp [sumBy], by simp [maxBy], HB0⟩
  case round =>
    clear HB0
    obtain ⟨k, hk, rfl, rfl, rfl, HB⟩ := hrel
    by_cases hlt : k < ks.length
    · obtain ⟨x, hx⟩ : ∃ x, ks[k]? = some x := ⟨_, List.getElem?_eq_getElem hlt⟩
      obtain ⟨b, off, a1, n1, c1, a2, n2, c2, rfl, hb, d0, d1, d2, d3, KC⟩ := HK.out k x hx
      have e0 := (cell_below HB.out hb _).trans d0
      have e1 := (cell_below HB.out hb _).trans d1
      have e2 := (cell_below HB.out hb _).trans d2
      have e3 := (cell_below HB.out hb _).trans d3
      have HS := Lib.hid (sumBy_snoc (c := c) hx)
      have HM := Lib.hid (maxBy_snoc (d := d) hx)
      have hs1 := sumBy_le c ks (k + 1)
      have hs0 := sumBy_le c ks k
      rw [HS.out] at hs1
      have hm0 := maxBy_lt d HD.out k
      have hdx := HD.out x (List.mem_of_getElem? hx)
      have HB2 := Lib.hid (HB.out.alloc HB.out.size (.cells #[.string x.fact.name, .slice a1 n1 c1, .int .i64 x.rule, .slice a2 n2 c2] 30))
      have KX := Lib.hid (KC _ HB2.out)
      have hmx : max ((maxBy d (ks.take k) : Nat) : Int) (d x : Int) = ((max (maxBy d (ks.take k)) (d x) : Nat) : Int) := by omega
      clear d0 d1 d2 d3 KC hx
      go_wp2_with (go_at_call 13; refine (KX.out).mono ?_; rintro e w3 ⟨rfl, hb3⟩; have HB3 := Lib.hid (HB2.out.trans (hb3.mono HB2.out.size)); clear hb3)
      go_roundw
      case rel => exact ⟨k + 1, by omega, by go_num, by rw [HS.out]; exact congrArg _ (by omega), by rw [HM.out], HB3⟩
      case measure => simp [intOf]; omega
    · have htk : ks.take k = ks := List.take_of_length_le (by omega)
      have hmb : maxBy d ks ≤ 1048576 := by have := maxBy_lt d HD.out k; rwa [htk] at this
      rw [htk]
      go_wp2
      go_ret2
      exact ⟨rfl, HB.out⟩
theorem dep_cnt : ∀ (n : Nat) (x : PProof), depN n x ≤ cntN n x
  | 0, x => Nat.le_refl _
  | n + 1, x => by
    have main : ∀ (l : List PProof), maxBy (depN n) l ≤ sumBy (cntN n) l := fun l => by
      have h1 : ∀ (l : List PProof) (z : Nat), (l.map (depN n)).foldl max z ≤ z + sumBy (cntN n) l := by
        intro l
        induction l with
        | nil => intro z; simp [sumBy]
        | cons y l ih =>
          intro z
          have h2 := ih (max z (depN n y))
          have h3 := dep_cnt n y
          unfold sumBy at *
          rw [List.map_cons, List.foldl_cons, List.map_cons, List.sum_cons]
          omega
      have := h1 l 0
      unfold maxBy
      omega
    have := main x.kids
    show maxBy (depN n) x.kids + 1 ≤ 1 + sumBy (cntN n) x.kids
    omega
theorem sumBy_mem {c : PProof → Nat} : ∀ {l : List PProof} {x : PProof}, x ∈ l → c x ≤ sumBy c l
  | y :: l, x, h => by
    unfold sumBy
    rw [List.map_cons, List.sum_cons]
    rcases List.mem_cons.1 h with rfl | h
    · omega
    · have := sumBy_mem (c := c) h
      unfold sumBy at this
      omega
theorem sumBy_len (n : Nat) : ∀ (l : List PProof), l.length ≤ sumBy (cntN (n + 1)) l
  | [] => Nat.zero_le _
  | y :: l => by
    have := sumBy_len n l
    unfold sumBy at *
    rw [List.map_cons, List.sum_cons, List.length_cons]
    have h : 1 ≤ cntN (n + 1) y := Nat.le_add_right 1 _
    omega
theorem sizeCalls : ∀ (n : Nat) {S : Nat → Prop} (x : PProof) (nm av kv : Value) (rl : Int) (w : World), RdProofs n S w kv x.kids → cntN (n + 1) x ≤ 1048576 →
    Calls Tryz.prog 13 #[.agg #[nm, av, .int .i64 rl, kv]] w fun e w' => e = .returned (.tuple #[.int .i64 (cntN (n + 1) x : Int), .int .i64 (depN (n + 1) x : Int)]) ∧ Below w.heap.size w w'
  | 0, S, x, nm, av, kv, rl, w, h, hc => by
    obtain ⟨ka, kc, rfl, -, -, -⟩ := id h.form
    have h0 := h.zero
    exact sizeWalk (cntN 0) (depN 0) nm av rl ka kc x.kids w (fun i k hk => by rw [h0] at hk; simp at hk) (by rw [h0]; simp) (by rw [h0]; simp [sumBy]) (by rw [h0]; simp)
  | n + 1, S, x, nm, av, kv, rl, w, h, hc => by
    obtain ⟨ka, kc, rfl, -, -, -⟩ := id h.form
    have hs : sumBy (cntN (n + 1)) x.kids ≤ 1048576 := by
      have h1 : cntN (n + 1 + 1) x = 1 + sumBy (cntN (n + 1)) x.kids := rfl
      omega
    refine sizeWalk (cntN (n + 1)) (depN (n + 1)) nm av rl ka kc x.kids w (fun i k hk => ?_) (Nat.le_trans (sumBy_len n _) hs) hs fun k hk => Nat.le_trans (dep_cnt _ _) (Nat.le_trans (sumBy_mem hk) hs)
    obtain ⟨b, off, av', kv', ha, -, hb, d0, d1, d2, d3, hra, hrk⟩ := h.at hk
    obtain ⟨a1, c1, rfl, -, -, -⟩ := id hra.form
    obtain ⟨a2, c2, rfl, -, -, -⟩ := id hrk.form
    exact ⟨b, off, a1, _, c1, a2, _, c2, ha, hb, d0, d1, d2, d3, fun W hW => sizeCalls n k _ _ _ _ W (RdSlice.agree (RProofN.steady n) (Below.agree hW) hrk) (Nat.le_trans (sumBy_mem (List.mem_of_getElem? hk)) hs)⟩

/-! ### key -/
/-- A fact as a text. -/
def keyP (f : PFact) : Str := f.args.foldl (fun s a => s ++ ((⟨#[44]⟩ : Str) ++ a)) f.name
theorem foldl_snoc {α β : Type} {g : β → α → β} {l : List α} {k : Nat} {x : α} {z : β} (h : l[k]? = some x) : (l.take (k + 1)).foldl g z = g ((l.take k).foldl g z) x := by rw [List.take_add_one, h, List.foldl_append]; rfl

set_option maxRecDepth 100000 in
set_option maxHeartbeats 4000000 in
theorem keyCalls {S : Nat → Prop} (f : PFact) (b off : Nat) (av : Value) (w : World) (h0 : w.cell? ⟨b, off, none⟩ = some (.string f.name)) (h1 : w.cell? ⟨b, off + 1, none⟩ = some av) (ha : RdStrs S w av f.args)
    (n1 : f.name.size ≤ 1048576) (n2 : f.args.length ≤ 1048576) (n3 : ∀ a ∈ f.args, a.size ≤ 1048576) :
    Calls Tryz.prog 57 #[.pointer (some ⟨b, off, none⟩)] w fun e w' => e = .returned (.string (keyP f)) ∧ w' = w := by
  obtain ⟨fn, fa⟩ := f
  dsimp only at *
  obtain ⟨a, c, rfl, -, -, -⟩ := id ha.form
  have H := Lib.hid ha
  have N3 := Lib.hid n3
  have HZ0 := Lib.hid (show fn = (fa.take 0).foldl (fun s a => s ++ ((⟨#[44]⟩ : Str) ++ a)) fn from rfl)
  have HE := Lib.hid (show keyP ⟨fn, fa⟩ = fa.foldl (fun s a => s ++ ((⟨#[44]⟩ : Str) ++ a)) fn from rfl)
  clear ha n3
  go_enter Tryz.func57, Tryz.ntmps57
  go_wp2
  go_loop [15, 3] (fun i s => ∃ (k : Nat) (z : Str), k ≤ fa.length ∧ i = .int .i64 k ∧ s = .string z ∧ Hid (z = (fa.take k).foldl (fun s a => s ++ ((⟨#[44]⟩ : Str) ++ a)) fn) ∧ Hid (z.size ≤ 1048576 + k * 1048577)) (fun i _ => fa.length - (intOf i).toNat)
  case atStart => exact ⟨0, fn, Nat.zero_le _, rfl, rfl, HZ0, Lib.hid (by omega)⟩
  case round =>
    clear HZ0
    obtain ⟨k, z, hk, rfl, rfl, HZ, HS⟩ := hrel
    by_cases hlt : k < fa.length
    · obtain ⟨x, hx⟩ : ∃ x, fa[k]? = some x := ⟨_, List.getElem?_eq_getElem hlt⟩
      obtain ⟨b1, o1, rfl, -, -, d1⟩ := RdStrs.at H.out hx
      have hxs := N3.out x (List.mem_of_getElem? hx)
      have HF := Lib.hid (show z ++ ((⟨#[44]⟩ : Str) ++ x) = (fa.take (k + 1)).foldl (fun s a => s ++ ((⟨#[44]⟩ : Str) ++ a)) fn by rw [foldl_snoc hx, HZ.out])
      have hzs := HS.out
      clear hx HZ HS
      go_wp2
      go_round
      case rel => exact ⟨k + 1, _, by omega, by go_num, rfl, HF, Lib.hid (by rw [ByteArray.size_append, ByteArray.size_append, show (⟨#[44]⟩ : ByteArray).size = 1 from rfl]; omega)⟩
      case measure => simp [intOf]; omega
    · have htk : fa.take k = fa := List.take_of_length_le (by omega)
      rw [htk] at HZ
      go_wp2
      go_ret
      exact ⟨by rw [HE.out, ← HZ.out]; rfl, rfl⟩
theorem key_foldl : ∀ (l : List Str) (z : Str), (∀ a ∈ l, a.size ≤ 12) → (l.foldl (fun s a => s ++ ((⟨#[44]⟩ : Str) ++ a)) z).size ≤ z.size + 13 * l.length
  | [], z, _ => by simp
  | a :: l, z, h => by
    have h1 := key_foldl l (z ++ ((⟨#[44]⟩ : Str) ++ a)) fun y hy => h y (by simp [hy])
    rw [ByteArray.size_append, ByteArray.size_append, show (⟨#[44]⟩ : ByteArray).size = 1 from rfl] at h1
    have h2 := h a (by simp)
    rw [List.foldl_cons, List.length_cons]
    omega
theorem key_size {f : PFact} (h1 : f.name.size ≤ 12) (h2 : f.args.length ≤ 4) (h3 : ∀ a ∈ f.args, a.size ≤ 12) : (keyP f).size ≤ maxLen := by
  have hm : (64 : Nat) ≤ maxLen := by simp [maxLen]
  have h4 : f.name.size + 13 * f.args.length ≤ 64 := by omega
  exact Nat.le_trans (key_foldl f.args f.name h3) (Nat.le_trans h4 hm)
end Go.Proofs.YtgoaiohkodbadaaGreat
