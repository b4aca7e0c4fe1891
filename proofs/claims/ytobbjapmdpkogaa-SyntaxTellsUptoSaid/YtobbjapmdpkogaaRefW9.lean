/-
  THE WALK OF cororef1.Print: the same text.
-/
import Derived.Test.YtobbjapmdpkogaaRefW8
namespace Go.Proofs.Ytobbjapmdpkogaa
open Go.RowKit

theorem belowDrew {B : Nat} {a w : World} (h : Below B a w) : Below B a w.drew := ⟨h.os, h.tape, h.output, h.size, h.block⟩

set_option maxRecDepth 100000 in
set_option maxHeartbeats 8000000 in
theorem printTextRef {S : Nat → Prop} (p : List PRule) (v : Value) (w : World) (h : RdRules S w v p) (n1 : p.length ≤ 1048576) (n2 : ∀ r ∈ p, RuleSmall r) (n3 : ∀ r ∈ p, NameSmall r) (n4 : (progB p).length ≤ 1099511627776) :
    Calls Try.prog 24 #[v] w fun e w' => e = .returned (.string (strOf (progB p))) ∧ Below w.heap.size w w' := by
  obtain ⟨a, c, rfl, -, -, -⟩ := id h.form
  have H := Lib.hid h
  have N2 := Lib.hid n2
  have N3 := Lib.hid n3
  clear h n2 n3
  have HP0 := Lib.hid (Below.refl w.heap.size w)
  go_enter Try.func24, Try.ntmps24
  go_wp2
  go_loopw [10, 3] (fun i v wr => ∃ (k : Nat) (z : Str), k ≤ p.length ∧ i = .int .i64 k ∧ v = .string z ∧ Hid (z.data.toList = progB (p.take k)) ∧ Hid (Below w.heap.size w wr)) (fun i _ _ => p.length - (intOf i).toNat)
  case atStart => exact ⟨0, _, Nat.zero_le _, rfl, rfl, Lib.hid rfl, HP0⟩
  case round =>
    clear HP0
    obtain ⟨k, z, hk, rfl, rfl, HZ, HP⟩ := hrel
    by_cases hlt : k < p.length
    · obtain ⟨x, hx⟩ : ∃ x, p[k]? = some x := ⟨_, List.getElem?_eq_getElem hlt⟩
      have hmem := List.mem_of_getElem? hx
      obtain ⟨b1, o1, tv, bv, rfl, -, hb1, d0, d1, d2, d3, htv, hbv⟩ := RdRules.at H.out hx
      obtain ⟨ta, tc, rfl, -, -, -⟩ := id htv.form
      obtain ⟨ba, bc, rfl, -, -, -⟩ := id hbv.form
      have HRA := Lib.hid (show RuleAt S w b1 (o1 + k * 4) x (.slice ta x.head.terms.length tc) (.slice ba x.body.length bc) from ⟨hb1, d0, d1, d2, d3, htv, hbv⟩)
      have HS := Lib.hid (N2.out x hmem)
      have HN := Lib.hid (N3.out x hmem)
      have hb0 := HS.out.b0
      have hlen := progB_take hx
      have hrl : (ruleB x).length = (atomB x.head).length + ((tailB x.body).length + 2) := by unfold ruleB; simp
      have HTK := Lib.hid (show progB (p.take (k + 1)) = progB (p.take k) ++ ((atomB x.head ++ tailB x.body) ++ [46, 10]) by
        rw [List.take_add_one, hx]
        show progB (p.take k ++ [x]) = _
        rw [progB_append]
        simp [progB, ruleB])
      clear d0 d1 d2 d3
      obtain ⟨-, d0, d1, d2, d3, -, -⟩ := HRA.out.up HP.out
      generalize progB (p.take k) = pl at *
      have hzs : z.size = pl.length := by rw [← bytes_size, HZ.out]
      have HP1 := Lib.hid (HP.out.alloc HP.out.size (.cells #[.bool x.head.neg, .string x.head.name, .slice ta x.head.terms.length tc, .slice ba x.body.length bc] 33))
      have HR1 := Lib.hid (Blk.new wr 33 #[.bool x.head.neg, .string x.head.name, .slice ta x.head.terms.length tc, .slice ba x.body.length bc])
      have KA := Lib.hid (atomTextRef x.head _ _ (HRA.out.up HP1.out).t HS.out.h1 HS.out.h2 HN.out.h)
      have hsx : (strOf (atomB x.head)).size = (atomB x.head).length := by simp [strOf, ByteArray.size]
      have k1 : ¬ (9223372036854775807 < z.size + (strOf (atomB x.head)).size) := by omega
      clear hx hmem htv hbv
      go_wp2_with (go_at_call 29; refine (KA.out).mono ?_; rintro e w2 ⟨rfl, hb2⟩; have HP2 := Lib.hid (HP1.out.trans (hb2.mono HP1.out.size)); have HR2 := Lib.hid (HR1.out.below hb2 HR1.out.lt); clear hb2; have r3 := HR2.out.cell 3; simp only [List.getElem?_toArray, List.getElem?_cons_zero, List.getElem?_cons_succ] at r3)
      have HZ4 := Lib.hid (show (z ++ strOf (atomB x.head)).data.toList = pl ++ (atomB x.head ++ tailB (x.body.take 0)) from by
        rw [bytes_app, HZ.out, bytes_of_strOf]
        simp [tailB])
      clear HP HP1 HR1 HR2 d0 d1 d2 d3 KA r3 HZ k1
      go_loopw [22, 3] (fun i v wr => ∃ (j : Nat) (z : Str), j ≤ x.body.length ∧ i = .int .i64 j ∧ v = .string z ∧ Hid (z.data.toList = pl ++ (atomB x.head ++ tailB (x.body.take j))) ∧ Hid (Below w.heap.size w wr)) (fun i _ _ => x.body.length - (intOf i).toNat)
      case atStart => exact ⟨0, _, Nat.zero_le _, rfl, rfl, HZ4, HP2⟩
      case round =>
        clear HZ4 HP2 hzs hsx
        obtain ⟨j, z, hj, rfl, rfl, HZ, HP⟩ := hrel
        have hzs : z.size = pl.length + ((atomB x.head).length + (tailB (x.body.take j)).length) := by rw [← bytes_size, HZ.out, List.length_append, List.length_append]
        by_cases hlj : j < x.body.length
        · obtain ⟨y, hy⟩ : ∃ y, x.body[j]? = some y := ⟨_, List.getElem?_eq_getElem hlj⟩
          have hym := List.mem_of_getElem? hy
          obtain ⟨b4, o4, yv, rfl, -, hb4, e0, e1, e2, hyv⟩ := RdAtoms.at HRA.out.b hy
          obtain ⟨ya, yc, rfl, -, -, -⟩ := id hyv.form
          replace e0 := (cell_below HP.out hb4 _).trans e0
          replace e1 := (cell_below HP.out hb4 _).trans e1
          replace e2 := (cell_below HP.out hb4 _).trans e2
          have HY1 := Lib.hid (HS.out.b1 y hym)
          have HY2 := Lib.hid (HS.out.b2 y hym)
          have HY3 := Lib.hid (HN.out.b y hym)
          have HYV := Lib.hid hyv
          obtain ⟨sp, HSP⟩ : ∃ sp : Bytes, Hid ((if x.body.take j = [] then ([32, 58, 45, 32] : Bytes) else [44, 32]) = sp) := ⟨_, Lib.hid rfl⟩
          have HTJ := Lib.hid (show tailB (x.body.take (j + 1)) = tailB (x.body.take j) ++ (sp ++ atomB y) by
            rw [List.take_add_one, hy]
            show tailB (x.body.take j ++ [y]) = _
            rw [tailB_snoc, HSP.out])
          have htl := tailB_take x.body (j + 1)
          rw [HTJ.out] at htl
          simp only [List.length_append] at htl
          have HP1 := Lib.hid (HP.out.alloc HP.out.size (.cells #[.bool y.neg, .string y.name, .slice ya y.terms.length yc] 30))
          have HA1 := Lib.hid (Blk.new wr 30 #[.bool y.neg, .string y.name, .slice ya y.terms.length yc])
          have hsy : (strOf (atomB y)).size = (atomB y).length := by simp [strOf, ByteArray.size]
          obtain ⟨W1, hW1⟩ : ∃ W1, wr.alloc (.cells #[.bool y.neg, .string y.name, .slice ya y.terms.length yc] 30) = W1 := ⟨_, rfl⟩
          rw [hW1] at HP1 HA1
          have KB : Hid (∀ W, Below w.heap.size w W → Calls Try.prog 29 #[.agg #[.bool y.neg, .string y.name, .slice ya y.terms.length yc]] W fun e w' => e = .returned (.string (strOf (atomB y))) ∧ Below W.heap.size W w') := Lib.hid fun W hW => atomTextRef y _ _ (HYV.out.up hW) HY1.out HY2.out HY3.out
          have a0 := HA1.out.cell 0
          have a1 := HA1.out.cell 1
          have a2 := HA1.out.cell 2
          simp only [List.getElem?_toArray, List.getElem?_cons_zero, List.getElem?_cons_succ] at a0 a1 a2
          by_cases hj0 : j = 0
          · have hsp : sp = [32, 58, 45, 32] := by rw [← HSP.out, hj0]; simp
            have hm : min (j : Int) 1 = 0 := by rw [hj0]; rfl
            have HSP2 := Lib.hid hsp
            have hspl : sp.length = 4 := by rw [hsp]; rfl
            have k1 : ¬ (9223372036854775807 < z.size + 4) := by omega
            have k2 : ¬ (9223372036854775807 < z.size + 4 + (strOf (atomB y)).size) := by omega
            clear hy hym hyv hsp hj0 hzs hsy hspl htl hrl
            go_wp2
            have HA2 := Lib.hid (HA1.out.alloc (.cells #[.string ⟨#[32, 58, 45, 32]⟩, .string ⟨#[44, 32]⟩] 9))
            have HA3 := Lib.hid (Blk.new W1 9 #[.string ⟨#[32, 58, 45, 32]⟩, .string ⟨#[44, 32]⟩])
            have f0 := HA2.out.cell 0
            have f1 := HA2.out.cell 1
            have f2 := HA2.out.cell 2
            simp only [List.getElem?_toArray, List.getElem?_cons_zero, List.getElem?_cons_succ] at f0 f1 f2
            have HZ2 := Lib.hid (show (z ++ ⟨#[32, 58, 45, 32]⟩ ++ strOf (atomB y)).data.toList = pl ++ (atomB x.head ++ tailB (x.body.take (j + 1))) from by
              rw [bytes_app, bytes_app, HZ.out, bytes_of_strOf, HTJ.out, HSP2.out]
              simp)
            clear HZ HSP HSP2 HTJ HP HTK
            have HPD := Lib.hid (belowDrew HP1.out)
            have HPE := Lib.hid (belowDrew (HP1.out.alloc HP1.out.size (.cells #[.string ⟨#[32, 58, 45, 32]⟩, .string ⟨#[44, 32]⟩] 9)))
            have HA4 := Lib.hid (Blk.drew HA3.out)
            go_region_law (first
              | (go_simp; go_at_call 29; refine (KB.out _ HPD.out).mono ?_; rintro e w5 ⟨rfl, hb5⟩; have HP5 := Lib.hid (HPD.out.trans (hb5.mono HPD.out.size)); clear hb5)
              | (go_simp; go_at_call 29; refine (KB.out _ HPE.out).mono ?_; rintro e w5 ⟨rfl, hb5⟩; have HP5 := Lib.hid (HPE.out.trans (hb5.mono HPE.out.size)); have s0 := (HA4.out.below hb5 HA4.out.lt).cell 0; simp only [List.getElem?_toArray, List.getElem?_cons_zero] at s0; clear hb5))
            all_goals
              go_wp2
              go_roundw
              case measure => simp [intOf]; omega
              case rel =>
                first
                  | exact ⟨j + 1, _, by omega, by go_num, rfl, HZ2, HP5⟩
                  | exact ⟨j + 1, _, by omega, by go_num, rfl, HZ2, Lib.hid (HP5.out.alloc HP5.out.size _)⟩
                  | exact ⟨j + 1, _, by omega, by go_num, rfl, HZ2, Lib.hid (belowDrew (HP5.out.alloc HP5.out.size _))⟩
                  | exact ⟨j + 1, _, by omega, by go_num, rfl, HZ2, Lib.hid (belowDrew HP5.out)⟩
          · have hsp : sp = [44, 32] := by
              rw [← HSP.out, if_neg]
              intro e
              have h2 : (x.body.take j).length = 0 := by rw [e]; rfl
              rw [List.length_take] at h2
              omega
            have hm : min (j : Int) 1 = 1 := by omega
            have HSP2 := Lib.hid hsp
            have hspl : sp.length = 2 := by rw [hsp]; rfl
            have k1 : ¬ (9223372036854775807 < z.size + 2) := by omega
            have k2 : ¬ (9223372036854775807 < z.size + 2 + (strOf (atomB y)).size) := by omega
            clear hy hym hyv hsp hj0 hzs hsy hspl htl hrl
            go_wp2
            have HA2 := Lib.hid (HA1.out.alloc (.cells #[.string ⟨#[32, 58, 45, 32]⟩, .string ⟨#[44, 32]⟩] 9))
            have HA3 := Lib.hid (Blk.new W1 9 #[.string ⟨#[32, 58, 45, 32]⟩, .string ⟨#[44, 32]⟩])
            have f0 := HA2.out.cell 0
            have f1 := HA2.out.cell 1
            have f2 := HA2.out.cell 2
            simp only [List.getElem?_toArray, List.getElem?_cons_zero, List.getElem?_cons_succ] at f0 f1 f2
            have HZ2 := Lib.hid (show (z ++ ⟨#[44, 32]⟩ ++ strOf (atomB y)).data.toList = pl ++ (atomB x.head ++ tailB (x.body.take (j + 1))) from by
              rw [bytes_app, bytes_app, HZ.out, bytes_of_strOf, HTJ.out, HSP2.out]
              simp)
            clear HZ HSP HSP2 HTJ HP HTK
            have HPD := Lib.hid (belowDrew HP1.out)
            have HPE := Lib.hid (belowDrew (HP1.out.alloc HP1.out.size (.cells #[.string ⟨#[32, 58, 45, 32]⟩, .string ⟨#[44, 32]⟩] 9)))
            have HA4 := Lib.hid (Blk.drew HA3.out)
            go_region_law (first
              | (go_simp; go_at_call 29; refine (KB.out _ HPD.out).mono ?_; rintro e w5 ⟨rfl, hb5⟩; have HP5 := Lib.hid (HPD.out.trans (hb5.mono HPD.out.size)); clear hb5)
              | (go_simp; go_at_call 29; refine (KB.out _ HPE.out).mono ?_; rintro e w5 ⟨rfl, hb5⟩; have HP5 := Lib.hid (HPE.out.trans (hb5.mono HPE.out.size)); have s0 := (HA4.out.below hb5 HA4.out.lt).cell 1; simp only [List.getElem?_toArray, List.getElem?_cons_zero, List.getElem?_cons_succ] at s0; clear hb5))
            all_goals
              go_wp2
              go_roundw
              case measure => simp [intOf]; omega
              case rel =>
                first
                  | exact ⟨j + 1, _, by omega, by go_num, rfl, HZ2, HP5⟩
                  | exact ⟨j + 1, _, by omega, by go_num, rfl, HZ2, Lib.hid (HP5.out.alloc HP5.out.size _)⟩
                  | exact ⟨j + 1, _, by omega, by go_num, rfl, HZ2, Lib.hid (belowDrew (HP5.out.alloc HP5.out.size _))⟩
                  | exact ⟨j + 1, _, by omega, by go_num, rfl, HZ2, Lib.hid (belowDrew HP5.out)⟩
        · have htj : x.body.take j = x.body := List.take_of_length_le (by omega)
          rw [htj] at HZ hzs
          have k3 : ¬ (9223372036854775807 < z.size + 2) := by omega
          have HZ2 := Lib.hid (show (z ++ ⟨#[46, 10]⟩).data.toList = progB (p.take (k + 1)) from by
            rw [bytes_app, HZ.out, HTK.out]
            simp)
          clear htj hzs hrl hlen HZ HTK
          go_wp2
          go_roundw
          case rel => exact ⟨k + 1, _, by omega, by go_num, rfl, HZ2, HP⟩
          case measure => simp [intOf]; omega
    · have htk : p.take k = p := List.take_of_length_le (by omega)
      rw [htk] at HZ
      clear htk
      go_wp2
      go_ret
      exact ⟨ret_str (by apply str_eq; rw [bytes_of_strOf, HZ.out]), HP.out⟩
end Go.Proofs.Ytobbjapmdpkogaa
