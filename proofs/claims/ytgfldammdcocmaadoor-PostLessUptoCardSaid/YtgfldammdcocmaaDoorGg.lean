import Derived.Test.YtgfldammdcocmaaDoorGf
import Derived.WalkMore
namespace Go.Proofs.YtgfldammdcocmaaDoor
open Go.RowKit

/-- what is left to be walked. -/
def mu (L T i frm : Nat) (star : Int) : Nat := (L + 1 - (star + 1).toNat) * ((T + 2) * (L + 2)) + (T - frm) * (L + 2) + (L - i)
theorem mu_adv {L T i frm : Nat} {star : Int} (h : i < L) : mu L T (i + 1) frm star < mu L T i frm star := by unfold mu; omega
theorem mu_back {L T i frm : Nat} {star : Int} (h : frm < T) : mu L T (star + 1).toNat (frm + 1) star < mu L T i frm star := by
  unfold mu
  have e : T - frm = (T - (frm + 1)) + 1 := by omega
  rw [e, Nat.add_mul (T - (frm + 1)) 1 (L + 2)]
  generalize (L + 1 - (star + 1).toNat) * ((T + 2) * (L + 2)) = A
  generalize (T - (frm + 1)) * (L + 2) = B
  omega
theorem mu_star {L T i j frm : Nat} {star : Int} (h0 : -1 ≤ star) (h : star + 1 ≤ i) (hi : i < L) : mu L T (i + 1) j (i : Int) < mu L T i frm star := by
  unfold mu
  have e1 : ((i : Int) + 1).toNat = i + 1 := by omega
  rw [e1]
  have e2 : L + 1 - (star + 1).toNat = (L + 1 - (i + 1)) + 1 + (i - (star + 1).toNat) := by omega
  rw [e2, Nat.add_mul _ _ ((T + 2) * (L + 2)), Nat.add_mul _ 1 ((T + 2) * (L + 2))]
  generalize (L + 1 - (i + 1)) * ((T + 2) * (L + 2)) = A
  generalize (i - (star + 1).toNat) * ((T + 2) * (L + 2)) = B
  have h3 : (T - j) * (L + 2) ≤ T * (L + 2) := Nat.mul_le_mul_right _ (by omega)
  have h4 : (T + 2) * (L + 2) = T * (L + 2) + 2 * (L + 2) := Nat.add_mul _ _ _
  rw [h4]
  generalize (T - j) * (L + 2) = C at *
  generalize T * (L + 2) = D at *
  omega
theorem mu_start (L T : Nat) : mu L T 0 0 (-1) < fuelF L T := by
  unfold mu fuelF
  have e1 : ((-1 : Int) + 1).toNat = 0 := by decide
  rw [e1, Nat.sub_zero, Nat.sub_zero, Nat.sub_zero]
  have e2 : (L + 2) * ((T + 2) * (L + 2)) = (L + 1) * ((T + 2) * (L + 2)) + (T + 2) * (L + 2) := by rw [show L + 2 = (L + 1) + 1 by omega, Nat.add_mul (L + 1) 1, Nat.one_mul]
  rw [e2]
  have h4 : (T + 2) * (L + 2) = T * (L + 2) + 2 * (L + 2) := Nat.add_mul _ _ _
  generalize (L + 1) * ((T + 2) * (L + 2)) = A
  rw [h4]
  generalize T * (L + 2) = D
  omega

theorem clsRow {w : World} {g o d0 d1 d2 d3 : Nat} (q1 : w.cell? ⟨g, o, none⟩ = some (.int .u64 (d0 : Nat))) (q2 : w.cell? ⟨g, o + 1, none⟩ = some (.int .u64 (d1 : Nat))) (q3 : w.cell? ⟨g, o + 2, none⟩ = some (.int .u64 (d2 : Nat))) (q4 : w.cell? ⟨g, o + 3, none⟩ = some (.int .u64 (d3 : Nat))) (m : Nat) :
    ∀ i, i < 4 → (w.drewN m).cell? ⟨g, o + i, none⟩ = some (.int .u64 ([d0, d1, d2, d3].getD i 0 : Nat)) := by
  intro i hi
  match i, hi with
  | 0, _ => exact q1
  | 1, _ => exact q2
  | 2, _ => exact q3
  | 3, _ => exact q4
theorem Below.drewN {B : Nat} {a w : World} (h : Below B a w) (n : Nat) : Below B a (w.drewN n) := ⟨h.os, h.tape, h.output, h.size, h.block⟩

def RelW (wx : World) (l : List Pc) (t : List UInt8) (R : Bool) (g : Nat) (v8 v9 v10 v11 : Value) (wr : World) : Prop :=
  ∃ i j star frm, v8 = .int .i64 (i : Nat) ∧ v9 = .int .i64 (j : Nat) ∧ v10 = .int .i64 star ∧ v11 = .int .i64 (frm : Nat) ∧ i ≤ l.length ∧ j ≤ t.length ∧ -1 ≤ star ∧ star + 1 ≤ i ∧ frm ≤ t.length ∧
    walkF l t g i j star frm = R ∧ mu l.length t.length i frm star < g ∧ Below wx.heap.size wx wr

set_option maxHeartbeats 4000000 in
set_option maxRecDepth 100000 in
theorem glob_some (b1 o1 c1 b2 o2 c2 : Nat) (p t : List UInt8) (w : World) (hlp : p.length ≤ 1048576) (hlt : t.length ≤ 9223372036854775807) (hc2 : BytesAt w b2 o2 t) (hb2 : t ≠ [] → b2 < w.heap.size) (hG : GlobAt w)
   (hp : Calls Tryd.prog 57 #[.slice (some ⟨b1, o1, none⟩) p.length c1] w fun e w' => ∃ v, e = .returned v ∧ w'.ownsRow w.heap.size 104 5 v (piecesF p).length ((piecesF p).flatMap encP) ∧ Below w.heap.size w w') :
   Calls Tryd.prog 44 #[.slice (some ⟨b1, o1, none⟩) p.length c1, .slice (some ⟨b2, o2, none⟩) t.length c2] w fun e w' => e = .returned (.bool (globF p t)) ∧ Below w.heap.size w w' := by
  obtain ⟨l, hl⟩ : ∃ l, piecesF p = l := ⟨_, rfl⟩
  obtain ⟨n, hn⟩ : ∃ n, t.length = n := ⟨_, rfl⟩
  have hwf := wf_piecesF p
  have hll := piecesF_len p
  have hglob : globF p t = if l.any badP then false else walkF l t (fuelF l.length t.length) 0 0 (-1) 0 := by rw [← hl]; rfl
  rw [hl] at hp hwf hll
  obtain ⟨L, hL⟩ : ∃ L, l.length = L := ⟨_, rfl⟩
  have hn' : (n : Int) ≤ 9223372036854775807 := by omega
  have hL' : (L : Int) ≤ 1048577 := by omega
  have HP := Lib.hid hp
  have HL := Lib.hid hL
  have HN := Lib.hid hn
  have HWF := Lib.hid hwf
  have HC2 := Lib.hid hc2
  have HB2 := Lib.hid hb2
  have HG := Lib.hid hG
  have HGL := Lib.hid hglob
  rw [hn]
  clear hp hL hn hwf hc2 hb2 hG hglob hlp hlt hll hl
  go_enter Tryd.func44, Tryd.ntmps44
  go_wp2
  go_step3
  go_wp2_with fail
  refine HP.out.mono ?_
  rintro e w1 ⟨v, rfl, hown, hbel⟩
  have HB := Lib.hid hbel
  have HO := Lib.hid hown
  rcases hown.2 with ⟨rfl, h0⟩ | ⟨g, cap, cur, rfl, hg1, hg2, hg3, hg4, hg5, hg6⟩
  · have hl0 : l = [] := List.eq_nil_of_length_eq_zero h0
    have hglob : globF p t = decide (t.length = 0) := by
      rw [HGL.out, hl0]
      show walkF [] t (fuelF 0 t.length) 0 0 (-1) 0 = _
      unfold fuelF
      rw [walkF]
      by_cases ht : t.length = 0
      · rw [if_neg (fun h => h.elim (fun h => by have := h.1; simp at this) (fun h => by omega)), if_pos (show (0 : Nat) = ([] : List Pc).length from rfl), decide_eq_true ht]
      · rw [if_pos (Or.inr ⟨rfl, by omega⟩), if_neg (fun h => by have := h.1; simp at this), if_pos (Or.inl (by decide)), decide_eq_false ht]
    have HGB := Lib.hid hglob
    have hL0 : L = 0 := by have := HL.out; omega
    subst hL0
    clear hown hl0 hglob h0
    go_wp2
    go_loopg [16] 0 (fun g v wr => v = .int .i64 0 ∧ Below w1.heap.size w1 wr)
    case atStart => exact ⟨rfl, Below.refl _ _⟩
    case round =>
      obtain ⟨rfl, hb1⟩ := hrel
      have HB1 := Lib.hid hb1
      clear hb1
      go_wp2
      go_step3
      go_wp2
      go_loopg [8, 9, 10, 11] 0 (fun g v8 v9 v10 v11 wq => v8 = .int .i64 0 ∧ v9 = .int .i64 0 ∧ v10 = .int .i64 (-1) ∧ v11 = .int .i64 0 ∧ Below w1.heap.size w1 wq)
      case atStart => exact ⟨rfl, rfl, rfl, rfl, HB1.out⟩
      case round =>
        obtain ⟨rfl, rfl, rfl, rfl, hb2⟩ := hrel
        have HB2 := Lib.hid hb2
        clear hb2
        go_wp2
        go_loopg [8, 9, 11] 0 (fun g v8 v9 v11 wq => v8 = .int .i64 0 ∧ v9 = .int .i64 0 ∧ v11 = .int .i64 0 ∧ Below w1.heap.size w1 wq)
        case atStart => exact ⟨rfl, rfl, rfl, HB2.out⟩
        case round =>
          obtain ⟨rfl, rfl, rfl, hb3⟩ := hrel
          have HBX := Lib.hid (HB.out.trans (hb3.mono HB.out.size))
          clear hb3
          by_cases ht : t.length = 0
          · have ht' : n = 0 := by have := HN.out; omega
            have HE := Lib.hid (show globF p t = true by rw [HGB.out, decide_eq_true ht])
            clear ht
            subst ht'
            go_wp2
            try rw [Exit.noGoto_ret]
            go_ret
            exact ⟨by rw [HE.out]; rfl, HBX.out⟩
          · have ht' : (0 : Int) < n := by have := HN.out; omega
            have HE := Lib.hid (show globF p t = false by rw [HGB.out, decide_eq_false ht])
            clear ht
            go_wp2
            go_quiet (fail)
            go_wp2
            try rw [Exit.noGoto_ret]
            go_ret
            exact ⟨by rw [HE.out]; rfl, Below.drewN HBX.out _⟩
  · have hgl : g < w1.heap.size := (Array.getElem?_eq_some_iff.1 hg2).1
    have hrow := rowAt_of HWF.out HO.out
    have HROW := Lib.hid hrow
    have HGB := Lib.hid hg1
    have hcap : (L : Int) ≤ cap := by have := HL.out; omega
    clear hown hbel hg1 hg2 hg3 hg4 hg5 hg6 hrow
    rw [HL.out]
    go_wp2
    go_loopg [16] l.length (fun g v wr => RelG1 w1 l g v wr)
    case atStart => exact ⟨0, by omega, by omega, rfl, fun i hi => by omega, Below.refl _ _⟩
    case round =>
      obtain ⟨k, hk, hgk, rfl, hbad, hbel⟩ := hrel
      have HBAD := Lib.hid hbad
      have HBL := Lib.hid hbel
      have HGK := Lib.hid hgk
      have hszr := hbel.size
      clear hbad hbel hgk
      by_cases hkL : k < l.length
      · have hkL' : (k : Int) < L := by have := HL.out; omega
        have hgr : g < wr.heap.size := by omega
        obtain ⟨st, d0, d1, d2, d3, hnth, hget⟩ := nthP_get HWF.out hkL
        obtain ⟨q0, q1, q2, q3, q4⟩ := (HROW.out.below HBL.out hgl) k st d0 d1 d2 d3 hget
        have HNTH := Lib.hid hnth
        have HKL := Lib.hid hkL
        have hgw := HG.out.below (HB.out.trans (HBL.out.mono HB.out.size)) HG.out.lt
        have n0 := hgw.n0
        have n1 := hgw.n1
        have n2 := hgw.n2
        have n3 := hgw.n3
        have hgw0 : 0 < wr.heap.size := by have := hgw.lt; omega
        clear hnth hget hkL hszr hgw
        cases st
        · by_cases hz : (d0 : Int) = 0 ∧ (d1 : Int) = 0 ∧ (d2 : Int) = 0 ∧ (d3 : Int) = 0
          · have hEq : ∀ W, (Op.equalIn 10000 102 (.agg #[.int .u64 (d0 : Nat), .int .u64 (d1 : Nat), .int .u64 (d2 : Nat), .int .u64 (d3 : Nat)]) (.agg #[.int .u64 0, .int .u64 0, .int .u64 0, .int .u64 0])).run Tryd.prog W = .ok true W := fun W => by rw [eq4, decide_eq_true hz]
            have HZ := Lib.hid hz
            clear hz
            go_wp2
            try rw [Exit.noGoto_ret]
            go_ret
            have hbad : badP (nthP l k) = true := by
              rw [HNTH.out]
              obtain ⟨z0, z1, z2, z3⟩ := HZ.out
              have z0' : d0 = 0 := by omega
              have z1' : d1 = 0 := by omega
              have z2' : d2 = 0 := by omega
              have z3' : d3 = 0 := by omega
              subst z0' z1' z2' z3'
              rfl
            have hany : l.any badP = true := by
              rw [List.any_eq_true]
              exact ⟨nthP l k, by unfold nthP; rw [List.getD_eq_getElem?_getD, List.getElem?_eq_getElem HKL.out]; exact List.getElem_mem _, hbad⟩
            refine ⟨by rw [HGL.out, if_pos hany]; rfl, ?_⟩
            exact (HB.out.trans (HBL.out.mono HB.out.size)).alloc (Nat.le_trans HB.out.size HBL.out.size) _
          · have hEq : ∀ W, (Op.equalIn 10000 102 (.agg #[.int .u64 (d0 : Nat), .int .u64 (d1 : Nat), .int .u64 (d2 : Nat), .int .u64 (d3 : Nat)]) (.agg #[.int .u64 0, .int .u64 0, .int .u64 0, .int .u64 0])).run Tryd.prog W = .ok false W := fun W => by rw [eq4, decide_eq_false hz]
            have HZ := Lib.hid hz
            clear hz
            go_wp2
            go_roundg (L - (k + 1))
            case measure => have := HL.out; have := HKL.out; have := HGK.out; omega
            case rel =>
              have hb0 : badP (nthP l k) = false := by
                rw [HNTH.out]
                unfold badP
                rw [Bool.and_eq_false_iff]; right
                rw [decide_eq_false_iff_not]
                intro e
                simp only [List.cons.injEq, and_true] at e
                exact HZ.out ⟨by omega, by omega, by omega, by omega⟩
              refine ⟨k + 1, by have := HKL.out; omega, by have := HL.out; omega, by first | rfl | go_num, fun i hi => ?_, HBL.out.alloc HBL.out.size _⟩
              by_cases e : i = k
              · rw [e]; exact hb0
              · exact HBAD.out i (by omega)
        · go_wp2
          go_roundg (L - (k + 1))
          case measure => have := HL.out; have := HKL.out; have := HGK.out; omega
          case rel =>
            have hb0 : badP (nthP l k) = false := by rw [HNTH.out]; rfl
            refine ⟨k + 1, by have := HKL.out; omega, by have := HL.out; omega, by first | rfl | go_num, fun i hi => ?_, HBL.out.alloc HBL.out.size _⟩
            by_cases e : i = k
            · rw [e]; exact hb0
            · exact HBAD.out i (by omega)
      · have hkL' : (L : Int) ≤ k := by have := HL.out; omega
        have hany : l.any badP = false := by
          rw [List.any_eq_false]
          intro x hx
          obtain ⟨i, hi, rfl⟩ := List.getElem_of_mem hx
          have := HBAD.out i (by omega)
          unfold nthP at this
          rw [List.getD_eq_getElem?_getD, List.getElem?_eq_getElem hi] at this
          simpa using this
        have HGL2 := Lib.hid (show globF p t = walkF l t (fuelF l.length t.length) 0 0 (-1) 0 by rw [HGL.out, hany]; rfl)
        clear hany hkL
        have hdk : decide ((k : Int) < (L : Int)) = false := by rw [decide_eq_false_iff_not]; omega
        have hdk' : decide (k < L) = false := by rw [decide_eq_false_iff_not]; omega
        have HBX := Lib.hid (HB.out.trans (HBL.out.mono HB.out.size))
        have HROWX := Lib.hid (HROW.out.below HBL.out hgl)
        have HGX := Lib.hid (HG.out.below HBX.out HG.out.lt)
        have HCX := Lib.hid (show BytesAt wr b2 o2 t from fun q hq => by
          rw [HBX.out.cell (p := ⟨b2, o2 + q, none⟩) (HB2.out (fun e => by rw [e] at hq; simp at hq))]
          exact HC2.out q hq)
        clear hszr
        obtain ⟨wx, hwx⟩ : ∃ wx, wx = wr := ⟨_, rfl⟩
        subst hwx
        go_wp2
        go_step3
        go_wp2
        go_loopg [8, 9, 10, 11] (fuelF l.length t.length) (fun g v8 v9 v10 v11 wq => RelW wx l t (globF p t) g v8 v9 v10 v11 wq)
        case atStart => exact ⟨0, 0, -1, 0, rfl, rfl, rfl, rfl, by omega, by omega, by omega, by omega, by omega, HGL2.out.symm, mu_start _ _, Below.refl _ _⟩
        case round =>
          obtain ⟨G, hG'⟩ : ∃ G, G = gk := ⟨_, rfl⟩
          subst hG'
          obtain ⟨i0, j0, star, frm0, rfl, rfl, rfl, rfl, hrel⟩ := hrel
          have hbq := hrel.2.2.2.2.2.2.2
          have HBQ := Lib.hid hbq
          clear hbq
          have HREL := Lib.hid hrel
          clear hrel
          go_wp2
          go_loopg [8, 9, 11] G (fun g v8 v9 v11 wq => g ≤ G ∧ RelW wx l t (globF p t) g v8 v9 (.int .i64 star) v11 wq)
          case atStart => exact ⟨Nat.le_refl _, i0, j0, star, frm0, rfl, rfl, rfl, rfl, HREL.out⟩
          case round =>
            obtain ⟨hgg, i, j, star', frm, rfl, rfl, hs10, rfl, hi, hj, hst, hsi, hft, hw, hm, hbw⟩ := hrel
            obtain rfl : star = star' := by injection hs10
            have HGG := Lib.hid hgg
            have HI := Lib.hid hi
            have HJ := Lib.hid hj
            have HST := Lib.hid hst
            have HSI := Lib.hid hsi
            have HFT := Lib.hid hft
            have HW := Lib.hid hw
            have HM := Lib.hid hm
            have HBW := Lib.hid hbw
            have HBX2 := Lib.hid (HBX.out.trans (hbw.mono HBX.out.size))
            have hgx : g < wx.heap.size := Nat.lt_of_lt_of_le hgl HBL.out.size
            have hrow2 := HROWX.out.below hbw hgx
            have hgl2 := HGX.out.below hbw HGX.out.lt
            have hct2 : BytesAt wr b2 o2 t := fun q hq => by
              rw [hbw.cell (p := ⟨b2, o2 + q, none⟩) (Nat.lt_of_lt_of_le (HB2.out (fun e => by rw [e] at hq; simp at hq)) HBX.out.size)]
              exact HCX.out q hq
            have e0 := hgl2.e0
            have e1 := hgl2.e1
            have e2 := hgl2.e2
            have e3 := hgl2.e3
            have hi' : (i : Int) ≤ L := by have := HL.out; omega
            have hj' : (j : Int) ≤ n := by have := HN.out; omega
            have HJN := Lib.hid hj
            clear hgg hi hj hst hsi hft hw hm hbw hgl2 hgx
            by_cases hiL : i < l.length
            · have hiL' : (i : Int) < L := by have := HL.out; omega
              have hiB : ((i : Int) == (L : Int)) = false := by rw [beq_eq_false_iff_ne]; omega
              obtain ⟨st, d0, d1, d2, d3, hnth, hget⟩ := nthP_get HWF.out hiL
              obtain ⟨q0, q1, q2, q3, q4⟩ := hrow2 i st d0 d1 d2 d3 hget
              have hwf4 : Wf4 [d0, d1, d2, d3] := HWF.out _ (List.mem_of_getElem? hget)
              have HWF4 := Lib.hid hwf4
              have HNTH := Lib.hid hnth
              have HIL := Lib.hid hiL
              clear hnth hget hiL hwf4 hrow2
              cases st
              · have HCND := Lib.hid (show (i < l.length ∧ (nthP l i).1 = false) ∨ (i = l.length ∧ j < t.length) from Or.inl ⟨HIL.out, by rw [HNTH.out]⟩)
                by_cases hjT : j < t.length
                · have hjT' : (j : Int) < n := by have := HN.out; omega
                  have hcb := hct2 j hjT
                  obtain ⟨z, hz⟩ : ∃ z, (bget t j).toNat = z := ⟨_, rfl⟩
                  rw [hz] at hcb
                  have hz8 : z < 256 := by rw [← hz]; exact UInt8.toNat_lt _
                  have HZ := Lib.hid hz
                  have HJT := Lib.hid hjT
                  clear hz hct2 hjT
                  by_cases hfu : (d0 : Int) = 18446744073709551615 ∧ (d1 : Int) = 18446744073709551615 ∧ (d2 : Int) = 18446744073709551615 ∧ (d3 : Int) = 18446744073709551615
                  · have hEq : ∀ W, (Op.equalIn 10000 102 (.agg #[.int .u64 (d0 : Nat), .int .u64 (d1 : Nat), .int .u64 (d2 : Nat), .int .u64 (d3 : Nat)]) (.agg #[.int .u64 18446744073709551615, .int .u64 18446744073709551615, .int .u64 18446744073709551615, .int .u64 18446744073709551615])).run Tryd.prog W = .ok true W := fun W => by rw [eq4, decide_eq_true hfu]
                    have HFIT := Lib.hid (show i < l.length ∧ j < t.length ∧ fitsP (nthP l i) (bget t j).toNat = true from ⟨HIL.out, HJT.out, by
                      rw [HNTH.out]; unfold fitsP
                      rw [Bool.or_eq_true]; left
                      rw [decide_eq_true_iff]
                      obtain ⟨z0, z1, z2, z3⟩ := hfu
                      unfold full4
                      rw [show d0 = 18446744073709551615 by omega, show d1 = 18446744073709551615 by omega, show d2 = 18446744073709551615 by omega, show d3 = 18446744073709551615 by omega]⟩)
                    clear hfu
                    go_wp2
                    go_quiet (fail)
                    go_wp2
                    go_roundg (gk - 1)
                    case measure => have := HM.out; omega
                    case rel =>
                      have hn : walkF l t (gk - 1) (i + 1) (j + 1) star frm = globF p t := by
                        rw [← HW.out]; obtain ⟨g', rfl⟩ : ∃ g', gk = g' + 1 := ⟨gk - 1, by have := HM.out; omega⟩
                        conv => rhs; rw [walkF, if_pos HCND.out, if_pos HFIT.out]
                        rfl
                      have hm := mu_adv (L := l.length) (T := t.length) (i := i) (frm := frm) (star := star) HFIT.out.1
                      exact ⟨by have := HGG.out; omega, i + 1, j + 1, star, frm, by first | rfl | go_num, by first | rfl | go_num, rfl, rfl, HFIT.out.1, HFIT.out.2.1, HST.out, by have := HSI.out; omega, HFT.out, hn, by have := HM.out; omega, by first | exact HBW.out | exact Below.drewN HBW.out _⟩
                  · have hEq : ∀ W, (Op.equalIn 10000 102 (.agg #[.int .u64 (d0 : Nat), .int .u64 (d1 : Nat), .int .u64 (d2 : Nat), .int .u64 (d3 : Nat)]) (.agg #[.int .u64 18446744073709551615, .int .u64 18446744073709551615, .int .u64 18446744073709551615, .int .u64 18446744073709551615])).run Tryd.prog W = .ok false W := fun W => by rw [eq4, decide_eq_false hfu]
                    obtain ⟨bv, hbv⟩ : ∃ bv, hasF [d0, d1, d2, d3] z = bv := ⟨_, rfl⟩
                    have hhas := fun m => (has_any g (i * 5 + 1) [d0, d1, d2, d3] z (wr.drewN m) hz8 (clsRow q1 q2 q3 q4 m) HWF4.out.2).mono fun _ _ h => (⟨h.1, h.2.symm⟩ : _ ∧ _)
                    rw [hbv] at hhas
                    have HHAS := Lib.hid hhas
                    have HBV := Lib.hid hbv
                    have HFU := Lib.hid hfu
                    clear hfu hhas hbv
                    cases bv
                    · have HNF := Lib.hid (show ¬ (i < l.length ∧ j < t.length ∧ fitsP (nthP l i) (bget t j).toNat = true) from fun h => by
                        have h3 := h.2.2
                        rw [HNTH.out, HZ.out] at h3
                        unfold fitsP at h3
                        simp only [HBV.out, Bool.or_false, decide_eq_true_eq] at h3
                        unfold full4 at h3
                        simp only [List.cons.injEq, and_true] at h3
                        exact HFU.out ⟨by omega, by omega, by omega, by omega⟩)
                      go_wp2
                      go_quiet (first | (go_at_call 58; exact Calls.quiet_of_same (HHAS.out _)))
                      by_cases hs : star < 0
                      · have HE := Lib.hid (show globF p t = false by rw [← HW.out]; obtain ⟨g', rfl⟩ : ∃ g', gk = g' + 1 := ⟨gk - 1, by have := HM.out; omega⟩; rw [walkF, if_pos HCND.out, if_neg HNF.out, if_pos (Or.inl hs)])
                        go_wp2
                        try rw [Exit.noGoto_ret]
                        go_ret
                        exact ⟨by rw [HE.out]; rfl, by first | exact HBX2.out | exact Below.drewN HBX2.out _⟩
                      · have hs' : (0 : Int) ≤ star := by omega
                        by_cases hf : frm = t.length
                        · have hfb : ((frm : Int) == (n : Int)) = true := by have := HN.out; rw [beq_iff_eq]; omega
                          have HE := Lib.hid (show globF p t = false by rw [← HW.out]; obtain ⟨g', rfl⟩ : ∃ g', gk = g' + 1 := ⟨gk - 1, by have := HM.out; omega⟩; rw [walkF, if_pos HCND.out, if_neg HNF.out, if_pos (Or.inr hf)])
                          clear hf
                          go_wp2
                          try rw [Exit.noGoto_ret]
                          go_ret
                          exact ⟨by rw [HE.out]; rfl, by first | exact HBX2.out | exact Below.drewN HBX2.out _⟩
                        · have hfb : ((frm : Int) == (n : Int)) = false := by have := HN.out; rw [beq_eq_false_iff_ne]; omega
                          have HF := Lib.hid hf
                          have HS := Lib.hid hs
                          have hsi : star ≤ 1048577 := by have := HI.out; have := HSI.out; have := HL.out; omega
                          have hfi : (frm : Int) < n := by have := HFT.out; have := HN.out; have : ¬ frm = t.length := hf; omega
                          clear hf hs
                          go_wp2
                          go_roundg (gk - 1)
                          case measure => have := HM.out; have := HGG.out; omega
                          case rel =>
                            have hn : walkF l t (gk - 1) (star + 1).toNat (frm + 1) star (frm + 1) = globF p t := by
                              rw [← HW.out]; obtain ⟨g', rfl⟩ : ∃ g', gk = g' + 1 := ⟨gk - 1, by have := HM.out; omega⟩
                              conv => rhs; rw [walkF, if_pos HCND.out, if_neg HNF.out, if_neg (fun h => h.elim (fun h => by omega) HF.out)]
                              rfl
                            have hm := mu_back (L := l.length) (T := t.length) (i := i) (frm := frm) (star := star) (by have := HF.out; have := HFT.out; omega)
                            exact ⟨(star + 1).toNat, frm + 1, star, frm + 1, by rw [show ((star + 1).toNat : Int) = star + 1 by omega], by first | rfl | go_num, rfl, by first | rfl | go_num, by have := HI.out; have := HSI.out; omega, by have := HF.out; have := HFT.out; omega, by omega, by omega, by have := HF.out; have := HFT.out; omega, hn, by have := HM.out; omega, by first | exact HBW.out | exact Below.drewN HBW.out _⟩
                    · have HFIT := Lib.hid (show i < l.length ∧ j < t.length ∧ fitsP (nthP l i) (bget t j).toNat = true from ⟨HIL.out, HJT.out, by
                        rw [HNTH.out, HZ.out]; unfold fitsP
                        rw [Bool.or_eq_true]; right
                        exact HBV.out⟩)
                      go_wp2
                      go_quiet (first | (go_at_call 58; exact Calls.quiet_of_same (HHAS.out _)))
                      go_wp2
                      go_roundg (gk - 1)
                      case measure => have := HM.out; omega
                      case rel =>
                        have hn : walkF l t (gk - 1) (i + 1) (j + 1) star frm = globF p t := by
                          rw [← HW.out]; obtain ⟨g', rfl⟩ : ∃ g', gk = g' + 1 := ⟨gk - 1, by have := HM.out; omega⟩
                          conv => rhs; rw [walkF, if_pos HCND.out, if_pos HFIT.out]
                          rfl
                        have hm := mu_adv (L := l.length) (T := t.length) (i := i) (frm := frm) (star := star) HFIT.out.1
                        exact ⟨by have := HGG.out; omega, i + 1, j + 1, star, frm, by first | rfl | go_num, by first | rfl | go_num, rfl, rfl, HFIT.out.1, HFIT.out.2.1, HST.out, by have := HSI.out; omega, HFT.out, hn, by have := HM.out; omega, by first | exact HBW.out | exact Below.drewN HBW.out _⟩
                · have hjT' : (n : Int) ≤ j := by have := HN.out; omega
                  have HNF := Lib.hid (show ¬ (i < l.length ∧ j < t.length ∧ fitsP (nthP l i) (bget t j).toNat = true) from fun h => hjT h.2.1)
                  have hjb : decide ((j : Int) < (n : Int)) = false := by rw [decide_eq_false_iff_not]; omega
                  have hjb' : decide (j < n) = false := by rw [decide_eq_false_iff_not]; omega
                  clear hjT
                  go_wp2
                  go_quiet (fail)
                  by_cases hs : star < 0
                  · have HE := Lib.hid (show globF p t = false by rw [← HW.out]; obtain ⟨g', rfl⟩ : ∃ g', gk = g' + 1 := ⟨gk - 1, by have := HM.out; omega⟩; rw [walkF, if_pos HCND.out, if_neg HNF.out, if_pos (Or.inl hs)])
                    go_wp2
                    try rw [Exit.noGoto_ret]
                    go_ret
                    exact ⟨by rw [HE.out]; rfl, by first | exact HBX2.out | exact Below.drewN HBX2.out _⟩
                  · have hs' : (0 : Int) ≤ star := by omega
                    by_cases hf : frm = t.length
                    · have hfb : ((frm : Int) == (n : Int)) = true := by have := HN.out; rw [beq_iff_eq]; omega
                      have HE := Lib.hid (show globF p t = false by rw [← HW.out]; obtain ⟨g', rfl⟩ : ∃ g', gk = g' + 1 := ⟨gk - 1, by have := HM.out; omega⟩; rw [walkF, if_pos HCND.out, if_neg HNF.out, if_pos (Or.inr hf)])
                      clear hf
                      go_wp2
                      try rw [Exit.noGoto_ret]
                      go_ret
                      exact ⟨by rw [HE.out]; rfl, by first | exact HBX2.out | exact Below.drewN HBX2.out _⟩
                    · have hfb : ((frm : Int) == (n : Int)) = false := by have := HN.out; rw [beq_eq_false_iff_ne]; omega
                      have HF := Lib.hid hf
                      have HS := Lib.hid hs
                      have hsi : star ≤ 1048577 := by have := HI.out; have := HSI.out; have := HL.out; omega
                      have hfi : (frm : Int) < n := by have := HFT.out; have := HN.out; have : ¬ frm = t.length := hf; omega
                      clear hf hs
                      go_wp2
                      go_roundg (gk - 1)
                      case measure => have := HM.out; have := HGG.out; omega
                      case rel =>
                        have hn : walkF l t (gk - 1) (star + 1).toNat (frm + 1) star (frm + 1) = globF p t := by
                          rw [← HW.out]; obtain ⟨g', rfl⟩ : ∃ g', gk = g' + 1 := ⟨gk - 1, by have := HM.out; omega⟩
                          conv => rhs; rw [walkF, if_pos HCND.out, if_neg HNF.out, if_neg (fun h => h.elim (fun h => by omega) HF.out)]
                          rfl
                        have hm := mu_back (L := l.length) (T := t.length) (i := i) (frm := frm) (star := star) (by have := HF.out; have := HFT.out; omega)
                        exact ⟨(star + 1).toNat, frm + 1, star, frm + 1, by rw [show ((star + 1).toNat : Int) = star + 1 by omega], by first | rfl | go_num, rfl, by first | rfl | go_num, by have := HI.out; have := HSI.out; omega, by have := HF.out; have := HFT.out; omega, by omega, by omega, by have := HF.out; have := HFT.out; omega, hn, by have := HM.out; omega, by first | exact HBW.out | exact Below.drewN HBW.out _⟩
              · have HNC := Lib.hid (show ¬ ((i < l.length ∧ (nthP l i).1 = false) ∨ (i = l.length ∧ j < t.length)) from fun h => h.elim (fun h => by have := h.2; rw [HNTH.out] at this; cases this) (fun h => by have := HIL.out; omega))
                go_wp2
                go_roundg (gk - 1)
                case measure => have := HM.out; have := HGG.out; omega
                case rel =>
                  have hn : walkF l t (gk - 1) (i + 1) j (i : Int) j = globF p t := by
                    rw [← HW.out]; obtain ⟨g', rfl⟩ : ∃ g', gk = g' + 1 := ⟨gk - 1, by have := HM.out; omega⟩
                    conv => rhs; rw [walkF, if_neg HNC.out, if_neg (fun h => by have := HIL.out; omega)]
                    rfl
                  have hm := mu_star (L := l.length) (T := t.length) (j := j) (frm := frm) HST.out HSI.out HIL.out
                  exact ⟨i + 1, j, (i : Int), j, by first | rfl | go_num, rfl, rfl, rfl, HIL.out, HJ.out, by omega, by omega, HJ.out, hn, by have := HM.out; omega, HBW.out⟩
            · have hiL' : (L : Int) ≤ (i : Int) := by have := HL.out; omega
              have hiB : ((i : Int) == (L : Int)) = true := by rw [beq_iff_eq]; omega
              have HIE := Lib.hid (show i = l.length by have := HI.out; omega)
              have hdi : decide ((i : Int) < (L : Int)) = false := by rw [decide_eq_false_iff_not]; omega
              have hdi' : decide (i < L) = false := by rw [decide_eq_false_iff_not]; omega
              clear hiL
              by_cases hjT : j < t.length
              · have hjT' : (j : Int) < n := by have := HN.out; omega
                have HCND := Lib.hid (show (i < l.length ∧ (nthP l i).1 = false) ∨ (i = l.length ∧ j < t.length) from Or.inr ⟨HIE.out, hjT⟩)
                have HNF := Lib.hid (show ¬ (i < l.length ∧ j < t.length ∧ fitsP (nthP l i) (bget t j).toNat = true) from fun h => by have := h.1; have := HIE.out; omega)
                clear hjT
                go_wp2
                go_quiet (fail)
                by_cases hs : star < 0
                · have HE := Lib.hid (show globF p t = false by rw [← HW.out]; obtain ⟨g', rfl⟩ : ∃ g', gk = g' + 1 := ⟨gk - 1, by have := HM.out; omega⟩; rw [walkF, if_pos HCND.out, if_neg HNF.out, if_pos (Or.inl hs)])
                  go_wp2
                  try rw [Exit.noGoto_ret]
                  go_ret
                  exact ⟨by rw [HE.out]; rfl, by first | exact HBX2.out | exact Below.drewN HBX2.out _⟩
                · have hs' : (0 : Int) ≤ star := by omega
                  by_cases hf : frm = t.length
                  · have hfb : ((frm : Int) == (n : Int)) = true := by have := HN.out; rw [beq_iff_eq]; omega
                    have HE := Lib.hid (show globF p t = false by rw [← HW.out]; obtain ⟨g', rfl⟩ : ∃ g', gk = g' + 1 := ⟨gk - 1, by have := HM.out; omega⟩; rw [walkF, if_pos HCND.out, if_neg HNF.out, if_pos (Or.inr hf)])
                    clear hf
                    go_wp2
                    try rw [Exit.noGoto_ret]
                    go_ret
                    exact ⟨by rw [HE.out]; rfl, by first | exact HBX2.out | exact Below.drewN HBX2.out _⟩
                  · have hfb : ((frm : Int) == (n : Int)) = false := by have := HN.out; rw [beq_eq_false_iff_ne]; omega
                    have HF := Lib.hid hf
                    have HS := Lib.hid hs
                    have hsi : star ≤ 1048577 := by have := HI.out; have := HSI.out; have := HL.out; omega
                    have hfi : (frm : Int) < n := by have := HFT.out; have := HN.out; have : ¬ frm = t.length := hf; omega
                    clear hf hs
                    go_wp2
                    go_roundg (gk - 1)
                    case measure => have := HM.out; have := HGG.out; omega
                    case rel =>
                      have hn : walkF l t (gk - 1) (star + 1).toNat (frm + 1) star (frm + 1) = globF p t := by
                        rw [← HW.out]; obtain ⟨g', rfl⟩ : ∃ g', gk = g' + 1 := ⟨gk - 1, by have := HM.out; omega⟩
                        conv => rhs; rw [walkF, if_pos HCND.out, if_neg HNF.out, if_neg (fun h => h.elim (fun h => by omega) HF.out)]
                        rfl
                      have hm := mu_back (L := l.length) (T := t.length) (i := i) (frm := frm) (star := star) (by have := HF.out; have := HFT.out; omega)
                      exact ⟨(star + 1).toNat, frm + 1, star, frm + 1, by rw [show ((star + 1).toNat : Int) = star + 1 by omega], by first | rfl | go_num, rfl, by first | rfl | go_num, by have := HI.out; have := HSI.out; omega, by have := HF.out; have := HFT.out; omega, by omega, by omega, by have := HF.out; have := HFT.out; omega, hn, by have := HM.out; omega, by first | exact HBW.out | exact Below.drewN HBW.out _⟩
              · have hjT' : (n : Int) ≤ j := by have := HN.out; omega
                have HE := Lib.hid (show globF p t = true by
                  rw [← HW.out]; obtain ⟨g', rfl⟩ : ∃ g', gk = g' + 1 := ⟨gk - 1, by have := HM.out; omega⟩
                  rw [walkF, if_neg (fun h => h.elim (fun h => by have := h.1; have := HIE.out; omega) (fun h => hjT h.2)), if_pos HIE.out])
                clear hjT
                go_wp2
                try rw [Exit.noGoto_ret]
                go_ret
                exact ⟨by rw [HE.out]; rfl, HBX2.out⟩

theorem glob_any (b1 o1 c1 b2 o2 c2 : Nat) (p t : List UInt8) (w : World) (hlp : p.length ≤ 1048576) (hlt : t.length ≤ 9223372036854775807) (hc1 : BytesAt w b1 o1 p) (hb1 : p ≠ [] → b1 < w.heap.size) (hc2 : BytesAt w b2 o2 t) (hb2 : t ≠ [] → b2 < w.heap.size) (hG : GlobAt w) :
   Calls Tryd.prog 44 #[.slice (some ⟨b1, o1, none⟩) p.length c1, .slice (some ⟨b2, o2, none⟩) t.length c2] w fun e w' => e = .returned (.bool (globF p t)) ∧ Below w.heap.size w w' :=
  glob_some b1 o1 c1 b2 o2 c2 p t w hlp hlt hc2 hb2 hG (pieces_any b1 o1 c1 p w hlp hc1 hb1 hG)
end Go.Proofs.YtgfldammdcocmaaDoor
