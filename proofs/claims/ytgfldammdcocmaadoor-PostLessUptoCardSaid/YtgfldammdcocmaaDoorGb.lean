import Derived.Test.YtgfldammdcocmaaDoorGa
import Derived.BigGuardPart
namespace Go.Proofs.YtgfldammdcocmaaDoor
open Go.RowKit

/-- the loop of 'members'. -/
def memLoop (p : List UInt8) : Nat → Nat → List Nat → List Nat × Nat
  | 0, i, c => (c, i)
  | f + 1, i, c =>
    if i < p.length ∧ bget p i ≠ 93 then
      if (quoted p i).2 + 1 < p.length ∧ bget p (quoted p i).2 = 45 ∧ bget p ((quoted p i).2 + 1) ≠ 93 then
        memLoop p f (quoted p ((quoted p i).2 + 1)).2 (addS c (quoted p i).1.toNat (quoted p ((quoted p i).2 + 1)).1.toNat)
      else memLoop p f (quoted p i).2 (addS c (quoted p i).1.toNat (quoted p i).1.toNat)
    else (c, i)

/-- 'members'. -/
def membersF (p : List UInt8) (i : Nat) : List Nat × Nat :=
  if i < p.length ∧ bget p i = 94 then (notC (memLoop p (p.length + 1) (i + 1) [0, 0, 0, 0]).1, (memLoop p (p.length + 1) (i + 1) [0, 0, 0, 0]).2 + 1)
  else ((memLoop p (p.length + 1) i [0, 0, 0, 0]).1, (memLoop p (p.length + 1) i [0, 0, 0, 0]).2 + 1)

theorem quoted_gt (p : List UInt8) (i : Nat) : i < (quoted p i).2 := by unfold quoted; split <;> simp
theorem quoted_le (p : List UInt8) (i : Nat) (h : i < p.length) : (quoted p i).2 ≤ p.length := by unfold quoted; split <;> simp <;> omega
theorem addS_len (c : List Nat) (lo hi : Nat) : (addS c lo hi).length = c.length := by
  have h : ∀ (l : List Nat) (c : List Nat), (l.foldl addB c).length = c.length := by
    intro l; induction l with
    | nil => intro c; rfl
    | cons a r ih => intro c; rw [List.foldl_cons, ih, addB_len]
  unfold addS; split <;> exact h _ _

theorem memLoop_stop {p : List UInt8} {f i : Nat} {c : List Nat} (h : ¬ (i < p.length ∧ bget p i ≠ 93)) : memLoop p (f + 1) i c = (c, i) := by rw [memLoop, if_neg h]
theorem memLoop_one {p : List UInt8} {f i : Nat} {c : List Nat} (h : i < p.length ∧ bget p i ≠ 93) (h2 : ¬ ((quoted p i).2 + 1 < p.length ∧ bget p (quoted p i).2 = 45 ∧ bget p ((quoted p i).2 + 1) ≠ 93)) :
    memLoop p (f + 1) i c = memLoop p f (quoted p i).2 (addS c (quoted p i).1.toNat (quoted p i).1.toNat) := by rw [memLoop, if_pos h, if_neg h2]
theorem memLoop_two {p : List UInt8} {f i : Nat} {c : List Nat} (h : i < p.length ∧ bget p i ≠ 93) (h2 : ((quoted p i).2 + 1 < p.length ∧ bget p (quoted p i).2 = 45 ∧ bget p ((quoted p i).2 + 1) ≠ 93)) :
    memLoop p (f + 1) i c = memLoop p f (quoted p ((quoted p i).2 + 1)).2 (addS c (quoted p i).1.toNat (quoted p ((quoted p i).2 + 1)).1.toNat) := by rw [memLoop, if_pos h, if_pos h2]

def RelMem (w : World) (C : Nat) (p : List UInt8) (R : List Nat × Nat) (g : Nat) (v : Value) (wr : World) : Prop :=
  ∃ k c, k ≤ p.length ∧ p.length < g + k ∧ v = .int .i64 k ∧ ClsAt wr C 0 c ∧ memLoop p g k c = R ∧ Ch (fun x => x = C) w wr ∧ wr.heap.size = w.heap.size

theorem cls_four {w : World} {C : Nat} {c : List Nat} (h : ClsAt w C 0 c) : ∃ d0 d1 d2 d3, c = [d0, d1, d2, d3] ∧ d0 < 18446744073709551616 ∧ d1 < 18446744073709551616 ∧ d2 < 18446744073709551616 ∧ d3 < 18446744073709551616 ∧
    w.cell? ⟨C, 0, none⟩ = some (.int .u64 d0) ∧ w.cell? ⟨C, 1, none⟩ = some (.int .u64 d1) ∧ w.cell? ⟨C, 2, none⟩ = some (.int .u64 d2) ∧ w.cell? ⟨C, 3, none⟩ = some (.int .u64 d3) := by
  obtain ⟨hl, hb, hc, hf⟩ := h
  match c, hl with
  | [d0, d1, d2, d3], _ =>
    refine ⟨d0, d1, d2, d3, rfl, hb 0, hb 1, hb 2, hb 3, ?_, ?_, ?_, ?_⟩
    · simpa using hc 0 (by omega)
    · simpa using hc 1 (by omega)
    · simpa using hc 2 (by omega)
    · simpa using hc 3 (by omega)

theorem quoted_n (b off c : Nat) (p : List UInt8) (n i : Nat) (v : Int) (w : World) (hn : p.length = n) (hv : v = i) (hlen : n ≤ 140737488351232) (hi : i < n) (hc : BytesAt w b off p) :
   Calls Tryd.prog 91 #[.slice (some ⟨b, off, none⟩) n c, .int .i64 v] w fun e w' => e = .returned (.tuple #[.int .u8 (quoted p i).1.toNat, .int .i64 ((quoted p i).2 : Nat)]) ∧ w = w' := by
  subst hn; subst hv
  exact quoted_any b off c p i w (by omega) hi hc

theorem bytes_ch {w w' : World} {b off : Nat} {p : List UInt8} {S : Nat → Prop} (h : BytesAt w b off p) (hc : Ch S w w') (hb : p ≠ [] → b < w.heap.size) (hs : ¬ S b) : BytesAt w' b off p := by
  intro j hj
  have hp : p ≠ [] := fun e => by rw [e] at hj; simp at hj
  rw [World.cell?_of_block (w := w) (a := ⟨b, off + j, none⟩) (hc.block b (hb hp) hs)]
  exact h j hj

/-- what 'members' hands back. -/
def MemLeft (w : World) (R : List Nat × Nat) (e : Ending) (w' : World) : Prop :=
  ∃ d0 d1 d2 d3 : Nat, R.1 = [d0, d1, d2, d3] ∧ d0 < 18446744073709551616 ∧ d1 < 18446744073709551616 ∧ d2 < 18446744073709551616 ∧ d3 < 18446744073709551616 ∧
    e = .returned (.tuple #[.agg #[.int .u64 d0, .int .u64 d1, .int .u64 d2, .int .u64 d3], .int .i64 (R.2 : Nat)]) ∧ Below w.heap.size w w'

theorem below_of {w wr : World} {o o' : Obj} {C : Nat} (h : Ch (fun x => x = C) ((w.alloc o).alloc o') wr) (hC : w.heap.size ≤ C) : Below w.heap.size w wr :=
  (((Below.refl _ _).alloc (Nat.le_refl _) o).alloc (by simp) o').trans ⟨h.os, h.tape, h.output, h.size, fun k hk => h.block k (by simp; omega) (by omega)⟩

theorem blk_ch_eq {S : Nat → Prop} {w w' : World} (h : Ch S w w') {k : Nat} (hk : k < w.heap.size) (hs : ¬ S k) : blk w k = blk w' k := (h.block k hk hs).symm
theorem cls_new (w : World) (o : Obj) : ClsAt ((w.alloc o).alloc (.cells #[.int .u64 0, .int .u64 0, .int .u64 0, .int .u64 0] 102)) (w.heap.size + 1) 0 [0, 0, 0, 0] := by
  have hb : blk ((w.alloc o).alloc (.cells #[.int .u64 0, .int .u64 0, .int .u64 0, .int .u64 0] 102)) (w.heap.size + 1) = some (.cells #[.int .u64 0, .int .u64 0, .int .u64 0, .int .u64 0] 102 (0, 0)) := blk_alloc_self _ _ _ (by simp)
  refine ⟨rfl, fun i => ?_, fun i hi => ?_, fun i => frozen_blk hb i⟩
  · match i with
    | 0 | 1 | 2 | 3 => decide
    | i + 4 => simp
  · rw [cell_blk hb]
    match i, hi with
    | 0, _ | 1, _ | 2, _ | 3, _ => rfl

set_option maxHeartbeats 2000000 in
set_option maxRecDepth 100000 in
theorem members_no (b off cap : Nat) (p : List UInt8) (i : Nat) (w : World) (hlen : p.length ≤ 140737488351232) (hi : i ≤ p.length) (hc : BytesAt w b off p) (hbl : p ≠ [] → b < w.heap.size)
    (ht : ¬ (i < p.length ∧ bget p i = 94)) :
    Calls Tryd.prog 67 #[.slice (some ⟨b, off, none⟩) p.length cap, .int .i64 i] w fun e w' => MemLeft w ((memLoop p (p.length + 1) (i) [0, 0, 0, 0]).1, (memLoop p (p.length + 1) (i) [0, 0, 0, 0]).2 + 1) e w' := by
  obtain ⟨R, hR⟩ : ∃ R, memLoop p (p.length + 1) (i) [0, 0, 0, 0] = R := ⟨_, rfl⟩
  obtain ⟨n, hn⟩ : ∃ n, p.length = n := ⟨_, rfl⟩
  rw [hR]
  have hi' : (i : Int) ≤ n := by omega
  have hn' : (n : Int) ≤ 140737488351232 := by omega
  have HI0 : Hid (i ≤ p.length) := by show _ ≤ _; omega
  have HR := Lib.hid hR
  have HC := Lib.hid hc
  have HBL := Lib.hid hbl
  have HT := Lib.hid ht
  have HLEN := Lib.hid hn
  have HLN := Lib.hid hlen
  rw [hn]
  by_cases h1 : i < p.length
  · have hin : (i : Int) < n := by omega
    have hcell0 := hc i h1
    have hbw : b < w.heap.size := hbl (fun e => by rw [e] at h1; simp at h1)
    have hx0 : (((bget p i).toNat : Int) == 94) = false := u8_ne (by decide) (fun e => ht ⟨h1, e⟩)
    obtain ⟨x0, hx0'⟩ : ∃ x0, (bget p i).toNat = x0 := ⟨_, rfl⟩
    rw [hx0'] at hcell0 hx0
    clear hR hc ht hlen hn hi hbl hx0' h1
    go_enter Tryd.func67, Tryd.ntmps67
    go_wp2
    go_loopg [1] (p.length + 1) (fun g v wr => RelMem ((w.alloc (.cells #[.int .u64 0, .int .u64 0, .int .u64 0, .int .u64 0] 102)).alloc (.cells #[.int .u64 0, .int .u64 0, .int .u64 0, .int .u64 0] 102)) (w.heap.size + 1) p R g v wr)
    case atStart => exact ⟨i, [0, 0, 0, 0], HI0.out, by omega, by first | rfl | go_num, cls_new _ _, HR.out, Ch.refl _ _, rfl⟩
    case round =>
      obtain ⟨k, c, hk, hk2, rfl, hcl, hml, hch, hsz⟩ := hrel
      have hk' : (k : Int) ≤ n := by have := HLEN.out; omega
      have HK := Lib.hid hk
      clear hk
      by_cases hkn : k < p.length
      · have hkn' : (k : Int) < n := by have := HLEN.out; omega
        have hB : BytesAt wr b off p := bytes_ch (bytes_ch HC.out (((Ch.refl (fun _ => False) w).alloc _).alloc _) HBL.out id) hch (fun h => by have := HBL.out h; simp; omega) (fun e => by have := HBL.out (fun e => by rw [e] at hkn; simp at hkn); omega)
        have hcellk := hB k hkn
        obtain ⟨x, hx⟩ : ∃ x, (bget p k).toNat = x := ⟨_, rfl⟩
        by_cases hx93 : bget p k = 93
        · have hne : (((bget p k).toNat : Int) != 93) = false := by rw [bne_eq_false_iff_eq, hx93]; rfl
          rw [hx] at hcellk hne
          have HX := Lib.hid hx93
          clear hx hB
          obtain ⟨d0, d1, d2, d3, hd, b0, b1, b2, b3, q0, q1, q2, q3⟩ := cls_four hcl
          have HCH := Lib.hid hch
          have HE := Lib.hid (show R = (c, k) by rw [← hml]; obtain ⟨g', rfl⟩ : ∃ g', gk = g' + 1 := ⟨gk - 1, by have := HK.out; omega⟩; exact memLoop_stop (by intro hh; first | exact hh.2 hx93 | omega))
          have HD := Lib.hid hd
          have hf0 := hcl.free 0
          have hf1 := hcl.free 1
          have hf2 := hcl.free 2
          have hf3 := hcl.free 3
          have hszr : wr.heap.size = w.heap.size + 1 + 1 := by rw [hsz]; simp
          have HSZ := Lib.hid hszr
          have hl1 : w.heap.size + 1 < wr.heap.size := by omega
          have hr0 : ∃ r0, blk wr w.heap.size = some (.cells #[.int .u64 0, .int .u64 0, .int .u64 0, .int .u64 0] 102 (0, 0)) ∧ r0 = 0 := ⟨0, by rw [← blk_ch_eq hch (by simp; omega) (by omega)]; rw [blk_alloc_lt _ _ _ (by simp), blk_alloc_self _ _ _ rfl], rfl⟩
          obtain ⟨_, hr0, -⟩ := hr0
          have r0 : wr.cell? ⟨w.heap.size, 0, none⟩ = some (.int .u64 0) := by rw [cell_blk hr0]; rfl
          have r1 : wr.cell? ⟨w.heap.size, 1, none⟩ = some (.int .u64 0) := by rw [cell_blk hr0]; rfl
          have r2 : wr.cell? ⟨w.heap.size, 2, none⟩ = some (.int .u64 0) := by rw [cell_blk hr0]; rfl
          have r3 : wr.cell? ⟨w.heap.size, 3, none⟩ = some (.int .u64 0) := by rw [cell_blk hr0]; rfl
          have s0 := frozen_blk hr0 0
          have s1 := frozen_blk hr0 1
          have s2 := frozen_blk hr0 2
          have s3 := frozen_blk hr0 3
          clear hcl hch hml hd hk2 hsz hszr hr0
          go_wp2
          refine bodyPost_ret (v := .tuple #[.agg #[.int .u64 d0, .int .u64 d1, .int .u64 d2, .int .u64 d3], .int .i64 ((k + 1 : Nat) : Int)]) (by simp [results, Tryd.results67, go_sem, r0, r1, r2, r3]) rfl ?_
          refine ⟨d0, d1, d2, d3, by rw [HE.out]; exact HD.out, b0, b1, b2, b3, by rw [HE.out], ?_⟩
          exact ((((below_of HCH.out (Nat.le_succ _)).setCell (Nat.le_refl _) _).setCell (Nat.le_refl _) _).setCell (Nat.le_refl _) _).setCell (Nat.le_refl _) _
        · have hne : (((bget p k).toNat : Int) != 93) = true := by rw [bne_iff_ne]; intro e; exact hx93 (UInt8.toNat_inj.1 (by simpa using Int.ofNat.inj e))
          rw [hx] at hcellk hne
          obtain ⟨z, i1, hq, hz, hgt, hle⟩ : ∃ z i1, (quoted p k).1.toNat = z ∧ (quoted p k).2 = i1 ∧ k < i1 ∧ i1 ≤ p.length := ⟨_, _, rfl, rfl, quoted_gt p k, quoted_le p k hkn⟩
          have hz8 : z < 256 := by rw [← hq]; exact UInt8.toNat_lt _
          have hQ := quoted_n b off cap p n k k wr HLEN.out rfl (by have := HLEN.out; have := HLN.out; omega) (by have := HLEN.out; omega) hB
          rw [hq, hz] at hQ
          have HQ := Lib.hid hQ
          have HZ := Lib.hid (And.intro hq hz)
          have HADD := Lib.hid (add_all (w.heap.size + 1) 0 c z z wr hz8 hz8 hcl)
          have HCH := Lib.hid hch
          have HSZ := Lib.hid hsz
          have HML := Lib.hid hml
          have HK2 := Lib.hid hk2
          have HX := Lib.hid (And.intro hkn hx93)
          have hle' : (i1 : Int) ≤ n := by have := HLEN.out; omega
          have HLT := Lib.hid hgt
          have HLE := Lib.hid hle
          clear hQ hq hz hch hsz hml hk2 hx hgt hle hx93 hkn
          by_cases hb1 : i1 + 1 < p.length
          · have hb1' : (i1 : Int) + 1 < n := by have := HLEN.out; omega
            have hcA := hB i1 (by omega)
            by_cases hA : bget p i1 = 45
            · have hnA : (((bget p i1).toNat : Int) == 45) = true := u8_eq (by decide) hA
              have hcB := hB (i1 + 1) hb1
              by_cases hE : bget p (i1 + 1) = 93
              · have hnB : (((bget p (i1 + 1)).toNat : Int) != 93) = false := by rw [bne_eq_false_iff_eq, hE]; rfl
                obtain ⟨xa, hxa⟩ : ∃ xa, (bget p i1).toNat = xa := ⟨_, rfl⟩
                obtain ⟨xb, hxb⟩ : ∃ xb, (bget p (i1 + 1)).toNat = xb := ⟨_, rfl⟩
                rw [hxa] at hcA hnA
                rw [hxb] at hcB hnB
                have HNO := Lib.hid (show ¬ (i1 + 1 < p.length ∧ bget p i1 = 45 ∧ bget p (i1 + 1) ≠ 93) from fun h => h.2.2 hE)
                clear hB hxa hxb hE hA hb1 hcl
                go_wp2_with fail
                refine HQ.out.mono ?_
                rintro e w' ⟨rfl, rfl⟩
                go_wp2_with fail
                refine HADD.out.mono ?_
                rintro e w' ⟨rfl, hw4⟩
                have HW := Lib.hid hw4
                clear hw4
                go_wp2
                go_roundg (gk - 1)
                case measure => have := HK2.out; have := HK.out; omega
                case rel =>
                  have hR : memLoop p (gk - 1) i1 (addS c z z) = R := by
                    rw [← HML.out]
                    obtain ⟨g', rfl⟩ : ∃ g', gk = g' + 1 := ⟨gk - 1, by have := HK.out; have := HK2.out; omega⟩
                    have hy := HNO.out
                    rw [← HZ.out.2] at hy
                    rw [memLoop_one HX.out hy, HZ.out.1, HZ.out.2]; rfl
                  exact ⟨i1, _, HLE.out, by have := HK2.out; have := HLT.out; omega, by first | rfl | go_num, HW.out.at_, hR, HCH.out.trans HW.out.ch, HW.out.size.trans HSZ.out⟩
              · have hnB : (((bget p (i1 + 1)).toNat : Int) != 93) = true := by rw [bne_iff_ne]; intro e; exact hE (UInt8.toNat_inj.1 (by simpa using Int.ofNat.inj e))
                have hQ2 := quoted_n b off cap p n (i1 + 1) (i1 + 1) wr HLEN.out (by simp) (by have := HLEN.out; have := HLN.out; omega) (by have := HLEN.out; omega) hB
                obtain ⟨z2, i2, hq2, hz2, hgt2, hle2⟩ : ∃ z i2, (quoted p (i1 + 1)).1.toNat = z ∧ (quoted p (i1 + 1)).2 = i2 ∧ i1 + 1 < i2 ∧ i2 ≤ p.length := ⟨_, _, rfl, rfl, quoted_gt p _, quoted_le p _ hb1⟩
                have hz82 : z2 < 256 := by rw [← hq2]; exact UInt8.toNat_lt _
                rw [hq2, hz2] at hQ2
                have HQ2 := Lib.hid hQ2
                have HADD2 := Lib.hid (add_all (w.heap.size + 1) 0 c z z2 wr hz8 hz82 hcl)
                have HZ2 := Lib.hid (And.intro hq2 hz2)
                have HLT2 := Lib.hid hgt2
                have HLE2 := Lib.hid hle2
                have hle2' : (i2 : Int) ≤ n := by have := HLEN.out; omega
                obtain ⟨xa, hxa⟩ : ∃ xa, (bget p i1).toNat = xa := ⟨_, rfl⟩
                obtain ⟨xb, hxb⟩ : ∃ xb, (bget p (i1 + 1)).toNat = xb := ⟨_, rfl⟩
                rw [hxa] at hcA hnA
                rw [hxb] at hcB hnB
                have HYES := Lib.hid (show (i1 + 1 < p.length ∧ bget p i1 = 45 ∧ bget p (i1 + 1) ≠ 93) from ⟨hb1, hA, hE⟩)
                clear hB hxa hxb hE hA hb1 hcl hQ2 hq2 hz2 hgt2 hle2
                go_wp2_with fail
                refine HQ.out.mono ?_
                rintro e w' ⟨rfl, rfl⟩
                go_wp2_with fail
                refine HQ2.out.mono ?_
                rintro e w' ⟨rfl, rfl⟩
                go_wp2_with fail
                refine HADD2.out.mono ?_
                rintro e w' ⟨rfl, hw4⟩
                have HW := Lib.hid hw4
                clear hw4
                go_wp2
                go_roundg (gk - 1)
                case measure => have := HK2.out; have := HK.out; omega
                case rel =>
                  have hR : memLoop p (gk - 1) i2 (addS c z z2) = R := by
                    rw [← HML.out]
                    obtain ⟨g', rfl⟩ : ∃ g', gk = g' + 1 := ⟨gk - 1, by have := HK.out; have := HK2.out; omega⟩
                    have hy := HYES.out
                    rw [← HZ.out.2] at hy
                    rw [memLoop_two HX.out hy, HZ.out.1, HZ.out.2, HZ2.out.1, HZ2.out.2]; rfl
                  exact ⟨i2, _, HLE2.out, by have := HK2.out; have := HLT.out; have := HLT2.out; omega, by first | rfl | go_num, HW.out.at_, hR, HCH.out.trans HW.out.ch, HW.out.size.trans HSZ.out⟩
            · have hnA : (((bget p i1).toNat : Int) == 45) = false := u8_ne (by decide) hA
              obtain ⟨xa, hxa⟩ : ∃ xa, (bget p i1).toNat = xa := ⟨_, rfl⟩
              rw [hxa] at hcA hnA
              have HNO := Lib.hid (show ¬ (i1 + 1 < p.length ∧ bget p i1 = 45 ∧ bget p (i1 + 1) ≠ 93) from fun h => hA h.2.1)
              clear hB hxa hA hb1 hcl
              go_wp2_with fail
              refine HQ.out.mono ?_
              rintro e w' ⟨rfl, rfl⟩
              go_wp2_with fail
              refine HADD.out.mono ?_
              rintro e w' ⟨rfl, hw4⟩
              have HW := Lib.hid hw4
              clear hw4
              go_wp2
              go_roundg (gk - 1)
              case measure => have := HK2.out; have := HK.out; omega
              case rel =>
                have hR : memLoop p (gk - 1) i1 (addS c z z) = R := by
                  rw [← HML.out]
                  obtain ⟨g', rfl⟩ : ∃ g', gk = g' + 1 := ⟨gk - 1, by have := HK.out; have := HK2.out; omega⟩
                  have hy := HNO.out
                  rw [← HZ.out.2] at hy
                  rw [memLoop_one HX.out hy, HZ.out.1, HZ.out.2]; rfl
                exact ⟨i1, _, HLE.out, by have := HK2.out; have := HLT.out; omega, by first | rfl | go_num, HW.out.at_, hR, HCH.out.trans HW.out.ch, HW.out.size.trans HSZ.out⟩
          · have hb1' : (n : Int) ≤ i1 + 1 := by have := HLEN.out; omega
            have HNO := Lib.hid (show ¬ (i1 + 1 < p.length ∧ bget p i1 = 45 ∧ bget p (i1 + 1) ≠ 93) from fun h => hb1 h.1)
            clear hB hb1 hcl
            go_wp2_with fail
            refine HQ.out.mono ?_
            rintro e w' ⟨rfl, rfl⟩
            go_wp2_with fail
            refine HADD.out.mono ?_
            rintro e w' ⟨rfl, hw4⟩
            have HW := Lib.hid hw4
            clear hw4
            go_wp2
            go_roundg (gk - 1)
            case measure => have := HK2.out; have := HK.out; omega
            case rel =>
              have hR : memLoop p (gk - 1) i1 (addS c z z) = R := by
                rw [← HML.out]
                obtain ⟨g', rfl⟩ : ∃ g', gk = g' + 1 := ⟨gk - 1, by have := HK.out; have := HK2.out; omega⟩
                have hy := HNO.out
                rw [← HZ.out.2] at hy
                rw [memLoop_one HX.out hy, HZ.out.1, HZ.out.2]; rfl
              exact ⟨i1, _, HLE.out, by have := HK2.out; have := HLT.out; omega, by first | rfl | go_num, HW.out.at_, hR, HCH.out.trans HW.out.ch, HW.out.size.trans HSZ.out⟩
      · have hkn' : (n : Int) ≤ k := by have := HLEN.out; omega
        have hx93 : True := trivial
        obtain ⟨d0, d1, d2, d3, hd, b0, b1, b2, b3, q0, q1, q2, q3⟩ := cls_four hcl
        have HCH := Lib.hid hch
        have HE := Lib.hid (show R = (c, k) by rw [← hml]; obtain ⟨g', rfl⟩ : ∃ g', gk = g' + 1 := ⟨gk - 1, by have := HK.out; omega⟩; exact memLoop_stop (by intro hh; first | exact hh.2 hx93 | omega))
        have HD := Lib.hid hd
        have hf0 := hcl.free 0
        have hf1 := hcl.free 1
        have hf2 := hcl.free 2
        have hf3 := hcl.free 3
        have hszr : wr.heap.size = w.heap.size + 1 + 1 := by rw [hsz]; simp
        have HSZ := Lib.hid hszr
        have hl1 : w.heap.size + 1 < wr.heap.size := by omega
        have hr0 : ∃ r0, blk wr w.heap.size = some (.cells #[.int .u64 0, .int .u64 0, .int .u64 0, .int .u64 0] 102 (0, 0)) ∧ r0 = 0 := ⟨0, by rw [← blk_ch_eq hch (by simp; omega) (by omega)]; rw [blk_alloc_lt _ _ _ (by simp), blk_alloc_self _ _ _ rfl], rfl⟩
        obtain ⟨_, hr0, -⟩ := hr0
        have r0 : wr.cell? ⟨w.heap.size, 0, none⟩ = some (.int .u64 0) := by rw [cell_blk hr0]; rfl
        have r1 : wr.cell? ⟨w.heap.size, 1, none⟩ = some (.int .u64 0) := by rw [cell_blk hr0]; rfl
        have r2 : wr.cell? ⟨w.heap.size, 2, none⟩ = some (.int .u64 0) := by rw [cell_blk hr0]; rfl
        have r3 : wr.cell? ⟨w.heap.size, 3, none⟩ = some (.int .u64 0) := by rw [cell_blk hr0]; rfl
        have s0 := frozen_blk hr0 0
        have s1 := frozen_blk hr0 1
        have s2 := frozen_blk hr0 2
        have s3 := frozen_blk hr0 3
        clear hcl hch hml hd hk2 hsz hszr hr0
        go_wp2
        refine bodyPost_ret (v := .tuple #[.agg #[.int .u64 d0, .int .u64 d1, .int .u64 d2, .int .u64 d3], .int .i64 ((k + 1 : Nat) : Int)]) (by simp [results, Tryd.results67, go_sem, r0, r1, r2, r3]) rfl ?_
        refine ⟨d0, d1, d2, d3, by rw [HE.out]; exact HD.out, b0, b1, b2, b3, by rw [HE.out], ?_⟩
        exact ((((below_of HCH.out (Nat.le_succ _)).setCell (Nat.le_refl _) _).setCell (Nat.le_refl _) _).setCell (Nat.le_refl _) _).setCell (Nat.le_refl _) _
  · have hin : (n : Int) ≤ i := by omega
    clear hR hc ht hlen hn hi hbl h1
    go_enter Tryd.func67, Tryd.ntmps67
    go_wp2
    go_loopg [1] (p.length + 1) (fun g v wr => RelMem ((w.alloc (.cells #[.int .u64 0, .int .u64 0, .int .u64 0, .int .u64 0] 102)).alloc (.cells #[.int .u64 0, .int .u64 0, .int .u64 0, .int .u64 0] 102)) (w.heap.size + 1) p R g v wr)
    case atStart => exact ⟨i, [0, 0, 0, 0], HI0.out, by omega, by first | rfl | go_num, cls_new _ _, HR.out, Ch.refl _ _, rfl⟩
    case round =>
      obtain ⟨k, c, hk, hk2, rfl, hcl, hml, hch, hsz⟩ := hrel
      have hk' : (k : Int) ≤ n := by have := HLEN.out; omega
      have HK := Lib.hid hk
      clear hk
      by_cases hkn : k < p.length
      · have hkn' : (k : Int) < n := by have := HLEN.out; omega
        have hB : BytesAt wr b off p := bytes_ch (bytes_ch HC.out (((Ch.refl (fun _ => False) w).alloc _).alloc _) HBL.out id) hch (fun h => by have := HBL.out h; simp; omega) (fun e => by have := HBL.out (fun e => by rw [e] at hkn; simp at hkn); omega)
        have hcellk := hB k hkn
        obtain ⟨x, hx⟩ : ∃ x, (bget p k).toNat = x := ⟨_, rfl⟩
        by_cases hx93 : bget p k = 93
        · have hne : (((bget p k).toNat : Int) != 93) = false := by rw [bne_eq_false_iff_eq, hx93]; rfl
          rw [hx] at hcellk hne
          have HX := Lib.hid hx93
          clear hx hB
          obtain ⟨d0, d1, d2, d3, hd, b0, b1, b2, b3, q0, q1, q2, q3⟩ := cls_four hcl
          have HCH := Lib.hid hch
          have HE := Lib.hid (show R = (c, k) by rw [← hml]; obtain ⟨g', rfl⟩ : ∃ g', gk = g' + 1 := ⟨gk - 1, by have := HK.out; omega⟩; exact memLoop_stop (by intro hh; first | exact hh.2 hx93 | omega))
          have HD := Lib.hid hd
          have hf0 := hcl.free 0
          have hf1 := hcl.free 1
          have hf2 := hcl.free 2
          have hf3 := hcl.free 3
          have hszr : wr.heap.size = w.heap.size + 1 + 1 := by rw [hsz]; simp
          have HSZ := Lib.hid hszr
          have hl1 : w.heap.size + 1 < wr.heap.size := by omega
          have hr0 : ∃ r0, blk wr w.heap.size = some (.cells #[.int .u64 0, .int .u64 0, .int .u64 0, .int .u64 0] 102 (0, 0)) ∧ r0 = 0 := ⟨0, by rw [← blk_ch_eq hch (by simp; omega) (by omega)]; rw [blk_alloc_lt _ _ _ (by simp), blk_alloc_self _ _ _ rfl], rfl⟩
          obtain ⟨_, hr0, -⟩ := hr0
          have r0 : wr.cell? ⟨w.heap.size, 0, none⟩ = some (.int .u64 0) := by rw [cell_blk hr0]; rfl
          have r1 : wr.cell? ⟨w.heap.size, 1, none⟩ = some (.int .u64 0) := by rw [cell_blk hr0]; rfl
          have r2 : wr.cell? ⟨w.heap.size, 2, none⟩ = some (.int .u64 0) := by rw [cell_blk hr0]; rfl
          have r3 : wr.cell? ⟨w.heap.size, 3, none⟩ = some (.int .u64 0) := by rw [cell_blk hr0]; rfl
          have s0 := frozen_blk hr0 0
          have s1 := frozen_blk hr0 1
          have s2 := frozen_blk hr0 2
          have s3 := frozen_blk hr0 3
          clear hcl hch hml hd hk2 hsz hszr hr0
          go_wp2
          refine bodyPost_ret (v := .tuple #[.agg #[.int .u64 d0, .int .u64 d1, .int .u64 d2, .int .u64 d3], .int .i64 ((k + 1 : Nat) : Int)]) (by simp [results, Tryd.results67, go_sem, r0, r1, r2, r3]) rfl ?_
          refine ⟨d0, d1, d2, d3, by rw [HE.out]; exact HD.out, b0, b1, b2, b3, by rw [HE.out], ?_⟩
          exact ((((below_of HCH.out (Nat.le_succ _)).setCell (Nat.le_refl _) _).setCell (Nat.le_refl _) _).setCell (Nat.le_refl _) _).setCell (Nat.le_refl _) _
        · have hne : (((bget p k).toNat : Int) != 93) = true := by rw [bne_iff_ne]; intro e; exact hx93 (UInt8.toNat_inj.1 (by simpa using Int.ofNat.inj e))
          rw [hx] at hcellk hne
          obtain ⟨z, i1, hq, hz, hgt, hle⟩ : ∃ z i1, (quoted p k).1.toNat = z ∧ (quoted p k).2 = i1 ∧ k < i1 ∧ i1 ≤ p.length := ⟨_, _, rfl, rfl, quoted_gt p k, quoted_le p k hkn⟩
          have hz8 : z < 256 := by rw [← hq]; exact UInt8.toNat_lt _
          have hQ := quoted_n b off cap p n k k wr HLEN.out rfl (by have := HLEN.out; have := HLN.out; omega) (by have := HLEN.out; omega) hB
          rw [hq, hz] at hQ
          have HQ := Lib.hid hQ
          have HZ := Lib.hid (And.intro hq hz)
          have HADD := Lib.hid (add_all (w.heap.size + 1) 0 c z z wr hz8 hz8 hcl)
          have HCH := Lib.hid hch
          have HSZ := Lib.hid hsz
          have HML := Lib.hid hml
          have HK2 := Lib.hid hk2
          have HX := Lib.hid (And.intro hkn hx93)
          have hle' : (i1 : Int) ≤ n := by have := HLEN.out; omega
          have HLT := Lib.hid hgt
          have HLE := Lib.hid hle
          clear hQ hq hz hch hsz hml hk2 hx hgt hle hx93 hkn
          by_cases hb1 : i1 + 1 < p.length
          · have hb1' : (i1 : Int) + 1 < n := by have := HLEN.out; omega
            have hcA := hB i1 (by omega)
            by_cases hA : bget p i1 = 45
            · have hnA : (((bget p i1).toNat : Int) == 45) = true := u8_eq (by decide) hA
              have hcB := hB (i1 + 1) hb1
              by_cases hE : bget p (i1 + 1) = 93
              · have hnB : (((bget p (i1 + 1)).toNat : Int) != 93) = false := by rw [bne_eq_false_iff_eq, hE]; rfl
                obtain ⟨xa, hxa⟩ : ∃ xa, (bget p i1).toNat = xa := ⟨_, rfl⟩
                obtain ⟨xb, hxb⟩ : ∃ xb, (bget p (i1 + 1)).toNat = xb := ⟨_, rfl⟩
                rw [hxa] at hcA hnA
                rw [hxb] at hcB hnB
                have HNO := Lib.hid (show ¬ (i1 + 1 < p.length ∧ bget p i1 = 45 ∧ bget p (i1 + 1) ≠ 93) from fun h => h.2.2 hE)
                clear hB hxa hxb hE hA hb1 hcl
                go_wp2_with fail
                refine HQ.out.mono ?_
                rintro e w' ⟨rfl, rfl⟩
                go_wp2_with fail
                refine HADD.out.mono ?_
                rintro e w' ⟨rfl, hw4⟩
                have HW := Lib.hid hw4
                clear hw4
                go_wp2
                go_roundg (gk - 1)
                case measure => have := HK2.out; have := HK.out; omega
                case rel =>
                  have hR : memLoop p (gk - 1) i1 (addS c z z) = R := by
                    rw [← HML.out]
                    obtain ⟨g', rfl⟩ : ∃ g', gk = g' + 1 := ⟨gk - 1, by have := HK.out; have := HK2.out; omega⟩
                    have hy := HNO.out
                    rw [← HZ.out.2] at hy
                    rw [memLoop_one HX.out hy, HZ.out.1, HZ.out.2]; rfl
                  exact ⟨i1, _, HLE.out, by have := HK2.out; have := HLT.out; omega, by first | rfl | go_num, HW.out.at_, hR, HCH.out.trans HW.out.ch, HW.out.size.trans HSZ.out⟩
              · have hnB : (((bget p (i1 + 1)).toNat : Int) != 93) = true := by rw [bne_iff_ne]; intro e; exact hE (UInt8.toNat_inj.1 (by simpa using Int.ofNat.inj e))
                have hQ2 := quoted_n b off cap p n (i1 + 1) (i1 + 1) wr HLEN.out (by simp) (by have := HLEN.out; have := HLN.out; omega) (by have := HLEN.out; omega) hB
                obtain ⟨z2, i2, hq2, hz2, hgt2, hle2⟩ : ∃ z i2, (quoted p (i1 + 1)).1.toNat = z ∧ (quoted p (i1 + 1)).2 = i2 ∧ i1 + 1 < i2 ∧ i2 ≤ p.length := ⟨_, _, rfl, rfl, quoted_gt p _, quoted_le p _ hb1⟩
                have hz82 : z2 < 256 := by rw [← hq2]; exact UInt8.toNat_lt _
                rw [hq2, hz2] at hQ2
                have HQ2 := Lib.hid hQ2
                have HADD2 := Lib.hid (add_all (w.heap.size + 1) 0 c z z2 wr hz8 hz82 hcl)
                have HZ2 := Lib.hid (And.intro hq2 hz2)
                have HLT2 := Lib.hid hgt2
                have HLE2 := Lib.hid hle2
                have hle2' : (i2 : Int) ≤ n := by have := HLEN.out; omega
                obtain ⟨xa, hxa⟩ : ∃ xa, (bget p i1).toNat = xa := ⟨_, rfl⟩
                obtain ⟨xb, hxb⟩ : ∃ xb, (bget p (i1 + 1)).toNat = xb := ⟨_, rfl⟩
                rw [hxa] at hcA hnA
                rw [hxb] at hcB hnB
                have HYES := Lib.hid (show (i1 + 1 < p.length ∧ bget p i1 = 45 ∧ bget p (i1 + 1) ≠ 93) from ⟨hb1, hA, hE⟩)
                clear hB hxa hxb hE hA hb1 hcl hQ2 hq2 hz2 hgt2 hle2
                go_wp2_with fail
                refine HQ.out.mono ?_
                rintro e w' ⟨rfl, rfl⟩
                go_wp2_with fail
                refine HQ2.out.mono ?_
                rintro e w' ⟨rfl, rfl⟩
                go_wp2_with fail
                refine HADD2.out.mono ?_
                rintro e w' ⟨rfl, hw4⟩
                have HW := Lib.hid hw4
                clear hw4
                go_wp2
                go_roundg (gk - 1)
                case measure => have := HK2.out; have := HK.out; omega
                case rel =>
                  have hR : memLoop p (gk - 1) i2 (addS c z z2) = R := by
                    rw [← HML.out]
                    obtain ⟨g', rfl⟩ : ∃ g', gk = g' + 1 := ⟨gk - 1, by have := HK.out; have := HK2.out; omega⟩
                    have hy := HYES.out
                    rw [← HZ.out.2] at hy
                    rw [memLoop_two HX.out hy, HZ.out.1, HZ.out.2, HZ2.out.1, HZ2.out.2]; rfl
                  exact ⟨i2, _, HLE2.out, by have := HK2.out; have := HLT.out; have := HLT2.out; omega, by first | rfl | go_num, HW.out.at_, hR, HCH.out.trans HW.out.ch, HW.out.size.trans HSZ.out⟩
            · have hnA : (((bget p i1).toNat : Int) == 45) = false := u8_ne (by decide) hA
              obtain ⟨xa, hxa⟩ : ∃ xa, (bget p i1).toNat = xa := ⟨_, rfl⟩
              rw [hxa] at hcA hnA
              have HNO := Lib.hid (show ¬ (i1 + 1 < p.length ∧ bget p i1 = 45 ∧ bget p (i1 + 1) ≠ 93) from fun h => hA h.2.1)
              clear hB hxa hA hb1 hcl
              go_wp2_with fail
              refine HQ.out.mono ?_
              rintro e w' ⟨rfl, rfl⟩
              go_wp2_with fail
              refine HADD.out.mono ?_
              rintro e w' ⟨rfl, hw4⟩
              have HW := Lib.hid hw4
              clear hw4
              go_wp2
              go_roundg (gk - 1)
              case measure => have := HK2.out; have := HK.out; omega
              case rel =>
                have hR : memLoop p (gk - 1) i1 (addS c z z) = R := by
                  rw [← HML.out]
                  obtain ⟨g', rfl⟩ : ∃ g', gk = g' + 1 := ⟨gk - 1, by have := HK.out; have := HK2.out; omega⟩
                  have hy := HNO.out
                  rw [← HZ.out.2] at hy
                  rw [memLoop_one HX.out hy, HZ.out.1, HZ.out.2]; rfl
                exact ⟨i1, _, HLE.out, by have := HK2.out; have := HLT.out; omega, by first | rfl | go_num, HW.out.at_, hR, HCH.out.trans HW.out.ch, HW.out.size.trans HSZ.out⟩
          · have hb1' : (n : Int) ≤ i1 + 1 := by have := HLEN.out; omega
            have HNO := Lib.hid (show ¬ (i1 + 1 < p.length ∧ bget p i1 = 45 ∧ bget p (i1 + 1) ≠ 93) from fun h => hb1 h.1)
            clear hB hb1 hcl
            go_wp2_with fail
            refine HQ.out.mono ?_
            rintro e w' ⟨rfl, rfl⟩
            go_wp2_with fail
            refine HADD.out.mono ?_
            rintro e w' ⟨rfl, hw4⟩
            have HW := Lib.hid hw4
            clear hw4
            go_wp2
            go_roundg (gk - 1)
            case measure => have := HK2.out; have := HK.out; omega
            case rel =>
              have hR : memLoop p (gk - 1) i1 (addS c z z) = R := by
                rw [← HML.out]
                obtain ⟨g', rfl⟩ : ∃ g', gk = g' + 1 := ⟨gk - 1, by have := HK.out; have := HK2.out; omega⟩
                have hy := HNO.out
                rw [← HZ.out.2] at hy
                rw [memLoop_one HX.out hy, HZ.out.1, HZ.out.2]; rfl
              exact ⟨i1, _, HLE.out, by have := HK2.out; have := HLT.out; omega, by first | rfl | go_num, HW.out.at_, hR, HCH.out.trans HW.out.ch, HW.out.size.trans HSZ.out⟩
      · have hkn' : (n : Int) ≤ k := by have := HLEN.out; omega
        have hx93 : True := trivial
        obtain ⟨d0, d1, d2, d3, hd, b0, b1, b2, b3, q0, q1, q2, q3⟩ := cls_four hcl
        have HCH := Lib.hid hch
        have HE := Lib.hid (show R = (c, k) by rw [← hml]; obtain ⟨g', rfl⟩ : ∃ g', gk = g' + 1 := ⟨gk - 1, by have := HK.out; omega⟩; exact memLoop_stop (by intro hh; first | exact hh.2 hx93 | omega))
        have HD := Lib.hid hd
        have hf0 := hcl.free 0
        have hf1 := hcl.free 1
        have hf2 := hcl.free 2
        have hf3 := hcl.free 3
        have hszr : wr.heap.size = w.heap.size + 1 + 1 := by rw [hsz]; simp
        have HSZ := Lib.hid hszr
        have hl1 : w.heap.size + 1 < wr.heap.size := by omega
        have hr0 : ∃ r0, blk wr w.heap.size = some (.cells #[.int .u64 0, .int .u64 0, .int .u64 0, .int .u64 0] 102 (0, 0)) ∧ r0 = 0 := ⟨0, by rw [← blk_ch_eq hch (by simp; omega) (by omega)]; rw [blk_alloc_lt _ _ _ (by simp), blk_alloc_self _ _ _ rfl], rfl⟩
        obtain ⟨_, hr0, -⟩ := hr0
        have r0 : wr.cell? ⟨w.heap.size, 0, none⟩ = some (.int .u64 0) := by rw [cell_blk hr0]; rfl
        have r1 : wr.cell? ⟨w.heap.size, 1, none⟩ = some (.int .u64 0) := by rw [cell_blk hr0]; rfl
        have r2 : wr.cell? ⟨w.heap.size, 2, none⟩ = some (.int .u64 0) := by rw [cell_blk hr0]; rfl
        have r3 : wr.cell? ⟨w.heap.size, 3, none⟩ = some (.int .u64 0) := by rw [cell_blk hr0]; rfl
        have s0 := frozen_blk hr0 0
        have s1 := frozen_blk hr0 1
        have s2 := frozen_blk hr0 2
        have s3 := frozen_blk hr0 3
        clear hcl hch hml hd hk2 hsz hszr hr0
        go_wp2
        refine bodyPost_ret (v := .tuple #[.agg #[.int .u64 d0, .int .u64 d1, .int .u64 d2, .int .u64 d3], .int .i64 ((k + 1 : Nat) : Int)]) (by simp [results, Tryd.results67, go_sem, r0, r1, r2, r3]) rfl ?_
        refine ⟨d0, d1, d2, d3, by rw [HE.out]; exact HD.out, b0, b1, b2, b3, by rw [HE.out], ?_⟩
        exact ((((below_of HCH.out (Nat.le_succ _)).setCell (Nat.le_refl _) _).setCell (Nat.le_refl _) _).setCell (Nat.le_refl _) _).setCell (Nat.le_refl _) _
end Go.Proofs.YtgfldammdcocmaaDoor
