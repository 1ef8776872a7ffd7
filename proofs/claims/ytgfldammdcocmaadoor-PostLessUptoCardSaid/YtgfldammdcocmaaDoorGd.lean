import Derived.Test.YtgfldammdcocmaaDoorGc
import Derived.Test.YtgfldammdcocmaaDoorPt
import Derived.Deep.CutRange
import Derived.Deep.CutBlock
namespace Go.Proofs.YtgfldammdcocmaaDoor
open Go.RowKit

theorem members_any (b off cap : Nat) (p : List UInt8) (i : Nat) (w : World) (hlen : p.length ≤ 140737488351232) (hi : i ≤ p.length) (hc : BytesAt w b off p) (hbl : p ≠ [] → b < w.heap.size) :
    Calls Tryd.prog 67 #[.slice (some ⟨b, off, none⟩) p.length cap, .int .i64 i] w fun e w' => MemLeft w (membersF p i) e w' := by
  unfold membersF
  by_cases ht : i < p.length ∧ bget p i = 94
  · rw [if_pos ht]; exact members_yes b off cap p i w hlen hi hc hbl ht
  · rw [if_neg ht]; exact members_no b off cap p i w hlen hi hc hbl ht

theorem memLoop_bd (p : List UInt8) : ∀ f i c, i ≤ p.length → i ≤ (memLoop p f i c).2 ∧ (memLoop p f i c).2 ≤ p.length := by
  intro f
  induction f with
  | zero => intro i c hi; exact ⟨Nat.le_refl _, hi⟩
  | succ f ih =>
    intro i c hi
    unfold memLoop
    split
    · rename_i h
      have h1 := quoted_gt p i
      have h2 := quoted_le p i h.1
      split
      · rename_i h3
        have h4 := quoted_gt p ((quoted p i).2 + 1)
        have h5 := quoted_le p ((quoted p i).2 + 1) h3.1
        have := ih (quoted p ((quoted p i).2 + 1)).2 (addS c (quoted p i).1.toNat (quoted p ((quoted p i).2 + 1)).1.toNat) h5
        omega
      · have := ih (quoted p i).2 (addS c (quoted p i).1.toNat (quoted p i).1.toNat) h2
        omega
    · exact ⟨Nat.le_refl _, hi⟩
theorem membersF_bd (p : List UInt8) (i : Nat) (hi : i ≤ p.length) : i < (membersF p i).2 ∧ (membersF p i).2 ≤ p.length + 1 := by
  unfold membersF
  split
  · rename_i h
    have := memLoop_bd p (p.length + 1) (i + 1) [0, 0, 0, 0] h.1
    simp only; omega
  · have := memLoop_bd p (p.length + 1) i [0, 0, 0, 0] hi
    simp only; omega

abbrev Pc := Bool × List Nat
def full4 : List Nat := [18446744073709551615, 18446744073709551615, 18446744073709551615, 18446744073709551615]
def slashed (p : List UInt8) (i : Nat) : Nat := if bget p i = 92 ∧ i + 1 < p.length then i + 1 else i
def pieceAt (p : List UInt8) (i : Nat) : Pc × Nat :=
  if bget p i = 42 then ((true, [0, 0, 0, 0]), i + 1)
  else if bget p i = 63 then ((false, full4), i + 1)
  else if bget p i = 91 then ((false, (membersF p (i + 1)).1), (membersF p (i + 1)).2)
  else ((false, addS [0, 0, 0, 0] (bget p (slashed p i)).toNat (bget p (slashed p i)).toNat), slashed p i + 1)
def piecesLoop (p : List UInt8) : Nat → Nat → List Pc → List Pc
  | 0, _, acc => acc
  | f + 1, i, acc => if i < p.length then piecesLoop p f (pieceAt p i).2 (acc ++ [(pieceAt p i).1]) else acc
def piecesF (p : List UInt8) : List Pc := piecesLoop p (p.length + 2) 0 []
def encP (x : Pc) : List Value := .bool x.1 :: x.2.map (fun n => .int .u64 (n : Nat))

theorem pieceAt_bd (p : List UInt8) (i : Nat) (hi : i < p.length) : i < (pieceAt p i).2 ∧ (pieceAt p i).2 ≤ p.length + 1 := by
  unfold pieceAt slashed
  split
  · simp only; omega
  split
  · simp only; omega
  split
  · have := membersF_bd p (i + 1) hi
    simp only; omega
  · simp only; split <;> omega

/-- the two variables of the package, as they were laid. -/
structure GlobAt (w : World) : Prop where
  lt : 1 < w.heap.size
  n0 : w.cell? ⟨0, 0, none⟩ = some (.int .u64 0)
  n1 : w.cell? ⟨0, 1, none⟩ = some (.int .u64 0)
  n2 : w.cell? ⟨0, 2, none⟩ = some (.int .u64 0)
  n3 : w.cell? ⟨0, 3, none⟩ = some (.int .u64 0)
  e0 : w.cell? ⟨1, 0, none⟩ = some (.int .u64 18446744073709551615)
  e1 : w.cell? ⟨1, 1, none⟩ = some (.int .u64 18446744073709551615)
  e2 : w.cell? ⟨1, 2, none⟩ = some (.int .u64 18446744073709551615)
  e3 : w.cell? ⟨1, 3, none⟩ = some (.int .u64 18446744073709551615)

theorem GlobAt.below {w w' : World} {B : Nat} (h : GlobAt w) (hb : Below B w w') (hB : 1 < B) : GlobAt w' := by
  obtain ⟨h0, a0, a1, a2, a3, b0, b1, b2, b3⟩ := h
  have k0 : w'.heap[0]? = w.heap[0]? := hb.block 0 (by omega)
  have k1 : w'.heap[1]? = w.heap[1]? := hb.block 1 (by omega)
  have z0 : ∀ o, w'.cell? ⟨0, o, none⟩ = w.cell? ⟨0, o, none⟩ := fun o => World.cell?_of_block (a := ⟨0, o, none⟩) k0
  have z1 : ∀ o, w'.cell? ⟨1, o, none⟩ = w.cell? ⟨1, o, none⟩ := fun o => World.cell?_of_block (a := ⟨1, o, none⟩) k1
  refine ⟨Nat.lt_of_lt_of_le h0 hb.size, ?_, ?_, ?_, ?_, ?_, ?_, ?_, ?_⟩ <;> first | rw [z0]; assumption | rw [z1]; assumption

theorem info104 : (Tryd.prog.info? 104).map (fun i => (i.zero, i.size, i.bytes)) = some (some (.agg #[.bool false, .int .u64 0, .int .u64 0, .int .u64 0, .int .u64 0]), 5, 40) := by kernel_rfl
theorem und98 : Tryd.prog.underlying 98 = some (.slice 104) := by kernel_rfl

theorem five_cells (w : World) (a b c d e : Value) (T : TypeId) : ∀ j u, [a, b, c, d, e][j]? = some u → (w.alloc (.cells #[a, b, c, d, e] T)).cell? ((⟨w.heap.size, 0, none⟩ : Addr).add j) = some u := by
  intro j u hj
  have : ((⟨w.heap.size, 0, none⟩ : Addr).add j) = ⟨w.heap.size, j, none⟩ := by unfold Addr.add; split <;> simp_all
  rw [this, World.cell?_alloc_new]
  simpa using hj

theorem cls_piece (w : World) : ClsAt (w.alloc (.cells #[.bool false, .int .u64 0, .int .u64 0, .int .u64 0, .int .u64 0] 104)) w.heap.size 1 [0, 0, 0, 0] := by
  have hb : blk (w.alloc (.cells #[.bool false, .int .u64 0, .int .u64 0, .int .u64 0, .int .u64 0] 104)) w.heap.size = some (.cells #[.bool false, .int .u64 0, .int .u64 0, .int .u64 0, .int .u64 0] 104 (0, 0)) := blk_alloc_self _ _ _ rfl
  refine ⟨rfl, fun i => ?_, fun i hi => ?_, fun i => frozen_blk hb i⟩
  · match i with
    | 0 | 1 | 2 | 3 => decide
    | i + 4 => simp
  · rw [cell_blk hb]
    match i, hi with
    | 0, _ | 1, _ | 2, _ | 3, _ => rfl

/-- what the switch of 'pieces' leaves: the new piece in the block that was laid for it. -/
def CutP (wr : World) (p : List UInt8) (k : Nat) (v : Value) (wc : World) : Prop :=
  ∃ st d0 d1 d2 d3 k', pieceAt p k = ((st, [d0, d1, d2, d3]), k') ∧ v = .int .i64 (k' : Nat) ∧ wc.cell? ⟨wr.heap.size, 0, none⟩ = some (.bool st) ∧
    wc.cell? ⟨wr.heap.size, 1, none⟩ = some (.int .u64 (d0 : Nat)) ∧ wc.cell? ⟨wr.heap.size, 2, none⟩ = some (.int .u64 (d1 : Nat)) ∧
    wc.cell? ⟨wr.heap.size, 3, none⟩ = some (.int .u64 (d2 : Nat)) ∧ wc.cell? ⟨wr.heap.size, 4, none⟩ = some (.int .u64 (d3 : Nat)) ∧
    Below wr.heap.size wr wc ∧ wr.heap.size < wc.heap.size

theorem cutp_mk {wr wc : World} {p : List UInt8} {k k' : Nat} {st : Bool} {d0 d1 d2 d3 : Nat} {v x0 x1 x2 x3 : Value} (hp : pieceAt p k = ((st, [d0, d1, d2, d3]), k')) (hv : v = .int .i64 (k' : Nat))
    (hb : blk wc wr.heap.size = some (.cells #[.bool st, x0, x1, x2, x3] 104 (0, 0))) (h0 : x0 = .int .u64 (d0 : Nat)) (h1 : x1 = .int .u64 (d1 : Nat)) (h2 : x2 = .int .u64 (d2 : Nat)) (h3 : x3 = .int .u64 (d3 : Nat)) (hbel : Below wr.heap.size wr wc) : CutP wr p k v wc := by
  subst h0 h1 h2 h3
  refine ⟨st, d0, d1, d2, d3, k', hp, hv, ?_, ?_, ?_, ?_, ?_, hbel, lt_of_blk hb⟩ <;> rw [cell_blk hb] <;> rfl
theorem setStar {w : World} {b : Nat} {c : Bool} {x0 x1 x2 x3 y : Value} (h : blk w b = some (.cells #[.bool c, x0, x1, x2, x3] 104 (0, 0))) :
    blk (w.setCell ⟨b, 0, none⟩ y) b = some (.cells #[y, x0, x1, x2, x3] 104 (0, 0)) := blk_setCell_self _ _ _ _ _ _ _ h
theorem ClsAt.drew {w : World} {b off : Nat} {c : List Nat} (h : ClsAt w b off c) : ClsAt w.drew b off c := ⟨h.len, h.bd, h.cell, h.free⟩
theorem cutp_w4 {wr w' : World} {p : List UInt8} {k k' z : Nat} {v : Value} (hp : pieceAt p k = ((false, addS [0, 0, 0, 0] z z), k')) (hv : v = .int .i64 (k' : Nat))
    (h : Wr4 (wr.alloc (.cells #[.bool false, .int .u64 0, .int .u64 0, .int .u64 0, .int .u64 0] 104)).drew w' wr.heap.size 1 (addS [0, 0, 0, 0] z z)) : CutP wr p k v w' := by
  obtain ⟨⟨hl, hb, hc, hf⟩, hch, hrest, hsz⟩ := h
  have h0 := hrest 0 (Or.inl (by omega))
  have h0' : (wr.alloc (.cells #[.bool false, .int .u64 0, .int .u64 0, .int .u64 0, .int .u64 0] 104)).drew.cell? ⟨wr.heap.size, 0, none⟩ = some (.bool false) := by
    show (wr.alloc _).cell? _ = _
    rw [World.cell?_alloc_new]; rfl
  rw [h0'] at h0
  have hbel : Below wr.heap.size wr w' := Below.ofCh ((Below.refl _ _).alloc (Nat.le_refl _) _).drew hch (Nat.le_refl _)
  have hlt : wr.heap.size < w'.heap.size := by rw [hsz]; show _ < (wr.alloc _).heap.size; simp
  generalize addS [0, 0, 0, 0] z z = c at *
  match c, hl with
  | [d0, d1, d2, d3], _ =>
    exact ⟨false, d0, d1, d2, d3, k', hp, hv, h0, hc 0 (by omega), hc 1 (by omega), hc 2 (by omega), hc 3 (by omega), hbel, hlt⟩
theorem newPiece (w : World) : blk (w.alloc (.cells #[.bool false, .int .u64 0, .int .u64 0, .int .u64 0, .int .u64 0] 104)) w.heap.size = some (.cells #[.bool false, .int .u64 0, .int .u64 0, .int .u64 0, .int .u64 0] 104 (0, 0)) := blk_alloc_self _ _ _ rfl
theorem setPiece {w : World} {b : Nat} {c : Bool} {y0 y1 y2 y3 : Value} {x0 x1 x2 x3 : Value} (h : blk w b = some (.cells #[.bool c, x0, x1, x2, x3] 104 (0, 0))) :
    blk ((((w.setCell ⟨b, 1, none⟩ y0).setCell ⟨b, 2, none⟩ y1).setCell ⟨b, 3, none⟩ y2).setCell ⟨b, 4, none⟩ y3) b = some (.cells #[.bool c, y0, y1, y2, y3] 104 (0, 0)) :=
  blk_setCell_self _ _ _ _ _ _ _ (blk_setCell_self _ _ _ _ _ _ _ (blk_setCell_self _ _ _ _ _ _ _ (blk_setCell_self _ _ _ _ _ _ _ h)))
theorem Below.set4 {w wc : World} {b : Nat} {y0 y1 y2 y3 : Value} (h : Below w.heap.size w wc) (hb : w.heap.size ≤ b) : Below w.heap.size w ((((wc.setCell ⟨b, 1, none⟩ y0).setCell ⟨b, 2, none⟩ y1).setCell ⟨b, 3, none⟩ y2).setCell ⟨b, 4, none⟩ y3) :=
  (((h.setCell hb _).setCell hb _).setCell hb _).setCell hb _

def RelPc (w : World) (p : List UInt8) (R : List Pc) (g : Nat) (vl vi : Value) (wr : World) : Prop :=
  ∃ k acc, k ≤ p.length + 1 ∧ p.length + 1 < g + k ∧ vi = .int .i64 (k : Nat) ∧ piecesLoop p g k acc = R ∧ wr.ownsRow w.heap.size 104 5 vl acc.length (acc.flatMap encP) ∧ Below w.heap.size w wr ∧ acc.length ≤ k

set_option maxHeartbeats 2000000 in
set_option maxRecDepth 100000 in
theorem pieces_any (b off cap : Nat) (p : List UInt8) (w : World) (hlen : p.length ≤ 1048576) (hc : BytesAt w b off p) (hbl : p ≠ [] → b < w.heap.size) (hG : GlobAt w) :
    Calls Tryd.prog 57 #[.slice (some ⟨b, off, none⟩) p.length cap] w fun e w' => ∃ v, e = .returned v ∧ w'.ownsRow w.heap.size 104 5 v (piecesF p).length ((piecesF p).flatMap encP) ∧ Below w.heap.size w w' := by
  obtain ⟨R, hR⟩ : ∃ R, piecesF p = R := ⟨_, rfl⟩
  obtain ⟨n, hn⟩ : ∃ n, p.length = n := ⟨_, rfl⟩
  rw [hR]
  have hn' : (n : Int) ≤ 1048576 := by omega
  obtain ⟨i9, hi, hz0, hz1, hz2⟩ := info_parts info104
  have HI9 := Lib.hid hi
  have HZ0 := Lib.hid hz0
  have HZ1 := Lib.hid hz1
  have HZ2 := Lib.hid hz2
  have HR := Lib.hid hR
  have HC := Lib.hid hc
  have HBL := Lib.hid hbl
  have HGL := Lib.hid hG
  have HLEN := Lib.hid hn
  have HLN := Lib.hid hlen
  rw [hn]
  clear hR hc hlen hn hbl hG hi hz0 hz1 hz2
  go_enter Tryd.func57, Tryd.ntmps57
  go_wp2
  go_loopg [3, 4] (p.length + 2) (fun g vl vi wr => RelPc w p R g vl vi wr)
  case atStart => exact ⟨0, [], by omega, by omega, rfl, HR.out, World.ownsRow_nil _ _ _ _, Below.refl _ _, by simp⟩
  case round =>
    obtain ⟨k, acc, hk, hk2, rfl, hml, hown, hbel, hak⟩ := hrel
    have HK := Lib.hid hk
    have HK2 := Lib.hid hk2
    have HML := Lib.hid hml
    have HO := Lib.hid hown
    have HB := Lib.hid hbel
    have HAK := Lib.hid hak
    clear hk hk2 hml hown hbel hak
    by_cases hkn : k < p.length
    · have hkn' : (k : Int) < n := by have := HLEN.out; omega
      have hB : BytesAt wr b off p := by
        intro j hj
        rw [HB.out.cell (p := ⟨b, off + j, none⟩) (HBL.out (fun e => by rw [e] at hkn; simp at hkn))]
        exact HC.out j hj
      have hbw : b < wr.heap.size := Nat.lt_of_lt_of_le (HBL.out (fun e => by rw [e] at hkn; simp at hkn)) HB.out.size
      have hcellk := hB k hkn
      have HBY := Lib.hid hB
      have hGr := HGL.out.below HB.out HGL.out.lt
      clear hB
      obtain ⟨y, hy⟩ : ∃ y, (bget p k).toNat = y := ⟨_, rfl⟩
      rw [hy] at hcellk
      have HY := Lib.hid hy
      clear hy
      go_upto_block 2 with fail
      go_cut [4] from 6 to 59 (fun v wc => CutP wr p k v wc)
      case first =>
        have hcl0 : ClsAt (wr.alloc (.cells #[.bool false, .int .u64 0, .int .u64 0, .int .u64 0, .int .u64 0] 104)) wr.heap.size 1 [0, 0, 0, 0] := cls_piece wr
        have HCL := Lib.hid hcl0
        have HKN := Lib.hid hkn
        clear hcl0 hkn
        by_cases h42 : bget p k = 42
        · have q42 : ((y : Int) == 42) = true := by rw [← HY.out]; exact u8_eq (by decide) h42
          have H42 := Lib.hid h42
          clear h42
          go_wp2
          go_meet
          exact cutp_mk (st := true) (d0 := 0) (d1 := 0) (d2 := 0) (d3 := 0) (k' := k + 1) (by unfold pieceAt; rw [if_pos H42.out]) (by first | rfl | go_num) (blk_alloc_self _ _ _ rfl) rfl rfl rfl rfl ((Below.refl _ _).alloc (Nat.le_refl _) _)
        · have q42 : ((y : Int) == 42) = false := by rw [← HY.out]; exact u8_ne (by decide) h42
          have H42 := Lib.hid h42
          clear h42
          by_cases h63 : bget p k = 63
          · have q63 : ((y : Int) == 63) = true := by rw [← HY.out]; exact u8_eq (by decide) h63
            have H63 := Lib.hid h63
            have hg1 := hGr.lt
            have hg2 := hGr.e0
            have hg3 := hGr.e1
            have hg4 := hGr.e2
            have hg5 := hGr.e3
            clear h63
            go_wp2
            go_meet
            exact cutp_mk (st := false) (d0 := 18446744073709551615) (d1 := 18446744073709551615) (d2 := 18446744073709551615) (d3 := 18446744073709551615) (k' := k + 1) (by unfold pieceAt; rw [if_neg H42.out, if_pos H63.out]; rfl) (by first | rfl | go_num) (blk_alloc_self _ _ _ rfl) rfl rfl rfl rfl ((Below.refl _ _).alloc (Nat.le_refl _) _)
          · have q63 : ((y : Int) == 63) = false := by rw [← HY.out]; exact u8_ne (by decide) h63
            have H63 := Lib.hid h63
            clear h63
            by_cases h91 : bget p k = 91
            · have q91 : ((y : Int) == 91) = true := by rw [← HY.out]; exact u8_eq (by decide) h91
              have H91 := Lib.hid h91
              clear h91
              have hM := members_any b off cap p (k + 1) (wr.alloc (.cells #[.bool false, .int .u64 0, .int .u64 0, .int .u64 0, .int .u64 0] 104)) (by have := HLN.out; omega) HKN.out (bytes_ch HBY.out ((Ch.refl (fun _ => False) wr).alloc _) (fun _ => hbw) id) (fun _ => by simp; omega)
              rw [HLEN.out] at hM
              have HM := Lib.hid hM
              clear hM
              go_wp2_with fail
              refine HM.out.mono ?_
              rintro e w' ⟨d0, d1, d2, d3, hd, b0, b1, b2, b3, rfl, hb⟩
              have HB' := Lib.hid hb
              have hs' := hb.size
              simp at hs'
              obtain ⟨i1, hi1⟩ : ∃ i1, (membersF p (k + 1)).2 = i1 := ⟨_, rfl⟩
              rw [hi1]
              have hblk : blk w' wr.heap.size = some (.cells #[.bool false, .int .u64 0, .int .u64 0, .int .u64 0, .int .u64 0] 104 (0, 0)) := (hb.block _ (by simp)).trans (newPiece wr)
              have f1 := frozen_blk hblk 1
              have f2 := frozen_blk hblk 2
              have f3 := frozen_blk hblk 3
              have f4 := frozen_blk hblk 4
              have c0 := cell_blk hblk 0
              have c1 := cell_blk hblk 1
              have c2 := cell_blk hblk 2
              have c3 := cell_blk hblk 3
              have c4 := cell_blk hblk 4
              have HD := Lib.hid hd
              have HI1 := Lib.hid hi1
              have HBK := Lib.hid hblk
              clear hb hblk hd hi1
              go_wp2
              go_meet
              exact cutp_mk (st := false) (d0 := d0) (d1 := d1) (d2 := d2) (d3 := d3) (k' := i1) (by unfold pieceAt; rw [if_neg H42.out, if_neg H63.out, if_pos H91.out, HD.out, HI1.out]) rfl (setPiece HBK.out) rfl rfl rfl rfl (Below.set4 (((Below.refl _ _).alloc (Nat.le_refl _) _).trans (HB'.out.mono (by simp))) (Nat.le_refl _))
            · have q91 : ((y : Int) == 91) = false := by rw [← HY.out]; exact u8_ne (by decide) h91
              have H91 := Lib.hid h91
              clear h91
              by_cases h92 : bget p k = 92
              · have q92 : ((y : Int) == 92) = true := by rw [← HY.out]; exact u8_eq (by decide) h92
                have H92 := Lib.hid h92
                clear h92
                by_cases hk1 : k + 1 < p.length
                · have hk1' : (k : Int) + 1 < n := by have := HLEN.out; omega
                  have hc1 := HBY.out (k + 1) hk1
                  obtain ⟨z, hz⟩ : ∃ z, (bget p (k + 1)).toNat = z := ⟨_, rfl⟩
                  rw [hz] at hc1
                  have hz8 : z < 256 := by rw [← hz]; exact UInt8.toNat_lt _
                  have HADD := Lib.hid (add_all wr.heap.size 1 [0, 0, 0, 0] z z _ hz8 hz8 (ClsAt.drew HCL.out))
                  have HS := Lib.hid (show slashed p k = k + 1 by unfold slashed; rw [if_pos ⟨H92.out, hk1⟩])
                  have HZ := Lib.hid hz
                  have hz0 : (0 : Int) ≤ (k : Int) + 1 := by omega
                  have hz1 : ((k : Int) + 1).toNat = k + 1 := by omega
                  clear hk1 hz
                  go_wp2
                  refine wp_region_st 9 hmix (by kernel_rfl) ?_
                  simp only [List.take_succ_cons, List.take_zero, List.drop_succ_cons, List.drop_zero]
                  repeat still_step
                  refine wpStill_nil ?_
                  go_wp2_with fail
                  refine HADD.out.mono ?_
                  rintro e w' ⟨rfl, hw4⟩
                  have HW := Lib.hid hw4
                  clear hw4
                  go_wp2
                  go_meet
                  exact cutp_w4 (k' := k + 1 + 1) (by unfold pieceAt; rw [if_neg H42.out, if_neg H63.out, if_neg H91.out, HS.out, HZ.out]) (by first | rfl | go_num) HW.out
                · have hk1' : (n : Int) ≤ (k : Int) + 1 := by have := HLEN.out; omega
                  have hz8 : y < 256 := by rw [← HY.out]; exact UInt8.toNat_lt _
                  have HADD := Lib.hid (add_all wr.heap.size 1 [0, 0, 0, 0] y y _ hz8 hz8 (ClsAt.drew HCL.out))
                  have HS := Lib.hid (show slashed p k = k by unfold slashed; rw [if_neg (fun h => hk1 h.2)])
                  clear hk1
                  go_wp2
                  refine wp_region_st 9 hmix (by kernel_rfl) ?_
                  simp only [List.take_succ_cons, List.take_zero, List.drop_succ_cons, List.drop_zero]
                  repeat still_step
                  refine wpStill_nil ?_
                  go_wp2_with fail
                  refine HADD.out.mono ?_
                  rintro e w' ⟨rfl, hw4⟩
                  have HW := Lib.hid hw4
                  clear hw4
                  go_wp2
                  go_meet
                  exact cutp_w4 (k' := k + 1) (by unfold pieceAt; rw [if_neg H42.out, if_neg H63.out, if_neg H91.out, HS.out, HY.out]) (by first | rfl | go_num) HW.out
              · have q92 : ((y : Int) == 92) = false := by rw [← HY.out]; exact u8_ne (by decide) h92
                have hz8 : y < 256 := by rw [← HY.out]; exact UInt8.toNat_lt _
                have HADD := Lib.hid (add_all wr.heap.size 1 [0, 0, 0, 0] y y _ hz8 hz8 (ClsAt.drew HCL.out))
                have HS := Lib.hid (show slashed p k = k by unfold slashed; rw [if_neg (fun h => h92 h.1)])
                clear h92
                go_wp2
                refine wp_region_st 9 hmix (by kernel_rfl) ?_
                simp only [List.take_succ_cons, List.take_zero, List.drop_succ_cons, List.drop_zero]
                repeat still_step
                refine wpStill_nil ?_
                go_wp2_with fail
                refine HADD.out.mono ?_
                rintro e w' ⟨rfl, hw4⟩
                have HW := Lib.hid hw4
                clear hw4
                go_wp2
                go_meet
                exact cutp_w4 (k' := k + 1) (by unfold pieceAt; rw [if_neg H42.out, if_neg H63.out, if_neg H91.out, HS.out, HY.out]) (by first | rfl | go_num) HW.out
      case rest =>
        obtain ⟨st, d0, d1, d2, d3, k', hp, rfl, c0, c1, c2, c3, c4, hb, hlt⟩ := hcut
        have HP := Lib.hid hp
        have HBC := Lib.hid hb
        have hsz := HB.out.size
        have HOC := Lib.hid (ownsRow_ch (S := fun _ => False) HO.out ⟨hb.os, hb.tape, hb.output, hb.size, fun q hq _ => hb.block q hq⟩ (fun _ _ h => h))
        have HBW := Lib.hid (HB.out.trans (hb.mono hsz))
        have HKN := Lib.hid hkn
        clear hp hb hkn
        go_wp2_with (at_builtin; refine wpList_append_own _ rfl _ _ 98 rfl w.heap.size 104 i9 (.agg #[.bool false, .int .u64 0, .int .u64 0, .int .u64 0, .int .u64 0]) 5 40 und98 HI9.out HZ0.out HZ1.out HZ2.out rfl (by decide) _ _ _ rfl (HOC.out.alloc _) ⟨wc.heap.size, 0, none⟩ 1 1 [.bool st, .int .u64 (d0 : Nat), .int .u64 (d1 : Nat), .int .u64 (d2 : Nat), .int .u64 (d3 : Nat)] rfl rfl ?c1 ?c2 ?c3 ?c4 ?c5 ?_)
        case c1 => exact five_cells _ _ _ _ _ _ _
        case c2 => intro u hu; simp only [List.mem_cons, List.not_mem_nil, or_false] at hu; rcases hu with rfl | rfl | rfl | rfl | rfl <;> rfl
        case c3 => have := HAK.out; have := HK.out; have := HLN.out; unfold maxLen; omega
        case c4 => have := HAK.out; have := HK.out; have := HLN.out; omega
        case c5 => have := HBW.out.size; simp; omega
        intro v' w3 hown3 hgr3 hiff
        have HO3 := Lib.hid hown3
        have HB3 := Lib.hid ((HBW.out.alloc HBW.out.size (.cells #[.bool st, .int .u64 (d0 : Nat), .int .u64 (d1 : Nat), .int .u64 (d2 : Nat), .int .u64 (d3 : Nat)] 104)).grown hgr3 (by have := HBW.out.size; simp; omega) (fun q hq => (HOC.out.lt q hq).1))
        clear hown3 hgr3 hiff
        go_wp2
        have hbd := pieceAt_bd p k HKN.out
        rw [HP.out] at hbd
        simp only at hbd
        go_roundg (gk - 1)
        case measure => have := HK2.out; have := HK.out; omega
        case rel =>
          have hm : piecesLoop p (gk - 1) k' (acc ++ [(st, [d0, d1, d2, d3])]) = R := by
            rw [← HML.out]
            obtain ⟨g', rfl⟩ : ∃ g', gk = g' + 1 := ⟨gk - 1, by have := HK.out; have := HK2.out; omega⟩
            rw [piecesLoop, if_pos HKN.out, HP.out]; rfl
          exact ⟨k', _, hbd.2, by have := HK2.out; omega, rfl, hm, by simpa [encP] using HO3.out, HB3.out, by have := HAK.out; simp; omega⟩
    · have hkn' : (n : Int) ≤ k := by have := HLEN.out; omega
      have HE := Lib.hid (show acc = R by
        rw [← HML.out]
        obtain ⟨g', rfl⟩ : ∃ g', gk = g' + 1 := ⟨gk - 1, by have := HK.out; have := HK2.out; omega⟩
        rw [piecesLoop, if_neg hkn])
      clear hkn
      go_wp2
      go_ret
      exact ⟨_, rfl, by rw [← HE.out]; exact HO.out, HB.out⟩
end Go.Proofs.YtgfldammdcocmaaDoor
