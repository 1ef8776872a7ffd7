import Derived.Test.YtgfldammdcocmaaDoorBw
import Derived.Deep.LoopGhost
import Derived.WalkLawsBesides
import Derived.Laws.BitsAllLaws
namespace Go.Proofs.YtgfldammdcocmaaDoor
open Go.RowKit

theorem cell_set_same {w : World} {a : Addr} {u v : Value} (h : w.cell? a = some u) : (w.setCell a v).cell? a = some v := World.cell?_setCell_same _ _ _ h
theorem cell_set_ne {w : World} {a b : Addr} {v : Value} (h : a ≠ b) : (w.setCell a v).cell? b = w.cell? b := World.cell?_setCell_other _ _ _ _ h

def addB (c : List Nat) (b : Nat) : List Nat := c.set (b / 64) (c.getD (b / 64) 0 ||| 2 ^ (b % 64))

structure ClsAt (w : World) (b off : Nat) (c : List Nat) : Prop where
  len : c.length = 4
  bd : ∀ i, c.getD i 0 < 18446744073709551616
  cell : ∀ i, i < 4 → w.cell? ⟨b, off + i, none⟩ = some (.int .u64 (c.getD i 0))
  free : ∀ i, w.frozen? ⟨b, i, none⟩ = false

/-- the four words from off on in block b are c', all else is as it was. -/
structure Wr4 (w w' : World) (b off : Nat) (c' : List Nat) : Prop where
  at_ : ClsAt w' b off c'
  ch : Ch (fun k => k = b) w w'
  rest : ∀ o, (o < off ∨ off + 4 ≤ o) → w'.cell? ⟨b, o, none⟩ = w.cell? ⟨b, o, none⟩
  size : w'.heap.size = w.heap.size

theorem addB_len (c : List Nat) (b : Nat) : (addB c b).length = c.length := by simp [addB]
theorem addB_getD (c : List Nat) (b i : Nat) (hb : b / 64 < c.length) : (addB c b).getD i 0 = if i = b / 64 then c.getD (b / 64) 0 ||| 2 ^ (b % 64) else c.getD i 0 := by
  unfold addB
  simp only [List.getD_eq_getElem?_getD, List.getElem?_set]
  split
  · rename_i h; subst h; simp [hb]
  · rename_i h; rw [if_neg (fun e => h e.symm)]

theorem and63 (k : Nat) (hk : k < 256) : bits .and .i64 (k : Int) 63 = (k : Int) % 64 := by
  have := bits_mask .i64 63 (by decide) (fun n h0 h1 => by rw [IntKind.wrap_i64]; omega) 6 (by decide) (k : Int) (by omega) (by omega)
  simpa using this
theorem pow_lt (k : Nat) : 2 ^ (k % 64) < 18446744073709551616 := by
  have : 2 ^ (k % 64) ≤ 2 ^ 63 := Nat.pow_le_pow_right (by decide) (by omega)
  have e : (2 : Nat) ^ 63 = 9223372036854775808 := by decide
  omega
theorem wrap_pow (k : Nat) : IntKind.u64.wrap ((2 : Int) ^ (k % 64)) = ((2 ^ (k % 64) : Nat) : Int) := by
  rw [IntKind.wrap_u64]
  have h4 : (2 : Int) ^ (k % 64) = ((2 ^ (k % 64) : Nat) : Int) := by simp
  rw [h4]
  have h5 := pow_lt k
  generalize 2 ^ (k % 64) = y at *
  omega
theorem or_lt {a b : Nat} (ha : a < 18446744073709551616) (hb : b < 18446744073709551616) : a ||| b < 18446744073709551616 := by
  have e : 18446744073709551616 = 2 ^ 64 := by decide
  rw [e] at *
  exact Nat.or_lt_two_pow ha hb

def RelAdd (w : World) (b off : Nat) (c : List Nat) (lo hi : Nat) (g : Nat) (v : Value) (wr : World) : Prop :=
  ∃ k, lo ≤ k ∧ k ≤ hi + 1 ∧ g = hi + 1 - k ∧ v = .int .i64 k ∧ Wr4 w wr b off ((List.range' lo (k - lo)).foldl addB c)

theorem foldl_snoc (c : List Nat) (lo k : Nat) (h : lo ≤ k) : (List.range' lo (k + 1 - lo)).foldl addB c = addB ((List.range' lo (k - lo)).foldl addB c) k := by
  rw [show k + 1 - lo = (k - lo) + 1 by omega, List.range'_1_concat, List.foldl_append]
  simp only [List.foldl_cons, List.foldl_nil]
  rw [show lo + (k - lo) = k by omega]

theorem Wr4.step {w wr : World} {b off k : Nat} {c : List Nat} (hcl : Wr4 w wr b off c) (hb : k / 64 < 4) {x : Nat} (hx : c.getD (k / 64) 0 = x) : Wr4 w (wr.drew.setCell ⟨b, off + k / 64, none⟩ (.int .u64 ((x ||| 2 ^ (k % 64) : Nat)))) b off (addB c k) := by
  obtain ⟨⟨h1, h2, h3, h4⟩, h5, h6, h7⟩ := hcl
  have hk := h3 (k / 64) hb
  refine ⟨⟨by rw [addB_len]; exact h1, fun i => ?_, fun i hi => ?_, fun i => ?_⟩, ?_, fun o ho => ?_, ?_⟩
  · rw [addB_getD _ _ _ (by omega)]; split
    · exact or_lt (h2 _) (pow_lt k)
    · exact h2 i
  · rw [addB_getD _ _ _ (by omega)]
    by_cases e : i = k / 64
    · subst e
      rw [if_pos rfl, cell_set_same (w := wr.drew) hk, hx]
    · rw [if_neg e, cell_set_ne (w := wr.drew) (by intro h; injection h with _ h; omega)]; exact h3 i hi
  · rw [World.frozen?_setCell]; exact h4 i
  · exact Ch.setCell (S := fun k => k = b) h5.drew (fun _ => rfl) _
  · rw [cell_set_ne (w := wr.drew) (by intro h; injection h with _ h; omega)]; exact h6 o ho
  · simpa [World.setCell] using h7

set_option maxRecDepth 100000 in
theorem add_any (b off : Nat) (c : List Nat) (lo hi : Nat) (w : World) (hlo : lo < 256) (hhi : hi < 256) (hle : lo ≤ hi) (hc : ClsAt w b off c) :
   Calls Tryd.prog 68 #[.pointer (some ⟨b, off, none⟩), .int .u8 lo, .int .u8 hi] w fun e w' => e = .returned (.tuple #[]) ∧ Wr4 w w' b off ((List.range' lo (hi + 1 - lo)).foldl addB c) := by
  have h0 : (lo : Int) < 256 := by omega
  have h1 : (hi : Int) < 256 := by omega
  have hle' : (lo : Int) ≤ hi := by omega
  have hdec : decide ((hi : Int) < (lo : Int)) = false := by simp; omega
  have hdec' : decide (hi < lo) = false := by simp; omega
  have HC := Lib.hid hc
  clear hc
  go_enter Tryd.func68, Tryd.ntmps68
  go_wp2
  go_loopg [6] (hi + 1 - lo) (fun g v wr => RelAdd w b off c lo hi g v wr)
  case atStart => exact ⟨lo, Nat.le_refl _, by omega, rfl, rfl, by simpa using HC.out, Ch.refl _ _, fun _ _ => rfl, rfl⟩
  case round =>
    obtain ⟨k, hk1, hk2, hg, rfl, hcl⟩ := hrel
    by_cases hk : k ≤ hi
    · have hkk : (k : Int) ≤ hi := by omega
      have hd : k / 64 < 4 := by omega
      have hcell := hcl.at_.cell (k / 64) hd
      have hfr := hcl.at_.free (off + k / 64)
      obtain ⟨X, hX⟩ : ∃ X, ((List.range' lo (k - lo)).foldl addB c).getD (k / 64) 0 = X := ⟨_, rfl⟩
      have hXb : X < 18446744073709551616 := by rw [← hX]; exact hcl.at_.bd _
      rw [hX] at hcell
      obtain ⟨Y, hY⟩ : ∃ Y, Y = 2 ^ (k % 64) := ⟨_, rfl⟩
      have hYb : Y < 18446744073709551616 := by rw [hY]; exact pow_lt k
      obtain ⟨Z, hZ⟩ : ∃ Z, Z = X ||| Y := ⟨_, rfl⟩
      have hsh := wrap_pow k
      rw [← hY] at hsh
      have hor : bits .or .u64 (X : Int) (Y : Int) = (Z : Int) := by rw [u64_or_nat X Y hXb hYb, hZ]
      have hand := and63 k (by omega)
      have hd1 : (k : Int) / 64 < 4 := by omega
      have hd0 : 0 ≤ (k : Int) / 64 := by omega
      have hd2 : ((k : Int) / 64).toNat = k / 64 := by omega
      have HCL := Lib.hid hcl
      have HG := Lib.hid hg
      have HX := Lib.hid hX
      have HZ := Lib.hid (hZ.trans (by rw [hY]))
      clear hg hcl hX hZ hY hXb hYb
      go_wp2
      refine wp_region_st 12 hmix (by kernel_rfl) ?_
      simp only [List.take_succ_cons, List.take_zero, List.drop_succ_cons, List.drop_zero]
      repeat still_step
      refine wpStill_nil ?_
      go_wp2
      go_roundg (hi + 1 - (k + 1))
      case measure => rw [HG.out]; omega
      case rel =>
        refine ⟨k + 1, by omega, by omega, rfl, by go_num, ?_⟩
        rw [foldl_snoc _ _ _ hk1]
        have := HCL.out.step hd HX.out
        rw [← HZ.out] at this
        exact this
    · have hkk : (hi : Int) < k := by omega
      have hkk' : k = hi + 1 := by omega
      have HK := Lib.hid hkk'
      have HCL := Lib.hid hcl
      clear hkk' hcl hg
      go_wp2
      go_end0
      rw [HK.out] at HCL
      exact ⟨rfl, HCL.out⟩
set_option maxRecDepth 100000 in
theorem add_swap (b off : Nat) (c : List Nat) (lo hi : Nat) (w : World) (hlo : lo < 256) (hhi : hi < 256) (hle : lo < hi) (hc : ClsAt w b off c) :
   Calls Tryd.prog 68 #[.pointer (some ⟨b, off, none⟩), .int .u8 hi, .int .u8 lo] w fun e w' => e = .returned (.tuple #[]) ∧ Wr4 w w' b off ((List.range' lo (hi + 1 - lo)).foldl addB c) := by
  have h0 : (lo : Int) < 256 := by omega
  have h1 : (hi : Int) < 256 := by omega
  have hle' : (lo : Int) < hi := by omega
  have hdec : decide ((lo : Int) < (hi : Int)) = true := by simp; omega
  have hdec' : decide (lo < hi) = true := by simp; omega
  have HC := Lib.hid hc
  clear hc
  go_enter Tryd.func68, Tryd.ntmps68
  go_wp2
  go_loopg [6] (hi + 1 - lo) (fun g v wr => RelAdd w b off c lo hi g v wr)
  case atStart => exact ⟨lo, Nat.le_refl _, by omega, rfl, rfl, by simpa using HC.out, Ch.refl _ _, fun _ _ => rfl, rfl⟩
  case round =>
    obtain ⟨k, hk1, hk2, hg, rfl, hcl⟩ := hrel
    by_cases hk : k ≤ hi
    · have hkk : (k : Int) ≤ hi := by omega
      have hd : k / 64 < 4 := by omega
      have hcell := hcl.at_.cell (k / 64) hd
      have hfr := hcl.at_.free (off + k / 64)
      obtain ⟨X, hX⟩ : ∃ X, ((List.range' lo (k - lo)).foldl addB c).getD (k / 64) 0 = X := ⟨_, rfl⟩
      have hXb : X < 18446744073709551616 := by rw [← hX]; exact hcl.at_.bd _
      rw [hX] at hcell
      obtain ⟨Y, hY⟩ : ∃ Y, Y = 2 ^ (k % 64) := ⟨_, rfl⟩
      have hYb : Y < 18446744073709551616 := by rw [hY]; exact pow_lt k
      obtain ⟨Z, hZ⟩ : ∃ Z, Z = X ||| Y := ⟨_, rfl⟩
      have hsh := wrap_pow k
      rw [← hY] at hsh
      have hor : bits .or .u64 (X : Int) (Y : Int) = (Z : Int) := by rw [u64_or_nat X Y hXb hYb, hZ]
      have hand := and63 k (by omega)
      have hd1 : (k : Int) / 64 < 4 := by omega
      have hd0 : 0 ≤ (k : Int) / 64 := by omega
      have hd2 : ((k : Int) / 64).toNat = k / 64 := by omega
      have HCL := Lib.hid hcl
      have HG := Lib.hid hg
      have HX := Lib.hid hX
      have HZ := Lib.hid (hZ.trans (by rw [hY]))
      clear hg hcl hX hZ hY hXb hYb
      go_wp2
      refine wp_region_st 12 hmix (by kernel_rfl) ?_
      simp only [List.take_succ_cons, List.take_zero, List.drop_succ_cons, List.drop_zero]
      repeat still_step
      refine wpStill_nil ?_
      go_wp2
      go_roundg (hi + 1 - (k + 1))
      case measure => rw [HG.out]; omega
      case rel =>
        refine ⟨k + 1, by omega, by omega, rfl, by go_num, ?_⟩
        rw [foldl_snoc _ _ _ hk1]
        have := HCL.out.step hd HX.out
        rw [← HZ.out] at this
        exact this
    · have hkk : (hi : Int) < k := by omega
      have hkk' : k = hi + 1 := by omega
      have HK := Lib.hid hkk'
      have HCL := Lib.hid hcl
      clear hkk' hcl hg
      go_wp2
      go_end0
      rw [HK.out] at HCL
      exact ⟨rfl, HCL.out⟩

/-- 'add' as Go's text has it. -/
def addS (c : List Nat) (lo hi : Nat) : List Nat := if hi < lo then (List.range' hi (lo + 1 - hi)).foldl addB c else (List.range' lo (hi + 1 - lo)).foldl addB c
theorem add_all (b off : Nat) (c : List Nat) (lo hi : Nat) (w : World) (hlo : lo < 256) (hhi : hi < 256) (hc : ClsAt w b off c) :
   Calls Tryd.prog 68 #[.pointer (some ⟨b, off, none⟩), .int .u8 lo, .int .u8 hi] w fun e w' => e = .returned (.tuple #[]) ∧ Wr4 w w' b off (addS c lo hi) := by
  unfold addS
  split
  · exact add_swap b off c hi lo w hhi hlo (by omega) hc
  · exact add_any b off c lo hi w hlo hhi (by omega) hc

def bget (s : List UInt8) (i : Nat) : UInt8 := s.getD i 0
def quoted (p : List UInt8) (i : Nat) : UInt8 × Nat :=
  if bget p i = 92 ∧ i + 1 < p.length then (bget p (i+1), i + 2) else (bget p i, i + 1)

/-- a slice of bytes: what lies in it. -/
def BytesAt (w : World) (b off : Nat) (p : List UInt8) : Prop := ∀ j, j < p.length → w.cell? ⟨b, off + j, none⟩ = some (.int .u8 (bget p j).toNat)

theorem u8_ne {x : UInt8} {n : Nat} (hn : n < 256) (h : x ≠ UInt8.ofNat n) : ((x.toNat : Int) == (n : Int)) = false := by
  rw [beq_eq_false_iff_ne]; intro e; apply h; apply UInt8.toNat_inj.1
  rw [UInt8.toNat_ofNat', Nat.mod_eq_of_lt hn]; omega
theorem u8_eq {x : UInt8} {n : Nat} (hn : n < 256) (h : x = UInt8.ofNat n) : ((x.toNat : Int) == (n : Int)) = true := by
  subst h; rw [UInt8.toNat_ofNat', Nat.mod_eq_of_lt hn]; simp

theorem quoted_any (b off c : Nat) (p : List UInt8) (i : Nat) (w : World) (hlen : p.length ≤ 4611686018427387903) (hi : i < p.length) (hc : BytesAt w b off p) :
   Calls Tryd.prog 91 #[.slice (some ⟨b, off, none⟩) p.length c, .int .i64 i] w fun e w' => e = .returned (.tuple #[.int .u8 (quoted p i).1.toNat, .int .i64 ((quoted p i).2 : Nat)]) ∧ w = w' := by
  have h1 := hc i hi
  generalize hx : bget p i = x at *
  generalize hn : p.length = n at *
  by_cases h92 : x = 92
  · by_cases h2 : i + 1 < n
    · have h3 := hc (i+1) (by omega)
      have hq : quoted p i = (bget p (i+1), i+2) := by simp [quoted, hx, h92, hn, h2]
      generalize hy : bget p (i+1) = y at *
      rw [hq]
      subst h92
      clear hq hy hx hc hn
      go_enter Tryd.func91, Tryd.ntmps91
      go_wp2
      go_ret2
      exact ⟨rfl, rfl⟩
    · have hq : quoted p i = (x, i+1) := by simp [quoted, hx, hn, h2]
      rw [hq]
      subst h92
      clear hq hx hc hn
      go_enter Tryd.func91, Tryd.ntmps91
      go_wp2
      go_ret2
      exact ⟨rfl, rfl⟩
  · have hq : quoted p i = (x, i+1) := by simp [quoted, hx, h92]
    have h4 : ((x.toNat : Int) == 92) = false := u8_ne (by decide) h92
    rw [hq]
    clear hq hx hc hn h92
    go_enter Tryd.func91, Tryd.ntmps91
    go_wp2
    go_ret2
    exact ⟨rfl, rfl⟩

def notC (c : List Nat) : List Nat := c.map (fun x => 18446744073709551615 - x)
theorem xor_max (a : Nat) (h : a < 18446744073709551616) : bits .xor .u64 (IntKind.max .u64) (a : Int) = ((18446744073709551615 - a : Nat) : Int) := by
  have e : IntKind.max .u64 = ((18446744073709551615 : Nat) : Int) := rfl
  rw [e, u64_xor_nat _ _ (by decide) h]
  congr 1
  have hx : BitVec.allOnes 64 ^^^ BitVec.ofNat 64 a = ~~~ (BitVec.ofNat 64 a) := BitVec.allOnes_xor
  have h1 := congrArg BitVec.toNat hx
  rw [BitVec.toNat_xor, BitVec.toNat_not, BitVec.toNat_allOnes, BitVec.toNat_ofNat, Nat.mod_eq_of_lt h] at h1
  exact h1
theorem not_any (a0 a1 a2 a3 n0 n1 n2 n3 : Nat) (w : World) (h0 : a0 < 18446744073709551616) (h1 : a1 < 18446744073709551616) (h2 : a2 < 18446744073709551616) (h3 : a3 < 18446744073709551616)
   (e0 : n0 = 18446744073709551615 - a0) (e1 : n1 = 18446744073709551615 - a1) (e2 : n2 = 18446744073709551615 - a2) (e3 : n3 = 18446744073709551615 - a3) :
   Calls Tryd.prog 92 #[.agg #[.int .u64 a0, .int .u64 a1, .int .u64 a2, .int .u64 a3]] w fun e w' =>
     e = .returned (.agg #[.int .u64 n0, .int .u64 n1, .int .u64 n2, .int .u64 n3]) ∧ Below w.heap.size w w' := by
  have x0 := xor_max a0 h0
  have x1 := xor_max a1 h1
  have x2 := xor_max a2 h2
  have x3 := xor_max a3 h3
  rw [← e0] at x0; rw [← e1] at x1; rw [← e2] at x2; rw [← e3] at x3
  have hs : IntKind.signed .u64 = false := rfl
  clear e0 e1 e2 e3
  go_enter Tryd.func92, Tryd.ntmps92
  go_wp2
  refine bodyPost_ret (v := .agg #[.int .u64 n0, .int .u64 n1, .int .u64 n2, .int .u64 n3]) (by simp [results, Tryd.results92, go_sem]) rfl ⟨rfl, ?_⟩
  exact ((Below.refl _ _).alloc (Nat.le_refl _) _).alloc (by simp) _
end Go.Proofs.YtgfldammdcocmaaDoor
