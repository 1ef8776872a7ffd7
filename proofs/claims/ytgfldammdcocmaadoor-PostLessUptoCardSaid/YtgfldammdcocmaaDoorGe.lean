import Derived.Test.YtgfldammdcocmaaDoorGd
namespace Go.Proofs.YtgfldammdcocmaaDoor
open Go.RowKit

/-- the bit of a byte. -/
def hasF (c : List Nat) (x : Nat) : Bool := decide (c.getD (x / 64) 0 / 2 ^ (x % 64) % 2 = 1)

set_option maxRecDepth 100000 in
theorem has_any (b off : Nat) (c : List Nat) (x : Nat) (w : World) (hx : x < 256) (hcell : ∀ i, i < 4 → w.cell? ⟨b, off + i, none⟩ = some (.int .u64 (c.getD i 0 : Nat))) (hbd : ∀ i, c.getD i 0 < 18446744073709551616) :
   Calls Tryd.prog 58 #[.pointer (some ⟨b, off, none⟩), .int .u8 x] w fun e w' => e = .returned (.bool (hasF c x)) ∧ w = w' := by
  have h0 : (x : Int) < 256 := by omega
  have hd : x / 64 < 4 := by omega
  have hc := hcell (x / 64) hd
  obtain ⟨X, hX⟩ : ∃ X, c.getD (x / 64) 0 = X := ⟨_, rfl⟩
  rw [hX] at hc
  have hXb : X < 18446744073709551616 := by rw [← hX]; exact hbd _
  have hd0 : (0 : Int) ≤ (x : Int) / 64 := by omega
  have hd1 : (x : Int) / 64 < 4 := by omega
  have hd2 : ((x : Int) / 64).toNat = x / 64 := by omega
  clear hcell hbd
  go_enter Tryd.func58, Tryd.ntmps58
  go_wp2
  have hY : ((X : Int) / 2 ^ (x % 64)) = ((X / 2 ^ (x % 64) : Nat) : Int) := by simp
  have hlt : X / 2 ^ (x % 64) < 18446744073709551616 := Nat.lt_of_le_of_lt (Nat.div_le_self _ _) hXb
  have hf : (bits .and .u64 ((X : Int) / 2 ^ (x % 64)) 1 == 1) = hasF c x := by
    rw [hY]
    unfold hasF
    rw [hX]
    generalize X / 2 ^ (x % 64) = z at *
    have hm := bits_mask .u64 64 (by decide) (fun n h0 h1 => by rw [IntKind.wrap_u64]; omega) 1 (by decide) (z : Int) (by omega) (by omega)
    have hm' : bits .and .u64 (z : Int) 1 = (z : Int) % 2 := by simpa using hm
    rw [hm']
    by_cases hz : z % 2 = 1
    · rw [decide_eq_true hz, beq_iff_eq]; omega
    · rw [decide_eq_false hz, beq_eq_false_iff_ne]; omega
  rw [hf]
  refine bodyPost_ret (v := .bool (hasF c x)) (by simp [results, Tryd.results58, go_sem]) rfl ⟨rfl, rfl⟩
end Go.Proofs.YtgfldammdcocmaaDoor
