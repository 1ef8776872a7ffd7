import Derived.Test.YtgfldammdcocmaaDoorPt
import Derived.WalkLawsBesides
namespace Go.Proofs.YtgfldammdcocmaaDoor
open Go.RowKit Go.Sort
open Go.ChangeMaps (setBlock)

theorem ownsRow_low {w : World} {base base' : Nat} {e : TypeId} {size : Nat} {v : Value} {n : Nat} {xs : List Value} (h : w.ownsRow base e size v n xs) (hb : base' ≤ base) : w.ownsRow base' e size v n xs := by
  obtain ⟨h1, h2⟩ := h
  refine ⟨h1, ?_⟩
  rcases h2 with h2 | ⟨g, cap, cur, hv, hg, r⟩
  · exact Or.inl h2
  · exact Or.inr ⟨g, cap, cur, hv, Nat.le_trans hb hg, r⟩

theorem TextsLeft.from {w w0 : World} {ts : List (List UInt8)} {e : Ending} {w' : World} (h : TextsLeft w0 ts e w') (hb : Below w.heap.size w w0) : TextsLeft w ts e w' := by
  obtain ⟨v, he, hown, hbel⟩ := h
  exact ⟨v, he, ownsRow_low hown hb.size, hb.trans (hbel.mono hb.size)⟩

def P43 (c : Int) (p : Bool) (n : Nm) : Bool := decide ((n.c : Int) = c) && (n.p == p)
theorem names1 (n : Nm) (bc bp : Nat) (c : Int) (p : Bool) (W : World) (h1 : W.cell? ⟨bc, 0, none⟩ = some (.int .i64 c)) (h2 : W.cell? ⟨bp, 0, none⟩ = some (.bool p)) (l1 : bc < W.heap.size) (l2 : bp < W.heap.size) :
    Calls Tryd.prog 43 #[.agg #[.int .i64 n.c, .string ⟨n.t.toArray⟩, .bool n.p], .pointer (some ⟨bc, 0, none⟩), .pointer (some ⟨bp, 0, none⟩)] W fun e w' => e = .returned (.bool (P43 c p n)) ∧ Below W.heap.size W w' := by
  by_cases hc : (n.c : Int) = c
  · have hb : ((n.c : Int) == c) = true := by simp [hc]
    have hf : P43 c p n = (n.p == p) := by simp [P43, hc]
    rw [hf]
    clear hf hc
    go_enter Tryd.func43, Tryd.ntmps43
    go_wp2
    go_ret
    exact ⟨rfl, (Below.refl _ _).alloc (Nat.le_refl _) _⟩
  · have hb : ((n.c : Int) == c) = false := by simp [hc]
    have hf : P43 c p n = false := by simp [P43, hc]
    rw [hf]
    clear hf hc
    go_enter Tryd.func43, Tryd.ntmps43
    go_wp2
    go_ret
    exact ⟨rfl, (Below.refl _ _).alloc (Nat.le_refl _) _⟩

theorem PostAt.below {w w' : World} {pb mb : Nat} {S : List Nm} (h : PostAt w pb mb S) (hb : Below w.heap.size w w') : PostAt w' pb mb S :=
  h.keep (S' := fun _ => False) ⟨hb.os, hb.tape, hb.output, hb.size, fun k hk _ => hb.block k hk⟩ id id

theorem names_any (pb mb : Nat) (S : List Nm) (c : Int) (p : Bool) (w : World) (hP : PostAt w pb mb S) :
    Calls Tryd.prog 20 #[.pointer (some ⟨pb, 0, none⟩), .int .i64 c, .bool p] w fun e w' => TextsLeft w (textsOf S (P43 c p)) e w' := by
  have hmf : ∀ (fn : Fn) (first cap : Array Value) (w : World), (Instr.makeFunc fn first cap).run Tryd.prog w = .ok (.func fn first cap) w := fun _ _ _ _ => rfl
  have hb0 : Below w.heap.size w ((w.alloc (.cells #[.int .i64 c] 3)).alloc (.cells #[.bool p] 4)) := ((Below.refl _ _).alloc (Nat.le_refl _) _).alloc (by simp) _
  have hT := texts_any pb mb S 43 #[.pointer (some ⟨w.heap.size, 0, none⟩), .pointer (some ⟨w.heap.size + 1, 0, none⟩)] (P43 c p) _ (hP.below hb0) (fun n _ W hW => by
    refine names1 n w.heap.size (w.heap.size + 1) c p W ?_ ?_ ?_ ?_
    · rw [hW.cell (p := ⟨w.heap.size, 0, none⟩) (by simp; omega)]; go_simp
    · rw [hW.cell (p := ⟨w.heap.size + 1, 0, none⟩) (by simp)]; go_simp
    · have := hW.size; simp at this; omega
    · have := hW.size; simp at this; omega) (enters_of Tryd.func43 (by kernel_rfl) rfl)
  have HT := Lib.hid hT
  have HB0 := Lib.hid hb0
  clear hT hb0 hP
  go_enter Tryd.func20, Tryd.ntmps20
  go_wp2_with (go_at_call 42; refine HT.out.mono ?_; rintro e w' ⟨v, rfl, ho, hb⟩; have HO := Lib.hid ho; have HB := Lib.hid hb; clear ho hb)
  go_ret
  exact TextsLeft.from ⟨_, rfl, HO.out, HB.out⟩ HB0.out
end Go.Proofs.YtgfldammdcocmaaDoor
