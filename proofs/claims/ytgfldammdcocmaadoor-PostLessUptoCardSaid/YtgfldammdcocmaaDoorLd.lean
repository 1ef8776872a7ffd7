import Derived.Test.YtgfldammdcocmaaDoorLc
namespace Go.Proofs.YtgfldammdcocmaaDoor
open Go.RowKit Go.Sort

theorem unlike_nil (a : Option Addr) (cap : Nat) (w : World) : Calls Tryd.prog 12 #[.slice a 0 cap] w fun e w' => UnlikeLeft w [] e w' := by
  have hmk := mk8
  go_enter Tryd.func12, Tryd.ntmps12
  go_wp2
  go_loopg [3, 5] 0 (fun g v3 v5 wr => v3 = .slice none 0 0 ∧ v5 = .int .i64 0 ∧ Below w.heap.size w wr)
  case atStart => exact ⟨rfl, rfl, (Below.refl _ _).alloc (Nat.le_refl _) _⟩
  case round =>
    obtain ⟨rfl, rfl, hb⟩ := hrel
    have HB := Lib.hid hb
    clear hb
    go_wp2
    go_ret
    exact ⟨_, [], rfl, World.ownsRow_nil _ _ _ _, ⟨by simp, by simp, fun c => by simp [cnt]⟩, (fun s0 r h => (by cases h)), by simp, HB.out⟩

/-- seats in a row of memory. -/
def SeatsAt (w : World) (v : Value) (ss : List Sv) : Prop :=
  (∃ a cap, v = .slice a 0 cap ∧ ss = []) ∨ ∃ g off cap, v = .slice (some ⟨g, off, none⟩) ss.length cap ∧ g < w.heap.size ∧ ss.length ≤ 9223372036854775807 ∧ ∀ i (h : i < ss.length),
    w.cell? ⟨g, off + i * 3, none⟩ = some (.int .i64 ss[i].c) ∧ w.cell? ⟨g, off + i * 3 + 1, none⟩ = some ss[i].v ∧ w.cell? ⟨g, off + i * 3 + 2, none⟩ = some (.bool ss[i].p)
theorem unlike_any (v : Value) (ss : List Sv) (w : World) (h : SeatsAt w v ss) (hB : ∀ s ∈ ss, IsB w s.v s.t) : Calls Tryd.prog 12 #[v] w fun e w' => UnlikeLeft w ss e w' := by
  rcases h with ⟨a, cap, rfl, rfl⟩ | ⟨g, off, cap, rfl, hg, hl, hc⟩
  · exact unlike_nil a cap w
  · exact unlike_blk g off cap ss.length ss w rfl hg hl hc hB
theorem seatsAt_own {w : World} {base : Nat} {v : Value} {ts : List Sv} (h : w.ownsRow base 48 3 v ts.length (ts.flatMap encS)) : SeatsAt w v ts := by
  have h' := h
  rcases h.2 with ⟨rfl, e⟩ | ⟨g, cap, cur, rfl, hg1, hg2, hg3, hg4, _⟩
  · exact Or.inl ⟨none, 0, rfl, List.eq_nil_of_length_eq_zero e⟩
  · refine Or.inr ⟨g, 0, cap, rfl, (Array.getElem?_eq_some_iff.1 hg2).1, by unfold maxLen at hg4; omega, fun i hi => ?_⟩
    simpa using seat_row h' i hi
theorem SeatsAt.below {w w' : World} {v : Value} {ss : List Sv} (h : SeatsAt w v ss) (hb : Below w.heap.size w w') : SeatsAt w' v ss := by
  rcases h with h | ⟨g, off, cap, hv, hg, hl, hc⟩
  · exact Or.inl h
  · refine Or.inr ⟨g, off, cap, hv, Nat.lt_of_lt_of_le hg hb.size, hl, fun i hi => ?_⟩
    obtain ⟨a, b, c⟩ := hc i hi
    have z : ∀ o, w'.cell? ⟨g, o, none⟩ = w.cell? ⟨g, o, none⟩ := fun o => World.cell?_of_block (a := ⟨g, o, none⟩) (hb.block g hg)
    exact ⟨by rw [z]; exact a, by rw [z]; exact b, by rw [z]; exact c⟩
end Go.Proofs.YtgfldammdcocmaaDoor
