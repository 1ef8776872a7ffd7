import Derived.Test.YtgfldammdcocmaaDoorPr
namespace Go.Proofs.YtgfldammdcocmaaDoor
open Go.RowKit Go.Sort

theorem num_any (e : Int) (w : World) : Calls Tryd.prog 17 #[.int .i64 e] w fun r w' => r = .returned (.int .i64 e) ∧ w = w' := by
  go_enter Tryd.func17, Tryd.ntmps17
  go_wp2
  go_ret
  exact ⟨rfl, rfl⟩

def RelSame (w : World) (n : Nat) (g : Nat) (v : Value) (wr : World) : Prop :=
  ∃ k, k ≤ n ∧ g = n - k ∧ v = .int .i64 (k : Nat) ∧ Below w.heap.size w wr

theorem texts_zero (a b : Option Addr) (c1 c2 : Nat) (w : World) : Calls Tryd.prog 28 #[.slice a 0 c1, .slice b 0 c2] w fun e w' => e = .returned (.bool true) ∧ Below w.heap.size w w' := by
  go_enter Tryd.func28, Tryd.ntmps28
  go_wp2
  go_loopg [5] 0 (fun g v wr => v = .int .i64 0 ∧ wr = w)
  case atStart => exact ⟨rfl, rfl⟩
  case round =>
    obtain ⟨rfl, rfl⟩ := hrel
    go_wp2
    go_ret
    exact ⟨rfl, Below.refl _ _⟩

theorem str_row {w : World} {base g cap : Nat} {ts : List (List UInt8)} (h : w.ownsRow base 9 1 (.slice (some ⟨g, 0, none⟩) ts.length cap) ts.length (ts.map encStr)) (k : Nat) (hk : k < ts.length) : w.cell? ⟨g, k, none⟩ = some (.string ⟨ts[k].toArray⟩) := by
  have hc := h.cells (g := g) rfl k (encStr ts[k]) (by rw [List.getElem?_map, List.getElem?_eq_getElem hk]; rfl)
  have ha : ((⟨g, 0, none⟩ : Addr).add k) = ⟨g, k, none⟩ := by unfold Addr.add; split <;> simp_all
  rw [ha] at hc
  exact hc

set_option maxRecDepth 100000 in
theorem texts_blk (g1 c1 g2 c2 b1 b2 : Nat) (ts : List (List UInt8)) (w : World) (h1 : w.ownsRow b1 9 1 (.slice (some ⟨g1, 0, none⟩) ts.length c1) ts.length (ts.map encStr)) (h2 : w.ownsRow b2 9 1 (.slice (some ⟨g2, 0, none⟩) ts.length c2) ts.length (ts.map encStr)) (hn : ts.length ≤ 9223372036854775807) :
    Calls Tryd.prog 28 #[.slice (some ⟨g1, 0, none⟩) ts.length c1, .slice (some ⟨g2, 0, none⟩) ts.length c2] w fun e w' => e = .returned (.bool true) ∧ Below w.heap.size w w' := by
  have hg1 := (h1.lt g1 rfl).2
  have hg2 := (h2.lt g2 rfl).2
  have H1 := Lib.hid (str_row h1)
  have H2 := Lib.hid (str_row h2)
  obtain ⟨n, hnn⟩ : ∃ n, ts.length = n := ⟨_, rfl⟩
  have HN := Lib.hid hnn
  rw [hnn] at hn ⊢
  have hn' : (n : Int) ≤ 9223372036854775807 := by omega
  clear h1 h2 hnn
  go_enter Tryd.func28, Tryd.ntmps28
  go_wp2
  go_loopg [5] n (fun g v wr => RelSame w n g v wr)
  case atStart => exact ⟨0, by omega, by omega, rfl, Below.refl _ _⟩
  case round =>
    obtain ⟨k, hk, hg, rfl, hb⟩ := hrel
    have HG := Lib.hid hg
    have HB := Lib.hid hb
    clear hg
    by_cases hkn : k < n
    · have hkn' : (k : Int) < n := by omega
      have hk1 : k < ts.length := by have := HN.out; omega
      have q1 : wr.cell? ⟨g1, k, none⟩ = _ := (hb.cell (p := ⟨g1, k, none⟩) hg1).trans (H1.out k hk1)
      have q2 : wr.cell? ⟨g2, k, none⟩ = _ := (hb.cell (p := ⟨g2, k, none⟩) hg2).trans (H2.out k hk1)
      generalize ts[k] = tk at q1 q2
      clear hb
      go_wp2
      go_quiet (fail)
      go_wp2
      go_roundg (n - (k + 1))
      case measure => rw [HG.out]; omega
      case rel => exact ⟨k + 1, by omega, rfl, by first | rfl | go_num, Below.drewN HB.out _⟩
    · have hkn' : (n : Int) ≤ k := by omega
      clear hb
      go_wp2
      go_ret
      exact ⟨rfl, HB.out⟩

theorem same_texts (va vb : Value) (b1 b2 : Nat) (ts : List (List UInt8)) (w : World) (h1 : w.ownsRow b1 9 1 va ts.length (ts.map encStr)) (h2 : w.ownsRow b2 9 1 vb ts.length (ts.map encStr)) :
    Calls Tryd.prog 28 #[va, vb] w fun e w' => e = .returned (.bool true) ∧ Below w.heap.size w w' := by
  by_cases h0 : ts.length = 0
  · obtain ⟨a, c, rfl⟩ := ownsRow_len h1
    obtain ⟨a', c', rfl⟩ := ownsRow_len h2
    rw [h0]
    exact texts_zero _ _ _ _ _
  · rcases h1.2 with ⟨_, e⟩ | ⟨g, cap, cur, rfl, _, _, hn1, hn2, _⟩
    · exact absurd e h0
    rcases h2.2 with ⟨_, e⟩ | ⟨g', cap', cur', rfl, _, _, _, _, _⟩
    · exact absurd e h0
    exact texts_blk g cap g' cap' b1 b2 ts w h1 h2 (by unfold maxLen at hn2; omega)

theorem hits_zero (a b : Option Addr) (c1 c2 : Nat) (w : World) : Calls Tryd.prog 25 #[.slice a 0 c1, .slice b 0 c2] w fun e w' => e = .returned (.bool true) ∧ Below w.heap.size w w' := by
  go_enter Tryd.func25, Tryd.ntmps25
  go_wp2
  go_loopg [5] 0 (fun g v wr => v = .int .i64 0 ∧ wr = w)
  case atStart => exact ⟨rfl, rfl⟩
  case round =>
    obtain ⟨rfl, rfl⟩ := hrel
    go_wp2
    go_ret
    exact ⟨rfl, Below.refl _ _⟩

theorem hit_row {w : World} {base g cap : Nat} {ts : List Nm} (h : w.ownsRow base 62 3 (.slice (some ⟨g, 0, none⟩) ts.length cap) ts.length (ts.flatMap encH)) (k : Nat) (hk : k < ts.length) :
    w.cell? ⟨g, k * 3, none⟩ = some (.int .i64 (ts[k].c : Nat)) ∧ w.cell? ⟨g, k * 3 + 1, none⟩ = some (.bool ts[k].p) ∧ w.cell? ⟨g, k * 3 + 2, none⟩ = some (.string ⟨ts[k].t.toArray⟩) := by
  have key : ∀ j v, j < 3 → (encH ts[k])[j]? = some v → w.cell? ⟨g, k * 3 + j, none⟩ = some v := by
    intro j v hj hv
    have hc := h.cells (g := g) rfl (k * 3 + j) v (by rw [flat_getK encH_len ts k ts[k] (List.getElem?_eq_getElem hk) j hj]; exact hv)
    have ha : ((⟨g, 0, none⟩ : Addr).add (k * 3 + j)) = ⟨g, k * 3 + j, none⟩ := by unfold Addr.add; split <;> simp_all
    rw [ha] at hc
    exact hc
  exact ⟨key 0 _ (by omega) rfl, key 1 _ (by omega) rfl, key 2 _ (by omega) rfl⟩

set_option maxRecDepth 100000 in
theorem hits_blk (g1 c1 g2 c2 b1 b2 : Nat) (ts : List Nm) (w : World) (h1 : w.ownsRow b1 62 3 (.slice (some ⟨g1, 0, none⟩) ts.length c1) ts.length (ts.flatMap encH)) (h2 : w.ownsRow b2 62 3 (.slice (some ⟨g2, 0, none⟩) ts.length c2) ts.length (ts.flatMap encH)) (hn : ts.length ≤ 9223372036854775807) :
    Calls Tryd.prog 25 #[.slice (some ⟨g1, 0, none⟩) ts.length c1, .slice (some ⟨g2, 0, none⟩) ts.length c2] w fun e w' => e = .returned (.bool true) ∧ Below w.heap.size w w' := by
  have hg1 := (h1.lt g1 rfl).2
  have hg2 := (h2.lt g2 rfl).2
  have H1 := Lib.hid (hit_row h1)
  have H2 := Lib.hid (hit_row h2)
  obtain ⟨n, hnn⟩ : ∃ n, ts.length = n := ⟨_, rfl⟩
  have HN := Lib.hid hnn
  rw [hnn] at hn ⊢
  have hn' : (n : Int) ≤ 9223372036854775807 := by omega
  clear h1 h2 hnn
  go_enter Tryd.func25, Tryd.ntmps25
  go_wp2
  go_loopg [5] n (fun g v wr => RelSame w n g v wr)
  case atStart => exact ⟨0, by omega, by omega, rfl, Below.refl _ _⟩
  case round =>
    obtain ⟨k, hk, hg, rfl, hb⟩ := hrel
    have HG := Lib.hid hg
    have HB := Lib.hid hb
    clear hg
    by_cases hkn : k < n
    · have hkn' : (k : Int) < n := by omega
      have hk1 : k < ts.length := by have := HN.out; omega
      obtain ⟨x1, x2, x3⟩ := H1.out k hk1
      obtain ⟨y1, y2, y3⟩ := H2.out k hk1
      have q1 := (hb.cell (p := ⟨g1, k * 3, none⟩) hg1).trans x1
      have q2 := (hb.cell (p := ⟨g1, k * 3 + 1, none⟩) hg1).trans x2
      have q3 := (hb.cell (p := ⟨g1, k * 3 + 2, none⟩) hg1).trans x3
      have r1 := (hb.cell (p := ⟨g2, k * 3, none⟩) hg2).trans y1
      have r2 := (hb.cell (p := ⟨g2, k * 3 + 1, none⟩) hg2).trans y2
      have r3 := (hb.cell (p := ⟨g2, k * 3 + 2, none⟩) hg2).trans y3
      clear hb x1 x2 x3 y1 y2 y3
      generalize ts[k] = tk at q1 q2 q3 r1 r2 r3
      obtain ⟨tc, tt, tp⟩ := tk
      simp only at q1 q2 q3 r1 r2 r3
      go_wp2
      go_quiet (fail)
      go_wp2
      go_roundg (n - (k + 1))
      case measure => rw [HG.out]; omega
      case rel => exact ⟨k + 1, by omega, rfl, by first | rfl | go_num, Below.drewN HB.out _⟩
    · have hkn' : (n : Int) ≤ k := by omega
      clear hb
      go_wp2
      go_ret
      exact ⟨rfl, HB.out⟩

theorem same_hits (va vb : Value) (b1 b2 : Nat) (ts : List Nm) (w : World) (h1 : w.ownsRow b1 62 3 va ts.length (ts.flatMap encH)) (h2 : w.ownsRow b2 62 3 vb ts.length (ts.flatMap encH)) :
    Calls Tryd.prog 25 #[va, vb] w fun e w' => e = .returned (.bool true) ∧ Below w.heap.size w w' := by
  by_cases h0 : ts.length = 0
  · obtain ⟨a, c, rfl⟩ := ownsRow_len h1
    obtain ⟨a', c', rfl⟩ := ownsRow_len h2
    rw [h0]
    exact hits_zero _ _ _ _ _
  · rcases h1.2 with ⟨_, e⟩ | ⟨g, cap, cur, rfl, _, _, hn1, hn2, _⟩
    · exact absurd e h0
    rcases h2.2 with ⟨_, e⟩ | ⟨g', cap', cur', rfl, _, _, _, _, _⟩
    · exact absurd e h0
    exact hits_blk g cap g' cap' b1 b2 ts w h1 h2 (by unfold maxLen at hn2; omega)
end Go.Proofs.YtgfldammdcocmaaDoor
