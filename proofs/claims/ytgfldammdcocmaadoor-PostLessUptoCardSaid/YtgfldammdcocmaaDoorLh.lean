import Derived.Test.YtgfldammdcocmaaDoorLg
import Derived.Test.YtgfldammdcocmaaDoorRows
import Derived.ProofKit
import Derived.OpenShut
import Derived.Deep.DeepHandedRow
import Derived.Lib.LaidTab
import Derived.Lib.SmallJoins
namespace Go.Proofs.YtgfldammdcocmaaDoor
open Go.RowKit Go.Sort Go.ChangeShapes Go.WideShapes Go.ChangeAt Go.Deep

theorem own : ownKnob Tryd.prog.godebug = none := by kernel_rfl
theorem gNothing : Tryd.prog.globalNamed "larder/match.nothing" = some 0 := by kernel_rfl
theorem gEverything : Tryd.prog.globalNamed "larder/match.everything" = some 1 := by kernel_rfl
theorem gNothingT : (Tryd.prog.globals[0]?).map (·.type) = some 102 := by kernel_rfl
theorem gEverythingT : (Tryd.prog.globals[1]?).map (·.type) = some 102 := by kernel_rfl
theorem cells102 : Tryd.prog.cellsOf 102 = 4 := by kernel_rfl
theorem cells5 : Tryd.prog.cellsOf 5 = 1 := by kernel_rfl
theorem cells48 : Tryd.prog.cellsOf 48 = 3 := by kernel_rfl
theorem cells45 : Tryd.prog.cellsOf 45 = 4 := by kernel_rfl
theorem cells38 : Tryd.prog.cellsOf 38 = 1 := by kernel_rfl

theorem cell_lt {w : World} {a : Addr} {v : Value} (h : w.cell? a = some v) : a.block < w.heap.size := by
  unfold World.cell? at h
  split at h
  · rename_i hh; exact (Array.getElem?_eq_some_iff.1 hh).1
  · cases h
/-- what the rows' lists give. -/
theorem globAt_of {W : World} (h : laidMetH Tryd.prog Rows.postOrderRow.laid W) : GlobAt W := by
  have h' : laidMet Tryd.prog [("larder/match.nothing", Lib.tabData .u64 [0, 0, 0, 0]), ("larder/match.everything", Lib.tabData .u64 [18446744073709551615, 18446744073709551615, 18446744073709551615, 18446744073709551615])] W := h
  have t0 := Lib.tabIs_of_head gNothing gNothingT Tryd.underlying102 Tryd.underlying100 cells100 cells102 h'
  obtain ⟨ps, ⟨_, _, _, _, _, _, _, _, _, _, ⟨g', t', cs, fuel, p, q, hg', ht', hvar, hd, _, _⟩, _⟩, _⟩ := h'
  obtain rfl := Option.some.inj (gEverything.symm.trans hg')
  obtain rfl := Option.some.inj (gEverythingT.symm.trans ht')
  have t1 : Lib.TabIs Tryd.prog W "larder/match.everything" .u64 [18446744073709551615, 18446744073709551615, 18446744073709551615, 18446744073709551615] := by
    unfold Lib.TabIs
    rw [hvar, ← Lib.cells_of_tab Tryd.underlying102 Tryd.underlying100 cells100 cells102 hd]
  have e0 := t1.cell gEverything 0 (by decide)
  exact ⟨cell_lt e0, t0.cell gNothing 0 (by decide), t0.cell gNothing 1 (by decide), t0.cell gNothing 2 (by decide), t0.cell gNothing 3 (by decide),
    e0, t1.cell gEverything 1 (by decide), t1.cell gEverything 2 (by decide), t1.cell gEverything 3 (by decide)⟩

section
variable {H : Type} {enc : TypeId × Value → H} {W : World}
theorem one_bulk (d : DataW H) : 1 ≤ Rows.uptoBulk d := by
  cases d with
  | lit l => cases l <;> simp [Rows.uptoBulk]
  | nil => simp [Rows.uptoBulk]
  | ptr d => simp [Rows.uptoBulk]
  | slice elems spare => simp [Rows.uptoBulk]
  | agg parts => simp [Rows.uptoBulk]
  | iface t d => simp [Rows.uptoBulk]
  | map entries => simp [Rows.uptoBulk]
  | held h => simp [Rows.uptoBulk]
theorem bulk_len (l : List (DataW H)) : l.length ≤ Rows.uptoBulkAll l := by
  induction l with
  | nil => simp [Rows.uptoBulkAll]
  | cons x r ih => have := one_bulk x; simp only [Rows.uptoBulkAll, List.length_cons]; omega
theorem wf_u8 {n : Int} (h : (Lit.int .u8 n).wf = true) : 0 ≤ n ∧ n < 256 := by
  have e1 : IntKind.u8.min = 0 := by kernel_rfl
  have e2 : IntKind.u8.max = 255 := by kernel_rfl
  simp only [Lit.wf, e1, e2, decide_eq_true_eq, Bool.and_eq_true] at h
  omega
/-- a slice of bytes that came in. -/
theorem open_isB {fuel : Nat} {v : Value} {x : DataW H × List MemPlace} (h : DataW.trod enc Tryd.prog W 0 (fun _ => true) true fuel 38 [v] = some x) : ∃ t, IsB W v t ∧ t.length ≤ maxLen := by
  rcases open_ints Tryd.underlying38 Tryd.underlying5 cells5 h with ⟨hcs, _⟩ | ⟨a, len, cap, zs, hcs, _, hl, hm, hz, _, hcell, hwf⟩
  · simp at hcs; subst hcs
    exact ⟨[], Or.inl ⟨none, 0, rfl, rfl⟩, Nat.zero_le _⟩
  · simp at hcs; subst hcs
    simp only [if_true] at hz
    by_cases h0 : len = 0
    · subst h0
      exact ⟨[], Or.inl ⟨_, _, rfl, rfl⟩, Nat.zero_le _⟩
    · have hc0 := hcell 0 (by omega)
      obtain ⟨b, off, spot⟩ := a
      have hspot : spot = none := by simpa [Addr.add] using World.cell?_spot hc0
      subst hspot
      have hlen : ((zs.take len).map fun z => UInt8.ofNat z.toNat).length = len := by simp; omega
      refine ⟨(zs.take len).map fun z => UInt8.ofNat z.toNat, Or.inr ⟨b, off, cap, by rw [hlen], fun j hj => ?_, cell_lt hc0, by omega, by unfold maxLen at hm; omega⟩, by rw [hlen]; omega⟩
      rw [hlen] at hj
      have hcj := hcell j (by omega)
      rw [add_plain] at hcj
      rw [hcj, bget_get _ _ (by rw [hlen]; exact hj), List.getElem_map, List.getElem_take]
      have hjz : j < zs.length := by omega
      have hw := wf_u8 (hwf zs[j] (List.getElem_mem hjz))
      have hge : zs.getD j 0 = zs[j] := by rw [List.getD_eq_getElem?_getD, List.getElem?_eq_getElem hjz]; rfl
      rw [hge]
      congr 2
      simp
      omega

instance : Inhabited Sv := ⟨⟨0, .slice none 0 0, [], false⟩⟩
set_option maxRecDepth 100000 in
theorem open_seats {fuel : Nat} {v : Value} {x : DataW H × List MemPlace} (h : DataW.trod enc Tryd.prog W 0 (fun _ => true) true fuel 43 [v] = some x) :
    ∃ ss, SeatsAt W v ss ∧ (∀ s ∈ ss, IsB W s.v s.t) ∧ ss.length ≤ Rows.uptoBulk x.1 := by
  rcases open_slice Tryd.underlying43 h with ⟨hcs, hx⟩ | ⟨a, len, cap, m, n, D, Pl, hcs, _, hl, hm, hmm, hx, hel⟩
  · simp at hcs; subst hcs
    exact ⟨[], Or.inl ⟨none, 0, rfl, rfl⟩, by simp, by simp⟩
  · simp at hcs; subst hcs
    simp only [if_true] at hmm
    subst hmm
    have each : ∀ i, i < m → ∃ s : Sv, W.cell? (a.add (i * 3)) = some (.int .i64 s.c) ∧ W.cell? (a.add (i * 3 + 1)) = some s.v ∧ W.cell? (a.add (i * 3 + 2)) = some (.bool s.p) ∧ IsB W s.v s.t := by
      intro i hi
      obtain ⟨cs', h1, h2⟩ := hel i hi
      rw [cells48] at h1
      obtain ⟨_, hlen, hcell⟩ := World.cells?_some h1
      obtain ⟨xs, k, hk, hxy, _, hxl, hf⟩ := DataW.trod_struct Tryd.underlying48 h2
      match xs, hxl, cs', hlen with
      | [y0, y1, y2], _, [v0, v1, v2], _ =>
        have g0 := hf 0 _ rfl
        have g1 := hf 1 _ rfl
        have g2 := hf 2 _ rfl
        simp [cells3, cells4, cells38] at g0 g1 g2
        obtain ⟨c, hc, _⟩ := DataW.trod_int Tryd.underlying3 g0
        obtain ⟨b, hb, _⟩ := DataW.trod_bool Tryd.underlying4 g2
        obtain ⟨t, ht, _⟩ := open_isB g1
        simp at hc hb
        subst hc hb
        have e0 := hcell 0 (by omega)
        have e1 := hcell 1 (by omega)
        have e2 := hcell 2 (by omega)
        rw [add_add] at e0 e1 e2
        exact ⟨⟨c, v1, t, b⟩, by simpa using e0, by simpa using e1, by simpa using e2, ht⟩
    obtain ⟨q, hq⟩ := choose_lt each
    by_cases h0 : len = 0
    · subst h0
      exact ⟨[], Or.inl ⟨_, _, rfl, rfl⟩, by simp, by simp⟩
    · have hc0 := (hq 0 (by omega)).1
      obtain ⟨b, off, spot⟩ := a
      have hspot : spot = none := by simpa [Addr.add] using World.cell?_spot hc0
      subst hspot
      have hlen : ((List.range len).map q).length = len := by simp
      refine ⟨(List.range len).map q, Or.inr ⟨b, off, m, by rw [hlen], cell_lt hc0, by rw [hlen]; unfold maxLen at hm; omega, fun i hi => ?_⟩, ?_, ?_⟩
      · rw [hlen] at hi
        obtain ⟨a1, a2, a3, _⟩ := hq i (by omega)
        rw [add_plain] at a1 a2 a3
        simp only [List.getElem_map, List.getElem_range]
        exact ⟨a1, by simpa [Nat.add_assoc] using a2, by simpa [Nat.add_assoc] using a3⟩
      · intro s hs
        obtain ⟨i, hi, rfl⟩ := List.mem_map.1 hs
        exact (hq i (by have := List.mem_range.1 hi; omega)).2.2.2
      · rw [hlen, hx]
        simp only [Rows.uptoBulk]
        have h1 := bulk_len ((List.range len).map D)
        simp only [List.length_map, List.length_range] at h1
        omega
end
end Go.Proofs.YtgfldammdcocmaaDoor
