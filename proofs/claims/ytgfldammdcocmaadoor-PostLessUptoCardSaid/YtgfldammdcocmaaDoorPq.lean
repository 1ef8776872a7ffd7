import Derived.Test.YtgfldammdcocmaaDoorPs
namespace Go.Proofs.YtgfldammdcocmaaDoor
open Go.RowKit Go.Sort

theorem heap_sortedQ {w : World} {g n : Nat} {os : Array Obj} {cur : Array Value} {e : TypeId} {fr : Nat × Nat} (d : Array Value) (hb : w.heap[g]? = some (.cells cur e fr)) :
    (grow (putRow id (Sort.ahead w n) g 0 d) os).heap[g]? = some (.cells (putCells id 0 d cur) e fr) := by
  have hg : g < w.heap.size := (Array.getElem?_eq_some_iff.1 hb).1
  rw [heap_grow_old _ _ (by simpa using hg)]
  simp [putRow, mapBlock, Sort.ahead, Array.getElem?_modify, hb, onCells]
theorem grownBy_sortedQ {w : World} {g n : Nat} {os : Array Obj} (d : Array Value) : w.grownBy (grow (putRow id (Sort.ahead w n) g 0 d) os) (some g) := by
  refine ⟨rfl, rfl, rfl, by simp, fun k hk hne => ?_⟩
  rw [heap_grow_old _ _ (by simpa using hk)]
  have : g ≠ k := fun e => hne (by rw [e])
  simp [putRow, mapBlock, Sort.ahead, Array.getElem?_modify, this]
theorem take_putCellsQ (cur : Array Value) (d : Array Value) (h : d.size ≤ cur.size) : (putCells id 0 d cur).toList.take d.size = d.toList := by
  apply List.ext_getElem?
  intro j
  by_cases hj : j < d.size
  · rw [List.getElem?_take_of_lt hj, Array.getElem?_toList, Array.getElem?_toList]
    simp [putCells, hj, show j < cur.size by omega]
  · rw [List.getElem?_take_eq_none (by omega), List.getElem?_eq_none (by simp; omega)]

/-- behind the sort the same slice owns the sorted hits. -/
theorem ownsRow_sortedH {w : World} {base g cap n : Nat} {os : Array Obj} {cur : Array Value} {l ts : List Nm} (hl : ts.length = l.length) (hbase : base ≤ g) (hb : w.heap[g]? = some (.cells cur 62 (0, 0)))
    (h1 : l.length ≤ cap) (h2 : cap ≤ maxLen) (h3 : cur.size = cap * 3) :
    (sortWorldK encH 3 w g 0 n ts.toArray os).ownsRow base 62 3 (.slice (some ⟨g, 0, none⟩) l.length cap) l.length (ts.flatMap encH) := by
  have hs : (flatK encH 3 ts.toArray).size = l.length * 3 := by rw [size_flatK]; simp [hl]
  have ht := take_putCellsQ cur (flatK encH 3 ts.toArray) (by rw [hs, h3]; exact Nat.mul_le_mul_right _ h1)
  rw [hs, flatK_list] at ht
  exact ⟨by rw [flat_lenK encH_len, hl], .inr ⟨g, cap, _, rfl, hbase, heap_sortedQ _ hb, h1, h2, by simp [putCells, h3], ht⟩⟩
theorem holdsK_of_block {w : World} {g : Nat} {cur : Array Value} {e : TypeId} {l : List Nm} (hb : w.heap[g]? = some (.cells cur e (0, 0))) (ht : cur.toList.take (l.length * 3) = l.flatMap encH) : HoldsK encH 3 w g 0 l.toArray := by
  intro j hj
  have hj' : j < l.length * 3 := by simpa [size_flatK] using hj
  refine ⟨?_, by simp [World.frozen?, hb]⟩
  have h1 : (cur.toList.take (l.length * 3))[j]? = (flatK encH 3 l.toArray).toList[j]? := by rw [ht, flatK_list]
  rw [List.getElem?_take_of_lt hj', Array.getElem?_toList, Array.getElem?_toList] at h1
  simp only [World.cell?, hb, Nat.zero_add]
  simp only [Option.isSome_none, Bool.false_eq_true, if_false]
  rw [h1, Array.getElem?_eq_getElem hj, getElem!_pos _ j hj]
  rfl

/-- what 'Heard' leaves. -/
def HitsLeft (w : World) (hs : List Nm) (e : Ending) (w' : World) : Prop :=
  ∃ v, e = .returned v ∧ w'.ownsRow w.heap.size 62 3 v hs.length (hs.flatMap encH) ∧ Below w.heap.size w w'

theorem agg62 : ∀ w, (isAgg 62).run Tryd.prog w = .ok true w := Tryd.isAgg62
theorem size62 : ∀ w, (Go.sizeOf 62).run Tryd.prog w = .ok 3 w := Tryd.sizeOf62
theorem sort_hits (g cap : Nat) (l : List Nm) (w : World) (hH : HoldsK encH 3 w g 0 l.toArray) (hg : g < w.heap.size) (hsz : l.length ≤ 512) :
    Calls Tryd.prog 45 #[.slice (some ⟨g, 0, none⟩) l.length cap, .func (.func 46) #[] #[]] w fun e w' => e = .returned (.tuple #[]) ∧ ∃ n os, w' = sortWorldK encH 3 w g 0 n (sortH l).toArray os := by
  have h := AnyQ.slices_SortFunc_total Tryd.sortHits 3 agg62 size62 encH (fun _ => rfl) (fun x v hv => by simp [encH] at hv; rcases hv with rfl | rfl | rfl <;> rfl) cfH swoH 46 #[] g 0 cap l.toArray w (enters_of Tryd.func46 (by kernel_rfl) rfl) (fun _ _ _ _ x y => hit_cmp x y _) hH hg (by simp; omega) totH
  show Calls Tryd.prog (Tryd.sortHits_ren.f 6) _ _ _
  simpa [sortH] using h
theorem sort_none (p : Option Addr) (cap : Nat) (fv : Value) (w : World) : Calls Tryd.prog 45 #[.slice p 0 cap, fv] w fun e w' => e = .returned (.tuple #[]) ∧ w' = w := AnyF.slices_SortFunc_none Tryd.sortHits p cap fv w

def PH (ch : List UInt8) (n : Nm) : Bool := (!n.p && decide (n.t = ch)) || (n.p && globF n.t ch)
end Go.Proofs.YtgfldammdcocmaaDoor
