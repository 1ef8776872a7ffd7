import Derived.Test.YtgfldammdcocmaaDoorMaps
import Derived.Deep.QuietTactic
import Derived.BigQuiet
import Derived.RegionTactic
import Derived.BigRegion
import Derived.StillTailTactics
import Derived.Outline
import Derived.Lib.Hide
namespace Go.Proofs.YtgfldammdcocmaaDoor
open Go.RowKit
open Go.ChangeMaps (setBlock)

/-- only blocks of S have changed; others may be new. -/
structure Ch (S : Nat → Prop) (w w' : World) : Prop where
  os : w'.os = w.os
  tape : w'.tape = w.tape
  output : w'.output = w.output
  size : w.heap.size ≤ w'.heap.size
  block : ∀ k, k < w.heap.size → ¬ S k → w'.heap[k]? = w.heap[k]?

theorem Ch.refl (S : Nat → Prop) (w : World) : Ch S w w := ⟨rfl, rfl, rfl, Nat.le_refl _, fun _ _ _ => rfl⟩
theorem Ch.trans {S : Nat → Prop} {a b c : World} (h : Ch S a b) (k : Ch S b c) : Ch S a c :=
  ⟨k.os.trans h.os, k.tape.trans h.tape, k.output.trans h.output, Nat.le_trans h.size k.size, fun i hi hs => (k.block i (Nat.lt_of_lt_of_le hi h.size) hs).trans (h.block i hi hs)⟩
theorem Ch.mono {S S' : Nat → Prop} {w w' : World} (h : Ch S w w') (hs : ∀ k, k < w.heap.size → S k → S' k) : Ch S' w w' :=
  ⟨h.os, h.tape, h.output, h.size, fun k hk hn => h.block k hk (fun hh => hn (hs k hk hh))⟩
theorem Ch.alloc {S : Nat → Prop} {a w : World} (h : Ch S a w) (o : Obj) : Ch S a (w.alloc o) :=
  ⟨h.os, h.tape, h.output, Nat.le_trans h.size (by show _ ≤ (w.heap.push o).size; simp), fun k hk hs => by
    show (w.heap.push o)[k]? = _
    rw [Array.getElem?_push, if_neg (by have := h.size; omega)]; exact h.block k hk hs⟩
theorem Ch.drew {S : Nat → Prop} {a w : World} (h : Ch S a w) : Ch S a w.drew := ⟨h.os, h.tape, h.output, h.size, h.block⟩
theorem Ch.drewN {S : Nat → Prop} {a w : World} (h : Ch S a w) (n : Nat) : Ch S a (w.drewN n) := ⟨h.os, h.tape, h.output, h.size, h.block⟩
theorem Ch.setCell {S : Nat → Prop} {a w : World} (h : Ch S a w) {p : Addr} (hp : p.block < a.heap.size → S p.block) (v : Value) : Ch S a (w.setCell p v) :=
  ⟨h.os, h.tape, h.output, by simpa [World.setCell] using h.size, fun k hk hs => by rw [Below.heap_setCell _ _ _ _ (fun e => by subst e; exact hs (hp hk))]; exact h.block k hk hs⟩
theorem Ch.setBlock {S : Nat → Prop} {a w : World} (h : Ch S a w) {b : Nat} (hp : b < a.heap.size → S b) (o : Obj) : Ch S a (setBlock w b o) :=
  ⟨h.os, h.tape, h.output, by simpa [ChangeMaps.setBlock] using h.size, fun k hk hs => by
    simp only [ChangeMaps.setBlock]
    rw [Array.getElem?_setIfInBounds_ne (fun e => by subst e; exact hs (hp hk))]; exact h.block k hk hs⟩
theorem Ch.below {w w' : World} (h : Ch (fun _ => False) w w') : Below w.heap.size w w' := ⟨h.os, h.tape, h.output, h.size, fun k hk => h.block k hk id⟩
theorem Ch.get {S : Nat → Prop} {w w' : World} (h : Ch S w w') {k : Nat} {o : Obj} (hk : w.heap[k]? = some o) (hs : ¬ S k) : w'.heap[k]? = some o :=
  (h.block k (Array.getElem?_eq_some_iff.1 hk).1 hs).trans hk

/-! heap, block by block, for the walk. ('blk' keeps simp's own laws on arrays off.) -/
def blk (w : World) (k : Nat) : Option Obj := w.heap[k]?
theorem blk_alloc_lt (w : World) (o : Obj) (k : Nat) (h : k < w.heap.size) : blk (w.alloc o) k = blk w k := by
  show (w.heap.push o)[k]? = w.heap[k]?
  rw [Array.getElem?_push, if_neg (by omega)]
theorem blk_alloc_self (w : World) (o : Obj) (k : Nat) (h : k = w.heap.size) : blk (w.alloc o) k = some o := by
  show (w.heap.push o)[k]? = _
  rw [Array.getElem?_push, if_pos h]
theorem blk_drew (w : World) (k : Nat) : blk w.drew k = blk w k := rfl
theorem blk_drewN (w : World) (n k : Nat) : blk (w.drewN n) k = blk w k := rfl
theorem blk_setBlock_ne (w : World) (b : Nat) (o : Obj) (k : Nat) (h : ¬ b = k) : blk (setBlock w b o) k = blk w k := by
  simp only [ChangeMaps.setBlock, blk]
  rw [Array.getElem?_setIfInBounds_ne h]
theorem lt_of_blk {w : World} {b : Nat} {o : Obj} (h : blk w b = some o) : b < w.heap.size := (Array.getElem?_eq_some_iff.1 h).1
theorem blk_setBlock_self (w : World) (b : Nat) (o : Obj) (h : b < w.heap.size) : blk (setBlock w b o) b = some o := by
  simp only [ChangeMaps.setBlock, blk]
  rw [Array.getElem?_setIfInBounds_self, if_pos h]
theorem size_setBlock (w : World) (b : Nat) (o : Obj) : (setBlock w b o).heap.size = w.heap.size := by simp [ChangeMaps.setBlock]
theorem cell_setBlock_ne (w : World) (b : Nat) (o : Obj) (k off : Nat) (h : ¬ b = k) : (setBlock w b o).cell? ⟨k, off, none⟩ = w.cell? ⟨k, off, none⟩ :=
  World.cell?_of_block (w := w) (blk_setBlock_ne w b o k h)
theorem frozen_setBlock_ne (w : World) (b : Nat) (o : Obj) (k off : Nat) (h : ¬ b = k) : (setBlock w b o).frozen? ⟨k, off, none⟩ = w.frozen? ⟨k, off, none⟩ :=
  World.frozen?_of_block (w := w) (blk_setBlock_ne w b o k h)
theorem blk_setCell_ne (w : World) (a : Addr) (v : Value) (k : Nat) (h : ¬ a.block = k) : blk (w.setCell a v) k = blk w k := Below.heap_setCell w a v k (fun e => h e.symm)
theorem blk_setCell_self (w : World) (b o : Nat) (v : Value) (cs : Array Value) (T : TypeId) (fz : Nat × Nat) (h : blk w b = some (.cells cs T fz)) :
    blk (w.setCell ⟨b, o, none⟩ v) b = some (.cells (cs.setIfInBounds o v) T fz) := by
  simp only [blk] at h ⊢
  simp [World.setCell, Array.getElem?_modify, h]
theorem cell_blk {w : World} {b : Nat} {cs : Array Value} {T : TypeId} {fz : Nat × Nat} (h : blk w b = some (.cells cs T fz)) (o : Nat) : w.cell? ⟨b, o, none⟩ = cs[o]? := by
  simp only [blk] at h
  simp [World.cell?, h]
theorem frozen_blk {w : World} {b : Nat} {cs : Array Value} {T : TypeId} (h : blk w b = some (.cells cs T (0, 0))) (o : Nat) : w.frozen? ⟨b, o, none⟩ = false := by
  simp only [blk] at h
  simp [World.frozen?, h]
theorem Ch.blk {S : Nat → Prop} {w w' : World} (h : Ch S w w') {k : Nat} {o : Obj} (hk : blk w k = some o) (hs : ¬ S k) : blk w' k = some o :=
  (h.block k (lt_of_blk hk) hs).trans hk
attribute [go_sem] blk_alloc_lt blk_alloc_self blk_drew blk_drewN blk_setBlock_ne blk_setBlock_self size_setBlock cell_setBlock_ne frozen_setBlock_ne blk_setCell_ne

theorem hmix : Tryd.prog.follows .mixedOrders = true := by kernel_rfl
theorem wp_region_st {P : Program} {id : Nat} {Q : Exit → Act → World → Prop} {a : Act} {w : World} {l : List Oper} (n : Nat) (hm : P.follows .mixedOrders = true) (hB : Region.lexTailB .any l.toArray n = true)
    (h : wpStill P l.toArray w.drew (fun a' => wpList P l.toArray Q (l.drop n) a' w.drew) (l.take n) a) : (Code.region id l.toArray true).wp P Q a w := wp_region_still_tail n hm hB h

def cnt (S : List Nm) (c : Nat) : Nat := (S.filter (fun n => decide (n.c = c))).length

theorem cnt_snoc (S : List Nm) (n : Nm) (i : Nat) : cnt (S ++ [n]) i = if i = n.c then cnt S i + 1 else cnt S i := by
  unfold cnt
  by_cases h : i = n.c
  · subst h; simp
  · have : ¬ n.c = i := fun e => h e.symm
    simp [h, this]

def postCells (mb : Nat) (f : Nat → Nat) : Array Value := #[.map (some mb), .int .i64 (f 0), .int .i64 (f 1), .int .i64 (f 2), .int .i64 (f 3), .int .i64 (f 4), .int .i64 (f 5), .int .i64 (f 6), .int .i64 (f 7)]
theorem postCells_get (mb : Nat) (f : Nat → Nat) (c : Nat) (hc : c < 8) : (postCells mb f)[1 + c]? = some (.int .i64 (f c)) := by
  match c, hc with
  | 0, _ | 1, _ | 2, _ | 3, _ | 4, _ | 5, _ | 6, _ | 7, _ => rfl
theorem postCells_set (mb : Nat) (f : Nat → Nat) (c : Nat) (hc : c < 8) (x : Nat) : (postCells mb f).setIfInBounds (1 + c) (.int .i64 x) = postCells mb (fun i => if i = c then x else f i) := by
  match c, hc with
  | 0, _ | 1, _ | 2, _ | 3, _ | 4, _ | 5, _ | 6, _ | 7, _ => rfl

structure PostAt (w : World) (pb mb : Nat) (S : List Nm) : Prop where
  ne : pb ≠ mb
  map : ∃ es clk, blk w mb = some (.map es clk) ∧ Ents S es clk
  post : blk w pb = some (.cells (postCells mb (cnt S)) 66 (0, 0))
  room : ∀ c, cnt S c ≤ 64

theorem PostAt.cnt_cell {w : World} {pb mb : Nat} {S : List Nm} (h : PostAt w pb mb S) (c : Nat) (hc : c < 8) : w.cell? ⟨pb, 1 + c, none⟩ = some (.int .i64 (cnt S c)) := by
  rw [cell_blk h.post]; exact postCells_get _ _ _ hc
theorem PostAt.map_cell {w : World} {pb mb : Nat} {S : List Nm} (h : PostAt w pb mb S) : w.cell? ⟨pb, 0, none⟩ = some (.map (some mb)) := by
  rw [cell_blk h.post]; rfl
/-- what stays while other blocks change. -/
theorem PostAt.keep {S' : Nat → Prop} {w w' : World} {pb mb : Nat} {S : List Nm} (h : PostAt w pb mb S) (hc : Ch S' w w') (h1 : ¬ S' pb) (h2 : ¬ S' mb) : PostAt w' pb mb S := by
  obtain ⟨hne, ⟨es, clk, hm, hE⟩, hp, hr⟩ := h
  exact ⟨hne, ⟨es, clk, hc.blk hm h2, hE⟩, hc.blk hp h1, hr⟩
end Go.Proofs.YtgfldammdcocmaaDoor
