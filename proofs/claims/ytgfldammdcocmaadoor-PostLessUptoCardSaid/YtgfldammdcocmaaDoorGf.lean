import Derived.Test.YtgfldammdcocmaaDoorGe
import Derived.ChangeKeysEq
namespace Go.Proofs.YtgfldammdcocmaaDoor
open Go.RowKit

/-- four words. -/
def Wf4 (c : List Nat) : Prop := c.length = 4 ∧ ∀ i, c.getD i 0 < 18446744073709551616
theorem wf_zero : Wf4 [0, 0, 0, 0] := ⟨rfl, fun i => by match i with | 0 | 1 | 2 | 3 => decide | i + 4 => simp⟩
theorem wf_full : Wf4 full4 := ⟨rfl, fun i => by match i with | 0 | 1 | 2 | 3 => decide | i + 4 => simp [full4]⟩
theorem wf_addB {c : List Nat} {b : Nat} (h : Wf4 c) (hb : b < 256) : Wf4 (addB c b) := by
  refine ⟨by rw [addB_len]; exact h.1, fun i => ?_⟩
  rw [addB_getD _ _ _ (by rw [h.1]; omega)]
  split
  · exact or_lt (h.2 _) (pow_lt b)
  · exact h.2 i
theorem wf_foldl : ∀ (l : List Nat) {c : List Nat}, Wf4 c → (∀ x ∈ l, x < 256) → Wf4 (l.foldl addB c) := by
  intro l
  induction l with
  | nil => intro c h _; exact h
  | cons a r ih => intro c h hl; rw [List.foldl_cons]; exact ih (wf_addB h (hl a (by simp))) (fun x hx => hl x (by simp [hx]))
theorem wf_addS {c : List Nat} {lo hi : Nat} (h : Wf4 c) (hlo : lo < 256) (hhi : hi < 256) : Wf4 (addS c lo hi) := by
  unfold addS
  split
  · exact wf_foldl _ h (fun x hx => by have := List.mem_range'_1.1 hx; omega)
  · exact wf_foldl _ h (fun x hx => by have := List.mem_range'_1.1 hx; omega)
theorem wf_notC {c : List Nat} (h : Wf4 c) : Wf4 (notC c) := by
  refine ⟨by unfold notC; rw [List.length_map]; exact h.1, fun i => ?_⟩
  unfold notC
  rw [List.getD_eq_getElem?_getD, List.getElem?_map]
  cases c[i]? <;> simp <;> omega
theorem wf_memLoop (p : List UInt8) : ∀ f i c, Wf4 c → Wf4 (memLoop p f i c).1 := by
  intro f
  induction f with
  | zero => intro i c h; exact h
  | succ f ih =>
    intro i c h
    unfold memLoop
    split
    · split
      · exact ih _ _ (wf_addS h (UInt8.toNat_lt _) (UInt8.toNat_lt _))
      · exact ih _ _ (wf_addS h (UInt8.toNat_lt _) (UInt8.toNat_lt _))
    · exact h
theorem wf_membersF (p : List UInt8) (i : Nat) : Wf4 (membersF p i).1 := by
  unfold membersF
  split
  · exact wf_notC (wf_memLoop _ _ _ _ wf_zero)
  · exact wf_memLoop _ _ _ _ wf_zero
theorem wf_pieceAt (p : List UInt8) (i : Nat) : Wf4 (pieceAt p i).1.2 := by
  unfold pieceAt
  split
  · exact wf_zero
  split
  · exact wf_full
  split
  · exact wf_membersF _ _
  · exact wf_addS wf_zero (UInt8.toNat_lt _) (UInt8.toNat_lt _)
theorem wf_piecesLoop (p : List UInt8) : ∀ f i acc, (∀ x ∈ acc, Wf4 x.2) → ∀ x ∈ piecesLoop p f i acc, Wf4 x.2 := by
  intro f
  induction f with
  | zero => intro i acc h; exact h
  | succ f ih =>
    intro i acc h
    unfold piecesLoop
    split
    · refine ih _ _ (fun x hx => ?_)
      rcases List.mem_append.1 hx with h1 | h1
      · exact h x h1
      · simp only [List.mem_singleton] at h1; subst h1; exact wf_pieceAt p i
    · exact h
theorem wf_piecesF (p : List UInt8) : ∀ x ∈ piecesF p, Wf4 x.2 := wf_piecesLoop p _ _ _ (by simp)
theorem piecesLoop_len (p : List UInt8) : ∀ f i acc, i ≤ p.length + 1 → acc.length ≤ i → (piecesLoop p f i acc).length ≤ p.length + 1 := by
  intro f
  induction f with
  | zero => intro i acc h1 h2; show acc.length ≤ _; omega
  | succ f ih =>
    intro i acc h1 h2
    unfold piecesLoop
    split
    · rename_i h
      have := pieceAt_bd p i h
      exact ih _ _ this.2 (by simp; omega)
    · omega
theorem piecesF_len (p : List UInt8) : (piecesF p).length ≤ p.length + 1 := piecesLoop_len p _ _ _ (by omega) (by simp)

theorem flat_get : ∀ (l : List Pc), (∀ x ∈ l, Wf4 x.2) → ∀ i x, l[i]? = some x → ∀ j, j < 5 → (l.flatMap encP)[i * 5 + j]? = (encP x)[j]? := by
  intro l
  induction l with
  | nil => intro _ i x h; simp at h
  | cons a r ih =>
    intro hw i x hx j hj
    have hl : (encP a).length = 5 := by simp [encP, (hw a (by simp)).1]
    rw [List.flatMap_cons]
    match i with
    | 0 =>
      simp only [List.getElem?_cons_zero, Option.some.injEq] at hx
      subst hx
      rw [List.getElem?_append_left (by omega)]
      congr 1; omega
    | i + 1 =>
      rw [List.getElem?_append_right (by omega)]
      rw [List.getElem?_cons_succ] at hx
      rw [← ih (fun y hy => hw y (by simp [hy])) i x hx j hj]
      congr 1; omega

/-- the pieces lie in block g. -/
def RowAt (w : World) (g : Nat) (l : List Pc) : Prop :=
  ∀ i st d0 d1 d2 d3, l[i]? = some (st, [d0, d1, d2, d3]) → w.cell? ⟨g, i * 5, none⟩ = some (.bool st) ∧ w.cell? ⟨g, i * 5 + 1, none⟩ = some (.int .u64 (d0 : Nat)) ∧
    w.cell? ⟨g, i * 5 + 2, none⟩ = some (.int .u64 (d1 : Nat)) ∧ w.cell? ⟨g, i * 5 + 3, none⟩ = some (.int .u64 (d2 : Nat)) ∧ w.cell? ⟨g, i * 5 + 4, none⟩ = some (.int .u64 (d3 : Nat))

theorem rowAt_of {w : World} {base g n cap : Nat} {l : List Pc} (hw : ∀ x ∈ l, Wf4 x.2) (h : w.ownsRow base 104 5 (.slice (some ⟨g, 0, none⟩) n cap) l.length (l.flatMap encP)) : RowAt w g l := by
  intro i st d0 d1 d2 d3 hi
  have hc := h.cells (g := g) rfl
  have ha : ∀ j, ((⟨g, 0, none⟩ : Addr).add j) = ⟨g, j, none⟩ := by intro j; unfold Addr.add; split <;> simp_all
  have key : ∀ j u, j < 5 → (encP (st, [d0, d1, d2, d3]))[j]? = some u → w.cell? ⟨g, i * 5 + j, none⟩ = some u := by
    intro j u hj hu
    rw [← ha]
    exact hc _ _ (by rw [flat_get l hw i _ hi j hj]; exact hu)
  exact ⟨key 0 _ (by omega) rfl, key 1 _ (by omega) rfl, key 2 _ (by omega) rfl, key 3 _ (by omega) rfl, key 4 _ (by omega) rfl⟩
theorem RowAt.below {w w' : World} {B g : Nat} {l : List Pc} (h : RowAt w g l) (hb : Below B w w') (hg : g < B) : RowAt w' g l := by
  have z : ∀ o, w'.cell? ⟨g, o, none⟩ = w.cell? ⟨g, o, none⟩ := fun o => World.cell?_of_block (a := ⟨g, o, none⟩) (hb.block g hg)
  intro i st d0 d1 d2 d3 hi
  obtain ⟨a, b, c, d, e⟩ := h i st d0 d1 d2 d3 hi
  exact ⟨by rw [z]; exact a, by rw [z]; exact b, by rw [z]; exact c, by rw [z]; exact d, by rw [z]; exact e⟩

def badP (x : Pc) : Bool := !x.1 && decide (x.2 = [0, 0, 0, 0])
def fitsP (x : Pc) (b : Nat) : Bool := decide (x.2 = full4) || hasF x.2 b
def nthP (l : List Pc) (i : Nat) : Pc := l.getD i (false, [0, 0, 0, 0])

/-- the walk of 'Glob'. -/
def walkF (l : List Pc) (t : List UInt8) : Nat → Nat → Nat → Int → Nat → Bool
  | 0, _, _, _, _ => false
  | f + 1, i, j, star, frm =>
    if (i < l.length ∧ (nthP l i).1 = false) ∨ (i = l.length ∧ j < t.length) then
      if i < l.length ∧ j < t.length ∧ fitsP (nthP l i) (bget t j).toNat = true then walkF l t f (i + 1) (j + 1) star frm
      else if star < 0 ∨ frm = t.length then false
      else walkF l t f (star + 1).toNat (frm + 1) star (frm + 1)
    else if i = l.length then true
    else walkF l t f (i + 1) j (i : Int) j

def fuelF (L T : Nat) : Nat := (L + 2) * ((T + 2) * (L + 2)) + 1
/-- 'Glob'. -/
def globF (p t : List UInt8) : Bool :=
  if (piecesF p).any badP then false else walkF (piecesF p) t (fuelF (piecesF p).length t.length) 0 0 (-1) 0

def RelG1 (w : World) (l : List Pc) (g : Nat) (v : Value) (wr : World) : Prop :=
  ∃ k, k ≤ l.length ∧ g = l.length - k ∧ v = .int .i64 (k : Nat) ∧ (∀ i, i < k → badP (nthP l i) = false) ∧ Below w.heap.size w wr

theorem nthP_get {l : List Pc} {i : Nat} (hw : ∀ x ∈ l, Wf4 x.2) (hi : i < l.length) : ∃ st d0 d1 d2 d3, nthP l i = (st, [d0, d1, d2, d3]) ∧ l[i]? = some (st, [d0, d1, d2, d3]) := by
  have h1 : l[i]? = some l[i] := List.getElem?_eq_getElem hi
  have h2 : nthP l i = l[i] := by unfold nthP; rw [List.getD_eq_getElem?_getD, h1]; rfl
  rcases hx : l[i] with ⟨st, c⟩
  have hw' := hw l[i] (List.getElem_mem hi)
  rw [hx] at hw' h1 h2
  match c, hw'.1 with
  | [d0, d1, d2, d3], _ => exact ⟨st, d0, d1, d2, d3, h2, h1⟩
theorem und102 : Tryd.prog.underlying 102 = some (.array 4 100) := by kernel_rfl
theorem und100 : Tryd.prog.underlying 100 = some (.int .u64) := by kernel_rfl
theorem cells100 : Tryd.prog.cellsOf 100 = 1 := by kernel_rfl
theorem plain100 : Tryd.prog.plainKey 100 = true := by kernel_rfl
theorem info100 : ∃ i, Tryd.prog.info? 100 = some i := by
  have h : (Tryd.prog.info? 100).isSome = true := by kernel_rfl
  exact Option.isSome_iff_exists.1 h

theorem eq4 (W : World) (a0 a1 a2 a3 b0 b1 b2 b3 : Int) :
    (Op.equalIn 10000 102 (.agg #[.int .u64 a0, .int .u64 a1, .int .u64 a2, .int .u64 a3]) (.agg #[.int .u64 b0, .int .u64 b1, .int .u64 b2, .int .u64 b3])).run Tryd.prog W =
      .ok (decide (a0 = b0 ∧ a1 = b1 ∧ a2 = b2 ∧ a3 = b3)) W := by
  obtain ⟨i, hi⟩ := info100
  rw [show (10000 : Nat) = 9999 + 1 from rfl, run_equalIn_array W 9999 _ _ und102 hi, cells100]
  have hp : ∀ (xs : Array Value) (o : Nat) (v : Value), xs[o]? = some v → (part 100 xs o).run Tryd.prog W = .ok v W := fun xs o v h => run_part_plain W plain100 h
  have hp0 : ∀ x0 x1 x2 x3 : Value, (part 100 #[x0, x1, x2, x3] (0 * 1)).run Tryd.prog W = .ok x0 W := fun _ _ _ _ => hp _ _ _ rfl
  have hp1 : ∀ x0 x1 x2 x3 : Value, (part 100 #[x0, x1, x2, x3] (1 * 1)).run Tryd.prog W = .ok x1 W := fun _ _ _ _ => hp _ _ _ rfl
  have hp2 : ∀ x0 x1 x2 x3 : Value, (part 100 #[x0, x1, x2, x3] (2 * 1)).run Tryd.prog W = .ok x2 W := fun _ _ _ _ => hp _ _ _ rfl
  have hp3 : ∀ x0 x1 x2 x3 : Value, (part 100 #[x0, x1, x2, x3] (3 * 1)).run Tryd.prog W = .ok x3 W := fun _ _ _ _ => hp _ _ _ rfl
  have he : ∀ x y : Int, (Op.equalIn 9999 100 (.int .u64 x) (.int .u64 y)).run Tryd.prog W = .ok (x == y) W := fun x y => run_equalIn_int W 9998 100 .u64 .u64 x y und100
  have hr : List.range 4 = [0, 1, 2, 3] := rfl
  rw [hr]
  simp only [Op.eqItems, Sem.run_bind, hp0, Result.andThen_ok, he]
  by_cases h0 : a0 = b0
  · simp only [h0, beq_self_eq_true, Bool.not_true, Bool.false_eq_true, if_false, Sem.run_bind, hp1, Result.andThen_ok, he, true_and]
    by_cases h1 : a1 = b1
    · simp only [h1, beq_self_eq_true, Bool.not_true, Bool.false_eq_true, if_false, Sem.run_bind, hp2, Result.andThen_ok, he, true_and]
      by_cases h2 : a2 = b2
      · simp only [h2, beq_self_eq_true, Bool.not_true, Bool.false_eq_true, if_false, Sem.run_bind, hp3, Result.andThen_ok, he, true_and]
        by_cases h3 : a3 = b3
        · simp [h3]
        · simp [h3]
      · simp [h2]
    · simp [h1]
  · simp [h0]
end Go.Proofs.YtgfldammdcocmaaDoor
