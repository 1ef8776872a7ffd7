import Derived.Test.YtgfldammdcocmaaDoorPj
import Derived.Maps.RangeWalk
import Derived.Deep.LoopGhost
namespace Go.Proofs.YtgfldammdcocmaaDoor
open Go.RowKit
open Go.ChangeMaps (setBlock)

theorem It.keptB {w w' : World} {r mb : Nat} {S L : List Nm} (h : It w r mb S L) (hb : blk w' mb = blk w mb) (hr : blk w' r = blk w r) : It w' r mb S L := h.kept hb hr
theorem It.ch {S' : Nat → Prop} {w w' : World} {r mb : Nat} {S L : List Nm} (h : It w r mb S L) (hc : Ch S' w w') (h1 : ¬ S' mb) (h2 : ¬ S' r) : It w' r mb S L := by
  obtain ⟨es, clk, since, seen, c0, a1, a2, a3, rest⟩ := h
  exact ⟨es, clk, since, seen, c0, hc.blk a1 h1, a2, hc.blk a3 h2, rest⟩
theorem It.lt {w : World} {r mb : Nat} {S L : List Nm} (h : It w r mb S L) : r < w.heap.size ∧ mb < w.heap.size := by
  obtain ⟨es, clk, since, seen, c0, a1, a2, a3, rest⟩ := h
  exact ⟨lt_of_blk a3, lt_of_blk a1⟩

theorem wpList_range_it {ops : Array Oper} {rest : List Oper} {o : Oper} {a : Act} {Q : Exit → Act → World → Prop} {w : World}
    (hg : o.guard = none) (m : Operand) (hop : o.op = Op.range 63 m) (mb : Nat) (S : List Nm) (es : Array MapEntry) (clk : Nat) (hm : a.eval m = .map (some mb)) (hb : blk w mb = some (.map es clk)) (hE : Ents S es clk)
    (hK : ∀ w', It w' w.heap.size mb S S → Ch (fun _ => False) w w' → w'.heap.size = w.heap.size + 1 → wpList Tryd.prog ops Q rest (a.put o.dst (.pointer (some ⟨w.heap.size, 0, none⟩))) w') :
    wpList Tryd.prog ops Q (o :: rest) a w := by
  refine wpList_plain hg fun K' hK' => ?_
  have hrun := run_range_map (P := Tryd.prog) w 63 84 3 mb es clk Tryd.underlying63 hb
  unfold Oper.wp
  simp [execOp, hop, hm, hrun, Result.andThen]
  exact hK' _ _ (hK _ (it_start hb hE) ((Ch.refl _ w).alloc _) (by simp))

theorem wpList_next_it {ops : Array Oper} {rest : List Oper} {o : Oper} {a : Act} {Q : Exit → Act → World → Prop} {w : World}
    (hg : o.guard = none) (it : Operand) (hop : o.op = Op.next it false) (r mb : Nat) (S L : List Nm) (hit : a.eval it = .pointer (some ⟨r, 0, none⟩)) (h : It w r mb S L)
    (hDone : L = [] → wpList Tryd.prog ops Q rest (a.put o.dst (.tuple #[.bool false])) w)
    (hMore : ∀ (n : Nm) (w' : World), n ∈ L → It w' r mb S (rm n L) → Ch (fun k => k = r) w w' → w'.heap.size = w.heap.size → (Instr.entry (.pointer (some ⟨r, 0, none⟩))).run Tryd.prog w' = .ok (.tuple #[.agg #[.int .i64 n.c, .string ⟨n.t.toArray⟩, .bool n.p], .int .i64 1]) w' →
      wpList Tryd.prog ops Q rest (a.put o.dst (.tuple #[.bool true, .agg #[.int .i64 n.c, .string ⟨n.t.toArray⟩, .bool n.p], .int .i64 1])) w') :
    wpList Tryd.prog ops Q (o :: rest) a w := by
  refine wpList_plain hg fun K' hK' => ?_
  unfold Oper.wp
  rcases it_next h o.type with ⟨h0, hrun⟩ | ⟨n, hn, w', hrun, hI, ⟨ob, hw⟩, hen⟩
  · simp [execOp, hop, hit, hrun, Result.andThen]
    exact hK' _ _ (hDone h0)
  · simp [execOp, hop, hit, hrun, Result.andThen]
    refine hK' _ _ (hMore n w' hn hI ?_ ?_ hen)
    · rcases hw with rfl | rfl
      · exact (Ch.refl (fun k => k = r) w).setBlock (fun _ => rfl) _
      · exact ((Ch.refl (fun k => k = r) w).drew).setBlock (fun _ => rfl) _
    · rcases hw with rfl | rfl <;> simp [ChangeMaps.setBlock]

theorem wpList_delete_it {ops : Array Oper} {rest : List Oper} {o : Oper} {a : Act} {Q : Exit → Act → World → Prop} {w : World}
    (hg : o.guard = none) (m x : Operand) (hop : o.op = Op.call { callee := Callee.builtin Builtin.delete, args := #[m, x], argTypes := #[63, 84] }) (r mb : Nat) (S L : List Nm) (hm : a.eval m = .map (some mb)) (h : It w r mb S L)
    (n : Nm) (hx : a.eval x = kv n) (hn : OkN n) (hnL : n ∉ L)
    (hK : ∀ w', It w' r mb (rm n S) L → Ch (fun k => k = mb) w w' → w'.heap.size = w.heap.size → wpList Tryd.prog ops Q rest (a.put o.dst (.tuple #[])) w') :
    wpList Tryd.prog ops Q (o :: rest) a w := by
  refine wpList_plain hg fun K' hK' => ?_
  obtain ⟨ob, hrun, hI⟩ := h.del hn hnL o.type
  unfold Oper.wp
  simp [execOp, hop, resolve, invoke, builtin, hm, hx, hrun, Result.andThen]
  exact hK' _ _ (hK _ hI ((Ch.refl (fun k => k = mb) w).setBlock (fun _ => rfl) _) (by simp [ChangeMaps.setBlock]))

theorem filter_len {L : List Nm} {n : Nm} (hn : n ∈ L) : (rm n L).length < L.length := by
  rcases Nat.lt_or_ge (rm n L).length L.length with h | h
  · exact h
  · exfalso
    have h1 : (rm n L).length = L.length := Nat.le_antisymm (List.length_filter_le _ _) h
    have h2 := List.length_filter_eq_length_iff.1 h1
    simpa using h2 n hn

theorem drop_out (pb : Nat) (c : Int) (w : World) (h : c < 0 ∨ 8 ≤ c) :
    Calls Tryd.prog 19 #[.pointer (some ⟨pb, 0, none⟩), .int .i64 c] w fun e w' => e = .returned (.tuple #[]) ∧ w = w' := by
  go_enter Tryd.func19, Tryd.ntmps19
  go_wp2_with (go_at_call 40; refine (there_no _ _ h).mono ?_; rintro e w' ⟨rfl, rfl⟩)
  first | go_end0 | refine bodyPost_ret (results_none rfl _ _ _) rfl ?_
  exact ⟨rfl, rfl⟩

/-- what is still there while the loop of Drop goes. -/
def dropTo (S L : List Nm) (c : Nat) : List Nm := S.filter (fun x => decide (x ∈ L ∨ x.c ≠ c))
theorem dropTo_start (S : List Nm) (c : Nat) : dropTo S S c = S := List.filter_eq_self.2 (fun x hx => by simp [hx])
theorem dropTo_end (S : List Nm) (c : Nat) : dropTo S [] c = S.filter (fun x => decide (x.c ≠ c)) := by simp [dropTo]
theorem dropTo_del {S L : List Nm} {n : Nm} {c : Nat} (h : n.c = c) : rm n (dropTo S L c) = dropTo S (rm n L) c := by
  unfold dropTo rm
  rw [List.filter_filter]
  apply List.filter_congr
  intro x _
  by_cases hx : x = n
  · subst hx; simp [h]
  · simp [hx]
theorem dropTo_delL {S L : List Nm} {n : Nm} {c : Nat} (h : n.c = c) : rm n (dropTo S L c) = dropTo S (rm n L) c := dropTo_del h
theorem dropTo_keep {S L : List Nm} {n : Nm} {c : Nat} (h : n.c ≠ c) : dropTo S L c = dropTo S (rm n L) c := by
  unfold dropTo rm
  apply List.filter_congr
  intro x _
  by_cases hx : x = n
  · subst hx; simp [h]
  · simp [hx]
theorem cnt_drop (S : List Nm) (c i : Nat) : cnt (S.filter (fun x => decide (x.c ≠ c))) i = if i = c then 0 else cnt S i := by
  unfold cnt
  rw [List.filter_filter]
  split
  · rename_i h
    subst h
    rw [List.filter_eq_nil_iff.2]
    · rfl
    · intro x _; simp
  · rename_i h
    congr 1
    apply List.filter_congr
    intro x _
    by_cases hx : x.c = i
    · have : x.c ≠ c := fun e => h (hx.symm.trans e)
      simp [hx, h]
    · simp [hx]

def RelDrop (w : World) (pb mb r c : Nat) (S : List Nm) (g : Nat) (wr : World) : Prop :=
  ∃ L, g = L.length ∧ It wr r mb (dropTo S L c) L ∧ Ch (fun k => k = mb) w wr

set_option maxRecDepth 100000 in
theorem drop_in (pb mb : Nat) (S : List Nm) (c : Nat) (w : World) (hP : PostAt w pb mb S) (h8 : c < 8) :
    Calls Tryd.prog 19 #[.pointer (some ⟨pb, 0, none⟩), .int .i64 c] w fun e w' => e = .returned (.tuple #[]) ∧ PostAt w' pb mb (S.filter (fun x => decide (x.c ≠ c))) ∧ Ch (fun k => k = pb ∨ k = mb) w w' := by
  have hc0 := hP.map_cell
  obtain ⟨hne, ⟨es, clk, hm, hE⟩, hp, hr⟩ := hP
  have h0 : (0 : Int) ≤ c := by omega
  have h8' : (c : Int) < 8 := by omega
  have h1 : pb < w.heap.size := lt_of_blk hp
  have h2 : mb < w.heap.size := lt_of_blk hm
  have HP := Lib.hid hp
  have HR := Lib.hid hr
  have HE := Lib.hid hE
  clear hp hE hr
  go_enter Tryd.func19, Tryd.ntmps19
  go_wp2_with (first
    | (go_at_call 40; refine (there_yes _ _ h0 h8').mono ?_; rintro e w' ⟨rfl, rfl⟩)
    | (at_range; refine wpList_range_it rfl _ rfl mb S es clk rfl hm HE.out ?_; intro w0 hI0 hch0 hs0))
  go_frame
  have HCH := Lib.hid hch0
  have HI := Lib.hid hI0
  clear hch0 hI0 hs0
  go_loopg [4] S.length (fun g _ wr => RelDrop w pb mb w.heap.size c S g wr)
  case atStart => exact ⟨S, rfl, by rw [dropTo_start]; exact HI.out, HCH.out.mono (fun _ _ h => h.elim)⟩
  case round =>
    obtain ⟨L, hg, hI, hch⟩ := hrel
    have HG := Lib.hid hg
    clear hg
    have hlt := hI.lt
    have hc1 : wr.cell? ⟨pb, 0, none⟩ = some (.map (some mb)) := by rw [cell_blk (hch.blk HP.out hne)]; rfl
    have hf1 : wr.frozen? ⟨pb, 1 + c, none⟩ = false := frozen_blk (hch.blk HP.out hne) _
    have HC := Lib.hid hch
    clear hch
    go_wp2_with (first
      | (at_next; refine wpList_next_it rfl _ rfl w.heap.size mb (dropTo S L c) L rfl hI ?_ ?_)
      | go_in)
    · intro hL
      have hcc : ∃ x, wr.cell? ⟨pb, 1 + c, none⟩ = some (.int .i64 x) := ⟨_, by rw [cell_blk (HC.out.blk HP.out hne)]; exact postCells_get _ _ _ h8⟩
      obtain ⟨x, hx⟩ := hcc
      have HL := Lib.hid hL
      clear hL
      go_wp2
      go_end0
      refine ⟨rfl, ⟨hne, ?_, ?_, ?_⟩, ?_⟩
      · rw [HL.out] at hI
        obtain ⟨es1, clk1, m1, m2⟩ := hI.map
        exact ⟨es1, clk1, by rw [blk_setCell_ne _ _ _ _ hne]; exact m1, by rw [← dropTo_end]; exact m2⟩
      · rw [blk_setCell_self _ _ _ _ _ _ _ (HC.out.blk HP.out hne)]
        have e := postCells_set mb (cnt S) c h8 0
        simp only [Int.natCast_zero] at e
        rw [e]; congr 3; funext i; rw [cnt_drop]
      · intro i; rw [cnt_drop]; have := HR.out i; split <;> omega
      · exact Ch.setCell (S := fun k => k = pb ∨ k = mb) (HC.out.mono (fun _ _ h => Or.inr h)) (fun _ => Or.inl rfl) _
    · intro n w1 hnL hI1 hch1 hs1 hen
      have hrp : ¬ w.heap.size = pb := by omega
      have hrp' : ¬ pb = w.heap.size := by omega
      have hrm : ¬ mb = w.heap.size := by omega
      have hc2 : w1.cell? ⟨pb, 0, none⟩ = some (.map (some mb)) := by rw [cell_blk (hch1.blk (HC.out.blk HP.out hne) hrp')]; rfl
      have hok : OkN n := by
        obtain ⟨es1, clk1, m1, m2⟩ := hI.map
        refine m2.ok n (List.mem_filter.2 ⟨?_, by simp [hnL]⟩)
        obtain ⟨_, _, _, _, _, _, _, _, _, _, _, _, hsub⟩ := hI
        exact (List.mem_filter.1 (hsub n hnL)).1
      have hlt1 := hI1.lt
      have hpl1 : pb < w1.heap.size := by omega
      have hwC : Ch (fun k => k = mb) w w1 := by
        have a := hch1
        have b := HC.out
        exact ⟨a.os.trans b.os, a.tape.trans b.tape, a.output.trans b.output, Nat.le_trans b.size a.size, fun k hk hn => (a.block k (by have := b.size; omega) (by omega)).trans (b.block k hk hn)⟩
      have HC1 := Lib.hid hwC
      have HN := Lib.hid hnL
      have HI1 := Lib.hid hI1
      have HOK := Lib.hid hok
      have hsz1 : w.heap.size ≤ w1.heap.size := hwC.size
      clear hch1 hwC hnL hI1 hI hs1 hok hlt
      by_cases hnc : n.c = c
      · have hb : ((n.c : Int) == (c : Int)) = true := by simp [hnc]
        have HNC := Lib.hid hnc
        clear hnc
        go_wp2
        refine wp_region_st 5 hmix (by kernel_rfl) ?_
        simp only [List.take_succ_cons, List.take_zero, List.drop_succ_cons, List.drop_zero]
        repeat still_step
        refine wpStill_nil ?_
        have hI2 := HI1.out.keptB (w' := (w1.alloc (.cells #[.int .i64 n.c, .string ⟨n.t.toArray⟩, .bool n.p] 84)).drew) (by rw [blk_drew, blk_alloc_lt _ _ _ (by omega)]) (by rw [blk_drew, blk_alloc_lt _ _ _ (by omega)])
        refine wpList_delete_it rfl _ _ rfl w.heap.size mb _ _ rfl hI2 n rfl HOK.out (not_mem_rm _ _) ?_
        intro w2 hI3 hch3 hs3
        rw [dropTo_delL HNC.out] at hI3
        have HI3 := Lib.hid hI3
        have HC3 := Lib.hid (((HC1.out.alloc (.cells #[.int .i64 n.c, .string ⟨n.t.toArray⟩, .bool n.p] 84)).drew).trans hch3)
        clear hI3 hch3 hI2
        go_wp2
        go_roundg (rm n L).length
        case measure => rw [HG.out]; exact filter_len HN.out
        case rel => exact ⟨_, rfl, HI3.out, HC3.out⟩
      · have hb : ((n.c : Int) == (c : Int)) = false := by simp; omega
        have HNC := Lib.hid hnc
        clear hnc
        have hI2 := HI1.out.keptB (w' := (w1.alloc (.cells #[.int .i64 n.c, .string ⟨n.t.toArray⟩, .bool n.p] 84))) (by rw [blk_alloc_lt _ _ _ (by omega)]) (by rw [blk_alloc_lt _ _ _ (by omega)])
        have HI2 := Lib.hid hI2
        clear hI2
        go_wp2
        go_roundg (rm n L).length
        case measure => rw [HG.out]; exact filter_len HN.out
        case rel => exact ⟨_, rfl, by rw [← dropTo_keep HNC.out]; exact HI2.out, HC1.out.alloc _⟩
end Go.Proofs.YtgfldammdcocmaaDoor
