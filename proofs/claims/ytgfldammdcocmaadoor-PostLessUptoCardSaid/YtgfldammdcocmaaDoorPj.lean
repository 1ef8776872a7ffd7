import Derived.Test.YtgfldammdcocmaaDoorBw
namespace Go.Proofs.YtgfldammdcocmaaDoor
open Go.RowKit
open Go.ChangeMaps (setBlock)

theorem there_yes (c : Int) (w : World) (h0 : 0 ≤ c) (h8 : c < 8) : Calls Tryd.prog 40 #[.int .i64 c] w fun e w' => e = .returned (.bool true) ∧ w = w' := by
  go_enter Tryd.func40, Tryd.ntmps40
  go_wp2
  go_ret
  exact ⟨rfl, rfl⟩
theorem there_no (c : Int) (w : World) (h : c < 0 ∨ 8 ≤ c) : Calls Tryd.prog 40 #[.int .i64 c] w fun e w' => e = .returned (.bool false) ∧ w = w' := by
  rcases h with h | h
  · go_enter Tryd.func40, Tryd.ntmps40
    go_wp2
    go_ret
    exact ⟨rfl, rfl⟩
  · have h1 : 0 ≤ c := by omega
    have h2 : decide (c < 8) = false := by simp; omega
    go_enter Tryd.func40, Tryd.ntmps40
    go_wp2
    go_ret
    exact ⟨by simp [h2], rfl⟩
theorem may_conn (c : Int) (t : ByteArray) (w : World) (h : c < 0 ∨ 8 ≤ c) : Calls Tryd.prog 41 #[.int .i64 c, .string t] w fun e w' => e = .returned (.int .i64 170) ∧ w = w' := by
  go_enter Tryd.func41, Tryd.ntmps41
  go_wp2_with (go_at_call 40; refine (there_no _ _ h).mono ?_; rintro e w' ⟨rfl, rfl⟩)
  go_ret
  exact ⟨rfl, rfl⟩
theorem may_name (c : Int) (t : ByteArray) (w : World) (h0 : 0 ≤ c) (h8 : c < 8) (ht : 4096 < (t.size : Int)) : Calls Tryd.prog 41 #[.int .i64 c, .string t] w fun e w' => e = .returned (.int .i64 171) ∧ w = w' := by
  go_enter Tryd.func41, Tryd.ntmps41
  go_wp2_with (go_at_call 40; refine (there_yes _ _ h0 h8).mono ?_; rintro e w' ⟨rfl, rfl⟩)
  go_ret
  exact ⟨rfl, rfl⟩
theorem may_ok (c : Int) (t : ByteArray) (w : World) (h0 : 0 ≤ c) (h8 : c < 8) (ht : (t.size : Int) ≤ 4096) : Calls Tryd.prog 41 #[.int .i64 c, .string t] w fun e w' => e = .returned (.int .i64 0) ∧ w = w' := by
  go_enter Tryd.func41, Tryd.ntmps41
  go_wp2_with (go_at_call 40; refine (there_yes _ _ h0 h8).mono ?_; rintro e w' ⟨rfl, rfl⟩)
  go_ret
  exact ⟨rfl, rfl⟩


theorem join_conn (pb : Nat) (c : Int) (t : ByteArray) (p : Bool) (w : World) (h : c < 0 ∨ 8 ≤ c) :
    Calls Tryd.prog 18 #[.pointer (some ⟨pb, 0, none⟩), .int .i64 c, .string t, .bool p] w fun e w' => e = .returned (.tuple #[.int .i64 0, .bool false, .int .i64 170]) ∧ w = w' := by
  go_enter Tryd.func18, Tryd.ntmps18
  go_wp2_with (go_at_call 41; refine (may_conn _ _ _ h).mono ?_; rintro e w' ⟨rfl, rfl⟩)
  go_ret3
  exact ⟨rfl, rfl⟩
theorem join_name (pb : Nat) (c : Int) (t : ByteArray) (p : Bool) (w : World) (h0 : 0 ≤ c) (h8 : c < 8) (ht : 4096 < (t.size : Int)) :
    Calls Tryd.prog 18 #[.pointer (some ⟨pb, 0, none⟩), .int .i64 c, .string t, .bool p] w fun e w' => e = .returned (.tuple #[.int .i64 0, .bool false, .int .i64 171]) ∧ w = w' := by
  go_enter Tryd.func18, Tryd.ntmps18
  go_wp2_with (go_at_call 41; refine (may_name _ _ _ h0 h8 ht).mono ?_; rintro e w' ⟨rfl, rfl⟩)
  go_ret3
  exact ⟨rfl, rfl⟩

set_option maxRecDepth 100000 in
theorem join_there (pb mb : Nat) (S : List Nm) (c : Nat) (t : ByteArray) (p : Bool) (w : World) (hP : PostAt w pb mb S) (h8 : c < 8) (ht : t.size ≤ 4096) (hin : (⟨c, t.data.toList, p⟩ : Nm) ∈ S) :
    Calls Tryd.prog 18 #[.pointer (some ⟨pb, 0, none⟩), .int .i64 c, .string t, .bool p] w fun e w' => e = .returned (.tuple #[.int .i64 (cnt S c), .bool false, .int .i64 0]) ∧ Ch (fun _ => False) w w' := by
  have hcc := hP.cnt_cell c h8
  have hc0 := hP.map_cell
  have h1 : pb < w.heap.size := lt_of_blk hP.post
  obtain ⟨hne, ⟨es, clk, hm, hE⟩, hp, hr⟩ := hP
  have hok : OkN ⟨c, t.data.toList, p⟩ := ⟨h8, by simpa using ht⟩
  have hlk := fun (W : World) (h : blk W mb = _) => run_look hE (w := W) h hok
  simp only [kv, hin, if_true, Array.toArray_toList] at hlk
  have h2 : mb < w.heap.size := lt_of_blk hm
  have h0 : (0 : Int) ≤ c := by omega
  have h8' : (c : Int) < 8 := by omega
  clear hp hE hr hin hok hne
  go_enter Tryd.func18, Tryd.ntmps18
  go_wp2_with (go_at_call 41; refine (may_ok _ _ _ h0 h8' (by omega)).mono ?_; rintro e w' ⟨rfl, rfl⟩)
  go_quiet (fail)
  go_wp2
  go_ret3
  exact ⟨rfl, ((Ch.refl _ _).alloc _).drewN _⟩

set_option maxRecDepth 100000 in
theorem join_full (pb mb : Nat) (S : List Nm) (c : Nat) (t : ByteArray) (p : Bool) (w : World) (hP : PostAt w pb mb S) (h8 : c < 8) (ht : t.size ≤ 4096) (hin : (⟨c, t.data.toList, p⟩ : Nm) ∉ S) (hf : cnt S c = 64) :
    Calls Tryd.prog 18 #[.pointer (some ⟨pb, 0, none⟩), .int .i64 c, .string t, .bool p] w fun e w' => e = .returned (.tuple #[.int .i64 0, .bool false, .int .i64 172]) ∧ Ch (fun _ => False) w w' := by
  have hcc := hP.cnt_cell c h8
  have hc0 := hP.map_cell
  have h1 : pb < w.heap.size := lt_of_blk hP.post
  obtain ⟨hne, ⟨es, clk, hm, hE⟩, hp, hr⟩ := hP
  have hok : OkN ⟨c, t.data.toList, p⟩ := ⟨h8, by simpa using ht⟩
  have hlk := fun (W : World) (h : blk W mb = _) => run_look hE (w := W) h hok
  simp only [kv, hin, if_false, Array.toArray_toList] at hlk
  have h2 : mb < w.heap.size := lt_of_blk hm
  have h0 : (0 : Int) ≤ c := by omega
  have h8' : (c : Int) < 8 := by omega
  rw [hf] at hcc
  clear hf
  clear hp hE hr hin hok hne
  go_enter Tryd.func18, Tryd.ntmps18
  go_wp2_with (go_at_call 41; refine (may_ok _ _ _ h0 h8' (by omega)).mono ?_; rintro e w' ⟨rfl, rfl⟩)
  go_quiet (fail)
  go_wp2
  go_ret3
  exact ⟨rfl, ((Ch.refl _ _).alloc _).drewN _⟩
set_option maxRecDepth 100000 in
theorem join_new (pb mb : Nat) (S : List Nm) (c : Nat) (t : ByteArray) (p : Bool) (w : World) (hP : PostAt w pb mb S) (h8 : c < 8) (ht : t.size ≤ 4096) (hin : (⟨c, t.data.toList, p⟩ : Nm) ∉ S) (hf : cnt S c < 64) :
    Calls Tryd.prog 18 #[.pointer (some ⟨pb, 0, none⟩), .int .i64 c, .string t, .bool p] w fun e w' => e = .returned (.tuple #[.int .i64 (cnt S c + 1), .bool true, .int .i64 0]) ∧ PostAt w' pb mb (S ++ [⟨c, t.data.toList, p⟩]) ∧ Ch (fun k => k = pb ∨ k = mb) w w' := by
  have hcc := hP.cnt_cell c h8
  obtain ⟨hne, ⟨es, clk, hm, hE⟩, hp, hr⟩ := hP
  have hc0 : w.cell? ⟨pb, 0, none⟩ = some (.map (some mb)) := by rw [cell_blk hp]; rfl
  have hfc : w.frozen? ⟨pb, 1 + c, none⟩ = false := frozen_blk hp _
  have hok : OkN ⟨c, t.data.toList, p⟩ := ⟨h8, by simpa using ht⟩
  have hlk := fun (W : World) (h : blk W mb = _) => run_look hE (w := W) h hok
  have hup := fun (W : World) (h : blk W mb = _) => (run_update hE (w := W) h hok hin).1
  have hE' := Lib.hid (run_update hE hm hok hin).2
  simp only [kv, hin, if_false, Array.toArray_toList] at hlk hup
  have h1 : pb < w.heap.size := lt_of_blk hp
  have h2 : mb < w.heap.size := lt_of_blk hm
  have h3 : ¬ mb = pb := fun e => hne e.symm
  have h0 : (0 : Int) ≤ c := by omega
  have h8' : (c : Int) < 8 := by omega
  have hf1 : ((cnt S c : Int) == 64) = false := by simp; omega
  have hf2 : (cnt S c : Int) < 64 := by omega
  have hf3 : (0 : Int) ≤ cnt S c := by omega
  have HP := Lib.hid hp
  have HR := Lib.hid hr
  clear hp hE hr hin hok hf
  go_enter Tryd.func18, Tryd.ntmps18
  go_wp2_with (go_at_call 41; refine (may_ok _ _ _ h0 h8' (by omega)).mono ?_; rintro e w' ⟨rfl, rfl⟩)
  go_quiet (fail)
  go_wp2
  refine wp_region_st 5 hmix (by kernel_rfl) ?_
  simp only [List.take_succ_cons, List.take_zero, List.drop_succ_cons, List.drop_zero]
  repeat still_step
  refine wpStill_nil ?_
  go_wp2
  refine wp_region_st 10 hmix (by kernel_rfl) ?_
  simp only [List.take_succ_cons, List.take_zero, List.drop_succ_cons, List.drop_zero]
  repeat still_step
  refine wpStill_nil ?_
  go_wp2
  go_ret3
  refine ⟨rfl, ⟨hne, ⟨_, _, ?_, hE'.out⟩, ?_, ?_⟩, ?_⟩
  · simp only [blk_drew]
    rw [blk_setCell_ne _ _ _ _ hne, blk_setBlock_self _ _ _ (by simp; omega)]
    simp [kv]
  · simp only [blk_drew]
    rw [blk_setCell_self _ _ _ _ _ _ _ (by rw [blk_setBlock_ne _ _ _ _ h3, blk_drewN, blk_alloc_lt _ _ _ h1]; exact HP.out)]
    have e := postCells_set mb (cnt S) c h8 (cnt S c + 1)
    simp only [Int.natCast_add, Int.natCast_one] at e
    rw [e]
    congr 3; funext i; rw [cnt_snoc]; simp only; split <;> simp_all
  · intro i; rw [cnt_snoc]; split
    · have := hf2; simp_all; omega
    · exact HR.out i
  · exact ((((Ch.refl _ w).alloc _).drewN _).setBlock (fun _ => Or.inr rfl) _).setCell (fun _ => Or.inl rfl) _ |>.drew

theorem leave_conn (pb : Nat) (c : Int) (t : ByteArray) (p : Bool) (w : World) (h : c < 0 ∨ 8 ≤ c) :
    Calls Tryd.prog 16 #[.pointer (some ⟨pb, 0, none⟩), .int .i64 c, .string t, .bool p] w fun e w' => e = .returned (.tuple #[.int .i64 0, .bool false, .int .i64 170]) ∧ w = w' := by
  go_enter Tryd.func16, Tryd.ntmps16
  go_wp2_with (go_at_call 41; refine (may_conn _ _ _ h).mono ?_; rintro e w' ⟨rfl, rfl⟩)
  go_ret3
  exact ⟨rfl, rfl⟩
theorem leave_name (pb : Nat) (c : Int) (t : ByteArray) (p : Bool) (w : World) (h0 : 0 ≤ c) (h8 : c < 8) (ht : 4096 < (t.size : Int)) :
    Calls Tryd.prog 16 #[.pointer (some ⟨pb, 0, none⟩), .int .i64 c, .string t, .bool p] w fun e w' => e = .returned (.tuple #[.int .i64 0, .bool false, .int .i64 171]) ∧ w = w' := by
  go_enter Tryd.func16, Tryd.ntmps16
  go_wp2_with (go_at_call 41; refine (may_name _ _ _ h0 h8 ht).mono ?_; rintro e w' ⟨rfl, rfl⟩)
  go_ret3
  exact ⟨rfl, rfl⟩

set_option maxRecDepth 100000 in
theorem leave_not (pb mb : Nat) (S : List Nm) (c : Nat) (t : ByteArray) (p : Bool) (w : World) (hP : PostAt w pb mb S) (h8 : c < 8) (ht : t.size ≤ 4096) (hin : (⟨c, t.data.toList, p⟩ : Nm) ∉ S) :
    Calls Tryd.prog 16 #[.pointer (some ⟨pb, 0, none⟩), .int .i64 c, .string t, .bool p] w fun e w' => e = .returned (.tuple #[.int .i64 (cnt S c), .bool false, .int .i64 0]) ∧ Ch (fun _ => False) w w' := by
  have hcc := hP.cnt_cell c h8
  have hc0 := hP.map_cell
  have h1 : pb < w.heap.size := lt_of_blk hP.post
  obtain ⟨hne, ⟨es, clk, hm, hE⟩, hp, hr⟩ := hP
  have hok : OkN ⟨c, t.data.toList, p⟩ := ⟨h8, by simpa using ht⟩
  have hlk := fun (W : World) (h : blk W mb = _) => run_look hE (w := W) h hok
  simp only [kv, hin, if_false, Array.toArray_toList] at hlk
  have h2 : mb < w.heap.size := lt_of_blk hm
  have h0 : (0 : Int) ≤ c := by omega
  have h8' : (c : Int) < 8 := by omega
  clear hp hE hr hin hok hne
  go_enter Tryd.func16, Tryd.ntmps16
  go_wp2_with (go_at_call 41; refine (may_ok _ _ _ h0 h8' (by omega)).mono ?_; rintro e w' ⟨rfl, rfl⟩)
  go_quiet (fail)
  go_wp2
  go_ret3
  exact ⟨rfl, ((Ch.refl _ _).alloc _).drewN _⟩

theorem cnt_filter (S : List Nm) (hS : S.Nodup) (n : Nm) (hn : n ∈ S) (i : Nat) : cnt (rm n S) i = if i = n.c then cnt S i - 1 else cnt S i := by
  unfold cnt rm
  induction S with
  | nil => simp at hn
  | cons x r ih =>
    obtain ⟨h1, h2⟩ := List.nodup_cons.1 hS
    by_cases hx : x = n
    · subst hx
      have e : r.filter (fun y => decide (y ≠ x)) = r := List.filter_eq_self.2 (fun y hy => by simp; intro e; exact h1 (e ▸ hy))
      rw [List.filter_cons_of_neg (by simp), e]
      by_cases hi : i = x.c
      · subst hi; simp
      · have : ¬ x.c = i := fun e => hi e.symm
        simp [hi, this]
    · have hn' : n ∈ r := by rcases List.mem_cons.1 hn with e | h; exact absurd e.symm hx; exact h
      have ih' := ih h2 hn'
      rw [List.filter_cons_of_pos (by simp [hx])]
      by_cases hc : x.c = i
      · rw [List.filter_cons_of_pos (by simp [hc]), List.filter_cons_of_pos (by simp [hc]), List.length_cons, List.length_cons, ih']
        split
        · rename_i hi
          have : 0 < (r.filter (fun y => decide (y.c = i))).length := List.length_pos_of_mem (List.mem_filter.2 ⟨hn', by simp [hi]⟩)
          omega
        · rfl
      · rw [List.filter_cons_of_neg (by simp [hc]), List.filter_cons_of_neg (by simp [hc]), ih']

theorem cnt_pos {S : List Nm} {n : Nm} (hn : n ∈ S) : 0 < cnt S n.c := List.length_pos_of_mem (List.mem_filter.2 ⟨hn, by simp⟩)

set_option maxRecDepth 100000 in
theorem leave_yes (pb mb : Nat) (S : List Nm) (c : Nat) (t : ByteArray) (p : Bool) (w : World) (hP : PostAt w pb mb S) (h8 : c < 8) (ht : t.size ≤ 4096) (hin : (⟨c, t.data.toList, p⟩ : Nm) ∈ S) :
    Calls Tryd.prog 16 #[.pointer (some ⟨pb, 0, none⟩), .int .i64 c, .string t, .bool p] w fun e w' => e = .returned (.tuple #[.int .i64 (cnt S c - 1), .bool true, .int .i64 0]) ∧ PostAt w' pb mb (rm ⟨c, t.data.toList, p⟩ S) ∧ Ch (fun k => k = pb ∨ k = mb) w w' := by
  have hcc := hP.cnt_cell c h8
  have hc0 := hP.map_cell
  obtain ⟨hne, ⟨es, clk, hm, hE⟩, hp, hr⟩ := hP
  have hfc : w.frozen? ⟨pb, 1 + c, none⟩ = false := frozen_blk hp _
  have hok : OkN ⟨c, t.data.toList, p⟩ := ⟨h8, by simpa using ht⟩
  have hlk := fun (W : World) (h : blk W mb = _) => run_look hE (w := W) h hok
  obtain ⟨es', hdel, hE', -, -⟩ := run_delete hE (mb := mb) hok
  replace hdel : ∀ (W : World) (ty : TypeId), blk W mb = some (.map es clk) → _ := fun W ty h => hdel W ty h
  have hE' := Lib.hid hE'
  simp only [kv, hin, if_true, Array.toArray_toList] at hlk hdel
  have h1 : pb < w.heap.size := lt_of_blk hp
  have h2 : mb < w.heap.size := lt_of_blk hm
  have h3 : ¬ mb = pb := fun e => hne e.symm
  have h0 : (0 : Int) ≤ c := by omega
  have h8' : (c : Int) < 8 := by omega
  have hpos := cnt_pos hin
  simp only at hpos
  have hf2 : (cnt S c : Int) ≤ 64 := by have := hr c; omega
  have hf3 : (1 : Int) ≤ cnt S c := by omega
  have HP := Lib.hid hp
  have HR := Lib.hid hr
  have HI := Lib.hid hin
  have HN := Lib.hid hE.nodup
  clear hp hE hr hin hok hpos
  go_enter Tryd.func16, Tryd.ntmps16
  go_wp2_with (go_at_call 41; refine (may_ok _ _ _ h0 h8' (by omega)).mono ?_; rintro e w' ⟨rfl, rfl⟩)
  go_quiet (fail)
  go_wp2
  refine wp_region_st 5 hmix (by kernel_rfl) ?_
  simp only [List.take_succ_cons, List.take_zero, List.drop_succ_cons, List.drop_zero]
  repeat still_step
  refine wpStill_nil ?_
  go_wp2
  refine wp_region_st 10 hmix (by kernel_rfl) ?_
  simp only [List.take_succ_cons, List.take_zero, List.drop_succ_cons, List.drop_zero]
  repeat still_step
  refine wpStill_nil ?_
  go_wp2
  go_ret3
  refine ⟨rfl, ⟨hne, ⟨_, _, ?_, hE'.out⟩, ?_, ?_⟩, ?_⟩
  · simp only [blk_drew]
    rw [blk_setCell_ne _ _ _ _ hne, blk_setBlock_self _ _ _ (by simp; omega)]
  · simp only [blk_drew]
    rw [blk_setCell_self _ _ _ _ _ _ _ (by rw [blk_setBlock_ne _ _ _ _ h3, blk_drewN, blk_alloc_lt _ _ _ h1]; exact HP.out)]
    have e := postCells_set mb (cnt S) c h8 (cnt S c - 1)
    rw [Int.ofNat_sub (by omega)] at e
    simp only [Int.natCast_one] at e
    rw [e]
    congr 3; funext i; rw [cnt_filter S HN.out _ HI.out]; simp only; split <;> simp_all
  · intro i; rw [cnt_filter S HN.out _ HI.out]; have := HR.out i; split <;> omega
  · exact ((((Ch.refl _ w).alloc _).drewN _).setBlock (fun _ => Or.inr rfl) _).setCell (fun _ => Or.inl rfl) _ |>.drew

theorem count_in (pb mb : Nat) (S : List Nm) (c : Nat) (w : World) (hP : PostAt w pb mb S) (h8 : c < 8) :
    Calls Tryd.prog 14 #[.pointer (some ⟨pb, 0, none⟩), .int .i64 c] w fun e w' => e = .returned (.int .i64 (cnt S c)) ∧ w = w' := by
  have hcc := hP.cnt_cell c h8
  have h0 : (0 : Int) ≤ c := by omega
  have h8' : (c : Int) < 8 := by omega
  clear hP
  go_enter Tryd.func14, Tryd.ntmps14
  go_wp2_with (go_at_call 40; refine (there_yes _ _ h0 h8').mono ?_; rintro e w' ⟨rfl, rfl⟩)
  go_ret
  exact ⟨rfl, rfl⟩
theorem count_out (pb : Nat) (c : Int) (w : World) (h : c < 0 ∨ 8 ≤ c) :
    Calls Tryd.prog 14 #[.pointer (some ⟨pb, 0, none⟩), .int .i64 c] w fun e w' => e = .returned (.int .i64 0) ∧ w = w' := by
  go_enter Tryd.func14, Tryd.ntmps14
  go_wp2_with (go_at_call 40; refine (there_no _ _ h).mono ?_; rintro e w' ⟨rfl, rfl⟩)
  go_ret
  exact ⟨rfl, rfl⟩

/-- a new Post. -/
theorem new_any (w : World) : Calls Tryd.prog 7 #[] w fun e w' => e = .returned (.pointer (some ⟨w.heap.size + 1, 0, none⟩)) ∧ PostAt w' (w.heap.size + 1) w.heap.size [] ∧ Ch (fun _ => False) w w' ∧ w'.heap.size = w.heap.size + 2 := by
  have hmm := @run_makeMap Tryd.prog
  go_enter Tryd.func7, Tryd.ntmps7
  go_wp2
  go_ret
  refine ⟨rfl, ⟨by omega, ⟨_, _, ?_, Ents.nil 0⟩, ?_, fun c => by simp [cnt]⟩, ((Ch.refl _ w).alloc _).alloc _, by simp⟩
  · rw [blk_alloc_lt _ _ _ (by simp), blk_alloc_self _ _ _ rfl]
  · rw [blk_alloc_self _ _ _ (by simp)]; rfl
end Go.Proofs.YtgfldammdcocmaaDoor
