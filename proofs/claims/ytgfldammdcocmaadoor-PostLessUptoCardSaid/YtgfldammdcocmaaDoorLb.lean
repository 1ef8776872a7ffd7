import Derived.Test.YtgfldammdcocmaaDoorLa
import Derived.Laws.BytesArg
import Derived.Laws.BytesString
namespace Go.Proofs.YtgfldammdcocmaaDoor
open Go.RowKit Go.Sort

theorem within_val (n m : Int) (hm : 0 < m) : ((n.tmod m + m).tmod m) = n % m := by
  have h1 := Int.tmod_lt_of_pos n hm
  have h2 : -m < n.tmod m := by
    have := Int.lt_tmod_of_pos n hm
    omega
  rw [Int.tmod_eq_emod_of_nonneg (by omega)]
  rw [Int.add_emod_right]
  have e : n.tmod m = n - m * n.tdiv m := by have := Int.tmod_add_mul_tdiv n m; omega
  rw [e, Int.sub_emod, Int.mul_emod_right, Int.sub_zero, Int.emod_emod]

theorem within_any (n m : Int) (w : World) (hm : 0 < m) (hm2 : m ≤ 4611686018427387904) :
    Calls Tryd.prog 9 #[.int .i64 n, .int .i64 m] w fun e w' => e = .returned (.int .i64 (n % m)) ∧ w = w' := by
  have h1 := Int.tmod_lt_of_pos n hm
  have h2 : -m < n.tmod m := by
    have := Int.lt_tmod_of_pos n hm
    omega
  have hv := within_val n m hm
  have hm0 : ¬ m = 0 := by omega
  have hmb : (m == 0) = false := by rw [beq_eq_false_iff_ne]; exact hm0
  go_enter Tryd.func9, Tryd.ntmps9
  go_wp2
  go_ret
  exact ⟨rfl, rfl⟩

/-- a slice of bytes that holds t. -/
def IsB (w : World) (v : Value) (t : List UInt8) : Prop :=
  (∃ a cap, v = .slice a 0 cap ∧ t = []) ∨ ∃ b off cap, v = .slice (some ⟨b, off, none⟩) t.length cap ∧ BytesAt w b off t ∧ b < w.heap.size ∧ t.length ≤ cap ∧ cap ≤ 9223372036854775807
theorem IsB.below {w w' : World} {v : Value} {t : List UInt8} (h : IsB w v t) (hb : Below w.heap.size w w') : IsB w' v t := by
  rcases h with h | ⟨b, off, cap, hv, hB, hl, h1, h2⟩
  · exact Or.inl h
  · exact Or.inr ⟨b, off, cap, hv, hB.below hb hl, Nat.lt_of_lt_of_le hl hb.size, h1, h2⟩
theorem bget_get (t : List UInt8) (i : Nat) (hi : i < t.length) : bget t i = t[i] := by unfold bget; rw [List.getD_eq_getElem?_getD, List.getElem?_eq_getElem hi]; rfl
theorem run_str0 (w : World) (a : Option Addr) (cap : Nat) : (convert 38 9 (.slice a 0 cap)).run Tryd.prog w = .ok (.string ⟨([] : List UInt8).toArray⟩) w := by
  cases a with
  | none => exact run_convert_bytes_nil w 38 5 und38 und5 0 cap 9 und9
  | some a =>
    rw [run_convert_bytes_string w 38 9 5 (some a) 0 cap und38 und5 und9]
    have hl : (loadCells a 0).run Tryd.prog w = .ok #[] w := by
      have := run_loadCells_list (P := Tryd.prog) w a [] (fun j v hj => by simp at hj)
      simpa using this
    simp [Conv.bytesToString, hl]
    rfl
theorem run_str {w : World} {v : Value} {t : List UInt8} (h : IsB w v t) : (convert 38 9 v).run Tryd.prog w = .ok (.string ⟨t.toArray⟩) w := by
  rcases h with ⟨a, cap, rfl, rfl⟩ | ⟨b, off, cap, rfl, hB, hl, h1, h2⟩
  · exact run_str0 w a cap
  · have := run_convert_bytes_arg w 38 5 und38 und5 b off t.length cap (t.map fun x => (x.toNat : Int)) (by simp) (fun i hi => by
      rw [hB i hi, bget_get t i hi]
      simp [List.getD_eq_getElem?_getD, List.getElem?_map, List.getElem?_eq_getElem hi]) 9 und9
    rw [this]
    have e : (t.map fun x => (x.toNat : Int)).map (fun n => UInt8.ofNat n.toNat) = t := by
      rw [List.map_map]
      conv => rhs; rw [← List.map_id t]
      apply List.map_congr_left
      intro a _
      simp
    show Result.ok (Value.string ⟨((t.map fun x => (x.toNat : Int)).map (fun n => UInt8.ofNat n.toNat)).toArray⟩) w = _
    rw [e]

/-- a seat: the connection, the name's slice, its bytes, pattern or not. -/
structure Sv where
  c : Int
  v : Value
  t : List UInt8
  p : Bool
def encS (s : Sv) : List Value := [.int .i64 s.c, s.v, .bool s.p]

theorem same_any (x y : Sv) (w : World) (hx : IsB w x.v x.t) (hy : IsB w y.v y.t) :
    Calls Tryd.prog 39 #[.agg #[.int .i64 x.c, x.v, .bool x.p], .agg #[.int .i64 y.c, y.v, .bool y.p]] w fun e w' => e = .returned (.bool (decide (x.c = y.c ∧ x.p = y.p ∧ x.t = y.t))) ∧ Below w.heap.size w w' := by
  obtain ⟨xc, xv, xt, xp⟩ := x
  obtain ⟨yc, yv, yt, yp⟩ := y
  simp only at hx hy ⊢
  have hb : Below w.heap.size w ((w.alloc (.cells #[.int .i64 xc, xv, .bool xp] 48)).alloc (.cells #[.int .i64 yc, yv, .bool yp] 48)) := ((Below.refl _ w).alloc (Nat.le_refl _) _).alloc (by simp) _
  have s1 := run_str (hx.below hb)
  have s2 := run_str (hy.below hb)
  obtain ⟨r, hr⟩ : ∃ r, decide (xc = yc ∧ xp = yp ∧ xt = yt) = r := ⟨_, rfl⟩
  rw [hr]
  have HB := Lib.hid hb
  have HR := Lib.hid hr
  clear hx hy hb hr
  by_cases h1 : xc = yc
  · have e1 : (xc == yc) = true := by rw [h1]; exact beq_self_eq_true _
    by_cases h2 : xp = yp
    · have e2 : (xp == yp) = true := by rw [h2]; exact beq_self_eq_true _
      by_cases h3 : xt = yt
      · have e3 : (xt == yt) = true := by rw [h3]; exact beq_self_eq_true _
        have HV := Lib.hid (show r = true by rw [← HR.out]; exact decide_eq_true ⟨h1, h2, h3⟩)
        clear h1 h2 h3
        go_enter Tryd.func39, Tryd.ntmps39
        go_wp2
        go_ret
        exact ⟨by rw [HV.out]; rfl, HB.out⟩
      · have e3 : (xt == yt) = false := beq_eq_false_iff_ne.2 h3
        have HV := Lib.hid (show r = false by rw [← HR.out]; exact decide_eq_false (fun h => h3 h.2.2))
        clear h1 h2 h3
        go_enter Tryd.func39, Tryd.ntmps39
        go_wp2
        go_ret
        exact ⟨by rw [HV.out]; rfl, HB.out⟩
    · have e2 : (xp == yp) = false := beq_eq_false_iff_ne.2 h2
      have HV := Lib.hid (show r = false by rw [← HR.out]; exact decide_eq_false (fun h => h2 h.2.1))
      clear h1 h2
      go_enter Tryd.func39, Tryd.ntmps39
      go_wp2
      go_ret
      exact ⟨by rw [HV.out]; rfl, HB.out⟩
  · have e1 : (xc == yc) = false := beq_eq_false_iff_ne.2 h1
    have HV := Lib.hid (show r = false by rw [← HR.out]; exact decide_eq_false (fun h => h1 h.1))
    clear h1
    go_enter Tryd.func39, Tryd.ntmps39
    go_wp2
    go_ret
    exact ⟨by rw [HV.out]; rfl, HB.out⟩

theorem IsB.len {w : World} {v : Value} {t : List UInt8} (h : IsB w v t) : ∃ a cap, v = .slice a t.length cap := by
  rcases h with ⟨a, cap, rfl, rfl⟩ | ⟨b, off, cap, rfl, _⟩
  · exact ⟨a, cap, rfl⟩
  · exact ⟨_, _, rfl⟩

theorem fit_short (c : Int) (a : Option Addr) (n cap : Nat) (p : Bool) (w : World) (hn : n ≤ 64) :
    Calls Tryd.prog 38 #[.agg #[.int .i64 c, .slice a n cap, .bool p]] w fun e w' => e = .returned (.agg #[.int .i64 (c % 8), .slice a n cap, .bool p]) ∧ Below w.heap.size w w' := by
  have hw := within_any c 8
  have HW := Lib.hid (fun w => hw w (by omega) (by omega))
  have hn' : (n : Int) ≤ 64 := by omega
  clear hw
  go_enter Tryd.func38, Tryd.ntmps38
  go_wp2
  go_region_with (first | (go_at_call 9; refine (HW.out _).mono ?_; rintro e w' ⟨rfl, rfl⟩))
  all_goals (
    go_wp2
    refine bodyPost_ret (v := .agg #[.int .i64 (c % 8), .slice a n cap, .bool p]) (by simp [results, Tryd.results38, go_sem]) rfl ⟨rfl, ?_⟩
    exact (((Below.refl _ w).alloc (Nat.le_refl _) _).alloc (by simp) _).drew)

theorem fit_long (c : Int) (b off n cap : Nat) (p : Bool) (w : World) (hn : 64 < n) (hc : n ≤ cap) (hm : cap ≤ 9223372036854775807) :
    Calls Tryd.prog 38 #[.agg #[.int .i64 c, .slice (some ⟨b, off, none⟩) n cap, .bool p]] w fun e w' => e = .returned (.agg #[.int .i64 (c % 8), .slice (some ⟨b, off, none⟩) 64 cap, .bool p]) ∧ Below w.heap.size w w' := by
  have hw := within_any c 8
  have HW := Lib.hid (fun w => hw w (by omega) (by omega))
  have hn' : (64 : Int) < n := by omega
  have hc' : (n : Int) ≤ cap := by omega
  have hm' : (cap : Int) ≤ 9223372036854775807 := by omega
  have hc2 : (64 : Int) ≤ cap := by omega
  clear hw
  go_enter Tryd.func38, Tryd.ntmps38
  go_wp2
  go_region_with (first | (go_at_call 9; refine (HW.out _).mono ?_; rintro e w' ⟨rfl, rfl⟩))
  all_goals (
    go_wp2
    refine bodyPost_ret (v := .agg #[.int .i64 (c % 8), .slice (some ⟨b, off, none⟩) 64 cap, .bool p]) (by simp [results, Tryd.results38, go_sem]) rfl ⟨rfl, ?_⟩
    exact (((Below.refl _ w).alloc (Nat.le_refl _) _).alloc (by simp) _).drew)

/-- a seat made fit. -/
def FitLeft (w0 w : World) (s : Sv) (e : Ending) (w' : World) : Prop :=
  ∃ v', e = .returned (.agg #[.int .i64 (s.c % 8), v', .bool s.p]) ∧ IsB w0 v' (s.t.take 64) ∧ Below w.heap.size w w'
theorem fit_any (s : Sv) (w w0 : World) (h : IsB w0 s.v s.t) : Calls Tryd.prog 38 #[.agg #[.int .i64 s.c, s.v, .bool s.p]] w fun e w' => FitLeft w0 w s e w' := by
  by_cases hl : s.t.length ≤ 64
  · obtain ⟨a, cap, hv⟩ := h.len
    rw [hv] at h ⊢
    refine (fit_short s.c a s.t.length cap s.p w hl).mono ?_
    rintro e w' ⟨he, hb⟩
    exact ⟨_, he, by rw [List.take_of_length_le hl]; exact h, hb⟩
  · rcases h with ⟨_, _, _, e⟩ | ⟨b, off, cap, hv, hB, hlt, h1, h2⟩
    · rw [e] at hl; simp at hl
    rw [hv]
    refine (fit_long s.c b off s.t.length cap s.p w (by omega) h1 h2).mono ?_
    rintro e w' ⟨he, hb⟩
    have hlen : (s.t.take 64).length = 64 := by rw [List.length_take]; omega
    refine ⟨_, he, Or.inr ⟨b, off, cap, by rw [hlen], fun j hj => ?_, hlt, by omega, h2⟩, hb⟩
    rw [hlen] at hj
    rw [hB j (by omega), bget_get _ _ (by omega), bget_get _ _ (by rw [hlen]; omega), List.getElem_take]
end Go.Proofs.YtgfldammdcocmaaDoor
