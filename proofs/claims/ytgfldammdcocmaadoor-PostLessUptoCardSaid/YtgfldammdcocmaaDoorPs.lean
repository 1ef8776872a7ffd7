import Derived.Test.YtgfldammdcocmaaDoorPh
namespace Go.Proofs.YtgfldammdcocmaaDoor
open Go.RowKit Go.Sort

instance : Inhabited Nm := ⟨⟨0, [], false⟩⟩

theorem isnan_str (s : List UInt8) (w : World) : Calls Tryd.prog 62 #[.string ⟨s.toArray⟩] w fun e w' => e = .returned (.bool false) ∧ w' = w := by
  go_enter Tryd.func62, Tryd.ntmps62
  go_wp2
  go_ret
  exact ⟨rfl, rfl⟩

def cmpT (a b : List UInt8) : Int := if a < b then -1 else if a = b then 0 else 1
theorem cmp_str (a b : List UInt8) (w : World) : Calls Tryd.prog 48 #[.string ⟨a.toArray⟩, .string ⟨b.toArray⟩] w fun e w' => e = .returned (.int .i64 (cmpT a b)) ∧ w' = w := by
  have HN := Lib.hid isnan_str
  by_cases h1 : a < b
  · have hb : Op.bytesLess a b = true := by rw [bytesLess_eq, decide_eq_true h1]
    have HC := Lib.hid (show cmpT a b = -1 by unfold cmpT; rw [if_pos h1])
    clear h1
    go_enter Tryd.func48, Tryd.ntmps48
    go_wp2_with (go_at_call 62; refine (HN.out _ _).mono ?_; rintro e w' ⟨rfl, rfl⟩)
    go_ret
    exact ⟨by rw [HC.out]; rfl, rfl⟩
  · have hb : Op.bytesLess a b = false := by rw [bytesLess_eq, decide_eq_false h1]
    by_cases h2 : a = b
    · have he : (a == b) = true := by rw [h2]; exact beq_self_eq_true _
      have HC := Lib.hid (show cmpT a b = 0 by unfold cmpT; rw [if_neg h1, if_pos h2])
      clear h1 h2
      go_enter Tryd.func48, Tryd.ntmps48
      go_wp2_with (go_at_call 62; refine (HN.out _ _).mono ?_; rintro e w' ⟨rfl, rfl⟩)
      go_ret
      exact ⟨by rw [HC.out]; rfl, rfl⟩
    · have he : (a == b) = false := beq_eq_false_iff_ne.2 h2
      have HC := Lib.hid (show cmpT a b = 1 by unfold cmpT; rw [if_neg h1, if_neg h2])
      clear h1 h2
      go_enter Tryd.func48, Tryd.ntmps48
      go_wp2_with (go_at_call 62; refine (HN.out _ _).mono ?_; rintro e w' ⟨rfl, rfl⟩)
      go_ret
      exact ⟨by rw [HC.out]; rfl, rfl⟩

/-- a hit as its cells. -/
def encH (n : Nm) : List Value := [.int .i64 (n.c : Nat), .bool n.p, .string ⟨n.t.toArray⟩]
def cfH (a b : Nm) : Int := if a.c < b.c then -1 else if b.c < a.c then 1 else if a.p = b.p then cmpT a.t b.t else if a.p = true then 1 else -1

theorem hit_cmp (x y : Nm) (W : World) : Calls Tryd.prog 46 #[.agg (encH x).toArray, .agg (encH y).toArray] W fun e w' => e = .returned (.int .i64 (cfH x y)) ∧ ∃ q os', w' = grow (W.drewN q) os' := by
  obtain ⟨xc, xt, xp⟩ := x
  obtain ⟨yc, yt, yp⟩ := y
  have hfin : ∀ o o', ∃ q os', (W.alloc o).alloc o' = grow (W.drewN q) os' := fun o o' => ⟨0, _, by rw [alloc_eq_grow, alloc_eq_grow, grow_grow]; rfl⟩
  have HF := Lib.hid hfin
  have hci := Tryd.cmp_Compare_int xc yc
  have hcs := cmp_str xt yt
  have HCS := Lib.hid hcs
  simp only [encH]
  by_cases h1 : xc < yc
  · have hv : Lib.compareInt (xc : Int) yc = -1 := by unfold Lib.compareInt; rw [if_pos (by omega)]
    rw [hv] at hci
    have HCI := Lib.hid hci
    have HV := Lib.hid (show cfH ⟨xc, xt, xp⟩ ⟨yc, yt, yp⟩ = -1 by unfold cfH; rw [if_pos h1])
    clear hfin hci hcs h1 hv
    go_enter Tryd.func46, Tryd.ntmps46
    go_wp2_with (first | (go_at_call 47; refine (HCI.out _).mono ?_; rintro e w' ⟨rfl, rfl⟩) | (go_at_call 48; refine (HCS.out _).mono ?_; rintro e w' ⟨rfl, rfl⟩))
    go_ret
    exact ⟨by rw [HV.out]; rfl, HF.out _ _⟩
  · by_cases h2 : yc < xc
    · have hv : Lib.compareInt (xc : Int) yc = 1 := by unfold Lib.compareInt; rw [if_neg (by omega), if_pos (by omega)]
      rw [hv] at hci
      have HCI := Lib.hid hci
      have HV := Lib.hid (show cfH ⟨xc, xt, xp⟩ ⟨yc, yt, yp⟩ = 1 by unfold cfH; rw [if_neg h1, if_pos h2])
      clear hfin hci hcs h1 h2 hv
      go_enter Tryd.func46, Tryd.ntmps46
      go_wp2_with (first | (go_at_call 47; refine (HCI.out _).mono ?_; rintro e w' ⟨rfl, rfl⟩) | (go_at_call 48; refine (HCS.out _).mono ?_; rintro e w' ⟨rfl, rfl⟩))
      go_ret
      exact ⟨by rw [HV.out]; rfl, HF.out _ _⟩
    · have hv : Lib.compareInt (xc : Int) yc = 0 := by unfold Lib.compareInt; rw [if_neg (by omega), if_neg (by omega)]
      rw [hv] at hci
      have HCI := Lib.hid hci
      cases xp <;> cases yp
      · have HV := Lib.hid (show cfH ⟨xc, xt, false⟩ ⟨yc, yt, false⟩ = cmpT xt yt by unfold cfH; rw [if_neg h1, if_neg h2, if_pos rfl])
        clear hfin hci hcs h1 h2 hv
        go_enter Tryd.func46, Tryd.ntmps46
        go_wp2_with (first | (go_at_call 47; refine (HCI.out _).mono ?_; rintro e w' ⟨rfl, rfl⟩) | (go_at_call 48; refine (HCS.out _).mono ?_; rintro e w' ⟨rfl, rfl⟩))
        go_ret
        exact ⟨by rw [HV.out]; rfl, HF.out _ _⟩
      · have HV := Lib.hid (show cfH ⟨xc, xt, false⟩ ⟨yc, yt, true⟩ = -1 by unfold cfH; rw [if_neg h1, if_neg h2, if_neg (show ¬ (false = true) by decide), if_neg (show ¬ (false = true) by decide)])
        clear hfin hci hcs h1 h2 hv
        go_enter Tryd.func46, Tryd.ntmps46
        go_wp2_with (first | (go_at_call 47; refine (HCI.out _).mono ?_; rintro e w' ⟨rfl, rfl⟩) | (go_at_call 48; refine (HCS.out _).mono ?_; rintro e w' ⟨rfl, rfl⟩))
        go_ret
        exact ⟨by rw [HV.out]; rfl, HF.out _ _⟩
      · have HV := Lib.hid (show cfH ⟨xc, xt, true⟩ ⟨yc, yt, false⟩ = 1 by unfold cfH; rw [if_neg h1, if_neg h2, if_neg (show ¬ (true = false) by decide), if_pos rfl])
        clear hfin hci hcs h1 h2 hv
        go_enter Tryd.func46, Tryd.ntmps46
        go_wp2_with (first | (go_at_call 47; refine (HCI.out _).mono ?_; rintro e w' ⟨rfl, rfl⟩) | (go_at_call 48; refine (HCS.out _).mono ?_; rintro e w' ⟨rfl, rfl⟩))
        go_ret
        exact ⟨by rw [HV.out]; rfl, HF.out _ _⟩
      · have HV := Lib.hid (show cfH ⟨xc, xt, true⟩ ⟨yc, yt, true⟩ = cmpT xt yt by unfold cfH; rw [if_neg h1, if_neg h2, if_pos rfl])
        clear hfin hci hcs h1 h2 hv
        go_enter Tryd.func46, Tryd.ntmps46
        go_wp2_with (first | (go_at_call 47; refine (HCI.out _).mono ?_; rintro e w' ⟨rfl, rfl⟩) | (go_at_call 48; refine (HCS.out _).mono ?_; rintro e w' ⟨rfl, rfl⟩))
        go_ret
        exact ⟨by rw [HV.out]; rfl, HF.out _ _⟩

/-- the order of the hits. -/
def ltH (a b : Nm) : Prop := a.c < b.c ∨ (a.c = b.c ∧ ((a.p = false ∧ b.p = true) ∨ (a.p = b.p ∧ a.t < b.t)))
instance (a b : Nm) : Decidable (ltH a b) := by unfold ltH; exact inferInstance
theorem cmpT_neg (a b : List UInt8) : cmpT a b < 0 ↔ a < b := by
  unfold cmpT
  split
  · rename_i h; simp [h]
  · rename_i h
    split <;> simp [h]
theorem lt_cfH (a b : Nm) : ltOf cfH a b = decide (ltH a b) := by
  have key : cfH a b < 0 ↔ ltH a b := by
    unfold cfH ltH
    split
    · rename_i h; simp [h]
    · rename_i h
      split
      · rename_i h2; simp; omega
      · rename_i h2
        have e : a.c = b.c := by omega
        split
        · rename_i h3
          rw [cmpT_neg]
          simp only [e, Nat.lt_irrefl, false_or, true_and, h3]
          constructor
          · intro h; exact Or.inr h
          · rintro (⟨h4, h5⟩ | h4)
            · rw [h4] at h5; cases h5
            · exact h4
        · rename_i h3
          cases hp : a.p <;> cases hq : b.p
          · rw [hp, hq] at h3; exact absurd rfl h3
          · simp [e]
          · simp [e]
          · rw [hp, hq] at h3; exact absurd rfl h3
  unfold ltOf
  exact decide_eq_decide.2 key
theorem tri (a b : List UInt8) : a < b ∨ a = b ∨ b < a := by
  by_cases h : a < b
  · exact Or.inl h
  · right
    by_cases h2 : b < a
    · exact Or.inr h2
    · exact Or.inl (List.le_antisymm (List.not_lt.1 h2) (List.not_lt.1 h))
theorem ltH_tri (a b : Nm) : ltH a b ∨ a = b ∨ ltH b a := by
  obtain ⟨ac, at', ap⟩ := a
  obtain ⟨bc, bt, bp⟩ := b
  unfold ltH
  simp only [Nm.mk.injEq]
  rcases Nat.lt_trichotomy ac bc with h | h | h
  · exact Or.inl (Or.inl h)
  · subst h
    rcases tri at' bt with h2 | h2 | h2 <;> cases ap <;> cases bp <;> simp [h2]
  · exact Or.inr (Or.inr (Or.inl h))
theorem ltH_irrefl (a : Nm) : ¬ ltH a a := by
  unfold ltH
  rintro (h | ⟨_, ⟨h1, h2⟩ | ⟨_, h⟩⟩)
  · omega
  · rw [h1] at h2; cases h2
  · exact List.lt_irrefl _ h
theorem ltH_trans {a b c : Nm} (h1 : ltH a b) (h2 : ltH b c) : ltH a c := by
  unfold ltH at *
  rcases h1 with h1 | ⟨e1, h1⟩
  · rcases h2 with h2 | ⟨e2, h2⟩
    · left; omega
    · left; omega
  · rcases h2 with h2 | ⟨e2, h2⟩
    · left; omega
    · right
      refine ⟨by omega, ?_⟩
      rcases h1 with ⟨p1, p2⟩ | ⟨p1, p2⟩ <;> rcases h2 with ⟨q1, q2⟩ | ⟨q1, q2⟩
      · rw [p2] at q1; cases q1
      · left; exact ⟨p1, by rw [← q1]; exact p2⟩
      · left; exact ⟨by rw [p1]; exact q1, q2⟩
      · right; exact ⟨p1.trans q1, List.lt_trans p2 q2⟩
theorem swoH : SWO (ltOf cfH) where
  irrefl x := by rw [lt_cfH]; exact decide_eq_false (ltH_irrefl x)
  trans x y z h1 h2 := by
    rw [lt_cfH] at *
    exact decide_eq_true (ltH_trans (of_decide_eq_true h1) (of_decide_eq_true h2))
  ntrans x y z h1 h2 := by
    rw [lt_cfH] at *
    apply decide_eq_false
    have h1 := of_decide_eq_false h1
    have h2 := of_decide_eq_false h2
    intro h
    rcases ltH_tri x y with a | rfl | a
    · exact h1 a
    · exact h2 h
    · exact h2 (ltH_trans a h)
theorem totH (x y : Nm) (h1 : (ltOf cfH) x y = false) (h2 : (ltOf cfH) y x = false) : x = y := by
  rw [lt_cfH] at *
  rcases ltH_tri x y with a | a | a
  · exact absurd a (of_decide_eq_false h1)
  · exact a
  · exact absurd a (of_decide_eq_false h2)

theorem flat_getK {enc : Nm → List Value} {k : Nat} (hk : ∀ x, (enc x).length = k) : ∀ (l : List Nm) i x, l[i]? = some x → ∀ j, j < k → (l.flatMap enc)[i * k + j]? = (enc x)[j]? := by
  intro l
  induction l with
  | nil => intro i x h; simp at h
  | cons a r ih =>
    intro i x hx j hj
    have hl := hk a
    rw [List.flatMap_cons]
    match i with
    | 0 =>
      simp only [List.getElem?_cons_zero, Option.some.injEq] at hx
      subst hx
      rw [List.getElem?_append_left (by omega)]
      congr 1; omega
    | i + 1 =>
      have e : (i + 1) * k = i * k + k := by rw [Nat.add_mul, Nat.one_mul]
      rw [List.getElem?_append_right (by omega)]
      rw [List.getElem?_cons_succ] at hx
      rw [← ih i x hx j hj]
      congr 1; omega
theorem flat_lenK {enc : Nm → List Value} {k : Nat} (hk : ∀ x, (enc x).length = k) (l : List Nm) : (l.flatMap enc).length = l.length * k := by
  induction l with
  | nil => simp
  | cons a r ih => rw [List.flatMap_cons, List.length_append, hk, ih, List.length_cons, Nat.add_mul]; omega
theorem encH_len (n : Nm) : (encH n).length = 3 := rfl
theorem flatK_list (l : List Nm) : (flatK encH 3 l.toArray).toList = l.flatMap encH := by
  apply List.ext_getElem?
  intro t
  by_cases ht : t < l.length * 3
  · have hi : t / 3 < l.length := by omega
    have h1 := flat_getK encH_len l (t / 3) l[t / 3] (List.getElem?_eq_getElem hi) (t % 3) (by omega)
    rw [show t / 3 * 3 + t % 3 = t by omega] at h1
    rw [h1, Array.getElem?_toList]
    have h2 := get_flatK encH 3 l.toArray t (by simpa using ht)
    have hs : t < (flatK encH 3 l.toArray).size := by rw [size_flatK]; simpa using ht
    rw [Array.getElem?_eq_getElem hs]
    rw [getElem!_pos _ t hs] at h2
    rw [h2]
    have h3 : l.toArray[t / 3]! = l[t / 3] := by simp [hi]
    rw [h3]
    have h4 : t % 3 < (encH l[t / 3]).length := by rw [encH_len]; omega
    rw [getElem!_pos (encH l[t / 3]) (t % 3) h4, List.getElem?_eq_getElem h4]
  · have e1 : (l.flatMap encH).length ≤ t := by rw [flat_lenK encH_len]; omega
    have e2 : (flatK encH 3 l.toArray).toList.length ≤ t := by rw [Array.length_toList, size_flatK]; simp; omega
    rw [List.getElem?_eq_none e1, List.getElem?_eq_none e2]

/-- the hits in order. -/
def sortH (l : List Nm) : List Nm := l.mergeSort fun x y => !(ltOf cfH) y x
theorem sortH_len (l : List Nm) : (sortH l).length = l.length := List.length_mergeSort l
theorem sortH_perm {a b : List Nm} (h : a.Perm b) : sortH a = sortH b := by
  have tr : ∀ a b c : Nm, (!(ltOf cfH) b a) = true → (!(ltOf cfH) c b) = true → (!(ltOf cfH) c a) = true := by
    intro a b c h1 h2
    simp only [Bool.not_eq_true'] at *
    exact swoH.ntrans _ _ _ h2 h1
  have tot : ∀ a b : Nm, ((!(ltOf cfH) b a) || (!(ltOf cfH) a b)) = true := by
    intro a b
    by_cases h : (ltOf cfH) b a = true
    · have : (ltOf cfH) a b = false := by
        rw [lt_cfH] at *
        apply decide_eq_false
        intro h2
        exact ltH_irrefl _ (ltH_trans h2 (of_decide_eq_true h))
      rw [this]; simp
    · rw [Bool.not_eq_true] at h; rw [h]; rfl
  refine List.Perm.eq_of_pairwise (le := fun x y => (!(ltOf cfH) y x) = true) ?_ (List.pairwise_mergeSort tr tot a) (List.pairwise_mergeSort tr tot b) ((List.mergeSort_perm _ _).trans (h.trans (List.mergeSort_perm _ _).symm))
  intro x y _ _ h1 h2
  simp only [Bool.not_eq_true'] at h1 h2
  exact totH _ _ h2 h1
end Go.Proofs.YtgfldammdcocmaaDoor
