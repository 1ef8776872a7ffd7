import Derived.Test.YtgfldammdcocmaaDoorBw
namespace Go.Proofs.YtgfldammdcocmaaDoor

theorem rm_perm {S : List Nm} {n : Nm} (hn : n ∈ S) (hd : S.Nodup) : (rm n S ++ [n]).Perm S := by
  refine (List.perm_ext_iff_of_nodup ?_ hd).2 (fun a => ?_)
  · rw [List.nodup_append]
    refine ⟨hd.filter _, by simp, fun a ha b hb => ?_⟩
    simp only [List.mem_singleton] at hb
    subst hb
    exact (mem_rm.1 ha).2
  · rw [List.mem_append, mem_rm, List.mem_singleton]
    constructor
    · rintro (h | h)
      · exact h.1
      · exact h ▸ hn
    · intro h
      by_cases e : a = n
      · exact Or.inr e
      · exact Or.inl ⟨h, e⟩

/-- what is there while the dropped connection's names are joined again. -/
def back (T N : List Nm) (c i : Nat) : List Nm := T.filter (fun x => decide (x.c ≠ c)) ++ (N.take i).filter (fun x => decide (x.c = c))
theorem back_zero (T N : List Nm) (c : Nat) : back T N c 0 = T.filter (fun x => decide (x.c ≠ c)) := by simp [back]
theorem back_yes {T N : List Nm} {c i : Nat} {n : Nm} (h : N[i]? = some n) (hc : n.c = c) : back T N c (i + 1) = back T N c i ++ [n] := by
  simp [back, List.take_add_one, h, List.filter_append, hc]
theorem back_no {T N : List Nm} {c i : Nat} {n : Nm} (h : N[i]? = some n) (hc : n.c ≠ c) : back T N c (i + 1) = back T N c i := by
  simp [back, List.take_add_one, h, List.filter_append, hc]
theorem back_out {T N : List Nm} {c i : Nat} {n : Nm} (hd : N.Nodup) (h : N[i]? = some n) (hc : n.c = c) : n ∉ back T N c i := by
  unfold back
  rw [List.mem_append, not_or]
  constructor
  · simp [hc]
  · intro hm
    have hm' := (List.mem_filter.1 hm).1
    obtain ⟨j, hj, e⟩ := List.mem_take_iff_getElem.1 hm'
    have hjN : N[j]? = some n := by rw [← e]; exact List.getElem?_eq_getElem _
    have hi := (List.getElem?_eq_some_iff.1 h).1
    have := (List.getElem?_inj (by omega : j < N.length) hd).1 (hjN.trans h.symm)
    omega
theorem back_end {T N : List Nm} {c i : Nat} (hp : T.Perm N) (hi : N.length ≤ i) : (back T N c i).Perm N := by
  unfold back
  rw [List.take_of_length_le hi]
  have h1 := (hp.filter (fun x => decide (x.c ≠ c))).append (List.Perm.refl (N.filter (fun x => decide (x.c = c))))
  refine h1.trans ?_
  refine List.perm_append_comm.trans ?_
  have := List.filter_append_perm (fun x : Nm => decide (x.c = c)) N
  refine List.Perm.trans ?_ this
  refine List.Perm.append (List.Perm.refl _) ?_
  rw [show (N.filter fun x => decide (x.c ≠ c)) = N.filter fun x => !decide (x.c = c) from by congr 1; funext x; simp]

/-- what is there while a connection's names are left one by one. -/
def gone (N : List Nm) (c i : Nat) : List Nm := N.filter (fun x => decide (¬ (x.c = c ∧ x ∈ N.take i)))
theorem gone_zero (N : List Nm) (c : Nat) : gone N c 0 = N := by simp [gone]
theorem gone_end {N : List Nm} {c i : Nat} (hi : N.length ≤ i) : gone N c i = N.filter (fun x => decide (x.c ≠ c)) := by
  unfold gone
  rw [List.take_of_length_le hi]
  apply List.filter_congr
  intro x hx
  simp [hx]
theorem gone_no {N : List Nm} {c i : Nat} {n : Nm} (h : N[i]? = some n) (hc : n.c ≠ c) : gone N c (i + 1) = gone N c i := by
  unfold gone
  apply List.filter_congr
  intro x hx
  rw [List.take_add_one, h]
  by_cases e : x = n
  · subst e; simp [hc]
  · simp [e]
theorem not_mem_take {N : List Nm} {i : Nat} {n : Nm} (hd : N.Nodup) (h : N[i]? = some n) : n ∉ N.take i := by
  intro hm'
  obtain ⟨j, hj, e⟩ := List.mem_take_iff_getElem.1 hm'
  have hjN : N[j]? = some n := by rw [← e]; exact List.getElem?_eq_getElem _
  have hi := (List.getElem?_eq_some_iff.1 h).1
  have := (List.getElem?_inj (by omega : j < N.length) hd).1 (hjN.trans h.symm)
  omega
theorem gone_in {N : List Nm} {c i : Nat} {n : Nm} (hd : N.Nodup) (h : N[i]? = some n) : n ∈ gone N c i := by
  unfold gone
  refine List.mem_filter.2 ⟨List.mem_of_getElem? h, ?_⟩
  simp [not_mem_take hd h]
theorem gone_yes {N : List Nm} {c i : Nat} {n : Nm} (h : N[i]? = some n) (hc : n.c = c) : gone N c (i + 1) = rm n (gone N c i) := by
  unfold gone rm
  rw [List.filter_filter]
  apply List.filter_congr
  intro x hx
  rw [List.take_add_one, h]
  by_cases e : x = n
  · subst e; simp [hc]
  · simp [e]
end Go.Proofs.YtgfldammdcocmaaDoor
