import Derived.Test.YtgfldammdcocmaaDoorChecked
import Derived.WalkKit
import Derived.KernelRfl
import Derived.Maps.Range
import Derived.DeepKeys4
namespace Go.Proofs.YtgfldammdcocmaaDoor
open Go.RowKit Go.Maps
open Go.ChangeMaps (setBlock)
open Go.MapKept (stamped_iff stamped_push stamped_empty)

structure Nm where
  c : Nat
  t : List UInt8
  p : Bool
  deriving DecidableEq

def kv (n : Nm) : Value := .agg #[.int .i64 n.c, .string ⟨n.t.toArray⟩, .bool n.p]
def OkN (n : Nm) : Prop := n.c < 8 ∧ n.t.length ≤ 4096

theorem laidOut : laidOutB Tryd.prog = true := by kernel_rfl
theorem lt84 : decide (84 < Tryd.prog.types.size) = true := by kernel_rfl
theorem law84 : Keyed Tryd.prog 84 := Keyed.of_law (deep_law_laid laidOut (m := 9) (by decide) (of_decide_eq_true lt84) (by kernel_rfl) (by kernel_rfl))
theorem key84 : Tryd.prog.keyType 84 = true := by kernel_rfl
theorem cells84 : Tryd.prog.cellsOf 84 = 3 := by kernel_rfl
theorem cells3 : Tryd.prog.cellsOf 3 = 1 := by kernel_rfl
theorem cells4 : Tryd.prog.cellsOf 4 = 1 := by kernel_rfl
theorem cells9 : Tryd.prog.cellsOf 9 = 1 := by kernel_rfl
theorem size_t : ∃ k, Tryd.prog.types.size = k + 1 := Nat.exists_eq_succ_of_ne_zero (by have := of_decide_eq_true lt84; omega)
def litOf (n : Nm) : Lit := .string (keyBytes [.int .i64 n.c, .string n.t, .bool n.p])
theorem keyOf84 (n : Nm) (h : OkN n) : keyOf Tryd.prog 84 (kv n) = some (litOf n) := by
  obtain ⟨h1, h2⟩ := h
  have hf : (kv n).formed Tryd.prog 84 = true := by
    simp [kv, Value.formed, Tryd.underlying84, cells84]
  have wf : (Lit.int .i64 (n.c : Int)).wf = true := by go_wf
  obtain ⟨k, hk⟩ := size_t
  have hm : n.t.length ≤ maxLen := by unfold maxLen; omega
  have hm' : (ByteArray.mk n.t.toArray).size ≤ maxLen := by simpa [ByteArray.size] using hm
  simp only [keyOf, Tryd.underlying84, key84, hf, Bool.and_self, if_true, hk]
  simp [Program.keyLits, Tryd.underlying84, cells84, cells3, cells4, cells9, Tryd.underlying3, Tryd.underlying4, Tryd.underlying9, kv, Value.cells, wf, hm', litOf]

/-- without one name. -/
def rm (n : Nm) (L : List Nm) : List Nm := L.filter (fun x => decide (x ≠ n))

theorem mem_rm {x n : Nm} {L : List Nm} : x ∈ rm n L ↔ x ∈ L ∧ x ≠ n := by simp [rm]
theorem not_mem_rm (n : Nm) (L : List Nm) : n ∉ rm n L := fun h => (mem_rm.1 h).2 rfl

theorem kv_inj {a b : Nm} (ha : OkN a) (hb : OkN b) (h : kv a = kv b) : a = b := by
  have h' := h
  simp only [kv, Value.agg.injEq, Array.mk.injEq, List.cons.injEq, Value.int.injEq, Value.string.injEq, Value.bool.injEq, ByteArray.mk.injEq, and_true, true_and] at h'
  obtain ⟨h1, h2, h3⟩ := h'
  have e2 : a.t = b.t := by simpa using h2
  have e1 : a.c = b.c := by omega
  cases a; cases b; simp_all

/-- what the map's block holds: each name of S, in that order, with 1. -/
structure Ents (S : List Nm) (es : Array MapEntry) (clk : Nat) : Prop where
  kvs : es.toList.map (fun e => (e.key, e.val)) = S.map (fun n => (kv n, Value.int .i64 1))
  st : MapKept.Stamped es clk
  ok : ∀ n ∈ S, OkN n

theorem Ents.nil (clk : Nat) : Ents [] #[] clk := ⟨rfl, stamped_empty clk, by simp⟩

theorem Ents.mem {S : List Nm} {es : Array MapEntry} {clk : Nat} (h : Ents S es clk) {e : MapEntry} (he : e ∈ es.toList) : ∃ n ∈ S, e.key = kv n ∧ e.val = .int .i64 1 := by
  have : (e.key, e.val) ∈ es.toList.map (fun e => (e.key, e.val)) := List.mem_map.2 ⟨e, he, rfl⟩
  rw [h.kvs] at this
  obtain ⟨n, hn, h2⟩ := List.mem_map.1 this
  simp only [Prod.mk.injEq] at h2
  exact ⟨n, hn, h2.1.symm, h2.2.symm⟩

theorem Ents.mem' {S : List Nm} {es : Array MapEntry} {clk : Nat} (h : Ents S es clk) {n : Nm} (hn : n ∈ S) : ∃ e ∈ es.toList, e.key = kv n ∧ e.val = .int .i64 1 := by
  have : (kv n, Value.int .i64 1) ∈ S.map (fun n => (kv n, Value.int .i64 1)) := List.mem_map.2 ⟨n, hn, rfl⟩
  rw [← h.kvs] at this
  obtain ⟨e, he, h2⟩ := List.mem_map.1 this
  simp only [Prod.mk.injEq] at h2
  exact ⟨e, he, h2.1, h2.2⟩

theorem Ents.keys {S : List Nm} {es : Array MapEntry} {clk : Nat} (h : Ents S es clk) : ∀ e ∈ es.toList, ∃ l, keyOf Tryd.prog 84 e.key = some l := by
  intro e he
  obtain ⟨n, hn, hk, _⟩ := h.mem he
  exact ⟨_, by rw [hk]; exact keyOf84 n (h.ok n hn)⟩

theorem Ents.nodup {S : List Nm} {es : Array MapEntry} {clk : Nat} (h : Ents S es clk) : S.Nodup := by
  have h1 := ((stamped_iff es clk).1 h.st).2.2
  have h2 : (es.toList.map (fun e => (e.key, e.val))).Pairwise (fun x y => x.1 ≠ y.1) := by
    rw [List.pairwise_map]; exact h1
  rw [h.kvs, List.pairwise_map] at h2
  exact h2.imp (fun {a b} hne e => hne (by rw [e]))

theorem zero3 (w : World) : (zeroValue 3).run Tryd.prog w = .ok (.int .i64 0) w := by kernel_rfl

theorem run_look {S : List Nm} {es : Array MapEntry} {clk : Nat} (h : Ents S es clk) {w : World} {mb : Nat} (hb : w.heap[mb]? = some (.map es clk)) {n : Nm} (hn : OkN n) :
    (Instr.lookup 63 (.map (some mb)) (kv n) false).run Tryd.prog w = .ok (.int .i64 (if n ∈ S then 1 else 0)) w := by
  rcases law84.find w (keyOf84 n hn) es.toList h.keys with ⟨h1, h2⟩ | ⟨j, e0, h1, h2, h3⟩
  · have : n ∉ S := fun hm => by
      obtain ⟨e, he, hk, _⟩ := h.mem' hm
      exact h2 e he hk
    simp [Instr.lookup, run_underlying Tryd.underlying63, MapKept.run_getObj_map hb, law84.check w _ (keyOf84 n hn), h1, zero3, Result.andThen, this]
  · have hm0 : e0 ∈ es.toList := List.mem_of_getElem? h2
    obtain ⟨m, hm, hk, hv⟩ := h.mem hm0
    have : n ∈ S := by
      have : m = n := kv_inj (h.ok m hm) hn (hk.symm.trans h3)
      rw [← this]; exact hm
    simp [Instr.lookup, run_underlying Tryd.underlying63, MapKept.run_getObj_map hb, law84.check w _ (keyOf84 n hn), h1, Result.andThen, this, hv]

theorem run_update {S : List Nm} {es : Array MapEntry} {clk : Nat} (h : Ents S es clk) {w : World} {mb : Nat} (hb : w.heap[mb]? = some (.map es clk)) {n : Nm} (hn : OkN n) (hni : n ∉ S) :
    (Instr.mapUpdate 63 (.map (some mb)) (kv n) (.int .i64 1)).run Tryd.prog w = .ok () (setBlock w mb (.map (es.push ⟨kv n, .int .i64 1, clk⟩) (clk + 1))) ∧ Ents (S ++ [n]) (es.push ⟨kv n, .int .i64 1, clk⟩) (clk + 1) := by
  rcases law84.find w (keyOf84 n hn) es.toList h.keys with ⟨h1, h2⟩ | ⟨j, e0, h1, h2, h3⟩
  · refine ⟨?_, ?_, stamped_push h.st h2, ?_⟩
    · simp [Instr.mapUpdate, run_underlying Tryd.underlying63, MapKept.run_getObj_map hb, law84.check w false (keyOf84 n hn), h1, MapKept.run_setObj_map _ hb, Result.andThen, setBlock]
    · simp [h.kvs]
    · intro m hm
      rcases List.mem_append.1 hm with hm | hm
      · exact h.ok m hm
      · rw [List.mem_singleton.1 hm]; exact hn
  · exfalso
    obtain ⟨m, hm, hk, hv⟩ := h.mem (List.mem_of_getElem? h2)
    have : m = n := kv_inj (h.ok m hm) hn (hk.symm.trans h3)
    exact hni (this ▸ hm)

theorem map_erase_of {α β : Type} [DecidableEq α] {f : α → β} : ∀ (l : List α) (a : α) (j : Nat), l.Nodup → l[j]? = some a → l.eraseIdx j = l.filter (fun x => decide (x ≠ a))
  | [], _, _, _, h => by simp at h
  | x :: r, a, 0, hn, h => by
    simp only [List.getElem?_cons_zero, Option.some.injEq] at h
    subst h
    have hx := (List.nodup_cons.1 hn).1
    simp only [List.eraseIdx_cons_zero, List.filter_cons, ne_eq, not_true_eq_false, decide_false, Bool.false_eq_true, if_false]
    rw [List.filter_eq_self.2]
    intro b hb
    simp only [decide_eq_true_eq]
    intro e; exact hx (e ▸ hb)
  | x :: r, a, j + 1, hn, h => by
    simp only [List.getElem?_cons_succ] at h
    have ha : a ∈ r := List.mem_of_getElem? h
    have hx : x ≠ a := fun e => (List.nodup_cons.1 hn).1 (e ▸ ha)
    simp only [List.eraseIdx_cons_succ, List.filter_cons, ne_eq, hx, not_false_eq_true, decide_true, if_true]
    rw [map_erase_of (f := f) r a j (List.nodup_cons.1 hn).2 h]

theorem key_index {es : Array MapEntry} {clk : Nat} (h : MapKept.Stamped es clk) {i j : Nat} {x y : MapEntry} (hi : es.toList[i]? = some x) (hj : es.toList[j]? = some y) (he : x.key = y.key) : i = j := by
  have hp := ((stamped_iff es clk).1 h).2.2
  have hil := (List.getElem?_eq_some_iff.1 hi).1
  have hjl := (List.getElem?_eq_some_iff.1 hj).1
  have hx := (List.getElem?_eq_some_iff.1 hi).2
  have hy := (List.getElem?_eq_some_iff.1 hj).2
  rcases Nat.lt_trichotomy i j with hlt | hlt | hlt
  · exact absurd (by rw [hx, hy, he]) (List.pairwise_iff_getElem.1 hp i j hil hjl hlt)
  · exact hlt
  · exact absurd (by rw [hx, hy, he]) (List.pairwise_iff_getElem.1 hp j i hjl hil hlt)

theorem run_delete {S : List Nm} {es : Array MapEntry} {clk : Nat} (h : Ents S es clk) {mb : Nat} {n : Nm} (hn : OkN n) :
    ∃ es', (∀ (w : World) (ty : TypeId), w.heap[mb]? = some (.map es clk) → (Builtin.delete_ #[63, 84] ty #[.map (some mb), kv n]).run Tryd.prog w = .ok (.tuple #[]) (setBlock w mb (.map es' clk))) ∧ Ents (rm n S) es' clk ∧ es'.toList.Sublist es.toList ∧ ∀ x, x ∈ es'.toList ↔ (x ∈ es.toList ∧ x.key ≠ kv n) := by
  by_cases hin : n ∈ S
  · obtain ⟨e1, he1, hk1, _⟩ := h.mem' hin
    obtain ⟨j, h2⟩ := List.getElem?_of_mem he1
    have hjl : j < es.toList.length := (List.getElem?_eq_some_iff.1 h2).1
    have hjs : j < es.size := by simpa using hjl
    have hsub : (es.eraseIdxIfInBounds j).toList = es.toList.eraseIdx j := by
      unfold Array.eraseIdxIfInBounds
      rw [dif_pos hjs]
      simp
    have hSj : S[j]? = some n := by
      have : (es.toList.map (fun e => (e.key, e.val)))[j]? = some (e1.key, e1.val) := by rw [List.getElem?_map, h2]; rfl
      rw [h.kvs, List.getElem?_map] at this
      obtain ⟨m, hm, hk⟩ := Option.map_eq_some_iff.1 this
      simp only [Prod.mk.injEq] at hk
      have hmS := List.mem_of_getElem? hm
      rw [hm, kv_inj (h.ok m hmS) hn (hk.1.trans hk1)]
    refine ⟨es.eraseIdxIfInBounds j, ?_, ⟨?_, MapKept.stamped_erase h.st j, fun m hm => h.ok m (List.mem_filter.1 hm).1⟩, by rw [hsub]; exact List.eraseIdx_sublist _ _, fun x => ?_⟩
    · intro w ty hb
      rcases law84.find w (keyOf84 n hn) es.toList h.keys with ⟨h1, h3⟩ | ⟨j', e0, h1, h3, h4⟩
      · exact absurd hk1 (h3 e1 he1)
      · obtain rfl : j' = j := key_index h.st h3 h2 (h4.trans hk1.symm)
        simp [Builtin.delete_, run_underlying Tryd.underlying63, MapKept.run_getObj_map hb, law84.check w _ (keyOf84 n hn), h1, MapKept.run_setObj_map _ hb, Result.andThen, setBlock]
    · rw [hsub, Go.ChangeMaps.map_eraseIdx, h.kvs, ← Go.ChangeMaps.map_eraseIdx, map_erase_of (f := kv) S n j h.nodup hSj]; rfl
    · rw [hsub, List.mem_eraseIdx_iff_getElem?]
      constructor
      · rintro ⟨i, hne, hi⟩
        exact ⟨List.mem_of_getElem? hi, fun e => hne (key_index h.st hi h2 (e.trans hk1.symm))⟩
      · rintro ⟨hx, hne⟩
        obtain ⟨i, hi⟩ := List.getElem?_of_mem hx
        refine ⟨i, fun e1 => hne ?_, hi⟩
        rw [e1, h2] at hi
        cases hi
        exact hk1
  · have e1 : rm n S = S := List.filter_eq_self.2 (fun x hx => by simp; intro e; exact hin (e ▸ hx))
    have hnk : ∀ x ∈ es.toList, x.key ≠ kv n := fun x hx hk => by
      obtain ⟨m, hm, hk', _⟩ := h.mem hx
      exact hin (kv_inj (h.ok m hm) hn (hk'.symm.trans hk) ▸ hm)
    refine ⟨es, ?_, by rw [e1]; exact h, List.Sublist.refl _, fun x => ⟨fun hx => ⟨hx, hnk x hx⟩, fun hx => hx.1⟩⟩
    intro w ty hb
    rcases law84.find w (keyOf84 n hn) es.toList h.keys with ⟨h1, h3⟩ | ⟨j', e0, h1, h3, h4⟩
    · simp [Builtin.delete_, run_underlying Tryd.underlying63, MapKept.run_getObj_map hb, law84.check w _ (keyOf84 n hn), h1, MapKept.run_setObj_map _ hb, Result.andThen, setBlock]
    · exact absurd h4 (hnk e0 (List.mem_of_getElem? h3))

/-! ranging over the map -/
/-- block r is an iterator over the map in mb; nothing was laid into the map since it began; L: the names still to come. -/
def It (w : World) (r mb : Nat) (S L : List Nm) : Prop :=
  ∃ es clk since seen c0, w.heap[mb]? = some (.map es clk) ∧ Ents S es clk ∧ w.heap[r]? = some (.mapIter (some mb) since seen c0) ∧ (∀ x ∈ es.toList, x.born < since) ∧ since ≤ c0 ∧ since ≤ clk ∧
    (leftOf es seen).toList.map (·.key) = L.map kv ∧ ∀ n ∈ L, n ∈ S

theorem left_toList (es : Array MapEntry) (seen : Array Nat) : (leftOf es seen).toList = es.toList.filter (fun e => !seen.contains e.born) := by
  unfold leftOf; simp

theorem it_start {w : World} {mb : Nat} {S : List Nm} {es : Array MapEntry} {clk : Nat} (hb : w.heap[mb]? = some (.map es clk)) (hE : Ents S es clk) :
    It (w.alloc (.mapIter (some mb) clk #[] clk)) w.heap.size mb S S := by
  have hl : mb < w.heap.size := (Array.getElem?_eq_some_iff.1 hb).1
  refine ⟨es, clk, clk, #[], clk, ?_, hE, (MapKept.heap_alloc w _).1, ((stamped_iff es clk).1 hE.st).1, Nat.le_refl _, Nat.le_refl _, ?_, fun _ h => h⟩
  · exact ((MapKept.heap_alloc w _).2 mb hl).trans hb
  · rw [left_toList]
    have : es.toList.filter (fun e => !(#[] : Array Nat).contains e.born) = es.toList := List.filter_eq_self.2 (fun x _ => by simp)
    rw [this]
    have h2 := congrArg (List.map Prod.fst) hE.kvs
    simpa [List.map_map, Function.comp_def] using h2

theorem filter_alike {α β γ : Type} (f : α → γ) (g : β → γ) (p : α → Bool) (q : β → Bool) : ∀ (M : List α) (L : List β), M.map f = L.map g → (∀ x ∈ M, ∀ y ∈ L, f x = g y → p x = q y) → (M.filter p).map f = (L.filter q).map g
  | [], [], _, _ => rfl
  | [], _ :: _, h, _ => by simp at h
  | _ :: _, [], h, _ => by simp at h
  | x :: M, y :: L, h, hpq => by
    simp only [List.map_cons, List.cons.injEq] at h
    have ih := filter_alike f g p q M L h.2 (fun a ha b hb => hpq a (by simp [ha]) b (by simp [hb]))
    have e := hpq x (by simp) y (by simp) h.1
    simp only [List.filter_cons, ← e]
    split
    · simp [h.1, ih]
    · exact ih

theorem it_next {w : World} {r mb : Nat} {S L : List Nm} (h : It w r mb S L) (ty : TypeId) :
    (L = [] ∧ (Instr.next (.pointer (some ⟨r, 0, none⟩)) false ty).run Tryd.prog w = .ok (.tuple #[.bool false]) w) ∨
    ∃ n ∈ L, ∃ w', (Instr.next (.pointer (some ⟨r, 0, none⟩)) false ty).run Tryd.prog w = .ok (.tuple #[.bool true, kv n, .int .i64 1]) w' ∧
      It w' r mb S (rm n L) ∧ (∃ o, w' = setBlock w r o ∨ w' = setBlock w.drew r o) ∧ (Instr.entry (.pointer (some ⟨r, 0, none⟩))).run Tryd.prog w' = .ok (.tuple #[kv n, .int .i64 1]) w' := by
  obtain ⟨es, clk, since, seen, c0, hb, hE, hr, hold, hsc, hsk, hL, hsub⟩ := h
  have hrm : r ≠ mb := fun e => by rw [e, hb] at hr; cases hr
  have hst := (stamped_iff es clk).1 hE.st
  rcases run_next_at (P := Tryd.prog) w ty r mb since c0 seen es clk hr hb hold hsc with ⟨h0, hrun⟩ | ⟨e, he, w1, hal, hrun⟩
  · left
    refine ⟨?_, hrun⟩
    have : (leftOf es seen).toList = [] := by
      have : (leftOf es seen) = #[] := Array.eq_empty_of_size_eq_zero h0
      rw [this]
    rw [this] at hL
    simpa using hL.symm
  · right
    have he' : e ∈ es.toList := by rw [left_toList] at he; exact (List.mem_filter.1 he).1
    obtain ⟨n, hn, hk, hv⟩ := hE.mem he'
    have hnL : n ∈ L := by
      have : e.key ∈ L.map kv := by rw [← hL]; exact List.mem_map.2 ⟨e, he, rfl⟩
      obtain ⟨m, hm, hmk⟩ := List.mem_map.1 this
      have : m = n := kv_inj (hE.ok m (hsub m hm)) (hE.ok n hn) (hmk.trans hk)
      exact this ▸ hm
    have hr1 : w1.heap[r]? = some (.mapIter (some mb) since seen c0) := by rcases hal with rfl | rfl <;> exact hr
    have hb1 : w1.heap[mb]? = some (.map es clk) := by rcases hal with rfl | rfl <;> exact hb
    have hset := Go.MapKept.heap_set (o' := .mapIter (some mb) since (seen.push e.born) clk) hr1
    have hb' : (setBlock w1 r (.mapIter (some mb) since (seen.push e.born) clk)).heap[mb]? = some (.map es clk) := (hset.2 mb (fun e1 => hrm e1.symm)).trans hb1
    refine ⟨n, hnL, setBlock w1 r (.mapIter (some mb) since (seen.push e.born) clk), by rw [hrun, hk, hv], ⟨es, clk, since, seen.push e.born, clk, hb', hE, hset.1, hold, hsk, hsk, ?_, fun m hm => hsub m (List.mem_filter.1 hm).1⟩, ⟨.mapIter (some mb) since (seen.push e.born) clk, ?_⟩, ?_⟩
    · have hM := left_toList es seen
      have e2 : (leftOf es (seen.push e.born)).toList = (leftOf es seen).toList.filter (fun x => decide (x.born ≠ e.born)) := by
        rw [left_toList, left_toList, List.filter_filter]
        apply List.filter_congr
        intro x _
        rw [contains_push]
        by_cases hbe : x.born = e.born <;> simp [hbe]
      rw [e2]
      refine filter_alike _ _ _ _ _ _ hL (fun x hx y hy hxy => ?_)
      have hx' : x ∈ es.toList := by rw [hM] at hx; exact (List.mem_filter.1 hx).1
      have hyS := hE.ok y (hsub y hy)
      by_cases hyn : y = n
      · subst hyn
        obtain ⟨i, hi⟩ := List.getElem?_of_mem hx'
        obtain ⟨j, hj⟩ := List.getElem?_of_mem he'
        have := key_index hE.st hi hj (hxy.trans hk.symm)
        subst this
        rw [hi] at hj
        cases hj
        simp
      · have : x.born ≠ e.born := fun hbe => hyn (by
          have hxe : x.key = e.key := by
            obtain ⟨i, hi⟩ := List.getElem?_of_mem hx'
            obtain ⟨j, hj⟩ := List.getElem?_of_mem he'
            have hxi := (List.getElem?_eq_some_iff.1 hi)
            have hxj := (List.getElem?_eq_some_iff.1 hj)
            have : i = j := by
              have hnd := hst.2.1
              have a1 : (es.toList.map (·.born))[i]? = some x.born := by rw [List.getElem?_map, hi]; rfl
              have a2 : (es.toList.map (·.born))[j]? = some e.born := by rw [List.getElem?_map, hj]; rfl
              rw [hbe, ← a2] at a1
              exact (List.getElem?_inj (by simpa using hxi.1) hnd).1 a1
            subst this
            rw [hi] at hj
            cases hj
            rfl
          exact kv_inj hyS (hE.ok n hn) (hxy.symm.trans (hxe.trans hk)))
        simp [hyn, this]
    · rcases hal with rfl | rfl
      · exact Or.inl rfl
      · exact Or.inr rfl
    · rw [run_entry_at _ r mb since seen es clk e hset.1 hb' he' hst.2.1, hk, hv]

/-- the loop stays where it is while other blocks are written and new ones are made. -/
theorem It.kept {w w' : World} {r mb : Nat} {S L : List Nm} (h : It w r mb S L) (hb : w'.heap[mb]? = w.heap[mb]?) (hr : w'.heap[r]? = w.heap[r]?) : It w' r mb S L := by
  obtain ⟨es, clk, since, seen, c0, h1, h2, h3, rest⟩ := h
  exact ⟨es, clk, since, seen, c0, hb.trans h1, h2, hr.trans h3, rest⟩
theorem It.map {w : World} {r mb : Nat} {S L : List Nm} (h : It w r mb S L) : ∃ es clk, w.heap[mb]? = some (.map es clk) ∧ Ents S es clk := by
  obtain ⟨es, clk, since, seen, c0, h1, h2, h3, rest⟩ := h
  exact ⟨es, clk, h1, h2⟩
theorem It.ne {w : World} {r mb : Nat} {S L : List Nm} (h : It w r mb S L) : ¬ r = mb := by
  obtain ⟨es, clk, since, seen, c0, h1, h2, h3, rest⟩ := h
  intro e; rw [e, h1] at h3; cases h3
theorem sub_filter {p : MapEntry → Bool} : ∀ {A B : List MapEntry}, A.Sublist B → B.Pairwise (fun x y => x.key ≠ y.key) → (∀ x ∈ B, p x = true → x ∈ A) → A.filter p = B.filter p
  | _, _, .slnil, _, _ => rfl
  | _, _, .cons (l₁ := A) (l₂ := B) a hs, hp, hh => by
    obtain ⟨h1, h2⟩ := List.pairwise_cons.1 hp
    have ha : p a = false := by
      cases hpa : p a
      · rfl
      · exact absurd rfl (h1 a (hs.subset (hh a (by simp) hpa)))
    rw [List.filter_cons_of_neg (by simp [ha])]
    exact sub_filter hs h2 (fun x hx => hh x (by simp [hx]))
  | _, _, .cons_cons (l₁ := A) (l₂ := B) a hs, hp, hh => by
    obtain ⟨h1, h2⟩ := List.pairwise_cons.1 hp
    have ih := sub_filter hs h2 (fun x hx hpx => by
      rcases List.mem_cons.1 (hh x (by simp [hx]) hpx) with e | h
      · exact absurd (by rw [e]) (h1 x hx)
      · exact h)
    simp only [List.filter_cons, ih]
/-- 'delete' of one that has come out already (or any other). -/
theorem It.del {w : World} {r mb : Nat} {S L : List Nm} (h : It w r mb S L) {n : Nm} (hn : OkN n) (hnL : n ∉ L) (ty : TypeId) :
    ∃ o, (Builtin.delete_ #[63, 84] ty #[.map (some mb), kv n]).run Tryd.prog w = .ok (.tuple #[]) (setBlock w mb o) ∧ It (setBlock w mb o) r mb (rm n S) L := by
  have hne := h.ne
  obtain ⟨es, clk, since, seen, c0, hb, hE, hr, hold, hsc, hsk, hL, hsub⟩ := h
  obtain ⟨es', hrun, hE', hsl, hiff⟩ := run_delete hE (mb := mb) hn
  refine ⟨_, hrun w ty hb, es', clk, since, seen, c0, Go.ChangeMaps.heap_setBlock_same hb _, hE', (Go.ChangeMaps.heap_setBlock_other hb _ hne).trans hr, fun x hx => hold x ((hiff x).1 hx).1, hsc, hsk, ?_, fun m hm => ?_⟩
  · rw [← hL, left_toList, left_toList]
    congr 1
    refine sub_filter hsl (((stamped_iff es clk).1 hE.st).2.2) (fun x hx hp => ?_)
    rw [hiff]
    refine ⟨hx, fun hxk => hnL ?_⟩
    have hm : x ∈ (leftOf es seen).toList := by rw [left_toList]; exact List.mem_filter.2 ⟨hx, hp⟩
    have : x.key ∈ L.map kv := by rw [← hL]; exact List.mem_map.2 ⟨x, hm, rfl⟩
    obtain ⟨m, hm, hmk⟩ := List.mem_map.1 this
    rw [← kv_inj (hE.ok m (hsub m hm)) hn (hmk.trans hxk)]
    exact hm
  · refine List.mem_filter.2 ⟨hsub m hm, ?_⟩
    simp only [ne_eq, decide_eq_true_eq]
    intro e; exact hnL (e ▸ hm)
end Go.Proofs.YtgfldammdcocmaaDoor
