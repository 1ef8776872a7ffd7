import Derived.Test.YtgfldammdcocmaaDoorPl
import Derived.Test.YtgfldammdcocmaaDoorShelf
import Derived.Sort.OwnSorted
import Derived.Sort.Grow
import Derived.Lib.OwnBridge
import Derived.Shelf.Abstract
namespace Go.Proofs.YtgfldammdcocmaaDoor
open Go.RowKit Go.Sort
open Go.ChangeMaps (setBlock)

theorem info9 : (Tryd.prog.info? 9).map (fun i => (i.zero, i.size, i.bytes)) = some (some (.string ByteArray.empty), 1, 16) := by kernel_rfl

/-- the closure that says which names are wanted. -/
def ClPred (g : FuncId) (lb : Array Value) (P : Nm → Bool) (S : List Nm) (w : World) : Prop :=
  ∀ n ∈ S, ∀ W, Below w.heap.size w W → Calls Tryd.prog g (#[kv n] ++ lb) W fun e w' => e = .returned (.bool (P n)) ∧ Below W.heap.size W w'

theorem len_cnt {S : List Nm} (h : ∀ n ∈ S, OkN n) : S.length = cnt S 0 + cnt S 1 + cnt S 2 + cnt S 3 + cnt S 4 + cnt S 5 + cnt S 6 + cnt S 7 := by
  induction S with
  | nil => rfl
  | cons x r ih =>
    have ih' := ih (fun n hn => h n (by simp [hn]))
    have hx := (h x (by simp)).1
    have e : ∀ i, cnt (x :: r) i = cnt r i + if x.c = i then 1 else 0 := by
      intro i; unfold cnt; by_cases hi : x.c = i <;> simp [hi]
    simp only [e, List.length_cons]
    have : x.c = 0 ∨ x.c = 1 ∨ x.c = 2 ∨ x.c = 3 ∨ x.c = 4 ∨ x.c = 5 ∨ x.c = 6 ∨ x.c = 7 := by omega
    rcases this with h | h | h | h | h | h | h | h <;> simp [h] <;> omega

theorem PostAt.len {w : World} {pb mb : Nat} {S : List Nm} (h : PostAt w pb mb S) : S.length ≤ 512 := by
  obtain ⟨hne, ⟨es, clk, hm, hE⟩, hp, hr⟩ := h
  have := len_cnt hE.ok
  have h0 := hr 0; have h1 := hr 1; have h2 := hr 2; have h3 := hr 3; have h4 := hr 4; have h5 := hr 5; have h6 := hr 6; have h7 := hr 7
  omega

theorem Below.ofCh {w w1 w2 : World} {r : Nat} (h : Below w.heap.size w w1) (hc : Ch (fun k => k = r) w1 w2) (hr : w.heap.size ≤ r) : Below w.heap.size w w2 :=
  ⟨hc.os.trans h.os, hc.tape.trans h.tape, hc.output.trans h.output, Nat.le_trans h.size hc.size, fun k hk => (hc.block k (by have := h.size; omega) (by omega)).trans (h.block k hk)⟩

/-- a world in which only blocks from base on have changed, and those that were there (but r) have not: an owned row stays. -/
theorem ownsRow_ch {w w' : World} {base : Nat} {e : TypeId} {size : Nat} {v : Value} {n : Nat} {xs : List Value} {S : Nat → Prop} (h : w.ownsRow base e size v n xs) (hc : Ch S w w') (hS : ∀ k, v.ownBlock = some k → ¬ S k) : w'.ownsRow base e size v n xs := by
  obtain ⟨h1, h2⟩ := h
  refine ⟨h1, ?_⟩
  rcases h2 with h2 | ⟨g, cap, cur, hv, hg, hh, r⟩
  · exact Or.inl h2
  · exact Or.inr ⟨g, cap, cur, hv, hg, by rw [hc.block g (Array.getElem?_eq_some_iff.1 hh).1 (hS g (by rw [hv]; rfl))]; exact hh, r⟩
theorem ownBlock_ne {w : World} {base : Nat} {e : TypeId} {size : Nat} {v : Value} {n : Nat} {xs : List Value} (h : w.ownsRow base e size v n xs) {k : Nat} {m : Option Nat} {s : Nat} {sn : Array Nat} {c : Nat} (hk : w.heap[k]? = some (.mapIter m s sn c)) : v.ownBlock ≠ some k := by
  obtain ⟨h1, h2⟩ := h
  rcases h2 with ⟨h2, _⟩ | ⟨g, cap, cur, hv, hg, hh, r⟩
  · rw [h2]; simp [Value.ownBlock]
  · rw [hv]; intro e; simp only [Value.ownBlock, Option.some.injEq] at e; subst e; rw [hk] at hh; cases hh
theorem It.iter {w : World} {r mb : Nat} {S L : List Nm} (h : It w r mb S L) : ∃ m s sn c, w.heap[r]? = some (.mapIter m s sn c) := by
  obtain ⟨es, clk, since, seen, c0, a1, a2, a3, rest⟩ := h
  exact ⟨_, _, _, _, a3⟩

theorem one_cell (w : World) (v : Value) (T : TypeId) : ∀ j u, [v][j]? = some u → (w.alloc (.cells #[v] T)).cell? ((⟨w.heap.size, 0, none⟩ : Addr).add j) = some u := by
  intro j u hj
  match j with
  | 0 =>
    rw [show (⟨w.heap.size, 0, none⟩ : Addr).add 0 = ⟨w.heap.size, 0, none⟩ from rfl, World.cell?_alloc_new]
    simpa using hj
  | j + 1 => simp at hj

def RelT (w : World) (mb r : Nat) (S : List Nm) (P : Nm → Bool) (g : Nat) (v : Value) (wr : World) : Prop :=
  ∃ L acc, g = L.length ∧ It wr r mb S L ∧ acc.Perm ((S.filter (fun x => decide (x ∉ L) && P x)).map (·.t)) ∧ wr.ownsRow w.heap.size 9 1 v acc.length (acc.map encStr) ∧ Below w.heap.size w wr ∧ (acc = [] → v = .slice none 0 0)

/-- one more that is wanted. -/
theorem perm_take {S L : List Nm} {P : Nm → Bool} {n : Nm} {acc : List (List UInt8)} (hS : S.Nodup) (hn : n ∈ S) (hL : n ∈ L) (hP : P n = true) (h : acc.Perm ((S.filter (fun x => decide (x ∉ L) && P x)).map (·.t))) :
    (acc ++ [n.t]).Perm ((S.filter (fun x => decide (x ∉ rm n L) && P x)).map (·.t)) := by
  have key : (n :: S.filter (fun x => decide (x ∉ L) && P x)).Perm (S.filter (fun x => decide (x ∉ rm n L) && P x)) := by
    apply (List.perm_ext_iff_of_nodup ?_ (hS.filter _)).2
    · intro a
      simp only [List.mem_cons, List.mem_filter, Bool.and_eq_true, decide_eq_true_eq, mem_rm]
      constructor
      · rintro (rfl | ⟨h1, h2, h3⟩)
        · exact ⟨hn, by simp, hP⟩
        · exact ⟨h1, fun hh => h2 hh.1, h3⟩
      · rintro ⟨h1, h2, h3⟩
        by_cases e : a = n
        · exact Or.inl e
        · exact Or.inr ⟨h1, fun hh => h2 ⟨hh, e⟩, h3⟩
    · refine List.nodup_cons.2 ⟨fun hh => ?_, hS.filter _⟩
      have := (List.mem_filter.1 hh).2
      simp [hL] at this
  refine (List.perm_append_singleton _ _).trans ?_
  exact ((h.cons n.t)).trans (List.Perm.map Nm.t key)
theorem filter_pass {S L : List Nm} {P : Nm → Bool} {n : Nm} (hP : P n = false) : S.filter (fun x => decide (x ∉ L) && P x) = S.filter (fun x => decide (x ∉ rm n L) && P x) := by
  apply List.filter_congr
  intro x _
  by_cases e : x = n
  · subst e; simp [hP]
  · simp [mem_rm, e]

/-- what 'texts' tells. -/
def textsOf (S : List Nm) (P : Nm → Bool) : List (List UInt8) := Lib.compact (((S.filter P).map (·.t)).mergeSort fun x y => decide (x ≤ y))

theorem sort_perm {a b : List (List UInt8)} (h : a.Perm b) : (a.mergeSort fun x y => decide (x ≤ y)) = (b.mergeSort fun x y => decide (x ≤ y)) := by
  have tr : ∀ a b c : List UInt8, decide (a ≤ b) = true → decide (b ≤ c) = true → decide (a ≤ c) = true := by
    intro a b c; simp only [decide_eq_true_eq]; exact fun h1 h2 => List.le_trans h1 h2
  have to : ∀ a b : List UInt8, (decide (a ≤ b) || decide (b ≤ a)) = true := by
    intro a b; simp only [Bool.or_eq_true, decide_eq_true_eq]; exact List.le_total a b
  refine List.Perm.eq_of_pairwise (le := fun x y => decide (x ≤ y) = true) ?_ (List.pairwise_mergeSort tr to a) (List.pairwise_mergeSort tr to b) ((List.mergeSort_perm _ _).trans (h.trans (List.mergeSort_perm _ _).symm))
  intro x y _ _ h1 h2
  simp only [decide_eq_true_eq] at h1 h2
  exact List.le_antisymm h1 h2

/-- what 'texts' leaves: a slice of its own that holds ts. -/
def TextsLeft (w : World) (ts : List (List UInt8)) (e : Ending) (w' : World) : Prop :=
  ∃ v, e = .returned v ∧ w'.ownsRow w.heap.size 9 1 v ts.length (ts.map encStr) ∧ Below w.heap.size w w'

theorem texts_left {w w1 : World} {g cap nn q : Nat} {os : Array Obj} {ss : List (List UInt8)} (hown : w1.ownsRow w.heap.size 9 1 (.slice (some ⟨g, 0, none⟩) ss.length cap) ss.length (ss.map encStr)) (hbel : Below w.heap.size w w1) (hbg : w.heap.size ≤ g) :
    TextsLeft w (Lib.compact (ss.mergeSort fun x y => decide (x ≤ y))) (.returned (.slice (some ⟨g, 0, none⟩) (Lib.compact (ss.mergeSort fun x y => decide (x ≤ y))).length cap))
      (putRow encStr (Sort.ahead (grow (putRow encStr (Sort.ahead w1 nn) g 0 (ss.mergeSort fun x y => decide (x ≤ y)).toArray) os) q) g 0 (Lib.compact (ss.mergeSort fun x y => decide (x ≤ y)) ++ List.replicate (ss.length - (Lib.compact (ss.mergeSort fun x y => decide (x ≤ y))).length) []).toArray) := by
  have hl2 : (ss.mergeSort fun x y => decide (x ≤ y)).length = ss.length := List.length_mergeSort ss
  have hle := Lib.compact_length_le (ss.mergeSort fun x y => decide (x ≤ y))
  rcases hown.2 with ⟨h0, _⟩ | ⟨g', cap', cur, hv, hbase, hb, h1, h2, h3, h4⟩
  · cases h0
  cases hv
  have hs := ownsRow_sorted (n := nn) (os := os) (ts := ss.mergeSort fun x y => decide (x ≤ y)) hl2 hbase hb h1 h2 h3
  have hc := Lib.ownsRow_putRow (q := q) (k := (Lib.compact (ss.mergeSort fun x y => decide (x ≤ y))).length) (ys := Lib.compact (ss.mergeSort fun x y => decide (x ≤ y)) ++ List.replicate (ss.length - (Lib.compact (ss.mergeSort fun x y => decide (x ≤ y))).length) []) hs (by simp; omega) (by omega)
  rw [List.take_left] at hc
  exact ⟨_, rfl, hc, Lib.below_putRow (hbel.grown (grownBy_sorted _) hbel.size (fun j hj => by cases hj; exact hbase)) hbg⟩

set_option maxHeartbeats 1000000 in
set_option maxRecDepth 100000 in
theorem texts_any (pb mb : Nat) (S : List Nm) (g : FuncId) (lb : Array Value) (P : Nm → Bool) (w : World) (hP : PostAt w pb mb S) (hcl : ClPred g lb P S w) (eg : Enters Tryd.prog g) :
    Calls Tryd.prog 42 #[.pointer (some ⟨pb, 0, none⟩), .func (.func g) #[] lb] w fun e w' => TextsLeft w (textsOf S P) e w' := by
  have hlen := hP.len
  have hc0 := hP.map_cell
  obtain ⟨hne, ⟨es, clk, hm, hE⟩, hp, hr⟩ := hP
  have h1 : pb < w.heap.size := lt_of_blk hp
  have h2 : mb < w.heap.size := lt_of_blk hm
  have HE := Lib.hid hE
  have eg' : ∀ args w, (callFunc g args).run Tryd.prog w = .ok (.enter g args) w := eg
  obtain ⟨i9, hi, hz0, hz1, hz2⟩ := info_parts info9
  have HI9 := Lib.hid hi
  have HZ0 := Lib.hid hz0
  have HZ1 := Lib.hid hz1
  have HZ2 := Lib.hid hz2
  clear hp hE hr eg hi hz0 hz1 hz2
  go_enter Tryd.func42, Tryd.ntmps42
  go_wp2_with (at_range; refine wpList_range_it rfl _ rfl mb S es clk rfl hm HE.out ?_; intro w0 hI0 hch0 hs0)
  go_frame
  have HCH := Lib.hid hch0
  have HI := Lib.hid hI0
  have HCL := Lib.hid hcl
  clear hch0 hI0 hs0 hcl
  go_loopg [5] S.length (fun g v wr => RelT w mb w.heap.size S P g v wr)
  case atStart => exact ⟨S, [], rfl, HI.out, by rw [List.filter_eq_nil_iff.2 (fun x hx => by simp [hx])]; exact List.Perm.refl _, World.ownsRow_nil _ _ _ _, HCH.out.below, fun _ => rfl⟩
  case round =>
    obtain ⟨L, acc, hg, hI, hacc, hown, hbel, hnil⟩ := hrel
    have HG := Lib.hid hg
    have HA := Lib.hid hacc
    have HB := Lib.hid hbel
    have HN := Lib.hid hnil
    have HO := Lib.hid hown
    clear hg hacc hnil hbel hown
    go_wp2_with (at_next; refine wpList_next_it rfl _ rfl w.heap.size mb S L rfl hI ?_ ?_)
    · intro hL
      have hfin : textsOf S P = Lib.compact (acc.mergeSort fun x y => decide (x ≤ y)) := by
        unfold textsOf
        rw [sort_perm HA.out, hL]
        simp
      have HF := Lib.hid hfin
      have HLL := Lib.hid hL
      clear hL hI hfin
      by_cases h0 : acc = []
      · obtain rfl := HN.out h0
        have H0 := Lib.hid h0
        clear h0
        go_wp2_with (first
          | (go_at_call 55; refine (Tryd.slices_Sort_string_none none 0 _).mono ?_; rintro e w' ⟨rfl, rfl⟩)
          | (go_at_call 56; refine (Tryd.slices_Compact_string_empty none 0 _).mono ?_; rintro e w' ⟨rfl, rfl⟩))
        go_ret
        rw [HF.out, H0.out]
        exact ⟨_, rfl, by rw [List.mergeSort_nil]; exact World.ownsRow_nil _ _ _ _, HB.out⟩
      · have hnn : u5 ≠ .slice none 0 0 := by
          intro e
          obtain ⟨q1, q2⟩ := HO.out
          rcases q2 with ⟨_, q2⟩ | ⟨g', cap', cur, hv, _⟩
          · exact h0 (by simpa using q2)
          · rw [e] at hv; cases hv
        obtain ⟨g1, cap, rfl, hbg, hgl, hncap, hcm, hlen', hH⟩ := Lib.holds_of_ownsRow HO.out hnn
        have HLE := Lib.hid (show acc.length ≤ 512 from by
          have e1 := HA.out.length_eq
          rw [List.length_map] at e1
          have e2 := List.length_filter_le (fun x => decide (x ∉ L) && P x) S
          omega)
        have hsort := Tryd.slices_Sort_string g1 0 cap acc wr hH hgl (by have := HLE.out; omega)
        have HBG := Lib.hid hbg
        have HGL := Lib.hid hgl
        have HNC := Lib.hid hncap
        have HH := Lib.hid hH
        have HS := Lib.hid hsort
        clear hbg hgl hncap hcm hlen' hH hsort h0 hnn
        go_wp2_with fail
        refine HS.out.mono ?_
        rintro e w2 ⟨rfl, nn, os, rfl⟩
        have hl2 : (acc.mergeSort fun x y => decide (x ≤ y)).length = acc.length := by rw [List.length_mergeSort]
        have hH2 : Holds encStr (grow (putRow encStr (Sort.ahead wr nn) g1 0 (acc.mergeSort fun x y => decide (x ≤ y)).toArray) os) g1 0 (acc.mergeSort fun x y => decide (x ≤ y)).toArray :=
          holds_grow encStr _ os g1 0 _ (by simpa [putRow, mapBlock, Sort.ahead] using HGL.out) (holds_putRow encStr _ g1 0 _ _ (holds_ahead encStr wr nn g1 0 _ HH.out) (by simp))
        have hcomp := Tryd.slices_Compact_string g1 0 cap (acc.mergeSort fun x y => decide (x ≤ y)) _ hH2 (by have := HLE.out; omega) (by have := HNC.out; omega)
        rw [hl2] at hcomp
        have HC := Lib.hid hcomp
        clear hcomp hH2 hl2
        go_wp2_with fail
        refine HC.out.mono ?_
        rintro e w3 ⟨rfl, q, rfl⟩
        go_wp2_with fail
        go_ret
        rw [HF.out]
        exact texts_left HO.out HB.out HBG.out
    · intro n w1 hnL hI1 hch1 hs1 hen
      obtain ⟨im, is', isn, ic, hit⟩ := hI.iter
      have hnb := ownBlock_ne HO.out hit
      have hnS : n ∈ S := by obtain ⟨_, _, _, _, _, _, _, _, _, _, _, _, hsub⟩ := hI; exact hsub n hnL
      have hlt := hI.lt
      have HB1 := Lib.hid (Below.ofCh HB.out hch1 (Nat.le_refl _))
      have HO1 := Lib.hid (ownsRow_ch HO.out hch1 (fun k hk e => hnb (e ▸ hk)))
      have HI1 := Lib.hid hI1
      have HNL := Lib.hid hnL
      have HNS := Lib.hid hnS
      have hlt1 := hI1.lt
      have hge : w.heap.size ≤ w1.heap.size := HB1.out.size
      clear hI hI1 hch1 hit hnb hnL hnS hs1
      by_cases hPn : P n = true
      · have HPn := Lib.hid hPn
        go_wp2_with fail
        have hc := HCL.out n HNS.out _ (HB1.out.alloc hge (.cells #[.int .i64 n.c, .string ⟨n.t.toArray⟩, .bool n.p] 84))
        rw [hPn] at hc
        clear hPn
        refine hc.mono ?_
        rintro e w2 ⟨rfl, hb2⟩
        have HI2 := Lib.hid (HI1.out.keptB (w' := w2) (by show w2.heap[mb]? = w1.heap[mb]?; rw [hb2.block _ (by simp; omega)]; exact Below.heap_alloc _ _ _ (by omega)) (by show w2.heap[w.heap.size]? = w1.heap[w.heap.size]?; rw [hb2.block _ (by simp; omega)]; exact Below.heap_alloc _ _ _ (by omega)))
        have HB2 := Lib.hid ((HB1.out.alloc hge (.cells #[.int .i64 n.c, .string ⟨n.t.toArray⟩, .bool n.p] 84)).trans (hb2.mono (by simp; omega)))
        have HO2 := Lib.hid (ownsRow_ch (w' := w2) (S := fun _ => False) HO1.out (((Ch.refl _ w1).alloc (.cells #[.int .i64 n.c, .string ⟨n.t.toArray⟩, .bool n.p] 84)).trans ⟨hb2.os, hb2.tape, hb2.output, hb2.size, fun k hk _ => hb2.block k hk⟩) (fun _ _ h => h))
        have hcell : w2.cell? ⟨w1.heap.size, 1, none⟩ = some (.string ⟨n.t.toArray⟩) := by
          rw [hb2.cell (p := ⟨w1.heap.size, 1, none⟩) (by simp)]; rw [World.cell?_alloc_new]; rfl
        have hsz2 : w1.heap.size < w2.heap.size := by have := hb2.size; simp at this; omega
        clear hb2 hc
        have HL := Lib.hid (show acc.length ≤ 512 from by
          have e1 := HA.out.length_eq
          rw [List.length_map] at e1
          have e2 := List.length_filter_le (fun x => decide (x ∉ L) && P x) S
          omega)
        go_wp2_with (at_builtin; refine wpList_append_own _ rfl _ _ 31 rfl w.heap.size 9 i9 (.string ByteArray.empty) 1 16 Tryd.underlying31 HI9.out HZ0.out HZ1.out HZ2.out rfl (by decide) _ _ _ rfl (HO2.out.alloc _) ⟨w2.heap.size, 0, none⟩ 1 1 [.string ⟨n.t.toArray⟩] rfl rfl ?c1 ?c2 ?c3 ?c4 ?c5 ?_)
        case c1 => exact one_cell _ _ _
        case c2 => intro u hu; simp only [List.mem_singleton] at hu; subst hu; rfl
        case c3 => have := HL.out; unfold maxLen; omega
        case c4 => have := HL.out; omega
        case c5 => have := HB2.out.size; simp; omega
        intro v' w3 hown3 hgr3 hiff
        have HO3 := Lib.hid hown3
        have HB3 := Lib.hid (((HB2.out.alloc HB2.out.size (.cells #[.string ⟨n.t.toArray⟩] 9))).grown hgr3 (by have := HB2.out.size; simp; omega) (fun k hk => by
          obtain ⟨_, h2⟩ := HO2.out
          rcases h2 with ⟨h2, _⟩ | ⟨g', cap, cur, hv, hg', hh, r⟩
          · rw [h2] at hk; simp [Value.ownBlock] at hk
          · rw [hv] at hk; simp only [Value.ownBlock, Option.some.injEq] at hk; omega))
        have HI3 := Lib.hid (HI2.out.keptB (w' := w3)
          (by show w3.heap[mb]? = w2.heap[mb]?; rw [hgr3.block mb (by simp; omega) (fun e => by
                obtain ⟨_, h2⟩ := HO2.out
                rcases h2 with ⟨h2, _⟩ | ⟨g', cap, cur, hv, hg', hh, r⟩
                · rw [h2] at e; simp [Value.ownBlock] at e
                · rw [hv] at e; simp only [Value.ownBlock, Option.some.injEq] at e; omega)]; exact Below.heap_alloc _ _ _ (by omega))
          (by show w3.heap[w.heap.size]? = w2.heap[w.heap.size]?; rw [hgr3.block w.heap.size (by simp; omega) (fun e => by
                obtain ⟨im, is', isn, ic, hit⟩ := HI2.out.iter
                exact ownBlock_ne HO2.out hit e.symm)]; exact Below.heap_alloc _ _ _ (by omega)))
        clear hown3 hgr3 hiff
        go_wp2
        go_roundg (rm n L).length
        case measure => rw [HG.out]; exact filter_len HNL.out
        case rel =>
          have hp3 := perm_take (HE.out.nodup) HNS.out HNL.out HPn.out HA.out
          refine ⟨_, acc ++ [n.t], rfl, HI3.out, hp3, by simpa using HO3.out, HB3.out, fun h => by simp at h⟩
      · have hPn' : P n = false := by simpa using hPn
        have HPn := Lib.hid hPn'
        clear hPn
        go_wp2_with fail
        have hc := HCL.out n HNS.out _ (HB1.out.alloc hge (.cells #[.int .i64 n.c, .string ⟨n.t.toArray⟩, .bool n.p] 84))
        rw [hPn'] at hc
        clear hPn'
        refine hc.mono ?_
        rintro e w2 ⟨rfl, hb2⟩
        have HI2 := Lib.hid (HI1.out.keptB (w' := w2) (by show w2.heap[mb]? = w1.heap[mb]?; rw [hb2.block _ (by simp; omega)]; exact Below.heap_alloc _ _ _ (by omega)) (by show w2.heap[w.heap.size]? = w1.heap[w.heap.size]?; rw [hb2.block _ (by simp; omega)]; exact Below.heap_alloc _ _ _ (by omega)))
        have HB2 := Lib.hid ((HB1.out.alloc hge (.cells #[.int .i64 n.c, .string ⟨n.t.toArray⟩, .bool n.p] 84)).trans (hb2.mono (by simp; omega)))
        have HO2 := Lib.hid (ownsRow_ch (w' := w2) (S := fun _ => False) HO1.out (((Ch.refl _ w1).alloc (.cells #[.int .i64 n.c, .string ⟨n.t.toArray⟩, .bool n.p] 84)).trans ⟨hb2.os, hb2.tape, hb2.output, hb2.size, fun k hk _ => hb2.block k hk⟩) (fun _ _ h => h))
        clear hb2 hc
        go_wp2
        go_roundg (rm n L).length
        case measure => rw [HG.out]; exact filter_len HNL.out
        case rel => exact ⟨_, acc, rfl, HI2.out, by rw [← filter_pass HPn.out]; exact HA.out, HO2.out, HB2.out, HN.out⟩
end Go.Proofs.YtgfldammdcocmaaDoor
