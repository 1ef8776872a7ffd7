import Derived.Test.YtgfldammdcocmaaDoorPq
namespace Go.Proofs.YtgfldammdcocmaaDoor
open Go.RowKit Go.Sort

theorem info62 : (Tryd.prog.info? 62).map (fun i => (i.zero, i.size, i.bytes)) = some (some (.agg #[.int .i64 0, .bool false, .string ByteArray.empty]), 3, 32) := by kernel_rfl
theorem und59 : Tryd.prog.underlying 59 = some (.slice 62) := by kernel_rfl
theorem three_cells (w : World) (a b c : Value) (T : TypeId) : ∀ j u, [a, b, c][j]? = some u → (w.alloc (.cells #[a, b, c] T)).cell? ((⟨w.heap.size, 0, none⟩ : Addr).add j) = some u := by
  intro j u hj
  have : ((⟨w.heap.size, 0, none⟩ : Addr).add j) = ⟨w.heap.size, j, none⟩ := by unfold Addr.add; split <;> simp_all
  rw [this, World.cell?_alloc_new]
  simpa using hj

theorem perm_takeN {S L : List Nm} {P : Nm → Bool} {n : Nm} {acc : List Nm} (hS : S.Nodup) (hn : n ∈ S) (hL : n ∈ L) (hP : P n = true) (h : acc.Perm (S.filter (fun x => decide (x ∉ L) && P x))) :
    (acc ++ [n]).Perm (S.filter (fun x => decide (x ∉ rm n L) && P x)) := by
  have key : (n :: S.filter (fun x => decide (x ∉ L) && P x)).Perm (S.filter (fun x => decide (x ∉ rm n L) && P x)) := by
    apply (List.perm_ext_iff_of_nodup ?_ (hS.filter _)).2
    · intro a
      simp only [List.mem_cons, List.mem_filter, Bool.and_eq_true, decide_eq_true_eq, mem_rm]
      constructor
      · rintro (rfl | ⟨h1, h2, h3⟩)
        · exact ⟨hn, by simp, hP⟩
        · exact ⟨h1, fun hh => h2 hh.1, h3⟩
      · rintro ⟨h1, h2, h3⟩
        by_cases e : a = n
        · exact Or.inl e
        · exact Or.inr ⟨h1, fun hh => h2 ⟨hh, e⟩, h3⟩
    · refine List.nodup_cons.2 ⟨fun hh => ?_, hS.filter _⟩
      have := (List.mem_filter.1 hh).2
      simp [hL] at this
  exact (List.perm_append_singleton _ _).trans ((h.cons n).trans key)

def RelH (w : World) (mb r : Nat) (S : List Nm) (P : Nm → Bool) (g : Nat) (v : Value) (wr : World) : Prop :=
  ∃ L acc, g = L.length ∧ It wr r mb S L ∧ acc.Perm (S.filter (fun x => decide (x ∉ L) && P x)) ∧ wr.ownsRow w.heap.size 62 3 v acc.length (acc.flatMap encH) ∧ Below w.heap.size w wr ∧ (acc = [] → v = .slice none 0 0)

theorem keptAll {w w1 wz : World} {mb : Nat} {S L : List Nm} (h : It w1 w.heap.size mb S L) (hb : Below w1.heap.size w1 wz) : It wz w.heap.size mb S L :=
  h.keptB (w' := wz) (hb.block _ h.lt.2) (hb.block _ h.lt.1)
theorem ownsKept {w1 wz : World} {base : Nat} {e : TypeId} {size : Nat} {v : Value} {n : Nat} {xs : List Value} (h : w1.ownsRow base e size v n xs) (hb : Below w1.heap.size w1 wz) : wz.ownsRow base e size v n xs :=
  ownsRow_ch (S := fun _ => False) h ⟨hb.os, hb.tape, hb.output, hb.size, fun q hq _ => hb.block q hq⟩ (fun _ _ h => h)

set_option maxHeartbeats 2000000 in
set_option maxRecDepth 100000 in
theorem heard_any (pb mb : Nat) (S : List Nm) (ch : List UInt8) (w : World) (hP : PostAt w pb mb S) (hch : ch.length ≤ 9223372036854775807) (hG : GlobAt w) :
    Calls Tryd.prog 21 #[.pointer (some ⟨pb, 0, none⟩), .string ⟨ch.toArray⟩] w fun e w' => HitsLeft w (sortH (S.filter (PH ch))) e w' := by
  have hlen := hP.len
  have hc0 := hP.map_cell
  obtain ⟨hne, ⟨es, clk, hm, hE⟩, hp, hr⟩ := hP
  have h1 : pb < w.heap.size := lt_of_blk hp
  have h2 : mb < w.heap.size := lt_of_blk hm
  have HE := Lib.hid hE
  have HLEN := Lib.hid hlen
  have HG := Lib.hid hG
  have HCHL := Lib.hid hch
  obtain ⟨i9, hi, hz0, hz1, hz2⟩ := info_parts info62
  have HI9 := Lib.hid hi
  have HZ0 := Lib.hid hz0
  have HZ1 := Lib.hid hz1
  have HZ2 := Lib.hid hz2
  clear hp hE hr hlen hG hch hi hz0 hz1 hz2
  go_enter Tryd.func21, Tryd.ntmps21
  go_wp2_with (at_range; refine wpList_range_it rfl _ rfl mb S es clk rfl hm HE.out ?_; intro w0 hI0 hch0 hs0)
  go_frame
  have HCH := Lib.hid hch0
  have HI := Lib.hid hI0
  clear hch0 hI0 hs0
  go_loopg [5] S.length (fun g v wr => RelH w mb w.heap.size S (PH ch) g v wr)
  case atStart => exact ⟨S, [], rfl, HI.out, by rw [List.filter_eq_nil_iff.2 (fun x hx => by simp [hx])], World.ownsRow_nil _ _ _ _, HCH.out.below, fun _ => rfl⟩
  case round =>
    obtain ⟨L, acc, hg, hI, hacc, hown, hbel, hnil⟩ := hrel
    have HGK := Lib.hid hg
    have HA := Lib.hid hacc
    have HB := Lib.hid hbel
    have HN := Lib.hid hnil
    have HO := Lib.hid hown
    have HAL := Lib.hid (show acc.length ≤ 512 from by
      have e1 := hacc.length_eq
      have e2 := List.length_filter_le (fun x => decide (x ∉ L) && PH ch x) S
      have := HLEN.out
      omega)
    clear hg hacc hbel hown hnil
    go_wp2_with (at_next; refine wpList_next_it rfl _ rfl w.heap.size mb S L rfl hI ?_ ?_)
    · intro hL
      have HF := Lib.hid (show sortH (S.filter (PH ch)) = sortH acc by
        refine sortH_perm ?_
        have ha := HA.out
        rw [hL] at ha
        simpa using ha.symm)
      clear hL hI
      by_cases h0 : acc = []
      · obtain rfl := HN.out h0
        have H0 := Lib.hid h0
        clear h0
        go_wp2_with (go_at_call 45; refine (sort_none none 0 _ _).mono ?_; rintro e w' ⟨rfl, rfl⟩)
        go_ret
        rw [HF.out, H0.out]
        exact ⟨_, rfl, by unfold sortH; rw [List.mergeSort_nil]; exact World.ownsRow_nil _ _ _ _, HB.out⟩
      · have hnn : u5 ≠ .slice none 0 0 := by
          intro e
          obtain ⟨q1, q2⟩ := HO.out
          rcases q2 with ⟨_, q2⟩ | ⟨g', cap', cur, hv, _⟩
          · exact h0 (List.eq_nil_of_length_eq_zero q2)
          · rw [e] at hv; cases hv
        have hown := HO.out
        rcases hown.2 with ⟨rfl, _⟩ | ⟨g1, cap, cur, rfl, hbg, hgb, hn1, hn2, hn3, hn4⟩
        · exact absurd rfl hnn
        have hgl : g1 < wr.heap.size := (Array.getElem?_eq_some_iff.1 hgb).1
        have hsort := sort_hits g1 cap acc wr (holdsK_of_block hgb hn4) hgl HAL.out
        have HS := Lib.hid hsort
        have HR := Lib.hid (fun n os => ownsRow_sortedH (w := wr) (base := w.heap.size) (n := n) (os := os) (ts := sortH acc) (sortH_len acc) hbg hgb hn1 hn2 hn3)
        have HBG := Lib.hid hbg
        clear hown hbg hgb hn1 hn2 hn3 hn4 hsort h0 hnn hgl
        go_wp2_with fail
        refine HS.out.mono ?_
        rintro e w2 ⟨rfl, nn, os, rfl⟩
        go_wp2_with fail
        go_ret
        rw [HF.out]
        refine ⟨_, rfl, by rw [sortH_len]; exact HR.out nn os, ?_⟩
        exact HB.out.grown (grownBy_sortedQ _) HB.out.size (fun j hj => by cases hj; exact HBG.out)
    · intro n w1 hnL hI1 hch1 hs1 hen
      obtain ⟨im, is', isn, ic, hit⟩ := hI.iter
      have hnb := ownBlock_ne HO.out hit
      have hnS : n ∈ S := by obtain ⟨_, _, _, _, _, _, _, _, _, _, _, _, hsub⟩ := hI; exact hsub n hnL
      have HB1 := Lib.hid (Below.ofCh HB.out hch1 (Nat.le_refl _))
      have HO1 := Lib.hid (ownsRow_ch HO.out hch1 (fun k hk e => hnb (e ▸ hk)))
      have HI1 := Lib.hid hI1
      have HNL := Lib.hid hnL
      have HNS := Lib.hid hnS
      have hlt1 := hI1.lt
      have hge : w.heap.size ≤ w1.heap.size := HB1.out.size
      clear hI hI1 hch1 hit hnb hnL hnS hs1
      have HNP' : Hid (n.p = n.p) := Lib.hid rfl
      cases hnp : n.p
      · have HNP := Lib.hid hnp
        by_cases hnt : n.t = ch
        · have hbe : (n.t == ch) = true := by rw [hnt]; exact beq_self_eq_true _
          have HP := Lib.hid (show PH ch n = true by unfold PH; rw [hnp, decide_eq_true hnt]; rfl)
          clear hnt
          have hbz : Below w1.heap.size w1 ((w1.alloc (.cells #[.int .i64 (n.c : Nat), .string ⟨n.t.toArray⟩, .bool false] 84)).alloc (.cells #[.int .i64 (n.c : Nat), .string ⟨ch.toArray⟩, .bool false] 84)) := ((Below.refl _ w1).alloc (Nat.le_refl _) _).alloc (by simp) _
          have HBZ := Lib.hid (HB1.out.trans (hbz.mono hge))
          have HIZ := Lib.hid (keptAll HI1.out hbz)
          have HOZ := Lib.hid (ownsKept HO1.out hbz)
          clear hbz
          go_wp2_with (at_builtin; refine wpList_append_own _ rfl _ _ 59 rfl w.heap.size 62 i9 (.agg #[.int .i64 0, .bool false, .string ByteArray.empty]) 3 32 und59 HI9.out HZ0.out HZ1.out HZ2.out rfl (by decide) _ _ _ rfl (HOZ.out.alloc _) ⟨w1.heap.size + 1 + 1, 0, none⟩ 1 1 [.int .i64 (n.c : Nat), .bool false, .string ⟨n.t.toArray⟩] rfl rfl ?c1 ?c2 ?c3 ?c4 ?c5 ?_)
          try (case c1 => intro j u hj; have h := three_cells ((w1.alloc (.cells #[.int .i64 (n.c : Nat), .string ⟨n.t.toArray⟩, .bool false] 84)).alloc (.cells #[.int .i64 (n.c : Nat), .string ⟨ch.toArray⟩, .bool false] 84)) _ _ _ 62 j u hj; simpa using h)
          case c2 => first | exact ⟨rfl, rfl, rfl⟩ | (intro u hu; simp only [List.mem_cons, List.not_mem_nil, or_false] at hu; rcases hu with rfl | rfl | rfl <;> rfl)
          case c3 => have := HAL.out; unfold maxLen; omega
          case c4 => have := HAL.out; omega
          case c5 => have := HBZ.out.size; (try simp at this); simp; omega
          intro v' w3 hown3 hgr3 hiff
          have HO3 := Lib.hid hown3
          have HB3 := Lib.hid (((HBZ.out.alloc HBZ.out.size (.cells #[.int .i64 (n.c : Nat), .bool false, .string ⟨n.t.toArray⟩] 62))).grown hgr3 (by have := HBZ.out.size; (try simp at this); simp; omega) (fun k hk => (HOZ.out.lt k hk).1))
          have HI3 := Lib.hid (HIZ.out.keptB (w' := w3)
            (by show w3.heap[mb]? = _; rw [hgr3.block mb (by have := HIZ.out.lt.2; (try simp at this); simp; omega) (fun e => by have := (HOZ.out.lt mb e.symm).1; omega)]; exact Below.heap_alloc _ _ _ HIZ.out.lt.2)
            (by show w3.heap[w.heap.size]? = _; rw [hgr3.block w.heap.size (by have := HIZ.out.lt.1; (try simp at this); simp; omega) (fun e => by
                  obtain ⟨im, is', isn, ic, hit⟩ := HIZ.out.iter
                  exact ownBlock_ne HOZ.out hit e.symm)]; exact Below.heap_alloc _ _ _ HIZ.out.lt.1))
          clear hown3 hgr3 hiff
          go_wp2
          go_roundg (rm n L).length
          case measure => rw [HGK.out]; exact filter_len HNL.out
          case rel =>
            have hp3 := perm_takeN (HE.out.nodup) HNS.out HNL.out HP.out HA.out
            exact ⟨_, acc ++ [n], rfl, HI3.out, hp3, by simpa [encH, HNP.out] using HO3.out, HB3.out, fun h => by simp at h⟩
        · have hbe : (n.t == ch) = false := beq_eq_false_iff_ne.2 hnt
          have HP := Lib.hid (show PH ch n = false by unfold PH; rw [hnp, decide_eq_false hnt]; rfl)
          clear hnt
          have hbz : Below w1.heap.size w1 ((w1.alloc (.cells #[.int .i64 (n.c : Nat), .string ⟨n.t.toArray⟩, .bool false] 84)).alloc (.cells #[.int .i64 (n.c : Nat), .string ⟨ch.toArray⟩, .bool false] 84)) := ((Below.refl _ w1).alloc (Nat.le_refl _) _).alloc (by simp) _
          have HBZ := Lib.hid (HB1.out.trans (hbz.mono hge))
          have HIZ := Lib.hid (keptAll HI1.out hbz)
          have HOZ := Lib.hid (ownsKept HO1.out hbz)
          clear hbz
          go_wp2
          go_roundg (rm n L).length
          case measure => rw [HGK.out]; exact filter_len HNL.out
          case rel => exact ⟨_, acc, rfl, HIZ.out, by rw [← filter_pass HP.out]; exact HA.out, HOZ.out, HBZ.out, HN.out⟩
      · have HNP := Lib.hid hnp
        have hw2 : ∃ W2, W2 = ((w1.alloc (.cells #[.int .i64 (n.c : Nat), .string ⟨n.t.toArray⟩, .bool true] 84)).alloc (.cells #[.int .i64 (n.c : Nat), .string ⟨ch.toArray⟩, .bool false] 84)) := ⟨_, rfl⟩
        obtain ⟨W2, hw2⟩ := hw2
        have hb2 : Below w1.heap.size w1 W2 := by rw [hw2]; exact ((Below.refl _ w1).alloc (Nat.le_refl _) _).alloc (by simp) _
        have hs2 : W2.heap.size = w1.heap.size + 1 + 1 := by rw [hw2]; simp
        have hq2 : ∀ o, W2.cell? ⟨w1.heap.size, o, none⟩ = #[Value.int .i64 (n.c : Nat), .string ⟨n.t.toArray⟩, .bool true][o]? := fun o => by
          rw [hw2, World.cell?_alloc_old _ _ _ (by simp), World.cell?_alloc_new]
        have hz1 := bw_size W2 n.t
        have hz2 := bw_size (bw W2 n.t) ch
        have hb3 : Below W2.heap.size W2 (bw (bw W2 n.t) ch) := (bw_below W2 n.t).trans ((bw_below (bw W2 n.t) ch).mono (by omega))
        have hg1 := HG.out.below HB1.out HG.out.lt
        have hg3 : GlobAt (bw (bw W2 n.t) ch) := (hg1.below hb2 hg1.lt).below hb3 (by have := hg1.lt; omega)
        have hnl : n.t.length ≤ 1048576 := by have := (HE.out.ok n HNS.out).2; omega
        have hgl := glob_any W2.heap.size 0 (bcap W2 n.t) (bw W2 n.t).heap.size 0 (bcap (bw W2 n.t) ch) n.t ch (bw (bw W2 n.t) ch) hnl HCHL.out
          ((bw_bytes W2 n.t).below (bw_below (bw W2 n.t) ch) (by omega)) (fun _ => by omega) (bw_bytes (bw W2 n.t) ch) (fun _ => by omega) hg3
        rw [hz1, hs2] at hgl
        obtain ⟨bv, hbv⟩ : ∃ bv, globF n.t ch = bv := ⟨_, rfl⟩
        rw [hbv] at hgl
        have HB3' := Lib.hid (hb2.trans (hb3.mono (by omega)))
        have HZ := Lib.hid (show w1.heap.size + 1 + 1 ≤ (bw (bw W2 n.t) ch).heap.size by omega)
        have HQ := Lib.hid (show ∀ o, (bw (bw W2 n.t) ch).cell? ⟨w1.heap.size, o, none⟩ = #[Value.int .i64 (n.c : Nat), .string ⟨n.t.toArray⟩, .bool true][o]? from fun o => by
          rw [hb3.cell (p := ⟨w1.heap.size, o, none⟩) (by show w1.heap.size < _; omega)]; exact hq2 o)
        have HGL := Lib.hid hgl
        rw [hw2] at HGL HB3' HZ HQ
        have hconv := run_conv
        clear hw2 hb2 hs2 hq2 hz1 hz2 hb3 hg1 hg3 hnl hgl
        cases bv
        · have HP := Lib.hid (show PH ch n = false by unfold PH; rw [hnp, hbv]; rfl)
          clear hbv
          go_wp2_with fail
          refine HGL.out.mono ?_
          rintro e w2 ⟨rfl, hbw⟩
          have hbz : Below w1.heap.size w1 w2 := HB3'.out.trans (hbw.mono (by have := HZ.out; omega))
          have HBZ := Lib.hid (HB1.out.trans (hbz.mono hge))
          have HIZ := Lib.hid (keptAll HI1.out hbz)
          have HOZ := Lib.hid (ownsKept HO1.out hbz)
          clear hbz hbw
          go_wp2
          go_roundg (rm n L).length
          case measure => rw [HGK.out]; exact filter_len HNL.out
          case rel => exact ⟨_, acc, rfl, HIZ.out, by rw [← filter_pass HP.out]; exact HA.out, HOZ.out, HBZ.out, HN.out⟩
        · have HP := Lib.hid (show PH ch n = true by unfold PH; rw [hnp, hbv]; rfl)
          clear hbv
          go_wp2_with fail
          refine HGL.out.mono ?_
          rintro e w2 ⟨rfl, hbw⟩
          have hbz : Below w1.heap.size w1 w2 := HB3'.out.trans (hbw.mono (by have := HZ.out; omega))
          have HBZ := Lib.hid (HB1.out.trans (hbz.mono hge))
          have HIZ := Lib.hid (keptAll HI1.out hbz)
          have HOZ := Lib.hid (ownsKept HO1.out hbz)
          have hq : ∀ o, w2.cell? ⟨w1.heap.size, o, none⟩ = #[Value.int .i64 (n.c : Nat), .string ⟨n.t.toArray⟩, .bool true][o]? := fun o => by
            rw [hbw.cell (p := ⟨w1.heap.size, o, none⟩) (by show w1.heap.size < _; have := HZ.out; omega)]; exact HQ.out o
          have c0 : w2.cell? ⟨w1.heap.size, 0, none⟩ = some (.int .i64 (n.c : Nat)) := hq 0
          have c1 : w2.cell? ⟨w1.heap.size, 1, none⟩ = some (.string ⟨n.t.toArray⟩) := hq 1
          have c2 : w2.cell? ⟨w1.heap.size, 2, none⟩ = some (.bool true) := hq 2
          have hlt2 : w1.heap.size < w2.heap.size := by have := hbw.size; have := HZ.out; omega
          clear hbz hbw hq
          go_wp2_with (at_builtin; refine wpList_append_own _ rfl _ _ 59 rfl w.heap.size 62 i9 (.agg #[.int .i64 0, .bool false, .string ByteArray.empty]) 3 32 und59 HI9.out HZ0.out HZ1.out HZ2.out rfl (by decide) _ _ _ rfl (HOZ.out.alloc _) ⟨w2.heap.size, 0, none⟩ 1 1 [.int .i64 (n.c : Nat), .bool true, .string ⟨n.t.toArray⟩] rfl rfl ?d1 ?d2 ?d3 ?d4 ?d5 ?_)
          try (case d1 => exact three_cells _ _ _ _ _)
          case d2 => first | exact ⟨rfl, rfl, rfl⟩ | (intro u hu; simp only [List.mem_cons, List.not_mem_nil, or_false] at hu; rcases hu with rfl | rfl | rfl <;> rfl)
          case d3 => have := HAL.out; unfold maxLen; omega
          case d4 => have := HAL.out; omega
          case d5 => have := HBZ.out.size; (try simp at this); simp; omega
          intro v' w3 hown3 hgr3 hiff
          have HO3 := Lib.hid hown3
          have HB3 := Lib.hid (((HBZ.out.alloc HBZ.out.size (.cells #[.int .i64 (n.c : Nat), .bool true, .string ⟨n.t.toArray⟩] 62))).grown hgr3 (by have := HBZ.out.size; (try simp at this); simp; omega) (fun k hk => (HOZ.out.lt k hk).1))
          have HI3 := Lib.hid (HIZ.out.keptB (w' := w3)
            (by show w3.heap[mb]? = _; rw [hgr3.block mb (by have := HIZ.out.lt.2; (try simp at this); simp; omega) (fun e => by have := (HOZ.out.lt mb e.symm).1; omega)]; exact Below.heap_alloc _ _ _ HIZ.out.lt.2)
            (by show w3.heap[w.heap.size]? = _; rw [hgr3.block w.heap.size (by have := HIZ.out.lt.1; (try simp at this); simp; omega) (fun e => by
                  obtain ⟨im, is', isn, ic, hit⟩ := HIZ.out.iter
                  exact ownBlock_ne HOZ.out hit e.symm)]; exact Below.heap_alloc _ _ _ HIZ.out.lt.1))
          clear hown3 hgr3 hiff
          go_wp2
          go_roundg (rm n L).length
          case measure => rw [HGK.out]; exact filter_len HNL.out
          case rel =>
            have hp3 := perm_takeN (HE.out.nodup) HNS.out HNL.out HP.out HA.out
            exact ⟨_, acc ++ [n], rfl, HI3.out, hp3, by simpa [encH, HNP.out] using HO3.out, HB3.out, fun h => by simp at h⟩
end Go.Proofs.YtgfldammdcocmaaDoor
