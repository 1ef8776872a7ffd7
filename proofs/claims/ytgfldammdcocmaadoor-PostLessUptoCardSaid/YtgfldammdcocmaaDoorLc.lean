import Derived.Test.YtgfldammdcocmaaDoorLb
namespace Go.Proofs.YtgfldammdcocmaaDoor
open Go.RowKit Go.Sort

theorem mk8 (w : World) : (Instr.makeSlice 32 (.int .i64 8) (.int .i64 8)).run Tryd.prog w = .ok (.slice (some ⟨w.heap.size, 0, none⟩) 8 8) (w.alloc (.cells #[.int .i64 0, .int .i64 0, .int .i64 0, .int .i64 0, .int .i64 0, .int .i64 0, .int .i64 0, .int .i64 0] 3)) := by kernel_rfl
theorem info48 : (Tryd.prog.info? 48).map (fun i => (i.zero, i.size, i.bytes)) = some (some (.agg #[.int .i64 0, .slice none 0 0, .bool false]), 3, 40) := by kernel_rfl
theorem und43 : Tryd.prog.underlying 43 = some (.slice 48) := by kernel_rfl

def nm (s : Sv) : Nm := ⟨s.c.toNat, s.t, s.p⟩
def fitN (s : Sv) : Nm := ⟨(s.c % 8).toNat, s.t.take 64, s.p⟩
/-- the counts of the connections, in block B. -/
def CountAt (w : World) (B : Nat) (N : List Nm) : Prop :=
  ∃ cs : Array Value, blk w B = some (.cells cs 3 (0, 0)) ∧ cs.size = 8 ∧ ∀ c, c < 8 → cs[c]? = some (.int .i64 (cnt N c : Nat))
theorem CountAt.keep {w w' : World} {B : Nat} {N : List Nm} (h : CountAt w B N) (hb : w'.heap[B]? = w.heap[B]?) : CountAt w' B N := by
  obtain ⟨cs, h1, h2⟩ := h
  exact ⟨cs, (show blk w' B = blk w B from hb).trans h1, h2⟩
theorem CountAt.lt {w : World} {B : Nat} {N : List Nm} (h : CountAt w B N) : B < w.heap.size := by
  obtain ⟨cs, h1, h2⟩ := h
  exact lt_of_blk h1
theorem CountAt.ne {w : World} {B : Nat} {N : List Nm} (h : CountAt w B N) {base : Nat} {size n : Nat} {v : Value} {xs : List Value} (ho : w.ownsRow base 48 size v n xs) : v.ownBlock ≠ some B := by
  obtain ⟨cs, h1, h2⟩ := h
  rcases ho.2 with ⟨rfl, _⟩ | ⟨g, cap, cur, rfl, _, hg, _⟩
  · intro e; cases e
  · intro e
    simp only [Value.ownBlock, Option.some.injEq] at e
    subst e
    have h1' : w.heap[g]? = some (.cells cs 3 (0, 0)) := h1
    rw [hg] at h1'
    cases h1'
structure GoodR (w : World) (R : List Sv) : Prop where
  is : ∀ s ∈ R, IsB w s.v s.t ∧ 0 ≤ s.c ∧ s.c < 8 ∧ s.t.length ≤ 64
  nodup : (R.map nm).Nodup
  cnt : ∀ c, cnt (R.map nm) c ≤ 64

def UnlikeLeft (w : World) (ss : List Sv) (e : Ending) (w' : World) : Prop :=
  ∃ v R, e = .returned v ∧ w'.ownsRow w.heap.size 48 3 v R.length (R.flatMap encS) ∧ GoodR w R ∧ (∀ s0 r, ss = s0 :: r → ∃ s1 r', R = s1 :: r' ∧ nm s1 = fitN s0) ∧ R.length ≤ 1000 ∧ Below w.heap.size w w'

def RelU (w : World) (ss : List Sv) (n : Nat) (g : Nat) (v3 v5 : Value) (wr : World) : Prop :=
  ∃ i R, g = n - i ∧ i ≤ n ∧ v5 = .int .i64 (i : Nat) ∧ wr.ownsRow w.heap.size 48 3 v3 R.length (R.flatMap encS) ∧ GoodR w R ∧ CountAt wr w.heap.size (R.map nm) ∧
    Below w.heap.size w wr ∧ (0 < i → ∀ s0 r, ss = s0 :: r → ∃ s1 r', R = s1 :: r' ∧ nm s1 = fitN s0) ∧ (i = 0 → R = []) ∧ R.length ≤ i ∧ i ≤ 1000
def RelO (wx : World) (R : List Sv) (x : Nm) (m : Nat) (q : Nat) (v7 v8 : Value) (wq : World) : Prop :=
  ∃ k old, q = R.length - k ∧ k ≤ R.length ∧ v8 = .int .i64 (k : Nat) ∧ v7 = .bool old ∧ (old = true → 64 ≤ m ∨ x ∈ R.map nm) ∧ (old = false → m < 64 ∧ x ∉ (R.take k).map nm) ∧ Below wx.heap.size wx wq
theorem count0 (w : World) : CountAt (w.alloc (.cells #[.int .i64 0, .int .i64 0, .int .i64 0, .int .i64 0, .int .i64 0, .int .i64 0, .int .i64 0, .int .i64 0] 3)) w.heap.size ([] : List Nm) := by
  refine ⟨_, blk_alloc_self _ _ _ rfl, rfl, fun c hc => ?_⟩
  match c, hc with
  | 0, _ | 1, _ | 2, _ | 3, _ | 4, _ | 5, _ | 6, _ | 7, _ => rfl
theorem encS_len (s : Sv) : (encS s).length = 3 := rfl
theorem flat_getS : ∀ (l : List Sv) i x, l[i]? = some x → ∀ j, j < 3 → (l.flatMap encS)[i * 3 + j]? = (encS x)[j]? := by
  intro l
  induction l with
  | nil => intro i x h; simp at h
  | cons a r ih =>
    intro i x hx j hj
    have hl := encS_len a
    rw [List.flatMap_cons]
    match i with
    | 0 =>
      simp only [List.getElem?_cons_zero, Option.some.injEq] at hx
      subst hx
      rw [List.getElem?_append_left (by omega)]
      congr 1; omega
    | i + 1 =>
      rw [List.getElem?_append_right (by omega)]
      rw [List.getElem?_cons_succ] at hx
      rw [← ih i x hx j hj]
      congr 1; omega
theorem seat_row {w : World} {base g cap : Nat} {ts : List Sv} (h : w.ownsRow base 48 3 (.slice (some ⟨g, 0, none⟩) ts.length cap) ts.length (ts.flatMap encS)) (k : Nat) (hk : k < ts.length) :
    w.cell? ⟨g, k * 3, none⟩ = some (.int .i64 ts[k].c) ∧ w.cell? ⟨g, k * 3 + 1, none⟩ = some ts[k].v ∧ w.cell? ⟨g, k * 3 + 2, none⟩ = some (.bool ts[k].p) := by
  have key : ∀ j v, j < 3 → (encS ts[k])[j]? = some v → w.cell? ⟨g, k * 3 + j, none⟩ = some v := by
    intro j v hj hv
    have hc := h.cells (g := g) rfl (k * 3 + j) v (by rw [flat_getS ts k ts[k] (List.getElem?_eq_getElem hk) j hj]; exact hv)
    have ha : ((⟨g, 0, none⟩ : Addr).add (k * 3 + j)) = ⟨g, k * 3 + j, none⟩ := by unfold Addr.add; split <;> simp_all
    rw [ha] at hc
    exact hc
  exact ⟨key 0 _ (by omega) rfl, key 1 _ (by omega) rfl, key 2 _ (by omega) rfl⟩

set_option maxHeartbeats 2000000 in
set_option maxRecDepth 100000 in
theorem unlike_blk (g off cap n : Nat) (ss : List Sv) (w : World) (hn : ss.length = n) (hg : g < w.heap.size) (hl : n ≤ 9223372036854775807)
    (hc : ∀ i (h : i < ss.length), w.cell? ⟨g, off + i * 3, none⟩ = some (.int .i64 ss[i].c) ∧ w.cell? ⟨g, off + i * 3 + 1, none⟩ = some ss[i].v ∧ w.cell? ⟨g, off + i * 3 + 2, none⟩ = some (.bool ss[i].p))
    (hB : ∀ s ∈ ss, IsB w s.v s.t) :
    Calls Tryd.prog 12 #[.slice (some ⟨g, off, none⟩) n cap] w fun e w' => UnlikeLeft w ss e w' := by
  have hl' : (n : Int) ≤ 9223372036854775807 := by omega
  have HN := Lib.hid hn
  have HC := Lib.hid hc
  have HIS := Lib.hid hB
  have hmk := mk8
  obtain ⟨i9, hi, hz0, hz1, hz2⟩ := info_parts info48
  have HI9 := Lib.hid hi
  have HZ0 := Lib.hid hz0
  have HZ1 := Lib.hid hz1
  have HZ2 := Lib.hid hz2
  clear hn hc hB hl hi hz0 hz1 hz2
  go_enter Tryd.func12, Tryd.ntmps12
  go_wp2
  go_loopg [3, 5] n (fun g v3 v5 wr => RelU w ss n g v3 v5 wr)
  case atStart => exact ⟨0, [], by omega, by omega, rfl, World.ownsRow_nil _ _ _ _, ⟨by simp, by simp, fun c => by simp [cnt]⟩, count0 w, (Below.refl _ _).alloc (Nat.le_refl _) _, fun h => by omega, fun _ => rfl, by simp, by omega⟩
  case round =>
    obtain ⟨i, R, hgk, hin, rfl, hown, hgood, hcnt, hbel, hfst, hemp, hRi, hik⟩ := hrel
    obtain ⟨G, hGG⟩ : ∃ G, G = gk := ⟨_, rfl⟩
    subst hGG
    have HGK := Lib.hid hgk
    have HO := Lib.hid hown
    have HGOOD := Lib.hid hgood
    have HCNT := Lib.hid hcnt
    have HBEL := Lib.hid hbel
    have HFST := Lib.hid hfst
    have HEMP := Lib.hid hemp
    have HRI := Lib.hid hRi
    have HIK := Lib.hid hik
    have hin' : (i : Int) ≤ n := by omega
    have hik' : (i : Int) ≤ 1000 := by omega
    clear hgk hown hgood hcnt hbel hfst hemp hRi hik
    by_cases hlt : i < n
    · have hlt' : (i : Int) < n := by omega
      by_cases h1000 : i < 1000
      · have h1000' : (i : Int) < 1000 := by omega
        have hil : i < ss.length := by have := HN.out; omega
        obtain ⟨x0, x1, x2⟩ := HC.out i hil
        have q0 := (HBEL.out.cell (p := ⟨g, off + i * 3, none⟩) hg).trans x0
        have q1 := (HBEL.out.cell (p := ⟨g, off + i * 3 + 1, none⟩) hg).trans x1
        have q2 := (HBEL.out.cell (p := ⟨g, off + i * 3 + 2, none⟩) hg).trans x2
        obtain ⟨s, hs⟩ : ∃ s, ss[i] = s := ⟨_, rfl⟩
        rw [hs] at q0 q1 q2
        have hs' : ss[i]? = some s := by rw [List.getElem?_eq_getElem hil, hs]
        have hIs : IsB w s.v s.t := HIS.out s (List.mem_of_getElem? hs')
        have hfit := fit_any s wr w hIs
        obtain ⟨cc, hcc⟩ : ∃ cc : Nat, s.c % 8 = (cc : Int) := ⟨(s.c % 8).toNat, by have := Int.emod_nonneg s.c (show (8 : Int) ≠ 0 by decide); omega⟩
        have hcc8 : cc < 8 := by have := Int.emod_lt_of_pos s.c (show (0 : Int) < 8 by decide); omega
        unfold FitLeft at hfit
        rw [hcc] at hfit
        obtain ⟨sc, sv, st, sp⟩ := s
        simp only at q0 q1 q2 hfit hIs hcc
        have HFIT := Lib.hid hfit
        have HS := Lib.hid hs'
        have HISX := Lib.hid hIs
        have HCC := Lib.hid hcc
        clear hfit hs hs' hIs hcc x0 x1 x2 hil
        go_wp2_with fail
        refine HFIT.out.mono ?_
        rintro e w2 ⟨v', rfl, hib, hb2⟩
        obtain ⟨av, capv, rfl⟩ := hib.len
        have HIB := Lib.hid hib
        obtain ⟨tl, htl⟩ : ∃ tl, (st.take 64).length = tl := ⟨_, rfl⟩
        rw [htl] at HIB ⊢
        have HB2 := Lib.hid hb2
        have hlt0 := HCNT.out.lt
        have hcn2 : CountAt w2 w.heap.size (R.map nm) := HCNT.out.keep (hb2.block _ hlt0)
        have hcn3 : CountAt (w2.alloc (.cells #[.int .i64 (cc : Nat), .slice av tl capv, .bool sp] 48)) w.heap.size (R.map nm) := hcn2.keep (Below.heap_alloc _ _ _ hcn2.lt)
        have hcc8' : (cc : Int) < 8 := by omega
        have hcell : w2.cell? ⟨w.heap.size, cc, none⟩ = some (.int .i64 (cnt (R.map nm) cc : Nat)) := by
          obtain ⟨cs, h1, h2, h3⟩ := hcn2
          rw [cell_blk h1]; exact h3 cc hcc8
        have hltw : w.heap.size < w2.heap.size := hcn2.lt
        obtain ⟨m, hm⟩ : ∃ m, cnt (R.map nm) cc = m := ⟨_, rfl⟩
        rw [hm] at hcell
        have HM := Lib.hid hm
        have HC3 := Lib.hid hcn3
        have hwx : Below w.heap.size w (w2.alloc (.cells #[.int .i64 (cc : Nat), .slice av tl capv, .bool sp] 48)) := (HBEL.out.trans (hb2.mono (by have := HBEL.out.size; omega))).alloc (by have := HBEL.out.size; have := hb2.size; omega) _
        have HWX := Lib.hid hwx
        have HOLT := Lib.hid (fun q hq => ((ownsKept HO.out hb2).lt q hq).2)
        have HOX := Lib.hid ((ownsKept HO.out hb2).alloc (.cells #[.int .i64 (cc : Nat), .slice av tl capv, .bool sp] 48))
        obtain ⟨ao, capo, hvo⟩ := ownsRow_len HO.out
        subst hvo
        obtain ⟨L, hL⟩ : ∃ L, R.length = L := ⟨_, rfl⟩
        have HL := Lib.hid hL
        have hL' : (L : Int) ≤ 1000 := by have := HRI.out; have := HIK.out; omega
        rw [hL]
        clear hb2 hib hcn2 hcn3 hm hlt0 hwx hL
        have HTL := Lib.hid htl
        clear htl
        go_wp2
        go_loopg [7, 8] L (fun q v7 v8 wq => RelO (w2.alloc (.cells #[.int .i64 (cc : Nat), .slice av tl capv, .bool sp] 48)) R ⟨cc, st.take 64, sp⟩ m q v7 v8 wq)
        case atStart =>
          refine ⟨0, decide (64 ≤ m), by rw [HL.out]; rfl, by omega, rfl, ?_, fun h => Or.inl (of_decide_eq_true h), fun h => ⟨by have := of_decide_eq_false h; omega, by simp⟩, Below.refl _ _⟩
          congr 1; exact decide_eq_decide.2 (by omega)
        case round =>
          obtain ⟨k, old, hq, hkR, rfl, rfl, hold1, hold2, hbq⟩ := hrel
          have HQ := Lib.hid hq
          have HO1 := Lib.hid hold1
          have HO2 := Lib.hid hold2
          have HBQ := Lib.hid hbq
          have hkL : (k : Int) ≤ L := by have := HL.out; omega
          clear hq hold1 hold2 hbq
          by_cases hk : k < L
          · have hk' : (k : Int) < L := by omega
            have hkr : k < R.length := by have := HL.out; omega
            cases old
            · rcases HOX.out.2 with ⟨e1, e2⟩ | ⟨gr, capr, cur, hv, hg1, hg2, hg3, hg4, hg5, hg6⟩
              · exact absurd e2 (by omega)
              · have hao : ao = some ⟨gr, 0, none⟩ := by injection hv
                subst hao
                obtain ⟨y0, y1, y2⟩ := seat_row HOX.out k hkr
                have hgx : gr < ((w2.alloc (.cells #[.int .i64 (cc : Nat), .slice av tl capv, .bool sp] 48))).heap.size := (Array.getElem?_eq_some_iff.1 hg2).1
                have z0 := (HBQ.out.cell (p := ⟨gr, k * 3, none⟩) hgx).trans y0
                have z1 := (HBQ.out.cell (p := ⟨gr, k * 3 + 1, none⟩) hgx).trans y1
                have z2 := (HBQ.out.cell (p := ⟨gr, k * 3 + 2, none⟩) hgx).trans y2
                have hxs : w2.heap.size < ((w2.alloc (.cells #[.int .i64 (cc : Nat), .slice av tl capv, .bool sp] 48))).heap.size := by simp
                have y3 : wr.cell? ⟨w2.heap.size, 0, none⟩ = some (.int .i64 (cc : Nat)) := (HBQ.out.cell (p := ⟨w2.heap.size, 0, none⟩) hxs).trans (World.cell?_alloc_new w2 _ _ _)
                have y4 : wr.cell? ⟨w2.heap.size, 1, none⟩ = some (.slice av tl capv) := (HBQ.out.cell (p := ⟨w2.heap.size, 1, none⟩) hxs).trans (World.cell?_alloc_new w2 _ _ _)
                have y5 : wr.cell? ⟨w2.heap.size, 2, none⟩ = some (.bool sp) := (HBQ.out.cell (p := ⟨w2.heap.size, 2, none⟩) hxs).trans (World.cell?_alloc_new w2 _ _ _)
                obtain ⟨r, hr⟩ : ∃ r, R[k] = r := ⟨_, rfl⟩
                rw [hr] at z0 z1 z2
                have hgr := (HGOOD.out.is r (by rw [← hr]; exact List.getElem_mem hkr)).1
                have hbw := (HWX.out.trans (HBQ.out.mono HWX.out.size)).drew
                have hrc := (HGOOD.out.is r (by rw [← hr]; exact List.getElem_mem hkr)).2.1
                have hsm := same_any r ⟨cc, .slice av tl capv, st.take 64, sp⟩ wr.drew (hgr.below hbw) (HIB.out.below hbw)
                obtain ⟨b, hb⟩ : ∃ b, decide (r.c = (cc : Int) ∧ r.p = sp ∧ r.t = st.take 64) = b := ⟨_, rfl⟩
                rw [hb] at hsm
                have HSM := Lib.hid hsm
                have HBB := Lib.hid hb
                have HRC := Lib.hid hrc
                have HKR : Hid (k + 1 ≤ R.length) := Lib.hid hkr
                have hgx' : gr < wr.heap.size := Nat.lt_of_lt_of_le hgx HBQ.out.size
                have hcap' : (L : Int) ≤ capo := by injection hv with _ _ e3; have := HL.out; omega
                have hr' : R[k]? = some r := by rw [List.getElem?_eq_getElem hkr, hr]
                have HR := Lib.hid hr'
                clear hsm hb hrc hr hr' hkr hgr hbw y0 y1 y2 hg1 hg2 hg3 hg4 hg5 hg6 hv hgx hxs
                go_wp2
                refine wp_region_st 5 hmix (by kernel_rfl) ?_
                simp only [List.take_succ_cons, List.take_zero, List.drop_succ_cons, List.drop_zero]
                repeat still_step
                refine wpStill_nil ?_
                go_wp2_with fail
                refine HSM.out.mono ?_
                rintro e w4 ⟨rfl, hb4⟩
                have HB4 := Lib.hid hb4
                clear hb4
                go_wp2
                go_roundg (L - (k + 1))
                case measure => have := HQ.out; have := HL.out; omega
                case rel =>
                  have hx : (nm r = ⟨cc, st.take 64, sp⟩) ↔ (r.c = (cc : Int) ∧ r.p = sp ∧ r.t = st.take 64) := by
                    have := HRC.out
                    unfold nm
                    simp only [Nm.mk.injEq]
                    constructor
                    · rintro ⟨a, b, c⟩; exact ⟨by omega, c, b⟩
                    · rintro ⟨a, b, c⟩; exact ⟨by omega, c, b⟩
                  refine ⟨k + 1, b, by have := HL.out; omega, HKR.out, by first | rfl | go_num, rfl, fun h => Or.inr ?_, fun h => ⟨(HO2.out trivial).1, ?_⟩, (HBQ.out.drew).trans (HB4.out.mono HBQ.out.size)⟩
                  · rw [← HBB.out] at h
                    rw [← hx.2 (of_decide_eq_true h)]
                    exact List.mem_map_of_mem (List.mem_of_getElem? HR.out)
                  · rw [← HBB.out] at h
                    have h' := of_decide_eq_false h
                    rw [List.take_add_one, HR.out, List.map_append, List.mem_append]
                    rintro (h5 | h5)
                    · exact (HO2.out trivial).2 h5
                    · simp only [Option.toList, List.map_cons, List.map_nil, List.mem_singleton] at h5
                      exact h' (hx.1 h5.symm)
            · have HT := Lib.hid (show R ≠ [] from fun h0 => by
                have hm := HM.out
                rcases HO1.out (by first | rfl | trivial) with h | h
                · rw [h0] at hm; have : cnt ([] : List Nm) cc = 0 := rfl; rw [List.map_nil] at hm; omega
                · rw [h0] at h; simp at h)
              go_wp2
              go_roundg (n - (i + 1))
              case measure => have := HGK.out; omega
              case rel =>
                refine ⟨i + 1, R, rfl, by omega, by first | rfl | go_num, by first | exact ownsKept HOX.out HBQ.out | (rw [← HL.out] ; exact ownsKept HOX.out HBQ.out), HGOOD.out, HC3.out.keep (HBQ.out.block _ HC3.out.lt), HWX.out.trans (HBQ.out.mono HWX.out.size), fun _ => ?_, fun h => by omega, by have := HRI.out; omega, by omega⟩
                refine HFST.out ?_
                rcases Nat.eq_zero_or_pos i with h | h
                · exact absurd (HEMP.out h) HT.out
                · exact h
          · have hk' : (L : Int) ≤ k := by omega
            have hkd : decide (k < L) = false := by rw [decide_eq_false_iff_not]; omega
            have hkd' : decide ((k : Int) < L) = false := by rw [decide_eq_false_iff_not]; omega
            cases old
            · have HX := Lib.hid (show (⟨cc, st.take 64, sp⟩ : Nm) ∉ R.map nm from by
                have := (HO2.out (by first | rfl | trivial)).2
                rwa [List.take_of_length_le (by have := HL.out; omega)] at this)
              have HM64 := Lib.hid (show m < 64 from (HO2.out (by first | rfl | trivial)).1)
              have HOW := Lib.hid (ownsKept HOX.out HBQ.out)
              have HXN := Lib.hid (show ∀ q, (Value.slice ao R.length capo).ownBlock = some q → q < w2.heap.size from fun q hq => (HOLT.out q hq))
              have hxs : w2.heap.size < (w2.alloc (.cells #[.int .i64 (cc : Nat), .slice av tl capv, .bool sp] 48)).heap.size := by simp
              have y3 : wr.cell? ⟨w2.heap.size, 0, none⟩ = some (.int .i64 (cc : Nat)) := (HBQ.out.cell (p := ⟨w2.heap.size, 0, none⟩) hxs).trans (World.cell?_alloc_new w2 _ _ _)
              have y4 : wr.cell? ⟨w2.heap.size, 1, none⟩ = some (.slice av tl capv) := (HBQ.out.cell (p := ⟨w2.heap.size, 1, none⟩) hxs).trans (World.cell?_alloc_new w2 _ _ _)
              have y5 : wr.cell? ⟨w2.heap.size, 2, none⟩ = some (.bool sp) := (HBQ.out.cell (p := ⟨w2.heap.size, 2, none⟩) hxs).trans (World.cell?_alloc_new w2 _ _ _)
              have HCW := Lib.hid (HC3.out.keep (HBQ.out.block _ HC3.out.lt))
              have HBW := Lib.hid (HWX.out.trans (HBQ.out.mono HWX.out.size))
              have hxw : w2.heap.size < wr.heap.size := Nat.lt_of_lt_of_le hxs HBQ.out.size
              have HY := Lib.hid (And.intro y3 (And.intro y4 y5))
              have HLR := Lib.hid (show R.length ≤ 1000 from by have := HRI.out; have := HIK.out; omega)
              clear hxs
              go_wp2_with (at_builtin; refine wpList_append_own _ rfl _ _ 43 rfl w.heap.size 48 i9 (.agg #[.int .i64 0, .slice none 0 0, .bool false]) 3 40 und43 HI9.out HZ0.out HZ1.out HZ2.out rfl (by decide) _ _ _ (by rw [← HL.out]; rfl) (HOW.out.alloc _) ⟨wr.heap.size, 0, none⟩ 1 1 [.int .i64 (cc : Nat), .slice av tl capv, .bool sp] rfl rfl ?c1 ?c2 ?c3 ?c4 ?c5 ?_)
              try (case c1 => exact three_cells _ _ _ _ _)
              case c2 => first | exact ⟨rfl, rfl, rfl⟩ | (intro u hu; simp only [List.mem_cons, List.not_mem_nil, or_false] at hu; rcases hu with rfl | rfl | rfl <;> rfl)
              case c3 => have := HLR.out; unfold maxLen; omega
              case c4 => have := HLR.out; omega
              case c5 => have := HBW.out.size; (try simp at this); simp; omega
              intro v3 w3 hown3 hgr3 hiff
              have hnx : some w2.heap.size ≠ (Value.slice ao R.length capo).ownBlock := fun e => by have := HXN.out _ e.symm; omega
              have hnb : some w.heap.size ≠ (Value.slice ao R.length capo).ownBlock := fun e => HCW.out.ne HOW.out e.symm
              rw [HL.out] at hnx hnb
              have hkx : w3.heap[w2.heap.size]? = wr.heap[w2.heap.size]? := by
                rw [hgr3.block _ (by simp; omega) (by first | exact hnx | (rw [HL.out]; exact hnx))]; exact Below.heap_alloc _ _ _ hxw
              have hkb : w3.heap[w.heap.size]? = wr.heap[w.heap.size]? := by
                rw [hgr3.block _ (by have := HCW.out.lt; simp; omega) (by first | exact hnb | (rw [HL.out]; exact hnb))]; exact Below.heap_alloc _ _ _ HCW.out.lt
              have hcw3 := HCW.out.keep hkb
              have z0 : w3.cell? ⟨w2.heap.size, 0, none⟩ = some (.int .i64 (cc : Nat)) := (World.cell?_of_block (a := ⟨w2.heap.size, 0, none⟩) hkx).trans HY.out.1
              have HC3W := Lib.hid hcw3
              have HO3 := Lib.hid hown3
              have HB3 := Lib.hid ((HBW.out.alloc HBW.out.size (.cells #[.int .i64 (cc : Nat), .slice av tl capv, .bool sp] 48)).grown hgr3 (by have := HBW.out.size; simp; omega) (fun q hq => (HOW.out.lt q (by first | exact hq | (rw [HL.out]; exact hq))).1))
              obtain ⟨cs, e1, e2, e3⟩ := hcw3
              have hcell3 : w3.cell? ⟨w.heap.size, cc, none⟩ = some (.int .i64 (m : Nat)) := by rw [cell_blk e1, ← HM.out]; exact e3 cc hcc8
              have hfr3 := frozen_blk e1 cc
              have hm64 : (m : Int) < 64 := by have := HM64.out; omega
              have HE1 := Lib.hid e1
              have HE2 := Lib.hid e2
              have HE3 := Lib.hid e3
              clear hown3 hgr3 hiff hnx hnb hkx hkb e1 e2 e3 y3 y4 y5
              go_wp2
              go_roundg (n - (i + 1))
              case measure => have := HGK.out; omega
              case rel =>
                have hnx : nm ⟨(cc : Int), .slice av tl capv, st.take 64, sp⟩ = ⟨cc, st.take 64, sp⟩ := rfl
                have hmap : (R ++ [(⟨(cc : Int), .slice av tl capv, st.take 64, sp⟩ : Sv)]).map nm = R.map nm ++ [⟨cc, st.take 64, sp⟩] := by rw [List.map_append]; rfl
                have hown : (w3.setCell ⟨w.heap.size, cc, none⟩ (.int .i64 ((m : Int) + 1))).ownsRow w.heap.size 48 3 v3 (R ++ [(⟨(cc : Int), .slice av tl capv, st.take 64, sp⟩ : Sv)]).length ((R ++ [(⟨(cc : Int), .slice av tl capv, st.take 64, sp⟩ : Sv)]).flatMap encS) := by
                  refine ownsRow_ch (S := fun k => k = w.heap.size) (w := w3) ?_ (Ch.setCell (S := fun k => k = w.heap.size) (Ch.refl _ w3) (fun _ => rfl) _) (fun q hq e => HC3W.out.ne HO3.out (by rw [hq, e]))
                  have := HO3.out
                  simpa [encS, HL.out] using this
                have hcount : CountAt (w3.setCell ⟨w.heap.size, cc, none⟩ (.int .i64 ((m : Int) + 1))) w.heap.size (R.map nm ++ [⟨cc, st.take 64, sp⟩]) := by
                  refine ⟨cs.setIfInBounds cc (.int .i64 ((m : Int) + 1)), blk_setCell_self _ _ _ _ _ _ _ HE1.out, by rw [Array.size_setIfInBounds]; exact HE2.out, fun c hc => ?_⟩
                  rw [Array.getElem?_setIfInBounds, cnt_snoc]
                  by_cases e : cc = c
                  · subst e
                    have hsz := HE2.out
                    rw [if_pos rfl, if_pos (by omega), if_pos rfl, HM.out]; rfl
                  · rw [if_neg e, if_neg (fun h => e h.symm)]
                    exact HE3.out c hc
                refine ⟨i + 1, _, rfl, by omega, by first | rfl | go_num, hown, ⟨fun x hx => ?_, ?_, fun c => ?_⟩, by rw [hmap]; exact hcount, HB3.out.setCell (Nat.le_refl _) _, fun _ s0 r hs0 => ?_, fun h => by omega, by have := HRI.out; simp; omega, by omega⟩
                · rcases List.mem_append.1 hx with h | h
                  · exact HGOOD.out.is x h
                  · rw [List.mem_singleton] at h
                    subst h
                    exact ⟨HIB.out, by simp, by simpa using hcc8', by rw [List.length_take]; omega⟩
                · rw [hmap, List.nodup_append]
                  refine ⟨HGOOD.out.nodup, by simp, fun a ha b hb => ?_⟩
                  rw [List.mem_singleton] at hb
                  subst hb
                  intro e
                  subst e
                  exact HX.out ha
                · rw [hmap, cnt_snoc]
                  have h1 := HGOOD.out.cnt c
                  split
                  · rename_i e
                    have e' : c = cc := e
                    subst e'
                    have := HM.out
                    have := HM64.out
                    omega
                  · exact h1
                · rcases Nat.eq_zero_or_pos i with h | h
                  · have hR := HEMP.out h
                    have hss := HS.out
                    rw [h, hs0] at hss
                    simp only [List.getElem?_cons_zero, Option.some.injEq] at hss
                    refine ⟨_, [], by rw [hR]; rfl, ?_⟩
                    rw [hss]
                    have hcc' := HCC.out
                    unfold fitN
                    simp only
                    rw [hcc']
                    rfl
                  · obtain ⟨s1, r', h1, h2⟩ := HFST.out h s0 r hs0
                    exact ⟨s1, r' ++ [_], by rw [h1]; rfl, h2⟩
            · have HT := Lib.hid (show R ≠ [] from fun h0 => by
                have hm := HM.out
                rcases HO1.out (by first | rfl | trivial) with h | h
                · rw [h0] at hm; have : cnt ([] : List Nm) cc = 0 := rfl; rw [List.map_nil] at hm; omega
                · rw [h0] at h; simp at h)
              go_wp2
              go_roundg (n - (i + 1))
              case measure => have := HGK.out; omega
              case rel =>
                refine ⟨i + 1, R, rfl, by omega, by first | rfl | go_num, by first | exact ownsKept HOX.out HBQ.out | (rw [← HL.out] ; exact ownsKept HOX.out HBQ.out), HGOOD.out, HC3.out.keep (HBQ.out.block _ HC3.out.lt), HWX.out.trans (HBQ.out.mono HWX.out.size), fun _ => ?_, fun h => by omega, by have := HRI.out; omega, by omega⟩
                refine HFST.out ?_
                rcases Nat.eq_zero_or_pos i with h | h
                · exact absurd (HEMP.out h) HT.out
                · exact h
      · have h1000' : (1000 : Int) ≤ i := by omega
        have hd1 : decide ((i : Int) < 1000) = false := by rw [decide_eq_false_iff_not]; omega
        have hd2 : decide (i < 1000) = false := by rw [decide_eq_false_iff_not]; omega
        have HBI := Lib.hid (show 0 < i ∨ ss = [] from by
          exact Or.inl (by omega))
        go_wp2
        go_ret
        refine ⟨_, R, rfl, HO.out, HGOOD.out, fun s0 r hs0 => ?_, by have := HRI.out; omega, HBEL.out⟩
        rcases HBI.out with h | h
        · exact HFST.out h s0 r hs0
        · rw [h] at hs0; cases hs0
    · have hlt' : (n : Int) ≤ i := by omega
      have hd1 : decide ((i : Int) < n) = false := by rw [decide_eq_false_iff_not]; omega
      have hd2 : decide (i < n) = false := by rw [decide_eq_false_iff_not]; omega
      have HBI := Lib.hid (show 0 < i ∨ ss = [] from by
        by_cases h0 : 0 < i
        · exact Or.inl h0
        · exact Or.inr (List.eq_nil_of_length_eq_zero (by have := HN.out; omega)))
      go_wp2
      go_ret
      refine ⟨_, R, rfl, HO.out, HGOOD.out, fun s0 r hs0 => ?_, by have := HRI.out; omega, HBEL.out⟩
      rcases HBI.out with h | h
      · exact HFST.out h s0 r hs0
      · rw [h] at hs0; cases hs0
end Go.Proofs.YtgfldammdcocmaaDoor
