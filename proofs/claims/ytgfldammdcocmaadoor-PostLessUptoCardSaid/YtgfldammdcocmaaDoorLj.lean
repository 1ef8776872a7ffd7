import Derived.Test.YtgfldammdcocmaaDoorLg
import Derived.Laws.OwnMore
import Derived.Laws.AppendOwnNone
namespace Go.Proofs.YtgfldammdcocmaaDoor
open Go.RowKit Go.Sort

theorem encS_flat_len (l : List Sv) : (l.flatMap encS).length = l.length * 3 := by
  induction l with
  | nil => rfl
  | cons a r ih => rw [List.flatMap_cons, List.length_append, ih, encS_len, List.length_cons]; omega

def Stop (p : Prop) : Prop := p
theorem stop_intro {p : Prop} (h : Stop p) : p := h

/-- append(own seats, seats...). -/
theorem wpList_append_seats {ops : Array Oper} {rest : List Oper} {o : Oper} {a : Act} {Q : Exit → Act → World → Prop} {w : World} (hgd : o.guard = none) (s x : Operand)
    (ho : o.op = .call { callee := .builtin .append, args := #[s, x], argTypes := #[43, 43] }) (base : Nat) (v : Value) (n : Nat) (xs : List Value) (hs : a.eval s = v) (hown : w.ownsRow base 48 3 v n xs)
    (vs : Value) (ss : List Sv) (hx : a.eval x = vs) (hS : SeatsAt w vs ss) (hf : vs = .slice none 0 0 ∨ ∃ ad k c, vs = .slice (some ad) k c) (hI : ∀ s ∈ ss, IsB w s.v s.t) (hn : n + ss.length ≤ 2097152) (hbase : base ≤ w.heap.size)
    (h : ∀ v' w', w'.ownsRow base 48 3 v' (n + ss.length) (xs ++ ss.flatMap encS) → w.grownBy w' v.ownBlock → wpList Tryd.prog ops Q rest (a.put o.dst v') w') : wpList Tryd.prog ops Q (o :: rest) a w := by
  obtain ⟨i9, hi, hz0, hz1, hz2⟩ := info_parts info48
  rcases hf with rfl | ⟨ad, k, c, rfl⟩
  · have h0 : ss = [] := by
      rcases hS with ⟨_, _, _, e⟩ | ⟨g, off, cap, e, _⟩
      · exact e
      · cases e
    subst h0
    refine wpList_append_own_none hgd s x 43 ho base 48 i9 3 und43 hi v n xs hs hown hx ?_
    exact h v w (by simpa using hown) (World.grownBy.refl w _)
  · obtain ⟨a', cap', e, _⟩ := hS.len
    have hk : k = ss.length := by injection e
    subst hk
    refine wpList_append_own w hgd s x 43 ho base 48 i9 (.agg #[.int .i64 0, .slice none 0 0, .bool false]) 3 40 und43 hi hz0 hz1 hz2 rfl (by decide) v n xs hs hown ad ss.length c (ss.flatMap encS) hx (encS_flat_len ss) ?_ ?_ (by unfold maxLen; omega) (by omega) hbase
      (fun v' w' h1 h2 _ => h v' w' h1 h2)
    · intro j u hj
      have hjl : j < ss.length * 3 := by rw [← encS_flat_len]; exact (List.getElem?_eq_some_iff.1 hj).1
      have hi3 : j / 3 < ss.length := by omega
      obtain ⟨g, off, ha, _, c0, c1, c2⟩ := hS.get hi3
      have hsp : ad = ⟨g, off, none⟩ := by injection ha
      subst hsp
      have hfl := flat_getS ss (j / 3) ss[j / 3] (List.getElem?_eq_getElem hi3) (j % 3) (by omega)
      rw [show j / 3 * 3 + j % 3 = j by omega, hj] at hfl
      have hadd : (⟨g, off, none⟩ : Addr).add j = ⟨g, off + j, none⟩ := by unfold Addr.add; split <;> simp_all
      rw [hadd]
      have h3 : j % 3 = 0 ∨ j % 3 = 1 ∨ j % 3 = 2 := by omega
      rcases h3 with e3 | e3 | e3
      · rw [e3] at hfl
        rw [show off + j = off + j / 3 * 3 by omega, c0, hfl]; rfl
      · rw [e3] at hfl
        rw [show off + j = off + j / 3 * 3 + 1 by omega, c1, hfl]; rfl
      · rw [e3] at hfl
        rw [show off + j = off + j / 3 * 3 + 2 by omega, c2, hfl]; rfl
    · intro u hu
      obtain ⟨s, hsm, hus⟩ := List.mem_flatMap.1 hu
      obtain ⟨av, capv, hv⟩ := (hI s hsm).len
      simp only [encS, List.mem_cons, List.not_mem_nil, or_false] at hus
      rcases hus with rfl | rfl | rfl
      · rfl
      · rw [hv]; rfl
      · rfl

theorem GoodR.sub {w : World} {R R' : List Sv} (h : GoodR w R) (hs : R'.Sublist R) : GoodR w R' := by
  refine ⟨fun s hm => h.is s (hs.subset hm), h.nodup.sublist (hs.map nm), fun c => ?_⟩
  exact Nat.le_trans ((hs.map nm).filter (fun n => decide (n.c = c))).length_le (h.cnt c)

/-- three Posts of their own, made one behind the other behind W. -/
structure Tri (W wr : World) (A B p mp q mq o mo : Nat) (S S' S'' : List Nm) : Prop where
  bel : Below W.heap.size W wr
  pa : PostAt wr p mp S
  qa : PostAt wr q mq S'
  oa : PostAt wr o mo S''
  h1 : W.heap.size ≤ p
  h2 : W.heap.size ≤ mp
  h3 : p < A
  h4 : mp < A
  h5 : A ≤ q
  h6 : A ≤ mq
  h7 : q < B
  h8 : mq < B
  h9 : B ≤ o
  h10 : B ≤ mo
theorem Tri.below {W wr w' : World} {A B p mp q mq o mo : Nat} {S S' S'' : List Nm} (h : Tri W wr A B p mp q mq o mo S S' S'') (hb : Below wr.heap.size wr w') : Tri W w' A B p mp q mq o mo S S' S'' :=
  ⟨h.bel.trans (hb.mono h.bel.size), h.pa.below hb, h.qa.below hb, h.oa.below hb, h.h1, h.h2, h.h3, h.h4, h.h5, h.h6, h.h7, h.h8, h.h9, h.h10⟩
theorem Tri.chp {W wr w' : World} {A B p mp q mq o mo : Nat} {S S' S'' T : List Nm} (h : Tri W wr A B p mp q mq o mo S S' S'') (hc : Ch (fun k => k = p ∨ k = mp) wr w') (hp : PostAt w' p mp T) : Tri W w' A B p mp q mq o mo T S' S'' := by
  obtain ⟨bel, pa, qa, oa, h1, h2, h3, h4, h5, h6, h7, h8, h9, h10⟩ := h
  refine ⟨⟨hc.os.trans bel.os, hc.tape.trans bel.tape, hc.output.trans bel.output, Nat.le_trans bel.size hc.size, fun k hk => ?_⟩, hp, qa.keep hc (by omega) (by omega), oa.keep hc (by omega) (by omega), h1, h2, h3, h4, h5, h6, h7, h8, h9, h10⟩
  have := bel.size
  exact (hc.block k (by omega) (by omega)).trans (bel.block k hk)
theorem Tri.chq {W wr w' : World} {A B p mp q mq o mo : Nat} {S S' S'' T : List Nm} (h : Tri W wr A B p mp q mq o mo S S' S'') (hc : Ch (fun k => k = q ∨ k = mq) wr w') (hq : PostAt w' q mq T) : Tri W w' A B p mp q mq o mo S T S'' := by
  obtain ⟨bel, pa, qa, oa, h1, h2, h3, h4, h5, h6, h7, h8, h9, h10⟩ := h
  refine ⟨⟨hc.os.trans bel.os, hc.tape.trans bel.tape, hc.output.trans bel.output, Nat.le_trans bel.size hc.size, fun k hk => ?_⟩, pa.keep hc (by omega) (by omega), hq, oa.keep hc (by omega) (by omega), h1, h2, h3, h4, h5, h6, h7, h8, h9, h10⟩
  have := bel.size
  exact (hc.block k (by omega) (by omega)).trans (bel.block k hk)

def rest (R : List Sv) (c i : Nat) : List Sv := (R.take i).filter (fun s => decide (s.c ≠ (c : Int)))
theorem rest_yes {R : List Sv} {c i : Nat} {s : Sv} (h : R[i]? = some s) (hc : s.c ≠ (c : Int)) : rest R c (i + 1) = rest R c i ++ [s] := by
  simp [rest, List.take_add_one, h, List.filter_append, hc]
theorem rest_no {R : List Sv} {c i : Nat} {s : Sv} (h : R[i]? = some s) (hc : s.c = (c : Int)) : rest R c (i + 1) = rest R c i := by
  simp [rest, List.take_add_one, h, List.filter_append, hc]
theorem rest_sub (R : List Sv) (c i : Nat) : (rest R c i).Sublist R := (List.filter_sublist).trans (List.take_sublist _ _)
theorem rest_map {w : World} {R : List Sv} (h : GoodR w R) {c i : Nat} (hi : R.length ≤ i) : (rest R c i).map nm = (R.map nm).filter (fun x => decide (x.c ≠ c)) := by
  unfold rest
  rw [List.take_of_length_le hi, List.filter_map]
  congr 1
  apply List.filter_congr
  intro s hs
  obtain ⟨n, hn, hc, _⟩ := h.name hs
  simp only [Function.comp, hn, hc]
  congr 1
  simp only [ne_eq, eq_iff_iff]
  omega
theorem cntI_le {w : World} {pb mb : Nat} {S : List Nm} (h : PostAt w pb mb S) (c : Int) : cntI S c ≤ 64 := by
  unfold cntI
  split
  · exact h.room _
  · omega

set_option maxHeartbeats 4000000 in
set_option maxRecDepth 100000 in
theorem less_any (v chv : Value) (ss : List Sv) (ch : List UInt8) (I N : Int) (w : World) (h : Ask w v chv ss ch) (hf : v = .slice none 0 0 ∨ ∃ ad k c, v = .slice (some ad) k c) (hss : ss.length ≤ 1048576) :
    Calls Tryd.prog 5 #[.agg #[v, chv, .int .i64 I, .int .i64 N]] w fun e w' => e = .returned (.bool true) ∧ Below w.heap.size w w' := by
  obtain ⟨i9, hi, hz0, hz1, hz2⟩ := info_parts info48
  have HI9 := Lib.hid hi
  have HZ0 := Lib.hid hz0
  have HZ1 := Lib.hid hz1
  have HZ2 := Lib.hid hz2
  have HA := Lib.hid h
  have HF := Lib.hid hf
  have HSS := Lib.hid hss
  have hcv := Lib.run_convert_bytes_const (P := Tryd.prog) (w.alloc (.cells #[v, chv, .int .i64 I, .int .i64 N] 45)) 38 5 #[.int .u8 121] 1 1 Tryd.underlying38 Tryd.underlying5
  have hsz : (w.alloc (.cells #[v, chv, .int .i64 I, .int .i64 N] 45)).heap.size = w.heap.size + 1 := by simp
  rw [hsz] at hcv
  have hcs : (#[Value.int .u8 121] : Array Value).size = 1 := rfl
  rw [hcs] at hcv
  clear h hi hz0 hz1 hz2 hf hss hsz hcs
  go_enter Tryd.func5, Tryd.ntmps5
  have hb1 : Below (w.heap.size + 1) (w.alloc (.cells #[v, chv, .int .i64 I, .int .i64 N] 45)) (((w.alloc (.cells #[v, chv, .int .i64 I, .int .i64 N] 45)).alloc (.cells #[.int .u8 121] 5 (1, 2))).alloc (.cells #[.int .i64 4, .slice (some ⟨w.heap.size + 1, 0, none⟩) 1 1, .bool true] 48)) :=
    ((Below.refl _ _).alloc (by simp) _).alloc (by simp) _
  have hb0 : Below w.heap.size w (((w.alloc (.cells #[v, chv, .int .i64 I, .int .i64 N] 45)).alloc (.cells #[.int .u8 121] 5 (1, 2))).alloc (.cells #[.int .i64 4, .slice (some ⟨w.heap.size + 1, 0, none⟩) 1 1, .bool true] 48)) :=
    ((Below.refl w.heap.size w).alloc (Nat.le_refl _) _).trans (hb1.mono (by omega))
  have HB0 := Lib.hid hb0
  have HB1 := Lib.hid hb1
  have hlit : (((w.alloc (.cells #[v, chv, .int .i64 I, .int .i64 N] 45)).alloc (.cells #[.int .u8 121] 5 (1, 2))).alloc (.cells #[.int .i64 4, .slice (some ⟨w.heap.size + 1, 0, none⟩) 1 1, .bool true] 48)).ownsRow (w.heap.size + 1) 48 3 (.slice (some ⟨w.heap.size + 1 + 1, 0, none⟩) 1 1) 1 [.int .i64 4, .slice (some ⟨w.heap.size + 1, 0, none⟩) 1 1, .bool true] := by
    have := World.ownsRow_lit (base := w.heap.size + 1) (e := 48) (size := 3) ((w.alloc (.cells #[v, chv, .int .i64 I, .int .i64 N] 45)).alloc (.cells #[.int .u8 121] 5 (1, 2))) #[.int .i64 4, .slice (some ⟨w.heap.size + 1, 0, none⟩) 1 1, .bool true] 1 (by simp) (by decide) rfl
    simpa using this
  have HLIT := Lib.hid hlit
  clear hb0 hb1 hlit
  go_wp2_with (at_builtin; refine stop_intro ?_)
  unfold Stop
  refine wpList_append_seats rfl _ _ rfl (w.heap.size + 1) (.slice (some ⟨w.heap.size + 1 + 1, 0, none⟩) 1 1) 1 _ rfl HLIT.out v ss rfl (HA.out.seats.below HB0.out) HF.out (fun s hs => (HA.out.is s hs).below HB0.out) (by have := HSS.out; omega) (by simp; try omega) ?_
  intro v2 w2 hown2 hgr2
  have hgr2' : ∀ k, k < w.heap.size + 3 → k ≠ w.heap.size + 2 → w2.heap[k]? = (((w.alloc (.cells #[v, chv, .int .i64 I, .int .i64 N] 45)).alloc (.cells #[.int .u8 121] 5 (1, 2))).alloc (.cells #[.int .i64 4, .slice (some ⟨w.heap.size + 1, 0, none⟩) 1 1, .bool true] 48)).heap[k]? := fun k hk hne => hgr2.block k (by simp; omega) (fun e => by simp only [Value.ownBlock, Option.some.injEq] at e; omega)
  have hsz2 : w.heap.size + 3 ≤ w2.heap.size := by have := hgr2.size; simp at this; omega
  have hb02 : Below (w.heap.size + 1) (w.alloc (.cells #[v, chv, .int .i64 I, .int .i64 N] 45)) w2 := HB1.out.grown hgr2 (by simp; try omega) (fun q hq => by simp only [Value.ownBlock, Option.some.injEq] at hq; omega)
  have hbw2 : Below w.heap.size w w2 := ((Below.refl w.heap.size w).alloc (Nat.le_refl _) _).trans (hb02.mono (by omega))
  have hbyt : BytesAt w2 (w.heap.size + 1) 0 [121] := by
    intro j hj
    have : j = 0 := by simpa using hj
    subst this
    rw [World.cell?_of_block (a := ⟨w.heap.size + 1, 0 + 0, none⟩) (hgr2' (w.heap.size + 1) (by omega) (by omega))]
    rw [World.cell?_of_block (w := (w.alloc (.cells #[v, chv, .int .i64 I, .int .i64 N] 45)).alloc (.cells #[.int .u8 121] 5 (1, 2))) (a := ⟨w.heap.size + 1, 0 + 0, none⟩) (Below.heap_alloc _ _ _ (by simp))]
    have h1 := World.cell?_alloc_mark (w.alloc (.cells #[v, chv, .int .i64 I, .int .i64 N] 45)) #[.int .u8 121] 5 (1, 2) 0
    have h2 : (w.alloc (.cells #[v, chv, .int .i64 I, .int .i64 N] 45)).heap.size = w.heap.size + 1 := by simp
    rw [h2] at h1
    rw [h1]; rfl
  have hs2 : SeatsAt w2 v2 (⟨4, .slice (some ⟨w.heap.size + 1, 0, none⟩) 1 1, [121], true⟩ :: ss) := seatsAt_own (base := w.heap.size + 1) (by
    rw [List.length_cons, Nat.add_comm ss.length 1]
    simpa [encS] using hown2)
  have hi2 : ∀ s ∈ (⟨4, .slice (some ⟨w.heap.size + 1, 0, none⟩) 1 1, [121], true⟩ : Sv) :: ss, IsB w2 s.v s.t := by
    intro s hs
    rcases List.mem_cons.1 hs with h | h
    · subst h
      exact Or.inr ⟨w.heap.size + 1, 0, 1, rfl, hbyt, by omega, by simp, by decide⟩
    · exact (HA.out.is s h).below hbw2
  have HS2 := Lib.hid hs2
  have HI2 := Lib.hid hi2
  have HB02 := Lib.hid hb02
  clear hs2 hi2 hb02 hbyt hgr2 hgr2' hown2 hbw2
  go_wp2_with fail
  refine (unlike_any v2 _ _ HS2.out HI2.out).mono ?_
  rintro e w3 ⟨v3, R, rfl, ho3, hg3, hf3, hl3, hb3⟩
  obtain ⟨s1, r', hR1, hnm1⟩ := hf3 _ _ rfl
  have hin4 : (⟨4, [121], true⟩ : Nm) ∈ R.map nm := by
    rw [hR1, List.map_cons, hnm1]
    exact List.mem_cons_self
  have HIN4 := Lib.hid hin4
  obtain ⟨a3, c3, rfl⟩ := ownsRow_len ho3
  have hb03 : Below (w.heap.size + 1) (w.alloc (.cells #[v, chv, .int .i64 I, .int .i64 N] 45)) w3 := HB02.out.trans (hb3.mono (by have := HB02.out.size; simp at this; omega))
  have hbw3 : Below w.heap.size w w3 := ((Below.refl w.heap.size w).alloc (Nat.le_refl _) _).trans (hb03.mono (by omega))
  have hcell : ∀ k, w3.cell? ⟨w.heap.size, k, none⟩ = #[v, chv, .int .i64 I, .int .i64 N][k]? := fun k => by
    rw [hb03.cell (p := ⟨w.heap.size, k, none⟩) (by simp), World.cell?_alloc_new]
  have HBASE : Hid (Base w w3 (.slice a3 R.length c3) chv R ch I N) := Lib.hid ⟨hbw3, seatsAt_own ho3, hg3.below hb3, HA.out.chs.below hbw3, HA.out.glob.below hbw3 HA.out.glob.lt, hcell 1, hcell 2, hcell 3, by have := hb03.size; simp at this; omega, hl3⟩
  obtain ⟨n, hn⟩ : ∃ n, R.length = n := ⟨_, rfl⟩
  rw [hn] at HBASE ⊢
  have HN := Lib.hid hn
  have hn1 : (n : Int) ≤ 1000 := by have := hl3; omega
  clear hn ho3 hg3 hf3 hl3 hb3 hb03 hbw3 hcell HS2 HI2 HB02 HB0 HB1 HLIT hsz2 hR1 hnm1 hin4 HF HSS
  have hN3 := HBASE.out.c3
  obtain ⟨c, hcc⟩ : ∃ c : Nat, N % (8 : Int) = c := ⟨(N % 8).toNat, by have := Int.emod_nonneg N (show (8 : Int) ≠ 0 by omega); omega⟩
  have hc8 : c < 8 := by have := Int.emod_lt_of_pos N (show (0 : Int) < 8 by omega); omega
  have HCC := Lib.hid hcc
  clear hcc
  go_wp2_with fail
  refine (within_any N 8 _ (by omega) (by omega)).mono ?_
  rintro e w' ⟨rfl, rfl⟩
  rw [HCC.out]
  clear hN3
  go_wp2
  go_loopg [5, 6] n (fun g v5 v6 wr => ∃ i : Nat, i ≤ n ∧ v6 = .int .i64 i ∧ g = n - i ∧ wr.ownsRow w3.heap.size 48 3 v5 (rest R c i).length ((rest R c i).flatMap encS) ∧ Below w3.heap.size w3 wr)
  case atStart => exact ⟨0, by omega, rfl, rfl, World.ownsRow_nil _ _ _ _, Below.refl _ _⟩
  case round =>
    obtain ⟨i, hi, rfl, hg, hown, hbel⟩ := hrel
    have HG := Lib.hid hg
    have HO := Lib.hid hown
    have HB := Lib.hid hbel
    have HBR := Lib.hid (HBASE.out.below hbel)
    have hi' : (i : Int) ≤ n := by omega
    clear hg hown hbel
    by_cases hil : i < n
    · have hil' : (i : Int) < n := by omega
      have hir : i < R.length := by rw [HN.out]; exact hil
      obtain ⟨gs, off, rfl, hgs, hgc⟩ := HBR.out.seats.get hir
      clear hgc
      obtain ⟨s, hs⟩ : ∃ s, R[i]? = some s := ⟨_, List.getElem?_eq_getElem hir⟩
      obtain ⟨x0, x1, x2⟩ := HBR.out.seats.at hs
      obtain ⟨ny, hny, hc, ht, hp, hy8, hl64, hisx, hmy⟩ := HBASE.out.good.name (List.mem_of_getElem? hs)
      obtain ⟨av, capv, hv⟩ := hisx.len
      obtain ⟨sc, sv, st, sp⟩ := s
      simp only at x0 x1 x2 hc hv ht hp
      subst hv hc hp
      obtain ⟨ly, hly⟩ : ∃ k, ny.t.length = k := ⟨_, rfl⟩
      rw [hly] at x1 hs
      have HS := Lib.hid hs
      have hlen : (rest R c i).length ≤ 1000 := by have h1 := (rest_sub R c i).length_le; have := HBASE.out.len; omega
      have HLEN := Lib.hid hlen
      obtain ⟨aa, ca, rfl⟩ := ownsRow_len HO.out
      have HLT := Lib.hid (fun q hq => (HO.out.lt q hq))
      clear hs hny ht hy8 hl64 hisx hmy hly hlen hir
      by_cases hyc : ny.c = c
      · have hyb : ((ny.c : Int) != (c : Int)) = false := by rw [hyc]; simp
        have HYC := Lib.hid hyc
        clear hyc x1 x2
        go_wp2
        go_roundg (n - (i + 1))
        case measure => have := HG.out; omega
        case rel => exact ⟨i + 1, by omega, by first | rfl | go_num, rfl, by rw [rest_no HS.out (by simp [HYC.out])]; exact HO.out, HB.out⟩
      · have hyb : ((ny.c : Int) != (c : Int)) = true := by rw [bne_iff_ne]; omega
        have HYC := Lib.hid hyc
        clear hyc
        go_wp2_with (at_builtin; refine wpList_append_own _ rfl _ _ 43 rfl w3.heap.size 48 i9 (.agg #[.int .i64 0, .slice none 0 0, .bool false]) 3 40 und43 HI9.out HZ0.out HZ1.out HZ2.out rfl (by decide) _ _ _ rfl (HO.out.alloc _) ⟨wr.heap.size, 0, none⟩ 1 1 [.int .i64 (ny.c : Nat), .slice av ly capv, .bool ny.p] rfl rfl ?d1 ?d2 ?d3 ?d4 ?d5 ?_)
        case d1 => exact three_cells _ _ _ _ _
        case d2 => intro u hu; simp only [List.mem_cons, List.not_mem_nil, or_false] at hu; rcases hu with rfl | rfl | rfl <;> rfl
        case d3 => have := HLEN.out; unfold maxLen; omega
        case d4 => have := HLEN.out; omega
        case d5 => have := HB.out.size; simp; omega
        intro v5' w5 hown5 hgr5 _
        have HO5 := Lib.hid hown5
        have HB5 := Lib.hid ((HB.out.alloc HB.out.size (.cells #[.int .i64 (ny.c : Nat), .slice av ly capv, .bool ny.p] 48)).grown hgr5 (by have := HB.out.size; simp; omega) (fun q hq => (HLT.out q (by simpa [Value.ownBlock] using hq)).1))
        clear hown5 hgr5
        go_wp2
        go_roundg (n - (i + 1))
        case measure => have := HG.out; omega
        case rel =>
          refine ⟨i + 1, by omega, by first | rfl | go_num, rfl, ?_, HB5.out⟩
          rw [rest_yes HS.out (by have := HYC.out; simp; omega)]
          have := HO5.out
          simpa [encS] using this
    · have hil' : (n : Int) ≤ i := by omega
      obtain ⟨Wb, hWb⟩ : ∃ Wb : World, Wb = wr := ⟨_, rfl⟩
      subst hWb
      have HSO : Hid (SeatsAt Wb _ (rest R c i)) := Lib.hid (seatsAt_own HO.out)
      have HGO := Lib.hid (HBR.out.good.sub (rest_sub R c i))
      have HRM := Lib.hid (rest_map (c := c) (i := i) HBR.out.good (by rw [HN.out]; omega))
      have HRL : Hid ((rest R c i).length ≤ 1000) := Lib.hid (by have h1 := (rest_sub R c i).length_le; have := HBASE.out.len; omega)
      obtain ⟨NN, hNN⟩ : ∃ NN, R.map nm = NN := ⟨_, rfl⟩
      rw [hNN] at HRM HIN4
      have HNN := Lib.hid hNN
      have HNB := Lib.hid HBR.out.bel.size
      clear HO HB hNN HG
      go_wp2_with fail
      refine (joined_any _ R _ HBR.out.seats HBR.out.good HBR.out.len).mono ?_
      rintro e w4 ⟨p, mp, rfl, hp4, hlp, hlm, hb4⟩
      rw [HNN.out] at hp4
      have hp4' : p < w4.heap.size := lt_of_blk hp4.post
      have hm4' : mp < w4.heap.size := by obtain ⟨_, _, h, _⟩ := hp4.map; exact lt_of_blk h
      have HP4 := Lib.hid hp4
      have HB4 := Lib.hid hb4
      have HBR4 := Lib.hid (HBR.out.below hb4)
      clear hp4 hb4
      go_wp2_with fail
      refine (joined_any _ R _ HBR4.out.seats HBR4.out.good HBR4.out.len).mono ?_
      rintro e w5 ⟨q, mq, rfl, hq5, hlq, hlmq, hb5⟩
      rw [HNN.out] at hq5
      have hq5' : q < w5.heap.size := lt_of_blk hq5.post
      have hmq5' : mq < w5.heap.size := by obtain ⟨_, _, h, _⟩ := hq5.map; exact lt_of_blk h
      have HP5 := Lib.hid (HP4.out.below hb5)
      have HQ5 := Lib.hid hq5
      have HB5 := Lib.hid (HB4.out.trans (hb5.mono HB4.out.size))
      clear hq5 hb5 HP4 HB4 HBR4
      go_wp2_with fail
      refine (joined_any _ (rest R c i) _ (HSO.out.below HB5.out) (HGO.out.below HB5.out) HRL.out).mono ?_
      rintro e w6 ⟨o, mo, rfl, ho6, hlo, hlmo, hb6⟩
      rw [HRM.out] at ho6
      have HTRI : Hid (Tri Wb w6 w4.heap.size w5.heap.size p mp q mq o mo NN NN (NN.filter (fun x => decide (x.c ≠ c)))) := Lib.hid ⟨HB5.out.trans (hb6.mono HB5.out.size), HP5.out.below hb6, HQ5.out.below hb6, ho6, hlp, hlm, hp4', hm4', hlq, hlmq, hq5', hmq5', hlo, hlmo⟩
      clear ho6 hb6 HP5 HQ5 HB5 HRM HSO HGO HRL hlo hlmo hlq hlmq hlp hlm hp4' hm4' hq5' hmq5'
      have hko := cntI_le HTRI.out.oa 4
      have hkp := cntI_le HTRI.out.pa 4
      have hk1 : 1 ≤ cntI NN 4 := by
        have h1 := cnt_pos HIN4.out
        unfold cntI
        rw [if_pos (by decide)]
        exact h1
      obtain ⟨ko, hko'⟩ : ∃ k, cntI (NN.filter (fun x => decide (x.c ≠ c))) 4 = k := ⟨_, rfl⟩
      obtain ⟨kp, hkp'⟩ : ∃ k, cntI NN 4 = k := ⟨_, rfl⟩
      have HKO := Lib.hid hko'
      have HKP := Lib.hid hkp'
      rw [hko'] at hko
      rw [hkp'] at hkp hk1
      have hko2 : (ko : Int) ≤ 64 := by omega
      have hkp2 : (kp : Int) ≤ 64 := by omega
      have hkp1 : (1 : Int) ≤ kp := by omega
      have hsum : (1 : Int) ≤ (ko : Int) + kp := by omega
      have hsumb : decide ((ko : Int) + kp < 1) = false := by rw [decide_eq_false_iff_not]; omega
      clear hko hkp hk1 hko' hkp'
      go_wp2_with fail
      refine (countP_any o mo _ _ (List.Perm.refl _) 4 _ HTRI.out.oa).mono ?_
      rintro e w' ⟨rfl, rfl⟩
      rw [HKO.out]
      go_wp2_with fail
      refine (countP_any p mp _ _ (List.Perm.refl _) 4 _ HTRI.out.pa).mono ?_
      rintro e w' ⟨rfl, rfl⟩
      rw [HKP.out]
      go_wp2_with fail
      refine (drop_in p mp NN c _ HTRI.out.pa hc8).mono ?_
      rintro e w7 ⟨rfl, hp7, hch7⟩
      have HTRI7 := Lib.hid (HTRI.out.chp hch7 hp7)
      clear hp7 hch7 HTRI hsum hsumb hkp1 hkp2 hko2 HKO HKP
      go_wp2
      go_loopg [10] n (fun g v10 wr => ∃ i : Nat, i ≤ n ∧ v10 = .int .i64 i ∧ g = n - i ∧ Tri Wb wr w4.heap.size w5.heap.size p mp q mq o mo (NN.filter (fun x => decide (x.c ≠ c))) (gone NN c i) (NN.filter (fun x => decide (x.c ≠ c))))
      case atStart => exact ⟨0, by omega, rfl, rfl, by rw [gone_zero]; exact HTRI7.out⟩
      case round =>
        obtain ⟨i, hi, rfl, hg, htri⟩ := hrel
        have HG2 := Lib.hid hg
        have HTL := Lib.hid htri
        have HBL := Lib.hid (HBR.out.below htri.bel)
        have hi' : (i : Int) ≤ n := by omega
        clear hg htri
        by_cases hil : i < n
        · have hil' : (i : Int) < n := by omega
          have hir : i < R.length := by rw [HN.out]; exact hil
          obtain ⟨gs, off, rfl, hgs, hgc⟩ := HBL.out.seats.get hir
          clear hgc
          obtain ⟨sx, hsx⟩ : ∃ sx, R[i]? = some sx := ⟨_, List.getElem?_eq_getElem hir⟩
          obtain ⟨x0, x1, x2⟩ := HBL.out.seats.at hsx
          obtain ⟨ny, hny, hc, ht, hp, hy8, hl64, hisx, hmy⟩ := HBR.out.good.name (List.mem_of_getElem? hsx)
          have hNi : NN[i]? = some ny := by rw [← HNN.out, List.getElem?_map, hsx, Option.map_some, hny]
          obtain ⟨av2, capv2, hv⟩ := hisx.len
          rw [hc] at x0
          rw [hp] at x2
          rw [hv] at x1 hisx
          obtain ⟨ly, hly⟩ : ∃ ly, ny.t.length = ly := ⟨_, rfl⟩
          rw [hly] at x1 hisx
          have HIY := Lib.hid hisx
          have HLY := Lib.hid hl64
          have HNI := Lib.hid hNi
          have HY8 := Lib.hid hy8
          clear hsx hny hc ht hp hl64 hisx hmy hv hly hNi hir
          by_cases hyc : ny.c = c
          · subst hyc
            have hstr := run_str ((HIY.out.below HTL.out.bel).below (Below.drew (Below.refl _ _)))
            have hnn : NN.Nodup := by rw [← HNN.out]; exact HBR.out.good.nodup
            have HJ := Lib.hid (leave_n q mq (gone NN ny.c i) ny wr.drew (HTL.out.qa.below (Below.drew (Below.refl _ _))) HY8.out HLY.out (gone_in hnn HNI.out) _ rfl)
            clear hnn
            go_wp2
            refine wp_region_hct 13 hmix (by kernel_rfl) _ rfl ?_
            simp only [List.take_succ_cons, List.take_zero, List.drop_succ_cons, List.drop_zero]
            repeat still_step
            refine wpStill_nil ?_
            go_wp2_with fail
            refine HJ.out.mono ?_
            rintro e wj ⟨rfl, hqj, hchj⟩
            go_wp2_with fail
            refine Hct.intro ?_
            repeat still_step
            refine wpStill_nil ?_
            have HTJ := Lib.hid ((HTL.out.below (Below.drew (Below.refl _ _))).chq hchj hqj)
            clear hqj hchj hstr x0 x1 x2
            go_wp2_with fail
            refine (num_any _ _).mono ?_
            rintro e w' ⟨rfl, rfl⟩
            go_wp2
            go_roundg (n - (i + 1))
            case measure => have := HG2.out; omega
            case rel => exact ⟨i + 1, by omega, by first | rfl | go_num, rfl, by rw [gone_yes HNI.out rfl]; exact HTJ.out⟩
          · have hyb : ((ny.c : Int) == (c : Int)) = false := by rw [beq_eq_false_iff_ne]; omega
            have HYC := Lib.hid hyc
            clear hyc x1 x2
            go_wp2
            go_roundg (n - (i + 1))
            case measure => have := HG2.out; omega
            case rel => exact ⟨i + 1, by omega, by first | rfl | go_num, rfl, by rw [gone_no HNI.out HYC.out]; exact HTL.out⟩
        · have hil' : (n : Int) ≤ i := by omega
          have hge : gone NN c i = NN.filter (fun x => decide (x.c ≠ c)) := gone_end (by rw [← HNN.out, List.length_map, HN.out]; omega)
          rw [hge] at HTL
          have hch5 := HBL.out.c1
          have hcv5 := run_str HBL.out.chs
          clear hge
          go_wp2_with fail
          refine (alike_any p mp o mo _ _ _ R ch _ (List.Perm.refl _) ⟨HTL.out.pa, HTL.out.oa, HBL.out.glob⟩ HBL.out.seats HBL.out.good HA.out.len).mono ?_
          rintro e wz ⟨rfl, hbz⟩
          have HTZ := Lib.hid (HTL.out.below hbz)
          have HBZ := Lib.hid (HBL.out.below hbz)
          clear hbz hch5 hcv5 HTL HBL
          have hch5 := HBZ.out.c1
          have hcv5 := run_str HBZ.out.chs
          go_wp2_with fail
          refine (alike_any q mq o mo _ _ _ R ch _ (List.Perm.refl _) ⟨HTZ.out.qa, HTZ.out.oa, HBZ.out.glob⟩ HBZ.out.seats HBZ.out.good HA.out.len).mono ?_
          rintro e wy ⟨rfl, hby⟩
          have HZ := Lib.hid (HBZ.out.bel.trans (hby.mono HBZ.out.bel.size))
          clear hby hch5 hcv5
          go_wp2
          go_ret
          exact ⟨rfl, HZ.out⟩
end Go.Proofs.YtgfldammdcocmaaDoor
