import Derived.Test.YtgfldammdcocmaaDoorLf
import Derived.Test.YtgfldammdcocmaaDoorLo
import Derived.Lib.SlBytesConst
namespace Go.Proofs.YtgfldammdcocmaaDoor
open Go.RowKit Go.Sort

/-- an argument of the two laws. -/
structure Ask (w : World) (v chv : Value) (ss : List Sv) (ch : List UInt8) : Prop where
  seats : SeatsAt w v ss
  is : ∀ s ∈ ss, IsB w s.v s.t
  chs : IsB w chv ch
  len : ch.length ≤ 9223372036854775807
  glob : GlobAt w

/-- what stays while the Posts are asked and changed: the seats, the channel, the argument's box. -/
structure Base (w W : World) (v3 chv : Value) (R : List Sv) (ch : List UInt8) (I N : Int) : Prop where
  bel : Below w.heap.size w W
  seats : SeatsAt W v3 R
  good : GoodR W R
  chs : IsB W chv ch
  glob : GlobAt W
  c1 : W.cell? ⟨w.heap.size, 1, none⟩ = some chv
  c2 : W.cell? ⟨w.heap.size, 2, none⟩ = some (.int .i64 I)
  c3 : W.cell? ⟨w.heap.size, 3, none⟩ = some (.int .i64 N)
  lt : w.heap.size < W.heap.size
  len : R.length ≤ 1000
theorem GoodR.below {w w' : World} {R : List Sv} (h : GoodR w R) (hb : Below w.heap.size w w') : GoodR w' R :=
  ⟨fun s hs => by obtain ⟨a, b⟩ := h.is s hs; exact ⟨a.below hb, b⟩, h.nodup, h.cnt⟩
theorem Base.below {w W W' : World} {v3 chv : Value} {R : List Sv} {ch : List UInt8} {I N : Int} (h : Base w W v3 chv R ch I N) (hb : Below W.heap.size W W') : Base w W' v3 chv R ch I N :=
  ⟨h.bel.trans (hb.mono h.bel.size), h.seats.below hb, h.good.below hb, h.chs.below hb, h.glob.below hb h.glob.lt, (hb.cell (p := ⟨w.heap.size, 1, none⟩) h.lt).trans h.c1, (hb.cell (p := ⟨w.heap.size, 2, none⟩) h.lt).trans h.c2,
    (hb.cell (p := ⟨w.heap.size, 3, none⟩) h.lt).trans h.c3, Nat.lt_of_lt_of_le h.lt hb.size, h.len⟩

/-- a seat, read as a name. -/
theorem GoodR.name {w : World} {R : List Sv} (h : GoodR w R) {s : Sv} (hs : s ∈ R) : ∃ n, nm s = n ∧ s.c = (n.c : Int) ∧ s.t = n.t ∧ s.p = n.p ∧ n.c < 8 ∧ n.t.length ≤ 64 ∧ IsB w s.v n.t ∧ n ∈ R.map nm := by
  obtain ⟨h1, h2, h3, h4⟩ := h.is s hs
  exact ⟨nm s, rfl, by unfold nm; simp only; omega, rfl, rfl, by unfold nm; simp only; omega, h4, h1, List.mem_map_of_mem hs⟩

/-- two Posts of their own, made behind W. -/
structure PQ (W wr : World) (p mp q mq : Nat) (S S' : List Nm) : Prop where
  bel : Below W.heap.size W wr
  pa : PostAt wr p mp S
  qa : PostAt wr q mq S'
  hq : W.heap.size ≤ q
  hmq : W.heap.size ≤ mq
  n1 : p ≠ q
  n2 : p ≠ mq
  n3 : mp ≠ q
  n4 : mp ≠ mq
theorem PQ.below {W wr w' : World} {p mp q mq : Nat} {S S' : List Nm} (h : PQ W wr p mp q mq S S') (hb : Below wr.heap.size wr w') : PQ W w' p mp q mq S S' :=
  ⟨h.bel.trans (hb.mono h.bel.size), h.pa.below hb, h.qa.below hb, h.hq, h.hmq, h.n1, h.n2, h.n3, h.n4⟩
theorem PQ.ch {W wr w' : World} {p mp q mq : Nat} {S S' S'' : List Nm} (h : PQ W wr p mp q mq S S') (hc : Ch (fun k => k = q ∨ k = mq) wr w') (hq : PostAt w' q mq S'') : PQ W w' p mp q mq S S'' := by
  refine ⟨⟨hc.os.trans h.bel.os, hc.tape.trans h.bel.tape, hc.output.trans h.bel.output, Nat.le_trans h.bel.size hc.size, fun k hk => ?_⟩, h.pa.keep hc ?_ ?_, hq, h.hq, h.hmq, h.n1, h.n2, h.n3, h.n4⟩
  · have h1 := h.hq; have h2 := h.hmq; have h3 := h.bel.size
    exact (hc.block k (by omega) (by omega)).trans (h.bel.block k hk)
  · rintro (e | e)
    · exact h.n1 e
    · exact h.n2 e
  · rintro (e | e)
    · exact h.n3 e
    · exact h.n4 e
theorem PQ.two {W wr w0 : World} {p mp q mq : Nat} {S S' : List Nm} {v3 chv : Value} {R : List Sv} {ch : List UInt8} {I N : Int} (h : PQ W wr p mp q mq S S') (hb : Base w0 W v3 chv R ch I N) : Two wr p mp q mq S S' :=
  ⟨h.pa, h.qa, (hb.below h.bel).glob⟩
theorem below_ch {S : Nat → Prop} {w w' : World} (h : Below w.heap.size w w') : Ch S w w' := ⟨h.os, h.tape, h.output, h.size, fun k hk _ => h.block k hk⟩

theorem leave_n (pb mb : Nat) (S : List Nm) (n : Nm) (w : World) (hP : PostAt w pb mb S) (h8 : n.c < 8) (ht : n.t.length ≤ 64) (hin : n ∈ S) (k : Int) (hk : (cnt S n.c : Int) - 1 = k) :
    Calls Tryd.prog 16 #[.pointer (some ⟨pb, 0, none⟩), .int .i64 n.c, .string ⟨n.t.toArray⟩, .bool n.p] w fun e w' => e = .returned (.tuple #[.int .i64 k, .bool true, .int .i64 0]) ∧ PostAt w' pb mb (rm n S) ∧ Ch (fun k => k = pb ∨ k = mb) w w' := by
  have h := leave_yes pb mb S n.c ⟨n.t.toArray⟩ n.p w hP h8 (by show n.t.toArray.size ≤ 4096; simp; omega) (by simpa using hin)
  rw [hk] at h
  simpa using h
theorem leave_x (pb mb : Nat) (S : List Nm) (n : Nm) (w : World) (hP : PostAt w pb mb S) (h8 : n.c < 8) (ht : n.t.length ≤ 64) (hin : n ∉ S) (k : Int) (hk : (cnt S n.c : Int) = k) :
    Calls Tryd.prog 16 #[.pointer (some ⟨pb, 0, none⟩), .int .i64 n.c, .string ⟨n.t.toArray⟩, .bool n.p] w fun e w' => e = .returned (.tuple #[.int .i64 k, .bool false, .int .i64 0]) ∧ Below w.heap.size w w' := by
  have h := leave_not pb mb S n.c ⟨n.t.toArray⟩ n.p w hP h8 (by show n.t.toArray.size ≤ 4096; simp; omega) (by simpa using hin)
  rw [hk] at h
  exact h.mono fun e w' ⟨a, b⟩ => ⟨a, b.below⟩
theorem join_n (pb mb : Nat) (S : List Nm) (n : Nm) (w : World) (hP : PostAt w pb mb S) (h8 : n.c < 8) (ht : n.t.length ≤ 64) (hin : n ∉ S) (hc : cnt S n.c < 64) (k : Int) (hk : (cnt S n.c : Int) + 1 = k) :
    Calls Tryd.prog 18 #[.pointer (some ⟨pb, 0, none⟩), .int .i64 n.c, .string ⟨n.t.toArray⟩, .bool n.p] w fun e w' => e = .returned (.tuple #[.int .i64 k, .bool true, .int .i64 0]) ∧ PostAt w' pb mb (S ++ [n]) ∧ Ch (fun k => k = pb ∨ k = mb) w w' := by
  have h := join_new pb mb S n.c ⟨n.t.toArray⟩ n.p w hP h8 (by show n.t.toArray.size ≤ 4096; simp; omega) (by simpa using hin) hc
  rw [hk] at h
  simpa using h
theorem texts_none (S : List Nm) (c : Nat) (p : Bool) : textsOf (S.filter (fun x => decide (x.c ≠ c))) (P43 c p) = [] := by
  unfold textsOf
  rw [List.filter_filter, List.filter_eq_nil_iff.2]
  · simp [Lib.compact]; rfl
  · intro x _
    simp [P43]
    intro h
    omega
theorem cntI_none (S : List Nm) (c : Nat) : cntI (S.filter (fun x => decide (x.c ≠ c))) c = 0 := by
  unfold cntI
  split
  · rw [cnt_drop, if_pos (by omega)]
  · rfl

theorem GoodR.reverse {w : World} {R : List Sv} (h : GoodR w R) : GoodR w R.reverse := by
  refine ⟨fun s hs => h.is s (List.mem_reverse.1 hs), ?_, fun c => ?_⟩
  · rw [List.map_reverse]; exact (List.reverse_perm _).nodup_iff.2 h.nodup
  · rw [List.map_reverse, cnt_perm (List.reverse_perm _)]; exact h.cnt c

theorem SeatsAt.at {w : World} {g off n cap : Nat} {ss : List Sv} (h : SeatsAt w (.slice (some ⟨g, off, none⟩) n cap) ss) {i : Nat} {s : Sv} (hi : ss[i]? = some s) :
    w.cell? ⟨g, off + i * 3, none⟩ = some (.int .i64 s.c) ∧ w.cell? ⟨g, off + i * 3 + 1, none⟩ = some s.v ∧ w.cell? ⟨g, off + i * 3 + 2, none⟩ = some (.bool s.p) := by
  obtain ⟨hl, e⟩ := List.getElem?_eq_some_iff.1 hi
  obtain ⟨g', off', ha, _, h1, h2, h3⟩ := h.get hl
  simp only [Option.some.injEq, Addr.mk.injEq, and_true] at ha
  obtain ⟨rfl, rfl⟩ := ha
  rw [e] at h1 h2 h3
  exact ⟨h1, h2, h3⟩
theorem namesNone (pb mb : Nat) (S : List Nm) (c : Nat) (p : Bool) (w : World) (hP : PostAt w pb mb (S.filter (fun x => decide (x.c ≠ c)))) :
    Calls Tryd.prog 20 #[.pointer (some ⟨pb, 0, none⟩), .int .i64 c, .bool p] w fun e w' => TextsLeft w [] e w' := by
  have h := names_any pb mb _ c p w hP
  rw [texts_none] at h
  exact h
theorem countNone (pb mb : Nat) (S : List Nm) (c : Nat) (w : World) (hP : PostAt w pb mb (S.filter (fun x => decide (x.c ≠ c)))) :
    Calls Tryd.prog 14 #[.pointer (some ⟨pb, 0, none⟩), .int .i64 c] w fun e w' => e = .returned (.int .i64 0) ∧ w = w' := by
  have h := countP_any pb mb _ _ (List.Perm.refl _) c w hP
  rw [cntI_none] at h
  exact h

set_option maxHeartbeats 4000000 in
set_option maxRecDepth 100000 in
theorem order_any (v chv : Value) (ss : List Sv) (ch : List UInt8) (I N : Int) (w : World) (h : Ask w v chv ss ch) :
    Calls Tryd.prog 4 #[.agg #[v, chv, .int .i64 I, .int .i64 N]] w fun e w' => e = .returned (.bool true) ∧ Below w.heap.size w w' := by
  obtain ⟨i9, hi, hz0, hz1, hz2⟩ := info_parts info48
  have HI9 := Lib.hid hi
  have HZ0 := Lib.hid hz0
  have HZ1 := Lib.hid hz1
  have HZ2 := Lib.hid hz2
  have HA := Lib.hid h
  have hcv := fun (w : World) (C : Array Value) (n c : Nat) => Lib.run_convert_bytes_const (P := Tryd.prog) w 38 5 C n c Tryd.underlying38 Tryd.underlying5
  clear h hi hz0 hz1 hz2
  go_enter Tryd.func4, Tryd.ntmps4
  go_wp2_with fail
  have hb0 : Below w.heap.size w (w.alloc (.cells #[v, chv, .int .i64 I, .int .i64 N] 45)) := (Below.refl _ w).alloc (Nat.le_refl _) _
  refine (unlike_any v ss _ (HA.out.seats.below hb0) (fun s hs => (HA.out.is s hs).below hb0)).mono ?_
  rintro e w1 ⟨v1, R1, rfl, ho1, hg1, _, hl1, hb1⟩
  have HO1 := Lib.hid ho1
  have HG1 := Lib.hid hg1
  have HL1 := Lib.hid hl1
  have HB1 := Lib.hid hb1
  clear ho1 hg1 hl1 hb1 hb0
  obtain ⟨a1, c1, rfl⟩ := ownsRow_len HO1.out
  obtain ⟨n1, hn1⟩ : ∃ n1, R1.length = n1 := ⟨_, rfl⟩
  have HN1 := Lib.hid hn1
  rw [hn1]
  clear hn1
  have HO2 := Lib.hid (show w1.ownsRow (w.heap.size + 1) 48 3 (.slice a1 R1.length c1) R1.length (R1.flatMap encS) from by simpa using HO1.out)
  have hw1 : w.heap.size < w1.heap.size := by have := HB1.out.size; simp at this; omega
  go_wp2_with (at_builtin; refine wpList_append_own _ rfl _ _ 43 rfl (w.heap.size + 1) 48 i9 (.agg #[.int .i64 0, .slice none 0 0, .bool false]) 3 40 und43 HI9.out HZ0.out HZ1.out HZ2.out rfl (by decide) _ _ _ (by rw [← HN1.out]; rfl) ((HO2.out.alloc _).alloc _) ⟨w1.heap.size + 1, 0, none⟩ 1 1 [.int .i64 1, .slice (some ⟨w1.heap.size, 0, none⟩) 1 1, .bool false] rfl rfl ?c1 ?c2 ?c3 ?c4 ?c5 ?_)
  case c1 => intro j u hj; have h := three_cells (w1.alloc (.cells #[.int .u8 122] 5 (1, 2))) _ _ _ 48 j u hj; simpa using h
  case c2 => intro u hu; simp only [List.mem_cons, List.not_mem_nil, or_false] at hu; rcases hu with rfl | rfl | rfl <;> rfl
  case c3 => have := HL1.out; unfold maxLen; omega
  case c4 => have := HL1.out; omega
  case c5 => simp; omega
  intro v2 w2 hown2 hgr2 _
  have hne : ∀ q, (Value.slice a1 R1.length c1).ownBlock = some q → w.heap.size + 1 ≤ q ∧ q < w1.heap.size := fun q hq => HO2.out.lt q hq
  have hk1 : w2.heap[w1.heap.size]? = ((w1.alloc (.cells #[.int .u8 122] 5 (1, 2))).alloc (.cells #[.int .i64 1, .slice (some ⟨w1.heap.size, 0, none⟩) 1 1, .bool false] 48)).heap[w1.heap.size]? := hgr2.block _ (by simp; omega) (fun e => by have := (hne _ e.symm).2; omega)
  have hb02 : Below (w.heap.size + 1) (w.alloc (.cells #[v, chv, .int .i64 I, .int .i64 N] 45)) w2 := by
    have h1 : Below (w.heap.size + 1) (w.alloc (.cells #[v, chv, .int .i64 I, .int .i64 N] 45)) w1 := by simpa using HB1.out
    exact ((h1.alloc (by omega) _).alloc (by simp; omega) _).grown hgr2 (by simp; omega) (fun q hq => (hne q hq).1)
  have hbyt : BytesAt w2 w1.heap.size 0 [122] := by
    intro j hj
    have : j = 0 := by simpa using hj
    subst this
    rw [World.cell?_of_block (a := ⟨w1.heap.size, 0 + 0, none⟩) hk1, World.cell?_of_block (w := w1.alloc (.cells #[.int .u8 122] 5 (1, 2))) (a := ⟨w1.heap.size, 0 + 0, none⟩) (Below.heap_alloc _ _ _ (by simp))]
    rw [World.cell?_alloc_mark]; rfl
  have hs2 : SeatsAt w2 v2 (R1 ++ [⟨1, .slice (some ⟨w1.heap.size, 0, none⟩) 1 1, [122], false⟩]) := seatsAt_own (base := w.heap.size + 1) (by simpa [encS] using hown2)
  have hsz2 : w1.heap.size + 2 ≤ w2.heap.size := by have := hgr2.size; simp at this; omega
  have hi2 : ∀ s ∈ R1 ++ [(⟨1, .slice (some ⟨w1.heap.size, 0, none⟩) 1 1, [122], false⟩ : Sv)], IsB w2 s.v s.t := by
    intro s hs
    rcases List.mem_append.1 hs with h | h
    · exact ((HG1.out.is s h).1).below (by simpa using hb02)
    · simp only [List.mem_singleton] at h
      subst h
      exact Or.inr ⟨w1.heap.size, 0, 1, rfl, hbyt, by omega, by simp, by decide⟩
  have HS2 := Lib.hid hs2
  have HI2 := Lib.hid hi2
  have HB02 := Lib.hid hb02
  clear hs2 hi2 hb02 hk1 hne hbyt hgr2 hown2
  go_wp2_with fail
  refine (unlike_any v2 _ _ HS2.out HI2.out).mono ?_
  rintro e w3 ⟨v3, R, rfl, ho3, hg3, hf3, hl3, hb3⟩
  have hR0 : 0 < R.length := by
    rcases hx : R1 ++ [(⟨1, .slice (some ⟨w1.heap.size, 0, none⟩) 1 1, [122], false⟩ : Sv)] with _ | ⟨s0, r⟩
    · simp at hx
    · obtain ⟨s1, r', e, _⟩ := hf3 s0 r hx
      rw [e]; simp
  obtain ⟨a3, c3, rfl⟩ := ownsRow_len ho3
  have hb03 : Below (w.heap.size + 1) (w.alloc (.cells #[v, chv, .int .i64 I, .int .i64 N] 45)) w3 := HB02.out.trans (hb3.mono (by have := HB02.out.size; simp at this; omega))
  have hbw3 : Below w.heap.size w w3 := ((Below.refl w.heap.size w).alloc (Nat.le_refl _) _).trans (hb03.mono (by omega))
  have hcell : ∀ k, w3.cell? ⟨w.heap.size, k, none⟩ = #[v, chv, .int .i64 I, .int .i64 N][k]? := fun k => by
    rw [hb03.cell (p := ⟨w.heap.size, k, none⟩) (by simp), World.cell?_alloc_new]
  have HBASE : Hid (Base w w3 (.slice a3 R.length c3) chv R ch I N) := Lib.hid ⟨hbw3, seatsAt_own ho3, hg3.below hb3, HA.out.chs.below hbw3, HA.out.glob.below hbw3 HA.out.glob.lt, hcell 1, hcell 2, hcell 3, by have := hb03.size; simp at this; omega, hl3⟩
  obtain ⟨n, hn⟩ : ∃ n, R.length = n := ⟨_, rfl⟩
  rw [hn] at HBASE hR0 ⊢
  have HN := Lib.hid hn
  have hn0 : (0 : Int) < n := by omega
  have hn1 : (n : Int) ≤ 1000 := by have := hl3; omega
  clear hn ho3 hg3 hf3 hl3 hb3 hb03 hbw3 hcell HS2 HI2 HB02 HB1 HO1 HO2 HG1 HL1 HN1 hw1 hsz2
  go_wp2_with fail
  refine (joined_any _ R _ HBASE.out.seats HBASE.out.good HBASE.out.len).mono ?_
  rintro e w4 ⟨p, mp, rfl, hp4, hlp, hlm, hb4⟩
  have HBASE4 := Lib.hid (HBASE.out.below hb4)
  have HP4 := Lib.hid hp4
  clear hp4 hb4 HBASE
  go_wp2
  go_loopg [5, 6] n (fun g v5 v6 wr => ∃ (j : Nat) (x : Int), j ≤ n ∧ x = (j : Int) - 1 ∧ v6 = .int .i64 x ∧ g = j ∧ wr.ownsRow w4.heap.size 48 3 v5 ((R.drop j).reverse).length ((R.drop j).reverse.flatMap encS) ∧ Below w4.heap.size w4 wr)
  case atStart => exact ⟨n, _, by omega, rfl, rfl, rfl, by rw [List.drop_of_length_le (by rw [HN.out]; exact Nat.le_refl _)]; exact World.ownsRow_nil _ _ _ _, Below.refl _ _⟩
  case round =>
    obtain ⟨j, x, hj, hx, rfl, hg, hown, hbel⟩ := hrel
    have HG := Lib.hid hg
    have HO := Lib.hid hown
    have HB := Lib.hid hbel
    clear hg hown hbel
    rcases j with _ | j
    · obtain rfl : x = -1 := by omega
      have HBR := Lib.hid (HBASE4.out.below HB.out)
      have hsr : SeatsAt wr _ R.reverse := seatsAt_own (base := w4.heap.size) HO.out
      have HSR := Lib.hid hsr
      have HP5 := Lib.hid (HP4.out.below HB.out)
      have hwr4 : w4.heap.size ≤ wr.heap.size := HB.out.size
      clear hj hx hsr HO HG HB
      go_wp2_with fail
      refine (joined_any _ R.reverse _ HSR.out HBR.out.good.reverse (by rw [List.length_reverse]; exact HBR.out.len)).mono ?_
      rintro e w5 ⟨q, mq, rfl, hq5, hlq, hlmq, hb5⟩
      obtain ⟨NN, hNN⟩ : ∃ NN, R.map nm = NN := ⟨_, rfl⟩
      rw [List.map_reverse] at hq5
      rw [hNN] at HP5 hq5
      have HNN := Lib.hid hNN
      have hlp2 : p < wr.heap.size := lt_of_blk HP5.out.post
      have hlmp2 : mp < wr.heap.size := by obtain ⟨_, _, h, _⟩ := HP5.out.map; exact lt_of_blk h
      have HPQ : Hid (PQ wr w5 p mp q mq NN NN.reverse) := Lib.hid ⟨hb5, HP5.out.below hb5, hq5, hlq, hlmq, by omega, by omega, by omega, by omega⟩
      clear hq5 hb5 HP5 HSR HP4 hNN
      obtain ⟨Wb, hWb⟩ : ∃ Wb : World, Wb = wr := ⟨_, rfl⟩
      subst hWb
      have HB5 := Lib.hid (HBR.out.below HPQ.out.bel)
      have h0R : 0 < R.length := by rw [HN.out]; exact hR0
      obtain ⟨gs, off, rfl, hgs, hgc⟩ := HBR.out.seats.get h0R
      clear hgc
      obtain ⟨s0, hs0⟩ : ∃ s0, R[0]? = some s0 := ⟨_, List.getElem?_eq_getElem h0R⟩
      have x0 := (HB5.out.seats.at hs0).1
      simp only [Nat.zero_mul, Nat.add_zero] at x0
      obtain ⟨n0, hn0', hc0, _, _, hc8, _, _, hm0⟩ := HB5.out.good.name (List.mem_of_getElem? hs0)
      rw [hc0] at x0
      rw [HNN.out] at hm0
      have hnb : ((n : Int) == 0) = false := by rw [beq_eq_false_iff_ne]; omega
      have hk0 : (1 : Int) ≤ cntI NN n0.c := by
        have := cnt_pos hm0
        unfold cntI
        rw [if_pos (by omega)]
        simp; omega
      obtain ⟨k0, hk0'⟩ : ∃ k, cntI NN (n0.c : Int) = k := ⟨_, rfl⟩
      have HK0 := Lib.hid hk0'
      rw [hk0'] at hk0
      have HS0 := Lib.hid hs0
      clear hs0 hn0' hc0 hc8 hm0 hk0' h0R
      go_wp2_with fail
      refine (countP_any p mp NN NN (List.Perm.refl _) n0.c _ HPQ.out.pa).mono ?_
      rintro e w' ⟨rfl, rfl⟩
      rw [HK0.out]
      have hch5 := HB5.out.c1
      have hcv5 := run_str HB5.out.chs
      go_wp2_with fail
      refine (alike_any p mp q mq NN NN.reverse _ R ch _ (List.reverse_perm NN).symm (HPQ.out.two HBR.out) HB5.out.seats HB5.out.good HA.out.len).mono ?_
      rintro e w6 ⟨rfl, hb6⟩
      have HPQ6 := Lib.hid (HPQ.out.below hb6)
      have HB6 := Lib.hid (HB5.out.below hb6)
      clear hb6 hch5 hcv5 x0 HK0 hk0 HPQ HB5
      have hI6 := HB6.out.c2
      obtain ⟨jx, hjx⟩ : ∃ jx : Nat, I % (n : Int) = jx := ⟨(I % n).toNat, by have := Int.emod_nonneg I (show (n : Int) ≠ 0 by omega); omega⟩
      have hjn : (jx : Int) < n := by have := Int.emod_lt_of_pos I hn0; omega
      have HJX := Lib.hid hjx
      clear hjx
      go_wp2_with fail
      refine (within_any I n _ (by omega) (by omega)).mono ?_
      rintro e w' ⟨rfl, rfl⟩
      rw [HJX.out]
      obtain ⟨sx, hsx⟩ : ∃ sx, R[jx]? = some sx := ⟨_, List.getElem?_eq_getElem (by rw [HN.out]; omega)⟩
      obtain ⟨x0, x1, x2⟩ := HB6.out.seats.at hsx
      obtain ⟨nx, hnx, hc, ht, hp, hc8, hl64, hisx, hmx⟩ := HBR.out.good.name (List.mem_of_getElem? hsx)
      obtain ⟨av, capv, hv⟩ := hisx.len
      rw [HNN.out] at hmx
      rw [hc] at x0
      rw [hp] at x2
      rw [hv] at x1 hisx
      obtain ⟨lx, hlx⟩ : ∃ lx, nx.t.length = lx := ⟨_, rfl⟩
      rw [hlx] at x1 hisx
      have HIX := Lib.hid hisx
      have HMX := Lib.hid hmx
      have HLX := Lib.hid hl64
      obtain ⟨Kn, hKn⟩ : ∃ Kn, cnt NN nx.c = Kn := ⟨_, rfl⟩
      have hKn1 : (1 : Int) ≤ Kn := by have := cnt_pos hmx; omega
      have hKn64 : (Kn : Int) ≤ 64 := by have := HBR.out.good.cnt nx.c; rw [HNN.out] at this; omega
      have HKN := Lib.hid hKn
      have HNX := Lib.hid hc8
      clear hsx hnx hc ht hp hc8 hl64 hisx hmx hv hlx hKn
      have HCI : Hid (cntI NN (nx.c : Int) = Kn) := Lib.hid (by unfold cntI; have := HNX.out; rw [if_pos (by omega)]; simpa using HKN.out)
      have hq6 : q < w6.heap.size := lt_of_blk HPQ6.out.qa.post
      have hmq6 : mq < w6.heap.size := by obtain ⟨_, _, h, _⟩ := HPQ6.out.qa.map; exact lt_of_blk h
      have HB0 := Lib.hid (show Below w6.heap.size w6 (w6.alloc (.cells #[.int .i64 nx.c, .slice av lx capv, .bool nx.p] 48)) from (Below.refl _ _).alloc (Nat.le_refl _) _)
      have HPQ7 := Lib.hid (HPQ6.out.below HB0.out)
      have HX7 : Hid (blk (w6.alloc (.cells #[.int .i64 nx.c, .slice av lx capv, .bool nx.p] 48)) w6.heap.size = some (.cells #[.int .i64 nx.c, .slice av lx capv, .bool nx.p] 48 (0, 0))) := Lib.hid (blk_alloc_self _ _ _ rfl)
      have hstr := run_str (HIX.out.below HPQ7.out.bel)
      go_wp2_with fail
      clear hI6 x0 x1 x2
      refine (leave_n q mq NN.reverse nx _ HPQ7.out.qa HNX.out HLX.out (List.mem_reverse.2 HMX.out) ((Kn : Int) - 1) (by rw [cnt_perm (List.reverse_perm NN), HKN.out])).mono ?_
      rintro e w8 ⟨rfl, hq8, hch8⟩
      have HPQ8 := Lib.hid (HPQ7.out.ch hch8 hq8)
      have HX8 := Lib.hid (hch8.blk HX7.out (by omega))
      clear hstr hq8 hch8
      have hstr := run_str (HIX.out.below HPQ8.out.bel)
      have x0 : w8.cell? ⟨w6.heap.size, 0, none⟩ = some (.int .i64 nx.c) := by rw [cell_blk HX8.out]; rfl
      have x1 : w8.cell? ⟨w6.heap.size, 1, none⟩ = some (.slice av lx capv) := by rw [cell_blk HX8.out]; rfl
      have x2 : w8.cell? ⟨w6.heap.size, 2, none⟩ = some (.bool nx.p) := by rw [cell_blk HX8.out]; rfl
      go_wp2_with fail
      have hnd : NN.reverse.Nodup := (List.reverse_perm NN).nodup_iff.2 (by rw [← HNN.out]; exact HBR.out.good.nodup)
      have HND := Lib.hid hnd
      have HC8 : Hid (cnt (rm nx NN.reverse) nx.c = Kn - 1) := Lib.hid (by rw [cnt_filter _ hnd _ (List.mem_reverse.2 HMX.out), if_pos rfl, cnt_perm (List.reverse_perm NN), HKN.out])
      clear hnd
      refine (leave_x q mq (rm nx NN.reverse) nx _ HPQ8.out.qa HNX.out HLX.out (not_mem_rm _ _) ((Kn : Int) - 1) (by rw [HC8.out]; omega)).mono ?_
      rintro e w9 ⟨rfl, hb9⟩
      have HPQ9 := Lib.hid (HPQ8.out.below hb9)
      have HX9 := Lib.hid ((below_ch (S := fun _ => False) hb9).blk HX8.out id)
      clear hstr x0 x1 x2 hb9 HX8 HX7 HPQ7 HPQ8 HB0
      have hstr := run_str (HIX.out.below HPQ9.out.bel)
      have x0 : w9.cell? ⟨w6.heap.size, 0, none⟩ = some (.int .i64 nx.c) := by rw [cell_blk HX9.out]; rfl
      have x1 : w9.cell? ⟨w6.heap.size, 1, none⟩ = some (.slice av lx capv) := by rw [cell_blk HX9.out]; rfl
      have x2 : w9.cell? ⟨w6.heap.size, 2, none⟩ = some (.bool nx.p) := by rw [cell_blk HX9.out]; rfl
      go_wp2_with fail
      refine (num_any _ _).mono ?_
      rintro e w' ⟨rfl, rfl⟩
      go_wp2_with fail
      refine (num_any _ _).mono ?_
      rintro e w' ⟨rfl, rfl⟩
      go_wp2_with fail
      refine (countP_any p mp NN NN (List.Perm.refl _) nx.c _ HPQ9.out.pa).mono ?_
      rintro e w' ⟨rfl, rfl⟩
      rw [HCI.out]
      go_wp2_with fail
      refine (join_n q mq (rm nx NN.reverse) nx _ HPQ9.out.qa HNX.out HLX.out (not_mem_rm _ _) (by rw [HC8.out]; omega) Kn (by rw [HC8.out]; omega)).mono ?_
      rintro e w10 ⟨rfl, hq10, hch10⟩
      have HPQ10 := Lib.hid (HPQ9.out.ch hch10 hq10)
      have HX10 := Lib.hid (hch10.blk HX9.out (by omega))
      clear hstr x0 x1 x2 hq10 hch10 HX9 HPQ9
      have x0 : w10.cell? ⟨w6.heap.size, 0, none⟩ = some (.int .i64 nx.c) := by rw [cell_blk HX10.out]; rfl
      go_wp2_with fail
      refine (num_any _ _).mono ?_
      rintro e w' ⟨rfl, rfl⟩
      go_wp2_with fail
      refine (countP_any p mp NN NN (List.Perm.refl _) nx.c _ HPQ10.out.pa).mono ?_
      rintro e w' ⟨rfl, rfl⟩
      rw [HCI.out]
      obtain ⟨S2, hS2⟩ : ∃ S2, rm nx NN.reverse ++ [nx] = S2 := ⟨_, rfl⟩
      have HS2 : Hid (S2.Perm NN) := Lib.hid (by rw [← hS2]; exact (rm_perm (List.mem_reverse.2 HMX.out) HND.out).trans (List.reverse_perm NN))
      rw [hS2] at HPQ10
      have HB10 := Lib.hid (HBR.out.below HPQ10.out.bel)
      clear hS2 x0
      have hch5 := HB10.out.c1
      have hcv5 := run_str HB10.out.chs
      go_wp2_with fail
      refine (alike_any p mp q mq NN S2 _ R ch _ HS2.out.symm (HPQ10.out.two HBR.out) HB10.out.seats HB10.out.good HA.out.len).mono ?_
      rintro e w11 ⟨rfl, hb11⟩
      have HPQ11 := Lib.hid (HPQ10.out.below hb11)
      have HB11 := Lib.hid (HB10.out.below hb11)
      clear hb11 hch5 hcv5 HPQ10 HB10 HX10 HC8
      have hN11 := HB11.out.c3
      obtain ⟨c, hcc⟩ : ∃ c : Nat, N % (8 : Int) = c := ⟨(N % 8).toNat, by have := Int.emod_nonneg N (show (8 : Int) ≠ 0 by omega); omega⟩
      have hc8 : c < 8 := by have := Int.emod_lt_of_pos N (show (0 : Int) < 8 by omega); omega
      have HCC := Lib.hid hcc
      clear hcc
      go_wp2_with fail
      refine (within_any N 8 _ (by omega) (by omega)).mono ?_
      rintro e w' ⟨rfl, rfl⟩
      rw [HCC.out]
      go_wp2_with fail
      refine (drop_in q mq S2 c _ HPQ11.out.qa hc8).mono ?_
      rintro e w12 ⟨rfl, hq12, hch12⟩
      have HPQ12 := Lib.hid (HPQ11.out.ch hch12 hq12)
      clear hq12 hch12 HPQ11 HB11 hN11
      go_wp2_with fail
      refine (countNone q mq S2 c _ HPQ12.out.qa).mono ?_
      rintro e w' ⟨rfl, rfl⟩
      go_wp2_with fail
      refine (namesNone q mq S2 c true _ HPQ12.out.qa).mono ?_
      rintro e w13 ⟨v13, rfl, ho13, hb13⟩
      obtain ⟨a13, c13, rfl⟩ := ownsRow_len ho13
      have HPQ13 := Lib.hid (HPQ12.out.below hb13)
      clear ho13 hb13 HPQ12
      go_wp2_with fail
      refine (namesNone q mq S2 c false _ HPQ13.out.qa).mono ?_
      rintro e w14 ⟨v14, rfl, ho14, hb14⟩
      obtain ⟨a14, c14, rfl⟩ := ownsRow_len ho14
      have HPQ14 := Lib.hid (HPQ13.out.below hb14)
      clear ho14 hb14 HPQ13
      clear HND HKN HCI HMX HLX HIX HNX hKn1 hKn64
      go_wp2
      go_loopg [16] n (fun g v16 wr => ∃ i : Nat, i ≤ n ∧ v16 = .int .i64 i ∧ g = n - i ∧ PQ Wb wr p mp q mq NN (back S2 NN c i))
      case atStart => exact ⟨0, by omega, rfl, rfl, by rw [back_zero]; exact HPQ14.out⟩
      case round =>
        obtain ⟨i, hi, rfl, hg, hpq⟩ := hrel
        have HG2 := Lib.hid hg
        have HPQL := Lib.hid hpq
        have HBL := Lib.hid (HBR.out.below hpq.bel)
        have hi' : (i : Int) ≤ n := by omega
        clear hg hpq
        by_cases hil : i < n
        · have hil' : (i : Int) < n := by omega
          obtain ⟨sx, hsx⟩ : ∃ sx, R[i]? = some sx := ⟨_, List.getElem?_eq_getElem (by rw [HN.out]; exact hil)⟩
          obtain ⟨x0, x1, x2⟩ := HBL.out.seats.at hsx
          obtain ⟨ny, hny, hc, ht, hp, hy8, hl64, hisx, hmy⟩ := HBR.out.good.name (List.mem_of_getElem? hsx)
          have hNi : NN[i]? = some ny := by rw [← HNN.out, List.getElem?_map, hsx, Option.map_some, hny]
          obtain ⟨av2, capv2, hv⟩ := hisx.len
          rw [hc] at x0
          rw [hp] at x2
          rw [hv] at x1 hisx
          obtain ⟨ly, hly⟩ : ∃ ly, ny.t.length = ly := ⟨_, rfl⟩
          rw [hly] at x1 hisx
          have HIY := Lib.hid hisx
          have HLY := Lib.hid hl64
          have HNI := Lib.hid hNi
          have HY8 := Lib.hid hy8
          clear hsx hny hc ht hp hl64 hisx hmy hv hly hNi
          by_cases hyc : ny.c = c
          · subst hyc
            have hstr := run_str ((HIY.out.below HPQL.out.bel).below (Below.drew (Below.refl _ _)))
            have hnn : NN.Nodup := by rw [← HNN.out]; exact HBR.out.good.nodup
            have hcl : cnt (back S2 NN ny.c i) ny.c < 64 := by
              have h1 := back_yes (T := S2) HNI.out rfl
              have h2 : (back S2 NN ny.c (i + 1)).Sublist (back S2 NN ny.c n) := by
                unfold back
                refine List.Sublist.append (List.Sublist.refl _) (List.Sublist.filter _ ?_)
                exact List.take_sublist_take_left (by omega)
              have h3 := (h2.filter (fun x => decide (x.c = ny.c))).length_le
              have h4 : cnt (back S2 NN ny.c n) ny.c = cnt NN ny.c := cnt_perm (back_end HS2.out (by rw [← HNN.out, List.length_map, HN.out]; exact Nat.le_refl _)) _
              have h5 := HBR.out.good.cnt ny.c
              rw [HNN.out] at h5
              have h6 : cnt (back S2 NN ny.c (i + 1)) ny.c = cnt (back S2 NN ny.c i) ny.c + 1 := by rw [h1, cnt_snoc, if_pos rfl]
              have h3' : cnt (back S2 NN ny.c (i + 1)) ny.c ≤ cnt (back S2 NN ny.c n) ny.c := h3
              omega
            have HJ := Lib.hid (join_n q mq (back S2 NN ny.c i) ny wr.drew (HPQL.out.qa.below (Below.drew (Below.refl _ _))) HY8.out HLY.out (back_out hnn HNI.out rfl) hcl _ rfl)
            clear hnn hcl
            go_wp2
            refine wp_region_hct 13 hmix (by kernel_rfl) _ rfl ?_
            simp only [List.take_succ_cons, List.take_zero, List.drop_succ_cons, List.drop_zero]
            repeat still_step
            refine wpStill_nil ?_
            go_wp2_with fail
            refine HJ.out.mono ?_
            rintro e wj ⟨rfl, hqj, hchj⟩
            go_wp2_with fail
            refine Hct.intro ?_
            repeat still_step
            refine wpStill_nil ?_
            have HPQJ := Lib.hid ((HPQL.out.below (Below.drew (Below.refl _ _))).ch hchj hqj)
            clear hqj hchj hstr x0 x1 x2
            go_wp2_with fail
            refine (num_any _ _).mono ?_
            rintro e w' ⟨rfl, rfl⟩
            go_wp2
            go_roundg (n - (i + 1))
            case measure => have := HG2.out; omega
            case rel => exact ⟨i + 1, by omega, by first | rfl | go_num, rfl, by rw [back_yes HNI.out rfl]; exact HPQJ.out⟩
          · have hyb : ((ny.c : Int) == (c : Int)) = false := by rw [beq_eq_false_iff_ne]; omega
            have HYC := Lib.hid hyc
            clear hyc x1 x2
            go_wp2
            go_roundg (n - (i + 1))
            case measure => have := HG2.out; omega
            case rel => exact ⟨i + 1, by omega, by first | rfl | go_num, rfl, by rw [back_no HNI.out HYC.out]; exact HPQL.out⟩
        · have hil' : (n : Int) ≤ i := by omega
          have HBK := Lib.hid (back_end (i := i) (c := c) HS2.out (by rw [← HNN.out, List.length_map, HN.out]; omega))
          have hch5 := HBL.out.c1
          have hcv5 := run_str HBL.out.chs
          go_wp2_with fail
          refine (alike_any p mp q mq NN (back S2 NN c i) _ R ch _ HBK.out.symm (HPQL.out.two HBR.out) HBL.out.seats HBL.out.good HA.out.len).mono ?_
          rintro e wz ⟨rfl, hbz⟩
          have HZ := Lib.hid (HBL.out.bel.trans (hbz.mono HBL.out.bel.size))
          clear hbz hch5 hcv5
          go_wp2
          go_ret
          exact ⟨rfl, HZ.out⟩
    · obtain rfl : x = (j : Int) := by omega
      have hjr : j < R.length := by rw [HN.out]; omega
      have HBR := Lib.hid (HBASE4.out.below HB.out)
      obtain ⟨gs, off, rfl, hgs, x0, x1, x2⟩ := HBR.out.seats.get hjr
      obtain ⟨s, hs⟩ : ∃ s, R[j] = s := ⟨_, rfl⟩
      rw [hs] at x0 x1 x2
      have hsm : s ∈ R := by rw [← hs]; exact List.getElem_mem hjr
      obtain ⟨av, capv, hv⟩ := (HBR.out.good.is s hsm).1.len
      have hdr : (R.drop j).reverse = (R.drop (j + 1)).reverse ++ [s] := by rw [List.drop_eq_getElem_cons hjr, hs, List.reverse_cons]
      obtain ⟨sc, sv, st, sp⟩ := s
      simp only at x0 x1 x2 hv
      subst hv
      obtain ⟨st', hst'⟩ : ∃ k, st.length = k := ⟨_, rfl⟩
      rw [hst'] at x1 hdr
      obtain ⟨aa, ca, rfl⟩ := ownsRow_len HO.out
      have HDR := Lib.hid hdr
      have hj' : (j : Int) < n := by omega
      have HJ := Lib.hid hj
      have hlen : (R.drop (j + 1)).reverse.length ≤ 1000 := by rw [List.length_reverse, List.length_drop]; have := HN.out; omega
      have HLEN := Lib.hid hlen
      have HLT := Lib.hid (fun q hq => (HO.out.lt q hq))
      clear hs hsm hst' hdr hlen hj hx hjr
      go_wp2_with (at_builtin; refine wpList_append_own _ rfl _ _ 43 rfl w4.heap.size 48 i9 (.agg #[.int .i64 0, .slice none 0 0, .bool false]) 3 40 und43 HI9.out HZ0.out HZ1.out HZ2.out rfl (by decide) _ _ _ rfl (HO.out.alloc _) ⟨wr.heap.size, 0, none⟩ 1 1 [.int .i64 sc, .slice av st' capv, .bool sp] rfl rfl ?d1 ?d2 ?d3 ?d4 ?d5 ?_)
      case d1 => exact three_cells _ _ _ _ _
      case d2 => intro u hu; simp only [List.mem_cons, List.not_mem_nil, or_false] at hu; rcases hu with rfl | rfl | rfl <;> rfl
      case d3 => have := HLEN.out; unfold maxLen; omega
      case d4 => have := HLEN.out; omega
      case d5 => have := HB.out.size; simp; omega
      intro v5' w5 hown5 hgr5 _
      have HO5 := Lib.hid hown5
      have HB5 := Lib.hid ((HB.out.alloc HB.out.size (.cells #[.int .i64 sc, .slice av st' capv, .bool sp] 48)).grown hgr5 (by have := HB.out.size; simp; omega) (fun q hq => (HLT.out q (by simpa [Value.ownBlock] using hq)).1))
      clear hown5 hgr5
      go_wp2
      go_roundg j
      case measure => have := HG.out; omega
      case rel =>
        refine ⟨j, _, by have := HJ.out; omega, rfl, by first | rfl | go_num, rfl, ?_, HB5.out⟩
        rw [HDR.out]
        have := HO5.out
        simpa [encS] using this
end Go.Proofs.YtgfldammdcocmaaDoor
