import Derived.Test.YtgfldammdcocmaaDoorLe
namespace Go.Proofs.YtgfldammdcocmaaDoor
open Go.RowKit Go.Sort

/-- how many names a connection has; none where there is no such connection. -/
def cntI (S : List Nm) (c : Int) : Nat := if 0 ≤ c ∧ c < 8 then cnt S c.toNat else 0
theorem cnt_perm {S S' : List Nm} (h : S.Perm S') (c : Nat) : cnt S c = cnt S' c := (h.filter _).length_eq
theorem cntI_perm {S S' : List Nm} (h : S.Perm S') (c : Int) : cntI S c = cntI S' c := by
  unfold cntI; split
  · exact cnt_perm h _
  · rfl
theorem textsOf_perm {S S' : List Nm} (h : S.Perm S') (P : Nm → Bool) : textsOf S P = textsOf S' P := by
  unfold textsOf; rw [sort_perm ((h.filter P).map (·.t))]
theorem countP_any (pb mb : Nat) (S S' : List Nm) (hS : S.Perm S') (c : Int) (w : World) (hP : PostAt w pb mb S') :
    Calls Tryd.prog 14 #[.pointer (some ⟨pb, 0, none⟩), .int .i64 c] w fun e w' => e = .returned (.int .i64 (cntI S c)) ∧ w = w' := by
  rw [cntI_perm hS]
  by_cases h : 0 ≤ c ∧ c < 8
  · obtain ⟨n, rfl⟩ : ∃ n : Nat, c = n := ⟨c.toNat, by omega⟩
    refine (count_in pb mb S' n w hP (by omega)).mono ?_
    rintro e w' ⟨rfl, rfl⟩
    refine ⟨?_, rfl⟩
    unfold cntI; rw [if_pos h]; rfl
  · refine (count_out pb c w (by omega)).mono ?_
    rintro e w' ⟨rfl, rfl⟩
    refine ⟨?_, rfl⟩
    unfold cntI; rw [if_neg h]; rfl
theorem namesP_any (pb mb : Nat) (S S' : List Nm) (hS : S.Perm S') (c : Int) (p : Bool) (w : World) (hP : PostAt w pb mb S') :
    Calls Tryd.prog 20 #[.pointer (some ⟨pb, 0, none⟩), .int .i64 c, .bool p] w fun e w' => TextsLeft w (textsOf S (P43 c p)) e w' := by
  rw [textsOf_perm hS]; exact names_any pb mb S' c p w hP
theorem heardP_any (pb mb : Nat) (S S' : List Nm) (hS : S.Perm S') (ch : List UInt8) (w : World) (hP : PostAt w pb mb S') (hch : ch.length ≤ 9223372036854775807) (hG : GlobAt w) :
    Calls Tryd.prog 21 #[.pointer (some ⟨pb, 0, none⟩), .string ⟨ch.toArray⟩] w fun e w' => HitsLeft w (sortH (S.filter (PH ch))) e w' := by
  rw [sortH_perm (hS.filter _)]; exact heard_any pb mb S' ch w hP hch hG
theorem listenersP_any (pb mb : Nat) (S S' : List Nm) (hS : S.Perm S') (ch : List UInt8) (w : World) (hP : PostAt w pb mb S') :
    Calls Tryd.prog 34 #[.pointer (some ⟨pb, 0, none⟩), .string ⟨ch.toArray⟩] w fun e w' => e = .returned (.int .i64 ((S.filter (PL ch)).length : Nat)) ∧ Below w.heap.size w w' := by
  rw [(hS.filter _).length_eq]; exact listeners_any pb mb S' ch w hP
theorem PostAt.ok {w : World} {pb mb : Nat} {S : List Nm} (h : PostAt w pb mb S) : ∀ n ∈ S, n.t.length ≤ 9223372036854775807 := by
  obtain ⟨_, ⟨_, _, _, hE⟩, _, _⟩ := h
  intro n hn
  have := (hE.ok n hn).2
  omega
theorem channelsP_any (pb mb : Nat) (S S' : List Nm) (hS : S.Perm S') (q : List UInt8) (w : World) (hP : PostAt w pb mb S') (hq : q.length ≤ 1048576) (hG : GlobAt w) :
    Calls Tryd.prog 32 #[.pointer (some ⟨pb, 0, none⟩), .string ⟨q.toArray⟩] w fun e w' => TextsLeft w (textsOf S (P53 q)) e w' := by
  rw [textsOf_perm hS]; exact channels_any pb mb S' q w hP hq hG hP.ok
theorem patternsP_any (pb mb : Nat) (S S' : List Nm) (hS : S.Perm S') (w : World) (hP : PostAt w pb mb S') :
    Calls Tryd.prog 36 #[.pointer (some ⟨pb, 0, none⟩)] w fun e w' => e = .returned (.int .i64 ((textsOf S P54).length : Nat)) ∧ Below w.heap.size w w' := by
  rw [textsOf_perm hS]; exact patterns_any pb mb S' w hP

/-- the two Posts, in a later world. -/
structure Two (w : World) (p mp q mq : Nat) (S S' : List Nm) : Prop where
  p : PostAt w p mp S
  q : PostAt w q mq S'
  g : GlobAt w
theorem Two.below {w w' : World} {p mp q mq : Nat} {S S' : List Nm} (h : Two w p mp q mq S S') (hb : Below w.heap.size w w') : Two w' p mp q mq S S' :=
  ⟨h.p.below hb, h.q.below hb, h.g.below hb h.g.lt⟩

theorem SeatsAt.len {w : World} {v : Value} {ss : List Sv} (h : SeatsAt w v ss) : ∃ a cap, v = .slice a ss.length cap ∧ ss.length ≤ 9223372036854775807 := by
  rcases h with ⟨a, cap, rfl, rfl⟩ | ⟨g, off, cap, rfl, hg, hl, hc⟩
  · exact ⟨a, cap, rfl, by simp⟩
  · exact ⟨_, _, rfl, hl⟩
theorem SeatsAt.get {w : World} {a : Option Addr} {n cap : Nat} {ss : List Sv} (h : SeatsAt w (.slice a n cap) ss) {i : Nat} (hi : i < ss.length) : ∃ g off, a = some ⟨g, off, none⟩ ∧ g < w.heap.size ∧
    w.cell? ⟨g, off + i * 3, none⟩ = some (.int .i64 ss[i].c) ∧ w.cell? ⟨g, off + i * 3 + 1, none⟩ = some ss[i].v ∧ w.cell? ⟨g, off + i * 3 + 2, none⟩ = some (.bool ss[i].p) := by
  rcases h with ⟨_, _, _, rfl⟩ | ⟨g, off, cap, hv, hg, hl, hc⟩
  · simp at hi
  · injection hv with h1 h2 h3
    exact ⟨g, off, h1, hg, hc i hi⟩

set_option maxHeartbeats 4000000 in
set_option maxRecDepth 100000 in
theorem alike_any (p mp q mq : Nat) (S S' : List Nm) (v : Value) (ss : List Sv) (ch : List UInt8) (w : World) (hS : S.Perm S') (hT : Two w p mp q mq S S') (hv : SeatsAt w v ss) (hB : GoodR w ss) (hch : ch.length ≤ 9223372036854775807) :
    Calls Tryd.prog 15 #[.pointer (some ⟨p, 0, none⟩), .pointer (some ⟨q, 0, none⟩), v, .string ⟨ch.toArray⟩] w fun e w' => e = .returned (.bool true) ∧ Below w.heap.size w w' := by
  obtain ⟨a, cap, rfl, hlen⟩ := hv.len
  obtain ⟨n, hn⟩ : ∃ n, ss.length = n := ⟨_, rfl⟩
  rw [hn] at hlen hv ⊢
  have hlen' : (n : Int) ≤ 9223372036854775807 := by omega
  have HN := Lib.hid hn
  have HS := Lib.hid hS
  have HT := Lib.hid hT
  have HV := Lib.hid hv
  have HGD := Lib.hid hB
  have HCH := Lib.hid hch
  clear hS hT hv hB hn hlen hch
  go_enter Tryd.func15, Tryd.ntmps15
  go_wp2
  go_loopg [9] 10 (fun g v9 wr => ∃ c : Int, -1 ≤ c ∧ c ≤ 9 ∧ v9 = .int .i64 c ∧ g = (9 - c).toNat ∧ Below w.heap.size w wr)
  case atStart => exact ⟨-1, by omega, by omega, rfl, rfl, Below.refl _ _⟩
  case round =>
    obtain ⟨c, hc1, hc2, rfl, hg, hbel⟩ := hrel
    have HG := Lib.hid hg
    have HBEL := Lib.hid hbel
    have HT1 := Lib.hid (HT.out.below hbel)
    clear hg hbel
    by_cases hlt : c ≤ 8
    · go_wp2_with fail
      refine (countP_any p mp S S (List.Perm.refl _) c _ HT1.out.p).mono ?_
      rintro e w' ⟨rfl, rfl⟩
      go_wp2_with fail
      refine (countP_any q mq S S' HS.out c _ HT1.out.q).mono ?_
      rintro e w' ⟨rfl, rfl⟩
      go_wp2_with fail
      refine (namesP_any p mp S S (List.Perm.refl _) c true _ HT1.out.p).mono ?_
      rintro e w1 ⟨v1, rfl, ho1, hb1⟩
      have HO1 := Lib.hid ho1
      have HB1 := Lib.hid hb1
      have HT2 := Lib.hid (HT1.out.below hb1)
      clear ho1 hb1
      go_wp2_with fail
      refine (namesP_any q mq S S' HS.out c true _ HT2.out.q).mono ?_
      rintro e w2 ⟨v2, rfl, ho2, hb2⟩
      have HO1' := Lib.hid (ownsKept HO1.out hb2)
      have HO2 := Lib.hid ho2
      have HB2 := Lib.hid (HB1.out.trans (hb2.mono HB1.out.size))
      have HT3 := Lib.hid (HT2.out.below hb2)
      clear ho2 hb2
      go_wp2_with fail
      refine (same_texts v1 v2 _ _ _ _ HO1'.out HO2.out).mono ?_
      rintro e w3 ⟨rfl, hb3⟩
      have HB3 := Lib.hid (HB2.out.trans (hb3.mono HB2.out.size))
      have HT4 := Lib.hid (HT3.out.below hb3)
      clear hb3 HO1 HO2 HO1' HB1 HB2 HT2 HT3
      go_wp2_with fail
      refine (namesP_any p mp S S (List.Perm.refl _) c false _ HT4.out.p).mono ?_
      rintro e w4 ⟨v3, rfl, ho1, hb1⟩
      have HO1 := Lib.hid ho1
      have HB1 := Lib.hid (HB3.out.trans (hb1.mono HB3.out.size))
      have HT2 := Lib.hid (HT4.out.below hb1)
      clear ho1 hb1
      go_wp2_with fail
      refine (namesP_any q mq S S' HS.out c false _ HT2.out.q).mono ?_
      rintro e w5 ⟨v4, rfl, ho2, hb2⟩
      have HO1' := Lib.hid (ownsKept HO1.out hb2)
      have HO2 := Lib.hid ho2
      have HB2 := Lib.hid (HB1.out.trans (hb2.mono HB1.out.size))
      clear ho2 hb2
      go_wp2_with fail
      refine (same_texts v3 v4 _ _ _ _ HO1'.out HO2.out).mono ?_
      rintro e w6 ⟨rfl, hb3⟩
      have HB6 := Lib.hid (HB2.out.trans (hb3.mono HB2.out.size))
      clear hb3 HO1 HO2 HO1' HB1 HB2 HT2 HB3 HT4
      go_wp2
      go_roundg (9 - (c + 1)).toNat
      case measure => have := HG.out; omega
      case rel => exact ⟨c + 1, by omega, by omega, rfl, rfl, HBEL.out.trans (HB6.out.mono HBEL.out.size)⟩
    · have hc9 : 9 ≤ c := by omega
      obtain ⟨wo, hwo⟩ : ∃ wo : World, wo = wr := ⟨_, rfl⟩
      subst hwo
      have HV1 := Lib.hid (HV.out.below HBEL.out)
      go_wp2
      go_loopg [10] n (fun g v10 wq => ∃ i : Nat, i ≤ n ∧ v10 = .int .i64 i ∧ g = n - i ∧ Below wo.heap.size wo wq)
      case atStart => exact ⟨0, by omega, rfl, rfl, Below.refl _ _⟩
      case round =>
        obtain ⟨i, hi, rfl, hg, hbel⟩ := hrel
        have HG1 := Lib.hid hg
        have HBQ := Lib.hid hbel
        have HT2 := Lib.hid (HT1.out.below hbel)
        have HV2 := Lib.hid (HV1.out.below hbel)
        have HB0 := Lib.hid (HBEL.out.trans (hbel.mono HBEL.out.size))
        have hi' : (i : Int) ≤ n := by omega
        clear hg hbel
        by_cases hil : i < n
        · have hil' : (i : Int) < n := by omega
          have hir : i < ss.length := by rw [HN.out]; exact hil
          obtain ⟨g, off, rfl, hgl, x0, x1, x2⟩ := HV2.out.get hir
          obtain ⟨s, hs⟩ : ∃ s, ss[i] = s := ⟨_, rfl⟩
          rw [hs] at x0 x1 x2
          have hI := (HGD.out.is s (by rw [← hs]; exact List.getElem_mem hir))
          have hstr := run_str (hI.1.below HB0.out)
          have HTL := Lib.hid hI.2.2.2
          clear hs x0 x2 hI hir
          go_wp2_with fail
          refine (heardP_any p mp S S (List.Perm.refl _) s.t _ HT2.out.p (by have := HTL.out; omega) HT2.out.g).mono ?_
          rintro e w1 ⟨v1, rfl, ho1, hb1⟩
          have HO1 := Lib.hid ho1
          have HB1 := Lib.hid hb1
          have HT3 := Lib.hid (HT2.out.below hb1)
          clear ho1 hb1
          go_wp2_with fail
          refine (heardP_any q mq S S' HS.out s.t _ HT3.out.q (by have := HTL.out; omega) HT3.out.g).mono ?_
          rintro e w2 ⟨v2, rfl, ho2, hb2⟩
          have HO1' := Lib.hid (ownsKept HO1.out hb2)
          have HO2 := Lib.hid ho2
          have HB2 := Lib.hid (HB1.out.trans (hb2.mono HB1.out.size))
          have HT4 := Lib.hid (HT3.out.below hb2)
          clear ho2 hb2
          go_wp2_with fail
          refine (same_hits v1 v2 _ _ _ _ HO1'.out HO2.out).mono ?_
          rintro e w3 ⟨rfl, hb3⟩
          have HB3 := Lib.hid (HB2.out.trans (hb3.mono HB2.out.size))
          have HT5 := Lib.hid (HT4.out.below hb3)
          clear hb3 HO1 HO2 HO1' HB1 HB2 HT3 HT4
          go_wp2_with fail
          refine (listenersP_any p mp S S (List.Perm.refl _) s.t _ HT5.out.p).mono ?_
          rintro e w4 ⟨rfl, hb4⟩
          have HB4 := Lib.hid (HB3.out.trans (hb4.mono HB3.out.size))
          have HT6 := Lib.hid (HT5.out.below hb4)
          clear hb4 HB3 HT5
          go_wp2_with fail
          refine (listenersP_any q mq S S' HS.out s.t _ HT6.out.q).mono ?_
          rintro e w5 ⟨rfl, hb5⟩
          have HB5 := Lib.hid (HB4.out.trans (hb5.mono HB4.out.size))
          have HT7 := Lib.hid (HT6.out.below hb5)
          clear hb5 HB4 HT6
          generalize (S.filter (PL s.t)).length = kl
          go_wp2_with fail
          refine (channelsP_any p mp S S (List.Perm.refl _) s.t _ HT7.out.p (by have := HTL.out; omega) HT7.out.g).mono ?_
          rintro e w6 ⟨v1, rfl, ho1, hb1⟩
          have HO1 := Lib.hid ho1
          have HB1 := Lib.hid (HB5.out.trans (hb1.mono HB5.out.size))
          have HT3 := Lib.hid (HT7.out.below hb1)
          clear ho1 hb1
          go_wp2_with fail
          refine (channelsP_any q mq S S' HS.out s.t _ HT3.out.q (by have := HTL.out; omega) HT3.out.g).mono ?_
          rintro e w7 ⟨v2, rfl, ho2, hb2⟩
          have HO1' := Lib.hid (ownsKept HO1.out hb2)
          have HO2 := Lib.hid ho2
          have HB2 := Lib.hid (HB1.out.trans (hb2.mono HB1.out.size))
          clear ho2 hb2
          go_wp2_with fail
          refine (same_texts v1 v2 _ _ _ _ HO1'.out HO2.out).mono ?_
          rintro e w8 ⟨rfl, hb3⟩
          have HB3 := Lib.hid (HB2.out.trans (hb3.mono HB2.out.size))
          clear hb3 HO1 HO2 HO1' HB1 HB2 HT3
          go_wp2
          go_roundg (n - (i + 1))
          case measure => have := HG1.out; omega
          case rel => exact ⟨i + 1, by omega, by first | rfl | go_num, rfl, HBQ.out.trans (HB3.out.mono HBQ.out.size)⟩
        · have hil' : (n : Int) ≤ i := by omega
          go_wp2_with fail
          refine (heardP_any p mp S S (List.Perm.refl _) ch _ HT2.out.p HCH.out HT2.out.g).mono ?_
          rintro e w1 ⟨v1, rfl, ho1, hb1⟩
          have HO1 := Lib.hid ho1
          have HB1 := Lib.hid (HB0.out.trans (hb1.mono HB0.out.size))
          have HT3 := Lib.hid (HT2.out.below hb1)
          clear ho1 hb1
          go_wp2_with fail
          refine (heardP_any q mq S S' HS.out ch _ HT3.out.q HCH.out HT3.out.g).mono ?_
          rintro e w2 ⟨v2, rfl, ho2, hb2⟩
          have HO1' := Lib.hid (ownsKept HO1.out hb2)
          have HO2 := Lib.hid ho2
          have HB2 := Lib.hid (HB1.out.trans (hb2.mono HB1.out.size))
          have HT4 := Lib.hid (HT3.out.below hb2)
          clear ho2 hb2
          go_wp2_with fail
          refine (same_hits v1 v2 _ _ _ _ HO1'.out HO2.out).mono ?_
          rintro e w3 ⟨rfl, hb3⟩
          have HB3 := Lib.hid (HB2.out.trans (hb3.mono HB2.out.size))
          have HT5 := Lib.hid (HT4.out.below hb3)
          clear hb3 HO1 HO2 HO1' HB1 HB2 HT3 HT4
          go_wp2_with fail
          refine (channelsP_any p mp S S (List.Perm.refl _) [42] _ HT5.out.p (by decide) HT5.out.g).mono ?_
          rintro e w6 ⟨v1, rfl, ho1, hb1⟩
          have HO1 := Lib.hid ho1
          have HB1 := Lib.hid (HB3.out.trans (hb1.mono HB3.out.size))
          have HT3 := Lib.hid (HT5.out.below hb1)
          clear ho1 hb1
          go_wp2_with fail
          refine (channelsP_any q mq S S' HS.out [42] _ HT3.out.q (by decide) HT3.out.g).mono ?_
          rintro e w7 ⟨v2, rfl, ho2, hb2⟩
          have HO1' := Lib.hid (ownsKept HO1.out hb2)
          have HO2 := Lib.hid ho2
          have HB2 := Lib.hid (HB1.out.trans (hb2.mono HB1.out.size))
          have HT4 := Lib.hid (HT3.out.below hb2)
          clear ho2 hb2
          go_wp2_with fail
          refine (same_texts v1 v2 _ _ _ _ HO1'.out HO2.out).mono ?_
          rintro e w8 ⟨rfl, hb3⟩
          have HB3 := Lib.hid (HB2.out.trans (hb3.mono HB2.out.size))
          have HT5 := Lib.hid (HT4.out.below hb3)
          clear hb3 HO1 HO2 HO1' HB1 HB2 HT3 HT4
          go_wp2_with fail
          refine (patternsP_any p mp S S (List.Perm.refl _) _ HT5.out.p).mono ?_
          rintro e w4 ⟨rfl, hb4⟩
          have HB4 := Lib.hid (HB3.out.trans (hb4.mono HB3.out.size))
          have HT6 := Lib.hid (HT5.out.below hb4)
          clear hb4 HB3 HT5
          go_wp2_with fail
          refine (patternsP_any q mq S S' HS.out _ HT6.out.q).mono ?_
          rintro e w5 ⟨rfl, hb5⟩
          have HB5 := Lib.hid (HB4.out.trans (hb5.mono HB4.out.size))
          clear hb5 HB4 HT6
          generalize (textsOf S P54).length = kl
          go_wp2
          go_ret
          exact ⟨rfl, HB5.out⟩
end Go.Proofs.YtgfldammdcocmaaDoor
