import Derived.Test.YtgfldammdcocmaaDoorLd
import Derived.Test.YtgfldammdcocmaaDoorRg
namespace Go.Proofs.YtgfldammdcocmaaDoor
open Go.RowKit Go.Sort

def JoinedLeft (w : World) (N : List Nm) (e : Ending) (w' : World) : Prop :=
  ∃ pb mb, e = .returned (.pointer (some ⟨pb, 0, none⟩)) ∧ PostAt w' pb mb N ∧ w.heap.size ≤ pb ∧ w.heap.size ≤ mb ∧ Below w.heap.size w w'

def RelJ (w : World) (ss : List Sv) (n : Nat) (g : Nat) (v5 : Value) (wr : World) : Prop :=
  ∃ i, g = n - i ∧ i ≤ n ∧ v5 = .int .i64 (i : Nat) ∧ PostAt wr (w.heap.size + 1) w.heap.size ((ss.take i).map nm) ∧ CountAt wr (w.heap.size + 2) ((ss.take i).map nm) ∧ Below w.heap.size w wr

set_option maxHeartbeats 2000000 in
set_option maxRecDepth 100000 in
theorem joined_blk (g off cap n : Nat) (ss : List Sv) (w : World) (hn : ss.length = n) (hg : g < w.heap.size) (hl : n ≤ 1000)
    (hc : ∀ i (h : i < ss.length), w.cell? ⟨g, off + i * 3, none⟩ = some (.int .i64 ss[i].c) ∧ w.cell? ⟨g, off + i * 3 + 1, none⟩ = some ss[i].v ∧ w.cell? ⟨g, off + i * 3 + 2, none⟩ = some (.bool ss[i].p))
    (hB : GoodR w ss) :
    Calls Tryd.prog 13 #[.slice (some ⟨g, off, none⟩) n cap] w fun e w' => JoinedLeft w (ss.map nm) e w' := by
  have hl' : (n : Int) ≤ 1000 := by omega
  have HN := Lib.hid hn
  have HC := Lib.hid hc
  have HGOOD := Lib.hid hB
  have HNEW := Lib.hid (new_any w)
  have hmk := mk8
  clear hn hc hB
  go_enter Tryd.func13, Tryd.ntmps13
  go_wp2_with fail
  refine HNEW.out.mono ?_
  rintro e w1 ⟨rfl, hp1, hch1, hs1⟩
  have HP1 := Lib.hid hp1
  have HCH1 := Lib.hid hch1
  have HS1 := Lib.hid hs1
  clear hp1 hch1
  go_wp2
  go_loopg [5] n (fun g v5 wr => RelJ w ss n g v5 wr)
  case atStart =>
    have hc0 := count0 w1
    rw [HS1.out] at hc0
    refine ⟨0, by omega, by omega, rfl, HP1.out.below ((Below.refl _ _).alloc (Nat.le_refl _) _), by simpa using hc0, ?_⟩
    exact HCH1.out.below.alloc (by omega) _
  case round =>
    obtain ⟨i, hgk, hin, rfl, hpost, hcnt, hbel⟩ := hrel
    have HGK := Lib.hid hgk
    have HPO := Lib.hid hpost
    have HCN := Lib.hid hcnt
    have HBE := Lib.hid hbel
    have hin' : (i : Int) ≤ n := by omega
    clear hgk hpost hcnt hbel
    by_cases hlt : i < n
    · have hlt' : (i : Int) < n := by omega
      have hil : i < ss.length := by have := HN.out; omega
      obtain ⟨x0, x1, x2⟩ := HC.out i hil
      have q0 := (HBE.out.cell (p := ⟨g, off + i * 3, none⟩) hg).trans x0
      have q1 := (HBE.out.cell (p := ⟨g, off + i * 3 + 1, none⟩) hg).trans x1
      have q2 := (HBE.out.cell (p := ⟨g, off + i * 3 + 2, none⟩) hg).trans x2
      obtain ⟨s, hs⟩ : ∃ s, ss[i] = s := ⟨_, rfl⟩
      rw [hs] at q0 q1 q2
      have hs' : ss[i]? = some s := by rw [List.getElem?_eq_getElem hil, hs]
      obtain ⟨hI, hc0, hc8, htl⟩ := HGOOD.out.is s (List.mem_of_getElem? hs')
      obtain ⟨cc, hcc⟩ : ∃ cc : Nat, s.c = (cc : Int) := ⟨s.c.toNat, by omega⟩
      have hgw : g < wr.heap.size := Nat.lt_of_lt_of_le hg HBE.out.size
      have hstr := run_str ((hI.below HBE.out).below (Below.drew (Below.refl _ _)))
      have hnm : nm s = ⟨cc, s.t, s.p⟩ := by unfold nm; rw [hcc]; rfl
      have htk : (ss.take (i + 1)).map nm = (ss.take i).map nm ++ [⟨cc, s.t, s.p⟩] := by rw [List.take_add_one, hs', List.map_append]; simp [hnm]
      have hsub : List.Sublist ((ss.take (i + 1)).map nm) (ss.map nm) := (List.take_sublist _ _).map nm
      have hnd := HGOOD.out.nodup.sublist hsub
      rw [htk] at hnd hsub
      have hni : (⟨cc, s.t, s.p⟩ : Nm) ∉ (ss.take i).map nm := fun h => (List.nodup_append.1 hnd).2.2 _ h _ (by simp) rfl
      have hcl : cnt ((ss.take i).map nm) cc < 64 := by
        have h1 : cnt ((ss.take i).map nm ++ [⟨cc, s.t, s.p⟩]) cc ≤ cnt (ss.map nm) cc := (hsub.filter _).length_le
        rw [cnt_snoc, if_pos rfl] at h1
        have := HGOOD.out.cnt cc
        omega
      have hj := join_new (w.heap.size + 1) w.heap.size ((ss.take i).map nm) cc ⟨s.t.toArray⟩ s.p wr.drew (HPO.out.below (Below.drew (Below.refl _ _))) (by omega) (by show s.t.toArray.size ≤ 4096; simp; omega) (by simpa using hni) hcl
      simp only [List.toList_toArray] at hj
      rw [← htk] at hj
      obtain ⟨S1, hS1⟩ : ∃ S1, (ss.take (i + 1)).map nm = S1 := ⟨_, rfl⟩
      obtain ⟨m, hm⟩ : ∃ m, cnt ((ss.take i).map nm) cc = m := ⟨_, rfl⟩
      rw [hS1, hm] at hj
      have HJ := Lib.hid hj
      have HS1' := Lib.hid hS1
      have HM := Lib.hid hm
      have HMC := Lib.hid (show m < 64 from by rw [← hm]; exact hcl)
      rw [hcc] at q0
      have hcci : (cc : Int) < 8 := by omega
      have HTK := Lib.hid htk
      have hnl := HBE.out.size
      have HQ := Lib.hid (And.intro q0 (And.intro q1 q2))
      clear hj hS1 hm hcl hni hnd hsub htk hnm hcc hI hc0 hc8 htl x0 x1 x2 hs hs' hil
      go_wp2
      refine wp_region_hct 17 hmix (by kernel_rfl) _ rfl ?_
      simp only [List.take_succ_cons, List.take_zero, List.drop_succ_cons, List.drop_zero]
      repeat still_step
      refine wpStill_nil ?_
      go_wp2_with fail
      refine HJ.out.mono ?_
      rintro e w4 ⟨rfl, hp4, hch4⟩
      go_wp2_with fail
      refine Hct.intro ?_
      repeat still_step
      refine wpStill_nil ?_
      have hsz4 : wr.heap.size ≤ w4.heap.size := hch4.size
      have hg4 : w4.heap[g]? = wr.heap[g]? := hch4.block g hgw (by omega)
      have hq0 : w4.cell? ⟨g, off + i * 3, none⟩ = some (.int .i64 (cc : Nat)) := (World.cell?_of_block (a := ⟨g, off + i * 3, none⟩) hg4).trans HQ.out.1
      have hcn4 : CountAt w4 (w.heap.size + 2) ((ss.take i).map nm) := HCN.out.keep (hch4.block _ HCN.out.lt (by omega))
      obtain ⟨cs, e1, e2, e3⟩ := hcn4
      have hcell4 : w4.cell? ⟨w.heap.size + 2, cc, none⟩ = some (.int .i64 (m : Nat)) := by rw [cell_blk e1, ← HM.out]; exact e3 cc (by omega)
      have hfr4 := frozen_blk e1 cc
      have hm64 : (m : Int) < 64 := by have := HMC.out; omega
      have HP4 := Lib.hid hp4
      have HB4 : Hid (Below w.heap.size w w4) := Lib.hid ⟨hch4.os.trans HBE.out.os, hch4.tape.trans HBE.out.tape, hch4.output.trans HBE.out.output, by have := HBE.out.size; omega, fun k hk => (hch4.block k (by show k < wr.heap.size; omega) (by omega)).trans (HBE.out.block k hk)⟩
      have HE1 := Lib.hid e1
      have HE2 := Lib.hid e2
      have HE3 := Lib.hid e3
      have hgB : ¬ w.heap.size + 2 = g := by omega
      have hgB' : ¬ g = w.heap.size + 2 := by omega
      have hB4 : w.heap.size + 2 < w4.heap.size := lt_of_blk e1
      clear hp4 hch4 hg4 e1 e2 e3
      go_wp2_with (go_at_call 17; refine (num_any _ _).mono ?_; rintro e w' ⟨rfl, rfl⟩)
      go_roundg (n - (i + 1))
      case measure => have := HGK.out; omega
      case rel =>
        refine ⟨i + 1, rfl, by omega, by first | rfl | go_num, ?_, ?_, HB4.out.setCell (by show w.heap.size ≤ w.heap.size + 2; omega) _⟩
        · rw [HS1'.out]
          exact HP4.out.keep (S' := fun k => k = w.heap.size + 2) (Ch.setCell (S := fun k => k = w.heap.size + 2) (Ch.refl _ w4) (fun _ => rfl) _) (by omega) (by omega)
        · refine ⟨cs.setIfInBounds cc (.int .i64 ((m : Int) + 1)), blk_setCell_self _ _ _ _ _ _ _ HE1.out, by rw [Array.size_setIfInBounds]; exact HE2.out, fun c hc => ?_⟩
          rw [Array.getElem?_setIfInBounds, HTK.out, cnt_snoc]
          by_cases e : cc = c
          · subst e
            have hsz := HE2.out
            rw [if_pos rfl, if_pos (by omega), if_pos rfl, HM.out]; rfl
          · rw [if_neg e, if_neg (fun h => e h.symm)]
            exact HE3.out c hc
    · have hlt' : (n : Int) ≤ i := by omega
      have hE := Lib.hid (show (ss.take i).map nm = ss.map nm by rw [List.take_of_length_le (by have := HN.out; omega)])
      clear hlt
      go_wp2
      go_ret
      exact ⟨_, _, rfl, by rw [← hE.out]; exact HPO.out, by omega, Nat.le_refl _, HBE.out⟩

theorem joined_nil (a : Option Addr) (cap : Nat) (w : World) : Calls Tryd.prog 13 #[.slice a 0 cap] w fun e w' => JoinedLeft w [] e w' := by
  have HNEW := Lib.hid (new_any w)
  have hmk := mk8
  go_enter Tryd.func13, Tryd.ntmps13
  go_wp2_with fail
  refine HNEW.out.mono ?_
  rintro e w1 ⟨rfl, hp1, hch1, hs1⟩
  have HP1 := Lib.hid hp1
  have HCH1 := Lib.hid hch1
  have HS1 := Lib.hid hs1
  clear hp1 hch1
  go_wp2
  go_loopg [5] 0 (fun g v5 wr => v5 = .int .i64 0 ∧ PostAt wr (w.heap.size + 1) w.heap.size [] ∧ Below w.heap.size w wr)
  case atStart => exact ⟨rfl, HP1.out.below ((Below.refl _ _).alloc (Nat.le_refl _) _), HCH1.out.below.alloc (by omega) _⟩
  case round =>
    obtain ⟨rfl, hp, hb⟩ := hrel
    have HP := Lib.hid hp
    have HB := Lib.hid hb
    clear hp hb
    go_wp2
    go_ret
    exact ⟨_, _, rfl, HP.out, by omega, Nat.le_refl _, HB.out⟩
theorem joined_any (v : Value) (ss : List Sv) (w : World) (h : SeatsAt w v ss) (hB : GoodR w ss) (hl : ss.length ≤ 1000) : Calls Tryd.prog 13 #[v] w fun e w' => JoinedLeft w (ss.map nm) e w' := by
  rcases h with ⟨a, cap, rfl, rfl⟩ | ⟨g, off, cap, rfl, hg, _, hc⟩
  · exact joined_nil a cap w
  · exact joined_blk g off cap ss.length ss w rfl hg hl hc hB
end Go.Proofs.YtgfldammdcocmaaDoor
