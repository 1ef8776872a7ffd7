import Derived.Test.YtgfldammdcocmaaDoorPc
namespace Go.Proofs.YtgfldammdcocmaaDoor
open Go.RowKit Go.Sort

def PL (ch : List UInt8) (n : Nm) : Bool := !n.p && decide (n.t = ch)
def RelLn (w : World) (mb r : Nat) (S : List Nm) (P : Nm → Bool) (g : Nat) (v : Value) (wr : World) : Prop :=
  ∃ L, ∃ acc : List (List UInt8), g = L.length ∧ It wr r mb S L ∧ acc.Perm ((S.filter (fun x => decide (x ∉ L) && P x)).map (·.t)) ∧ v = .int .i64 (acc.length : Nat) ∧ Below w.heap.size w wr

set_option maxHeartbeats 1000000 in
set_option maxRecDepth 100000 in
theorem listeners_any (pb mb : Nat) (S : List Nm) (ch : List UInt8) (w : World) (hP : PostAt w pb mb S) :
    Calls Tryd.prog 34 #[.pointer (some ⟨pb, 0, none⟩), .string ⟨ch.toArray⟩] w fun e w' => e = .returned (.int .i64 ((S.filter (PL ch)).length : Nat)) ∧ Below w.heap.size w w' := by
  have hlen := hP.len
  have hc0 := hP.map_cell
  obtain ⟨hne, ⟨es, clk, hm, hE⟩, hp, hr⟩ := hP
  have h1 : pb < w.heap.size := lt_of_blk hp
  have h2 : mb < w.heap.size := lt_of_blk hm
  have HE := Lib.hid hE
  have HLEN := Lib.hid hlen
  clear hp hE hr hlen
  go_enter Tryd.func34, Tryd.ntmps34
  go_wp2_with (at_range; refine wpList_range_it rfl _ rfl mb S es clk rfl hm HE.out ?_; intro w0 hI0 hch0 hs0)
  go_frame
  have HCH := Lib.hid hch0
  have HI := Lib.hid hI0
  clear hch0 hI0 hs0
  go_loopg [5] S.length (fun g v wr => RelLn w mb w.heap.size S (PL ch) g v wr)
  case atStart => exact ⟨S, [], rfl, HI.out, by rw [List.filter_eq_nil_iff.2 (fun x hx => by simp [hx])]; exact List.Perm.refl _, rfl, HCH.out.below⟩
  case round =>
    obtain ⟨L, acc, hg, hI, hacc, rfl, hbel⟩ := hrel
    have HG := Lib.hid hg
    have HA := Lib.hid hacc
    have HB := Lib.hid hbel
    have HAL := Lib.hid (show acc.length ≤ 512 from by
      have e1 := hacc.length_eq
      rw [List.length_map] at e1
      have e2 := List.length_filter_le (fun x => decide (x ∉ L) && PL ch x) S
      have := HLEN.out
      omega)
    clear hg hacc hbel
    go_wp2_with (at_next; refine wpList_next_it rfl _ rfl w.heap.size mb S L rfl hI ?_ ?_)
    · intro hL
      have HF := Lib.hid (show acc.length = (S.filter (PL ch)).length by
        have := HA.out.length_eq
        rw [List.length_map] at this
        rw [this, hL]
        congr 1
        try (apply List.filter_congr; intro x _; simp))
      clear hL hI
      go_wp2
      go_ret
      exact ⟨by rw [← HF.out]; rfl, HB.out⟩
    · intro n w1 hnL hI1 hch1 hs1 hen
      have hnS : n ∈ S := by obtain ⟨_, _, _, _, _, _, _, _, _, _, _, _, hsub⟩ := hI; exact hsub n hnL
      have HB1 := Lib.hid (Below.ofCh HB.out hch1 (Nat.le_refl _))
      have HI1 := Lib.hid hI1
      have HNL := Lib.hid hnL
      have HNS := Lib.hid hnS
      have hlt1 := hI1.lt
      have hge : w.heap.size ≤ w1.heap.size := HB1.out.size
      have hal : (acc.length : Int) ≤ 512 := by have := HAL.out; omega
      obtain ⟨m, hmm⟩ : ∃ m, acc.length = m := ⟨_, rfl⟩
      rw [hmm] at hal
      have HM := Lib.hid hmm
      have HIA := Lib.hid (HI1.out.keptB (w' := w1.alloc (.cells #[.int .i64 n.c, .string ⟨n.t.toArray⟩, .bool n.p] 84)) (Below.heap_alloc _ _ _ (by omega)) (Below.heap_alloc _ _ _ (by omega)))
      have HBA := Lib.hid (HB1.out.alloc hge (.cells #[.int .i64 n.c, .string ⟨n.t.toArray⟩, .bool n.p] 84))
      clear hI hI1 hch1 hnL hnS hs1
      rw [hmm]
      clear hmm
      cases hnp : n.p
      · by_cases hnt : n.t = ch
        · have hbe : (n.t == ch) = true := by rw [hnt]; exact beq_self_eq_true _
          have HP := Lib.hid (show PL ch n = true by unfold PL; rw [hnp, decide_eq_true hnt]; rfl)
          rw [hnp] at HIA HBA
          clear hnt
          go_wp2
          go_roundg (rm n L).length
          case measure => rw [HG.out]; exact filter_len HNL.out
          case rel =>
            have hp3 := perm_take (HE.out.nodup) HNS.out HNL.out HP.out HA.out
            refine ⟨_, acc ++ [n.t], rfl, HIA.out, hp3, by rw [List.length_append, HM.out]; rfl, HBA.out⟩
        · have hbe : (n.t == ch) = false := beq_eq_false_iff_ne.2 hnt
          have HP := Lib.hid (show PL ch n = false by unfold PL; rw [decide_eq_false hnt, Bool.and_false])
          rw [hnp] at HIA HBA
          clear hnt
          go_wp2
          go_roundg (rm n L).length
          case measure => rw [HG.out]; exact filter_len HNL.out
          case rel => exact ⟨_, acc, rfl, HIA.out, by rw [← filter_pass HP.out]; exact HA.out, by rw [HM.out], HBA.out⟩
      · have HP := Lib.hid (show PL ch n = false by unfold PL; rw [hnp]; rfl)
        rw [hnp] at HIA HBA
        go_wp2
        go_roundg (rm n L).length
        case measure => rw [HG.out]; exact filter_len HNL.out
        case rel => exact ⟨_, acc, rfl, HIA.out, by rw [← filter_pass HP.out]; exact HA.out, by rw [HM.out], HBA.out⟩
end Go.Proofs.YtgfldammdcocmaaDoor
