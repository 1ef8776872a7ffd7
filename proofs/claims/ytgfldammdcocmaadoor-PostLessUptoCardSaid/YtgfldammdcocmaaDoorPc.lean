import Derived.Test.YtgfldammdcocmaaDoorPn
import Derived.Test.YtgfldammdcocmaaDoorGg
import Derived.Laws.IdiomStrings
namespace Go.Proofs.YtgfldammdcocmaaDoor
open Go.RowKit Go.Sort

/-- the world behind '[]byte(s)'. -/
def bw (w : World) (s : List UInt8) : World := w.drew.alloc (.cells (bytesRow ⟨s.toArray⟩ (grownCap w s.length 0 5)) 5 ((bytesRow ⟨s.toArray⟩ (grownCap w s.length 0 5)).size, (bytesRow ⟨s.toArray⟩ (grownCap w s.length 0 5)).size + 1))
/-- its room. -/
def bcap (w : World) (s : List UInt8) : Nat := grownCap w s.length 0 5
theorem und9 : Tryd.prog.underlying 9 = some .string := by kernel_rfl
theorem und38 : Tryd.prog.underlying 38 = some (.slice 5) := by kernel_rfl
theorem und5 : Tryd.prog.underlying 5 = some (.int .u8) := by kernel_rfl
theorem run_conv (w : World) (s : List UInt8) : (convert 9 38 (.string ⟨s.toArray⟩)).run Tryd.prog w = .ok (.slice (some ⟨w.heap.size, 0, none⟩) s.length (bcap w s)) (bw w s) :=
  run_bytes_of_string w 9 38 5 ⟨s.toArray⟩ und9 und38 und5
@[go_sem] theorem bw_size (w : World) (s : List UInt8) : (bw w s).heap.size = w.heap.size + 1 := by unfold bw; simp
theorem bw_below (w : World) (s : List UInt8) : Below w.heap.size w (bw w s) := ((Below.refl _ w).drew).alloc (Nat.le_refl _) _
theorem bw_bytes (w : World) (s : List UInt8) : BytesAt (bw w s) w.heap.size 0 s := by
  intro j hj
  have h1 : (bw w s).cell? ⟨w.heap.size, 0 + j, none⟩ = (bytesRow ⟨s.toArray⟩ (grownCap w s.length 0 5))[0 + j]? := World.cell?_alloc_mark w.drew _ 5 _ (0 + j)
  rw [h1, Nat.zero_add, bytesRow_at ⟨s.toArray⟩ _ j (by simpa using hj)]
  unfold bget
  rw [List.getD_eq_getElem?_getD, List.getElem?_eq_getElem hj]
  rfl

theorem BytesAt.below {w w' : World} {B b off : Nat} {p : List UInt8} (h : BytesAt w b off p) (hb : Below B w w') (hl : b < B) : BytesAt w' b off p := by
  intro j hj
  rw [hb.cell (p := ⟨b, off + j, none⟩) hl]
  exact h j hj
@[go_sem] theorem bw_cell (w : World) (s : List UInt8) (k off : Nat) (h : k < w.heap.size) : (bw w s).cell? ⟨k, off, none⟩ = w.cell? ⟨k, off, none⟩ := (bw_below w s).cell (p := ⟨k, off, none⟩) h

def P53 (q : List UInt8) (n : Nm) : Bool := !n.p && globF q n.t
set_option maxRecDepth 100000 in
theorem chan1 (n : Nm) (bt : Nat) (q : List UInt8) (W : World) (h1 : W.cell? ⟨bt, 0, none⟩ = some (.string ⟨q.toArray⟩)) (l1 : bt < W.heap.size) (hq : q.length ≤ 1048576) (hn : n.t.length ≤ 9223372036854775807) (hG : GlobAt W) :
    Calls Tryd.prog 53 #[.agg #[.int .i64 n.c, .string ⟨n.t.toArray⟩, .bool n.p], .pointer (some ⟨bt, 0, none⟩)] W fun e w' => e = .returned (.bool (P53 q n)) ∧ Below W.heap.size W w' := by
  obtain ⟨c, t, p⟩ := n
  simp only at hn ⊢
  cases p
  · have hf : P53 q ⟨c, t, false⟩ = globF q t := by simp [P53]
    rw [hf]
    have hconv := run_conv
    obtain ⟨W1, hW1⟩ : ∃ W1, W1 = W.alloc (.cells #[.int .i64 c, .string ⟨t.toArray⟩, .bool false] 84) := ⟨_, rfl⟩
    have hb1 : Below W.heap.size W W1 := by rw [hW1]; exact (Below.refl _ _).alloc (Nat.le_refl _) _
    have hs1 : W1.heap.size = W.heap.size + 1 := by rw [hW1]; simp
    have hb2 : Below W1.heap.size W1 (bw (bw W1 q) t) := (bw_below W1 q).trans ((bw_below (bw W1 q) t).mono (by rw [bw_size]; omega))
    have hg2 : GlobAt (bw (bw W1 q) t) := (hG.below hb1 hG.lt).below hb2 (by have := hG.lt; omega)
    have hz1 := bw_size W1 q
    have hz2 := bw_size (bw W1 q) t
    have hgl := glob_any W1.heap.size 0 (bcap W1 q) (bw W1 q).heap.size 0 (bcap (bw W1 q) t) q t (bw (bw W1 q) t) hq hn
      ((bw_bytes W1 q).below (bw_below (bw W1 q) t) (by omega)) (fun _ => by omega) (bw_bytes (bw W1 q) t) (fun _ => by omega) hg2
    rw [hz1, hs1] at hgl
    have HGL := Lib.hid hgl
    have HB := Lib.hid (hb1.trans (hb2.mono (by omega)))
    have HZ := Lib.hid (show W.heap.size ≤ (bw (bw W1 q) t).heap.size by omega)
    rw [hW1] at HGL HB HZ
    clear hW1 hb1 hs1 hb2 hg2 hz1 hz2 hgl hG hn hq hf
    go_enter Tryd.func53, Tryd.ntmps53
    go_wp2_with fail
    refine HGL.out.mono ?_; rintro e w' ⟨rfl, hb⟩; have HB2 := Lib.hid hb; clear hb
    go_wp2
    go_ret
    exact ⟨rfl, HB.out.trans (HB2.out.mono HZ.out)⟩
  · have hf : P53 q ⟨c, t, true⟩ = false := by simp [P53]
    rw [hf]
    clear hf hn hq
    go_enter Tryd.func53, Tryd.ntmps53
    go_wp2
    go_ret
    exact ⟨rfl, (Below.refl _ _).alloc (Nat.le_refl _) _⟩

theorem channels_any (pb mb : Nat) (S : List Nm) (q : List UInt8) (w : World) (hP : PostAt w pb mb S) (hq : q.length ≤ 1048576) (hG : GlobAt w) (hS : ∀ n ∈ S, n.t.length ≤ 9223372036854775807) :
    Calls Tryd.prog 32 #[.pointer (some ⟨pb, 0, none⟩), .string ⟨q.toArray⟩] w fun e w' => TextsLeft w (textsOf S (P53 q)) e w' := by
  have hmf : ∀ (fn : Fn) (first cap : Array Value) (w : World), (Instr.makeFunc fn first cap).run Tryd.prog w = .ok (.func fn first cap) w := fun _ _ _ _ => rfl
  have hb0 : Below w.heap.size w (w.alloc (.cells #[.string ⟨q.toArray⟩] 9)) := (Below.refl _ _).alloc (Nat.le_refl _) _
  have hT := texts_any pb mb S 53 #[.pointer (some ⟨w.heap.size, 0, none⟩)] (P53 q) _ (hP.below hb0) (fun n hn W hW => by
    refine chan1 n w.heap.size q W ?_ ?_ hq (hS n hn) ((hG.below hb0 hG.lt).below hW (by have := hG.lt; simp; omega))
    · rw [hW.cell (p := ⟨w.heap.size, 0, none⟩) (by simp)]; go_simp
    · have := hW.size; simp at this; omega) (enters_of Tryd.func53 (by kernel_rfl) rfl)
  have HT := Lib.hid hT
  have HB0 := Lib.hid hb0
  clear hT hb0 hP hG hS hq
  go_enter Tryd.func32, Tryd.ntmps32
  go_wp2_with (go_at_call 42; refine HT.out.mono ?_; rintro e w' ⟨v, rfl, ho, hb⟩; have HO := Lib.hid ho; have HB := Lib.hid hb; clear ho hb)
  go_ret
  exact TextsLeft.from ⟨_, rfl, HO.out, HB.out⟩ HB0.out

def P54 (n : Nm) : Bool := n.p
theorem pat1 (n : Nm) (W : World) : Calls Tryd.prog 54 #[.agg #[.int .i64 n.c, .string ⟨n.t.toArray⟩, .bool n.p]] W fun e w' => e = .returned (.bool (P54 n)) ∧ Below W.heap.size W w' := by
  go_enter Tryd.func54, Tryd.ntmps54
  go_wp2
  go_ret
  exact ⟨rfl, (Below.refl _ _).alloc (Nat.le_refl _) _⟩

theorem ownsRow_len {w : World} {base n : Nat} {e : TypeId} {size : Nat} {v : Value} {xs : List Value} (h : w.ownsRow base e size v n xs) : ∃ a cap, v = .slice a n cap := by
  rcases h.2 with ⟨rfl, h0⟩ | ⟨g, cap, cur, hv, _⟩
  · exact ⟨none, 0, by rw [h0]⟩
  · exact ⟨_, _, hv⟩

theorem patterns_any (pb mb : Nat) (S : List Nm) (w : World) (hP : PostAt w pb mb S) :
    Calls Tryd.prog 36 #[.pointer (some ⟨pb, 0, none⟩)] w fun e w' => e = .returned (.int .i64 ((textsOf S P54).length : Nat)) ∧ Below w.heap.size w w' := by
  have hT := texts_any pb mb S 54 #[] P54 w hP (fun n _ W hW => pat1 n W) (enters_of Tryd.func54 (by kernel_rfl) rfl)
  have HT := Lib.hid hT
  clear hT hP
  go_enter Tryd.func36, Tryd.ntmps36
  go_wp2_with fail
  refine HT.out.mono ?_
  rintro e w' ⟨v, rfl, ho, hb⟩
  obtain ⟨a, cap, rfl⟩ := ownsRow_len ho
  have HB := Lib.hid hb
  clear ho hb
  go_wp2
  go_ret
  exact ⟨rfl, HB.out⟩
end Go.Proofs.YtgfldammdcocmaaDoor
