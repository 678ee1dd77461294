/-
  CONTRACT: the laws' own first small case (layer 11).
-/
import Derived.Test.YtmmbofgamipfiaaDoorLaw
import Derived.Test.YtmmbofgamipfiaaDoorSumJ
import Derived.Test.YtmmbofgamipfiaaDoorSumD
import Derived.Lib.SlBytesConst
namespace Go.Proofs.YtmmbofgamipfiaaDoor
open Go.RowKit

/-- A literal's new row. -/
theorem lit_bytes (w : World) (l : List UInt8) (cs : Array Value) (n : Nat) (f : Nat × Nat) (h : cs = (bs l).toArray) (hn : l.length = n) (hm : n ≤ 9223372036854775807) : Bs (w.alloc (.cells cs 5 f)) (some ⟨w.heap.size, 0, none⟩) n l :=
  ⟨hn, hm, fun j c hj => ⟨_, rfl, by
    have ha : (⟨w.heap.size, 0, none⟩ : Addr).add j = ⟨w.heap.size, j, none⟩ := by unfold Addr.add; split <;> simp_all
    rw [ha, cell_of_row _ w.heap.size j cs 5 f (heap_alloc_new w _), h]
    simp [bs, hj]⟩⟩
theorem Nib.alloc {w : World} (h : Nib w) (o : Obj) : Nib (w.alloc o) := h.below ((Below.refl _ _).alloc (Nat.le_refl _) o)

theorem awake_s : ui (Crc.sum [49, 50, 51, 52, 53, 54, 55, 56, 57]) = 3421780262 := by decide +kernel
theorem awake_j : Crc.join (Crc.sum [49, 50, 51, 52]) (Crc.sum [53, 54, 55, 56, 57]) 5 = Crc.sum [49, 50, 51, 52, 53, 54, 55, 56, 57] :=
  (Crc.sum_join [49, 50, 51, 52] [53, 54, 55, 56, 57]).symm

set_option maxRecDepth 100000 in
set_option maxHeartbeats 1000000 in
theorem awake11 (w : World) (hN : Nib w) :
    Calls Tryd.prog 10 #[] w fun e w' => e = .returned (.bool true) ∧ Below w.heap.size w w' := by
  have HN := Lib.hid hN
  have kc := fun (w : World) (C : Array Value) (n c : Nat) => Lib.run_convert_bytes_const (P := Tryd.prog) w 22 5 C n c Tryd.underlying22 Tryd.underlying5
  clear hN
  go_enter Tryd.func10, Tryd.ntmps10
  go_wp2_with fail
  refine (sum_any _ 9 9 [49, 50, 51, 52, 53, 54, 55, 56, 57] _ (lit_bytes _ _ _ 9 _ rfl rfl (by omega)) (HN.out.alloc _)).mono ?_
  rintro e w1 ⟨rfl, hw⟩
  have Hb1 : Hid (Below w.heap.size w w1) := Lib.hid (by rw [← hw]; exact (Below.refl _ _).alloc (Nat.le_refl _) _)
  have HN1 : Hid (Nib w1) := Lib.hid (HN.out.below Hb1.out)
  clear hw
  go_wp2_with fail
  refine (sum_any _ 4 4 [49, 50, 51, 52] _ (lit_bytes _ _ _ 4 _ rfl rfl (by omega)) (HN1.out.alloc _)).mono ?_
  rintro e w2 ⟨rfl, hw⟩
  have Hb2 : Hid (Below w.heap.size w w2) := Lib.hid (by rw [← hw]; exact Hb1.out.alloc Hb1.out.size _)
  have HN2 : Hid (Nib w2) := Lib.hid (HN.out.below Hb2.out)
  clear hw
  go_wp2_with fail
  refine (sum_any _ 5 5 [53, 54, 55, 56, 57] _ (lit_bytes _ _ _ 5 _ rfl rfl (by omega)) (HN2.out.alloc _)).mono ?_
  rintro e w3 ⟨rfl, hw⟩
  have Hb3 : Hid (Below w.heap.size w w3) := Lib.hid (by rw [← hw]; exact Hb2.out.alloc Hb2.out.size _)
  clear hw
  go_wp2_with fail
  refine (join_ok _ _ 5 _ (by omega)).mono ?_
  rintro e w4 ⟨rfl, hw⟩
  have Hb4 : Hid (Below w.heap.size w w4) := Lib.hid (Hb3.out.trans (hw.mono Hb3.out.size))
  clear hw
  go_wp2_with fail
  refine (number_ok 258 2 _ (by omega) (by omega) (by omega) (by omega)).mono ?_
  rintro e w5 ⟨v, rfl, ho, hw⟩
  obtain ⟨A, c, rfl, hB⟩ := own_bytes ho
  have Hb5 : Hid (Below w.heap.size w w5) := Lib.hid (Hb4.out.trans (hw.mono Hb4.out.size))
  have HB5 := Lib.hid hB
  clear hw ho hB
  go_wp2_with fail
  refine (read_ok _ 3 3 0 2 [2, 1, 7] _ (lit_bytes _ _ _ 3 _ rfl rfl (by omega)) (by omega) (by omega) (by omega) (by omega)).mono ?_
  rintro e w6 ⟨rfl, hw⟩
  have hw5 : Below w5.heap.size w5 w6 := by rw [← hw]; exact (Below.refl _ _).alloc (Nat.le_refl _) _
  have Hb6 : Hid (Below w.heap.size w w6) := Lib.hid (Hb5.out.trans (hw5.mono Hb5.out.size))
  have HB6 := HB5.out.below hw5
  clear hw hw5 HB5 Hb5 Hb4 Hb3 Hb2 Hb1 HN2 HN1
  go_wp2_with fail
  refine (number_bad 258 1 _ (by decide) (by omega)).mono ?_
  rintro e w7 ⟨rfl, rfl⟩
  rw [awake_s, awake_j, awake_s, show readRes (unle [2, 1]) = (258, 0) by decide]
  obtain ⟨ad, x0, rfl, e0, c0⟩ := HB6.get (k := 0) (by omega)
  obtain ⟨ad', x1, e1', e1, c1⟩ := HB6.get (k := 1) (by omega)
  cases e1'
  cases (show (le 2 258)[0]? = some 2 by decide).symm.trans e0
  cases (show (le 2 258)[1]? = some 1 by decide).symm.trans e1
  have c0' : w6.cell? ad = some (.int .u8 2) := by rw [Addr.add_zero'] at c0; exact c0
  have c1' : w6.cell? ⟨ad.block, ad.off + 1, none⟩ = some (.int .u8 1) := c1
  clear HB6 e0 e1 c0 c1
  go_wp2_with fail
  go_ret
  exact ⟨rfl, Hb6.out⟩

end Go.Proofs.YtmmbofgamipfiaaDoor
