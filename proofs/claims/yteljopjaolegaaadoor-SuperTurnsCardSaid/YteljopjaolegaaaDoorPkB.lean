/-
  CONTRACTS: package block: New, Disk.
-/
import Derived.Test.YteljopjaolegaaaDoorPkA
import Derived.Carry
import Derived.Deep.RegionHeld3
import Derived.BigQuiet

namespace Go.Proofs.YteljopjaolegaaaDoor
open Go.RowKit
set_option maxRecDepth 100000
set_option linter.unusedVariables false
set_option linter.unusedSimpArgs false

theorem new_any (n : Int) (w : World) : Calls Tryd.prog 10 #[.int .i64 n] w fun r w' =>
    r = .returned (.pointer (some ⟨w.heap.size + 1 + 1 + 1, 0, none⟩)) ∧ w' = (((w.alloc (.map #[] 0)).alloc (.map #[] 0)).alloc (.cells #[.int .i64 (max n 0), .map (some w.heap.size), .map (some (w.heap.size + 1)), .slice none 0 0, .bool false, .int .i64 0, .bool false, .bool false] 68)).alloc (.cells #[.pointer (some ⟨w.heap.size + 1 + 1, 0, none⟩)] 70) := by
  have hmm := @run_makeMap Tryd.prog
  go_enter Tryd.func10, Tryd.ntmps10
  go_wp2
  all_goals (
    go_ret
    refine ⟨rfl, ?_⟩
    first | (rw [show max n 0 = 0 by omega]) | (rw [show max n 0 = n by omega]))

theorem disk_any (g x : Nat) (t : TypeId) (w : World) (h : w.heap[g]? = some (.cells #[.pointer (some ⟨x, 0, none⟩)] t (0, 0))) : Calls Tryd.prog 25 #[.pointer (some ⟨g, 0, none⟩)] w fun r w' =>
    r = .returned (.pointer (some ⟨w.heap.size, 0, none⟩)) ∧ w' = w.alloc (.cells #[.pointer (some ⟨x, 0, none⟩)] 95) := by
  have h0 : w.cell? ⟨g, 0, none⟩ = some (.pointer (some ⟨x, 0, none⟩)) := cell_of_row _ _ 0 _ _ _ h
  clear h
  go_enter Tryd.func25, Tryd.ntmps25
  go_wp2
  go_ret
  exact ⟨rfl, rfl⟩

/-- A box of a disk, its eight cells. -/
def BoxAt (w : World) (g : Nat) (many : Int) (bs bn : Nat) (W : Value) (armed : Bool) (acts : Int) (done down : Bool) : Prop :=
  w.heap[g]? = some (.cells #[.int .i64 many, .map (some bs), .map (some bn), W, .bool armed, .int .i64 acts, .bool done, .bool down] 68 (0, 0))
theorem BoxAt.cells {w : World} {g : Nat} {many : Int} {bs bn : Nat} {W : Value} {armed : Bool} {acts : Int} {done down : Bool} (h : BoxAt w g many bs bn W armed acts done down) :
    w.cell? ⟨g, 0, none⟩ = some (.int .i64 many) ∧ w.cell? ⟨g, 1, none⟩ = some (.map (some bs)) ∧ w.cell? ⟨g, 2, none⟩ = some (.map (some bn)) ∧ w.cell? ⟨g, 3, none⟩ = some W ∧ w.cell? ⟨g, 4, none⟩ = some (.bool armed) ∧ w.cell? ⟨g, 5, none⟩ = some (.int .i64 acts) ∧ w.cell? ⟨g, 6, none⟩ = some (.bool done) ∧ w.cell? ⟨g, 7, none⟩ = some (.bool down) :=
  ⟨cell_of_row _ _ 0 _ _ _ h, cell_of_row _ _ 1 _ _ _ h, cell_of_row _ _ 2 _ _ _ h, cell_of_row _ _ 3 _ _ _ h, cell_of_row _ _ 4 _ _ _ h, cell_of_row _ _ 5 _ _ _ h, cell_of_row _ _ 6 _ _ _ h, cell_of_row _ _ 7 _ _ _ h⟩
theorem BoxAt.free {w : World} {g : Nat} {many : Int} {bs bn : Nat} {W : Value} {armed : Bool} {acts : Int} {done down : Bool} (h : BoxAt w g many bs bn W armed acts done down) (k : Nat) : w.frozen? ⟨g, k, none⟩ = false := frozen_of_row _ _ _ _ _ h

theorem sectors_any (p g : Nat) (t : TypeId) (many : Int) (bs bn : Nat) (W : Value) (armed : Bool) (acts : Int) (done down : Bool) (w : World) (hp : w.heap[p]? = some (.cells #[.pointer (some ⟨g, 0, none⟩)] t (0, 0))) (h : BoxAt w g many bs bn W armed acts done down) :
    Calls Tryd.prog 69 #[.pointer (some ⟨p, 0, none⟩)] w fun r w' => r = .returned (.int .i64 many) ∧ w = w' := by
  have h0 : w.cell? ⟨p, 0, none⟩ = some (.pointer (some ⟨g, 0, none⟩)) := cell_of_row _ _ 0 _ _ _ hp
  obtain ⟨c0, c1, c2, c3, c4, c5, c6, c7⟩ := h.cells
  clear hp h
  go_enter Tryd.func69, Tryd.ntmps69
  go_wp2
  go_ret
  exact ⟨rfl, rfl⟩

end Go.Proofs.YteljopjaolegaaaDoor

/-
  CONTRACTS: package block: Arm.
-/
namespace Go.Proofs.YteljopjaolegaaaDoor
open Go.RowKit
set_option maxRecDepth 100000
set_option linter.unusedVariables false
set_option linter.unusedSimpArgs false

theorem BoxAt.set1 {w : World} {g : Nat} {many : Int} {bs bn : Nat} {W : Value} {armed : Bool} {acts : Int} {done down : Bool} (h : BoxAt w g many bs bn W armed acts done down) (x : Nat) : BoxAt (w.setCell ⟨g, 1, none⟩ (.map (some x))) g many x bn W armed acts done down := heap_setCell_same w g 1 _ _ _ h
theorem BoxAt.set2 {w : World} {g : Nat} {many : Int} {bs bn : Nat} {W : Value} {armed : Bool} {acts : Int} {done down : Bool} (h : BoxAt w g many bs bn W armed acts done down) (x : Nat) : BoxAt (w.setCell ⟨g, 2, none⟩ (.map (some x))) g many bs x W armed acts done down := heap_setCell_same w g 2 _ _ _ h
theorem BoxAt.set3 {w : World} {g : Nat} {many : Int} {bs bn : Nat} {W : Value} {armed : Bool} {acts : Int} {done down : Bool} (h : BoxAt w g many bs bn W armed acts done down) (x : Value) : BoxAt (w.setCell ⟨g, 3, none⟩ (x)) g many bs bn x armed acts done down := heap_setCell_same w g 3 _ _ _ h
theorem BoxAt.set4 {w : World} {g : Nat} {many : Int} {bs bn : Nat} {W : Value} {armed : Bool} {acts : Int} {done down : Bool} (h : BoxAt w g many bs bn W armed acts done down) (x : Bool) : BoxAt (w.setCell ⟨g, 4, none⟩ (.bool x)) g many bs bn W x acts done down := heap_setCell_same w g 4 _ _ _ h
theorem BoxAt.set5 {w : World} {g : Nat} {many : Int} {bs bn : Nat} {W : Value} {armed : Bool} {acts : Int} {done down : Bool} (h : BoxAt w g many bs bn W armed acts done down) (x : Int) : BoxAt (w.setCell ⟨g, 5, none⟩ (.int .i64 x)) g many bs bn W armed x done down := heap_setCell_same w g 5 _ _ _ h
theorem BoxAt.set6 {w : World} {g : Nat} {many : Int} {bs bn : Nat} {W : Value} {armed : Bool} {acts : Int} {done down : Bool} (h : BoxAt w g many bs bn W armed acts done down) (x : Bool) : BoxAt (w.setCell ⟨g, 6, none⟩ (.bool x)) g many bs bn W armed acts x down := heap_setCell_same w g 6 _ _ _ h
theorem BoxAt.set7 {w : World} {g : Nat} {many : Int} {bs bn : Nat} {W : Value} {armed : Bool} {acts : Int} {done down : Bool} (h : BoxAt w g many bs bn W armed acts done down) (x : Bool) : BoxAt (w.setCell ⟨g, 7, none⟩ (.bool x)) g many bs bn W armed acts done x := heap_setCell_same w g 7 _ _ _ h
theorem grown_set (w : World) (g k : Nat) (x : Value) : w.grownBy (w.setCell ⟨g, k, none⟩ x) (some g) :=
  ⟨rfl, rfl, rfl, by simp, fun i hi hne => heap_setCell_other _ _ _ _ (fun e => hne (congrArg some e))⟩

set_option maxHeartbeats 2000000 in
theorem arm_any (p g : Nat) (t : TypeId) (v : Int) (b : Bool) (many : Int) (bs bn : Nat) (W : Value) (armed : Bool) (acts : Int) (done down : Bool) (w : World) (hp : w.heap[p]? = some (.cells #[.pointer (some ⟨g, 0, none⟩)] t (0, 0))) (h : BoxAt w g many bs bn W armed acts done down) (hne : p ≠ g) :
    Calls Tryd.prog 28 #[.pointer (some ⟨p, 0, none⟩), .int .i64 v, .bool b] w fun r w' => r = .returned (.tuple #[]) ∧ BoxAt w' g many bs bn W true (max v 0) b down ∧ w.grownBy w' (some g) ∧ w'.heap.size = w.heap.size := by
  have h0 : w.cell? ⟨p, 0, none⟩ = some (.pointer (some ⟨g, 0, none⟩)) := cell_of_row _ _ 0 _ _ _ hp
  obtain ⟨c0, c1, c2, c3, c4, c5, c6, c7⟩ := h.cells
  have f4 := h.free 4
  have f5 := h.free 5
  have f6 := h.free 6
  have H := Lib.hid h
  have HK : Hid (∀ (wx : World) (j : Nat) (u : Value), wx.cell? ⟨p, 0, none⟩ = some (.pointer (some ⟨g, 0, none⟩)) → (wx.setCell ⟨g, j, none⟩ u).cell? ⟨p, 0, none⟩ = some (.pointer (some ⟨g, 0, none⟩))) := Lib.hid (fun wx j u hx => (World.cell?_setCell_other _ _ _ _ (fun e => hne (congrArg Addr.block e).symm)).trans hx)
  clear hp h
  have hmax : max v 0 = if v < 0 then 0 else v := by split <;> omega
  rw [hmax]
  clear hmax
  go_enter Tryd.func28, Tryd.ntmps28
  go_region_held3 (fun w' => w'.cell? ⟨p, 0, none⟩ = some (.pointer (some ⟨g, 0, none⟩))) (first | exact h0 | exact HK.out _ _ _ h0 | exact HK.out _ _ _ (HK.out _ _ _ h0) | exact HK.out _ _ _ (HK.out _ _ _ (HK.out _ _ _ h0))) (fail)
  all_goals (
    go_end0
    have hg := ((grown_set w g 4 (.bool true)).trans (grown_set _ g 5 (.int .i64 (if v < 0 then 0 else v)))).trans (grown_set _ g 6 (.bool b))
    exact ⟨rfl, ((H.out.set4 _).set5 _).set6 _, ⟨hg.os, hg.tape, hg.output, hg.size, hg.block⟩, by simp⟩)

end Go.Proofs.YteljopjaolegaaaDoor

/-
  CONTRACTS: package block: Read.
-/
namespace Go.Proofs.YteljopjaolegaaaDoor
open Go.RowKit
set_option maxRecDepth 100000
set_option linter.unusedVariables false
set_option linter.unusedSimpArgs false

theorem bread_down (p g : Nat) (t : TypeId) (v : Int) (many : Int) (bs bn : Nat) (W : Value) (armed : Bool) (acts : Int) (done : Bool) (w : World) (hp : w.heap[p]? = some (.cells #[.pointer (some ⟨g, 0, none⟩)] t (0, 0))) (h : BoxAt w g many bs bn W armed acts done true) :
    Calls Tryd.prog 73 #[.pointer (some ⟨p, 0, none⟩), .int .i64 v] w fun r w' => r = .returned (.tuple #[.slice none 0 0, .iface 37 (.int .i64 5)]) ∧ w = w' := by
  have h0 : w.cell? ⟨p, 0, none⟩ = some (.pointer (some ⟨g, 0, none⟩)) := cell_of_row _ _ 0 _ _ _ hp
  obtain ⟨c0, c1, c2, c3, c4, c5, c6, c7⟩ := h.cells
  clear hp h
  go_enter Tryd.func73, Tryd.ntmps73
  go_wp2
  go_ret2
  exact ⟨rfl, rfl⟩

theorem bread_out (p g : Nat) (t : TypeId) (v : Int) (many : Int) (bs bn : Nat) (W : Value) (armed : Bool) (acts : Int) (done : Bool) (w : World) (hp : w.heap[p]? = some (.cells #[.pointer (some ⟨g, 0, none⟩)] t (0, 0))) (h : BoxAt w g many bs bn W armed acts done false) (hv : ¬ (0 ≤ v ∧ v < many)) :
    Calls Tryd.prog 73 #[.pointer (some ⟨p, 0, none⟩), .int .i64 v] w fun r w' => r = .returned (.tuple #[.slice none 0 0, .iface 37 (.int .i64 1)]) ∧ w = w' := by
  have h0 : w.cell? ⟨p, 0, none⟩ = some (.pointer (some ⟨g, 0, none⟩)) := cell_of_row _ _ 0 _ _ _ hp
  obtain ⟨c0, c1, c2, c3, c4, c5, c6, c7⟩ := h.cells
  clear hp h
  have hc : v < 0 ∨ (¬ v < 0 ∧ many ≤ v) := by omega
  clear hv
  rcases hc with hc | ⟨hc, hc2⟩
  all_goals (
    go_enter Tryd.func73, Tryd.ntmps73
    go_wp2
    go_ret2
    exact ⟨rfl, rfl⟩)

set_option maxHeartbeats 1000000 in
/-- A sector that is there: its bytes as a new row; the map holds a slice of 512 bytes, or none. -/
theorem bread_in (p g : Nat) (t : TypeId) (v : Int) (many : Int) (bs' bn : Nat) (W : Value) (armed : Bool) (acts : Int) (done : Bool) (f : Int → Option Value) (A : Option Addr) (n c : Nat) (l : List UInt8) (w : World) (hp : w.heap[p]? = some (.cells #[.pointer (some ⟨g, 0, none⟩)] t (0, 0))) (h : BoxAt w g many bs' bn W armed acts done false) (hv : 0 ≤ v ∧ v < many)
    (hm : SecMap w bn f) (hf : (f v).getD (.slice none 0 0) = .slice A n c) (hb : Bs w A n l) (hn : n ≤ 512) :
    Calls Tryd.prog 73 #[.pointer (some ⟨p, 0, none⟩), .int .i64 v] w fun r w' => r = .returned (.tuple #[.slice (some ⟨w.heap.size, 0, none⟩) 512 512, .nilIface]) ∧ w'.heap[w.heap.size]? = some (.cells (bs (splice (List.replicate 512 0) 0 l)).toArray 5 (0, 0)) ∧ Below w.heap.size w w' := by
  have h0 : w.cell? ⟨p, 0, none⟩ = some (.pointer (some ⟨g, 0, none⟩)) := cell_of_row _ _ 0 _ _ _ hp
  have hlt : p < w.heap.size := (Array.getElem?_eq_some_iff.mp hp).1
  obtain ⟨c0, c1, c2, c3, c4, c5, c6, c7⟩ := h.cells
  have Hinfo := Lib.hid info_u8
  have Hsz := Lib.hid size_u8
  have Hm1 : Hid (1 * 512 ≤ 281474976710656) := Lib.hid (by omega)
  have Hm2 : Hid (512 ≤ maxLen) := Lib.hid (by simp only [maxLen]; omega)
  have HM := Lib.hid hm
  have Hb := Lib.hid hb
  have Hf := Lib.hid hf
  have HR : Hid (w.heap.size ≤ w.heap.size) := Lib.hid (Nat.le_refl _)
  have K : Hid (∀ wx, Below w.heap.size w wx → wx.cell? ⟨p, 0, none⟩ = some (.pointer (some ⟨g, 0, none⟩)) ∧ wx.cell? ⟨g, 2, none⟩ = some (.map (some bn)) ∧ (Instr.lookup 65 (.map (some bn)) (.int .i64 v) false).run Tryd.prog wx = .ok (.slice A n c) wx) := Lib.hid (fun wx hx => ⟨cell_below hx h0, cell_below hx c2, by rw [← hf]; exact (hm.below hx).lookup v⟩)
  have Hk : Hid (n = Nat.min n 512) := Lib.hid (by show n = min n 512; omega)
  have Hfit : Hid (0 + n ≤ (List.replicate 512 (0 : UInt8)).length) := Lib.hid (by simp; omega)
  have hv1 : ¬ v < 0 := by omega
  have hv2 : ¬ many ≤ v := by omega
  obtain ⟨Z, hZ⟩ : ∃ Z, Z = List.replicate 512 (0 : UInt8) := ⟨_, rfl⟩
  have HZ := Lib.hid hZ
  rw [← hZ]
  clear hp h hv hm hf hb hn hZ
  go_enter Tryd.func73, Tryd.ntmps73
  go_wp2_with (first | (at_make; refine wpList_make_zeros rfl _ _ 31 rfl w.heap.size 5 (.int .u8 0) 1 Tryd.underlying31 Hinfo.out rfl _ _ 512 rfl rfl (by omega) (by omega) Hm1.out Hm2.out HR.out ?_; intro w1 Ho1 hb1; have hw1 := zero_block Ho1; have HB1 := Lib.hid (Hb.out.below hb1); have Hb1 := Lib.hid hb1; obtain ⟨k0, k1, k2⟩ := K.out _ hb1; clear hb1) | (with_reducible refine wpList_copy_bytes rfl _ _ 31 31 rfl 5 Tryd.underlying31 Hsz.out (some ⟨w.heap.size, 0, none⟩) 512 512 A n c rfl rfl w.heap.size 0 (List.replicate 512 0) 5 hw1.out l HB1.out n Hk.out (fun _ => rfl) Hfit.out ?_; intro w2 hw2 hg2))
  go_ret2
  have h2 := hw2.out
  rw [List.take_of_length_le (by rw [Hb.out.len]; exact Nat.le_refl _), ← HZ.out] at h2
  exact ⟨rfl, h2, Hb1.out.grown hg2 Hb1.out.size (fun k hk => by cases hk; exact Nat.le_refl _)⟩

end Go.Proofs.YteljopjaolegaaaDoor

/-
  CONTRACTS: package block: Sector.
-/
namespace Go.Proofs.YteljopjaolegaaaDoor
open Go.RowKit
set_option maxRecDepth 100000
set_option linter.unusedVariables false
set_option linter.unusedSimpArgs false

theorem bsector_out (p g : Nat) (t : TypeId) (v : Int) (many : Int) (bs bn : Nat) (W : Value) (armed : Bool) (acts : Int) (done down : Bool) (w : World) (hp : w.heap[p]? = some (.cells #[.pointer (some ⟨g, 0, none⟩)] t (0, 0))) (h : BoxAt w g many bs bn W armed acts done down) (hv : ¬ (0 ≤ v ∧ v < many)) :
    Calls Tryd.prog 13 #[.pointer (some ⟨p, 0, none⟩), .int .i64 v] w fun r w' => r = .returned (.slice none 0 0) ∧ w = w' := by
  have h0 : w.cell? ⟨p, 0, none⟩ = some (.pointer (some ⟨g, 0, none⟩)) := cell_of_row _ _ 0 _ _ _ hp
  obtain ⟨c0, c1, c2, c3, c4, c5, c6, c7⟩ := h.cells
  clear hp h
  have hc : v < 0 ∨ (¬ v < 0 ∧ many ≤ v) := by omega
  clear hv
  rcases hc with hc | ⟨hc, hc2⟩
  all_goals (
    go_enter Tryd.func13, Tryd.ntmps13
    go_wp2
    go_ret
    exact ⟨rfl, rfl⟩)

set_option maxHeartbeats 1000000 in
/-- A sector that is there: its bytes as a new row; the map holds a slice of 512 bytes, or none. -/
theorem bsector_in (p g : Nat) (t : TypeId) (v : Int) (many : Int) (bs' bn : Nat) (W : Value) (armed : Bool) (acts : Int) (done down : Bool) (f : Int → Option Value) (A : Option Addr) (n c : Nat) (l : List UInt8) (w : World) (hp : w.heap[p]? = some (.cells #[.pointer (some ⟨g, 0, none⟩)] t (0, 0))) (h : BoxAt w g many bs' bn W armed acts done down) (hv : 0 ≤ v ∧ v < many)
    (hm : SecMap w bn f) (hf : (f v).getD (.slice none 0 0) = .slice A n c) (hb : Bs w A n l) (hn : n ≤ 512) :
    Calls Tryd.prog 13 #[.pointer (some ⟨p, 0, none⟩), .int .i64 v] w fun r w' => r = .returned (.slice (some ⟨w.heap.size, 0, none⟩) 512 512) ∧ w'.heap[w.heap.size]? = some (.cells (bs (splice (List.replicate 512 0) 0 l)).toArray 5 (0, 0)) ∧ Below w.heap.size w w' := by
  have h0 : w.cell? ⟨p, 0, none⟩ = some (.pointer (some ⟨g, 0, none⟩)) := cell_of_row _ _ 0 _ _ _ hp
  have hlt : p < w.heap.size := (Array.getElem?_eq_some_iff.mp hp).1
  obtain ⟨c0, c1, c2, c3, c4, c5, c6, c7⟩ := h.cells
  have Hinfo := Lib.hid info_u8
  have Hsz := Lib.hid size_u8
  have Hm1 : Hid (1 * 512 ≤ 281474976710656) := Lib.hid (by omega)
  have Hm2 : Hid (512 ≤ maxLen) := Lib.hid (by simp only [maxLen]; omega)
  have HM := Lib.hid hm
  have Hb := Lib.hid hb
  have Hf := Lib.hid hf
  have HR : Hid (w.heap.size ≤ w.heap.size) := Lib.hid (Nat.le_refl _)
  have K : Hid (∀ wx, Below w.heap.size w wx → wx.cell? ⟨p, 0, none⟩ = some (.pointer (some ⟨g, 0, none⟩)) ∧ wx.cell? ⟨g, 2, none⟩ = some (.map (some bn)) ∧ (Instr.lookup 65 (.map (some bn)) (.int .i64 v) false).run Tryd.prog wx = .ok (.slice A n c) wx) := Lib.hid (fun wx hx => ⟨cell_below hx h0, cell_below hx c2, by rw [← hf]; exact (hm.below hx).lookup v⟩)
  have Hk : Hid (n = Nat.min n 512) := Lib.hid (by show n = min n 512; omega)
  have Hfit : Hid (0 + n ≤ (List.replicate 512 (0 : UInt8)).length) := Lib.hid (by simp; omega)
  have hv1 : ¬ v < 0 := by omega
  have hv2 : ¬ many ≤ v := by omega
  obtain ⟨Z, hZ⟩ : ∃ Z, Z = List.replicate 512 (0 : UInt8) := ⟨_, rfl⟩
  have HZ := Lib.hid hZ
  rw [← hZ]
  clear hp h hv hm hf hb hn hZ
  go_enter Tryd.func13, Tryd.ntmps13
  go_wp2_with (first | (at_make; refine wpList_make_zeros rfl _ _ 31 rfl w.heap.size 5 (.int .u8 0) 1 Tryd.underlying31 Hinfo.out rfl _ _ 512 rfl rfl (by omega) (by omega) Hm1.out Hm2.out HR.out ?_; intro w1 Ho1 hb1; have hw1 := zero_block Ho1; have HB1 := Lib.hid (Hb.out.below hb1); have Hb1 := Lib.hid hb1; obtain ⟨k0, k1, k2⟩ := K.out _ hb1; clear hb1) | (with_reducible refine wpList_copy_bytes rfl _ _ 31 31 rfl 5 Tryd.underlying31 Hsz.out (some ⟨w.heap.size, 0, none⟩) 512 512 A n c rfl rfl w.heap.size 0 (List.replicate 512 0) 5 hw1.out l HB1.out n Hk.out (fun _ => rfl) Hfit.out ?_; intro w2 hw2 hg2))
  go_ret
  have h2 := hw2.out
  rw [List.take_of_length_le (by rw [Hb.out.len]; exact Nat.le_refl _), ← HZ.out] at h2
  exact ⟨rfl, h2, Hb1.out.grown hg2 Hb1.out.size (fun k hk => by cases hk; exact Nat.le_refl _)⟩

end Go.Proofs.YteljopjaolegaaaDoor

/-
  CONTRACTS: package block: act, over the closures of Write and of Sync. (Printed by blockact.py.)
-/
namespace Go.Proofs.YteljopjaolegaaaDoor
open Go.RowKit
set_option maxRecDepth 100000
set_option linter.unusedVariables false
set_option linter.unusedSimpArgs false

theorem act_write_lost (p0 p1 p2 g : Nat) (many : Int) (bs' bn : Nat) (W : Value) (armed : Bool) (acts : Int) (done down : Bool) (w : World) (h : BoxAt w g many bs' bn W armed acts done down) (ha : armed = true) (hz : acts = 0) (hd : done = false) :
    Calls Tryd.prog 71 #[.pointer (some ⟨g, 0, none⟩), .func (.func 83) #[] #[.pointer (some ⟨p0, 0, none⟩), .pointer (some ⟨p1, 0, none⟩), .pointer (some ⟨p2, 0, none⟩)]] w fun r w' => r = .returned (.iface 37 (.int .i64 5)) ∧ w' = w.setCell ⟨g, 7, none⟩ (.bool true) := by
  subst ha hz hd
  obtain ⟨c0, c1, c2, c3, c4, c5, c6, c7⟩ := h.cells
  have f5 := h.free 5
  have f7 := h.free 7
  clear h
  go_enter Tryd.func71, Tryd.ntmps71
  go_wp2
  go_ret
  exact ⟨rfl, rfl⟩

theorem act_write_last (p0 p1 p2 g : Nat) (many : Int) (bs' bn : Nat) (W : Value) (armed : Bool) (acts : Int) (done down : Bool) (w : World) (h : BoxAt w g many bs' bn W armed acts done down) (R : World → Prop) (ha : armed = true) (hz : acts = 0) (hd : done = true)
    (C : Hid (Calls Tryd.prog 83 #[.pointer (some ⟨p0, 0, none⟩), .pointer (some ⟨p1, 0, none⟩), .pointer (some ⟨p2, 0, none⟩)] w fun r w' => r = .returned (.tuple #[]) ∧ R w')) (hR : Hid (∀ wx, R wx → (wx.cell? ⟨g, 7, none⟩).isSome = true ∧ wx.frozen? ⟨g, 7, none⟩ = false)) :
    Calls Tryd.prog 71 #[.pointer (some ⟨g, 0, none⟩), .func (.func 83) #[] #[.pointer (some ⟨p0, 0, none⟩), .pointer (some ⟨p1, 0, none⟩), .pointer (some ⟨p2, 0, none⟩)]] w fun r w' => r = .returned (.iface 37 (.int .i64 5)) ∧ ∃ w1, R w1 ∧ w' = w1.setCell ⟨g, 7, none⟩ (.bool true) := by
  subst ha hz hd
  obtain ⟨c0, c1, c2, c3, c4, c5, c6, c7⟩ := h.cells
  have f5 := h.free 5
  have f7 := h.free 7
  clear h
  go_enter Tryd.func71, Tryd.ntmps71
  go_wp2_with (go_at_call 83; (with_reducible refine C.out.mono ?_); rintro q w1 ⟨rfl, hr⟩; obtain ⟨e7, e8⟩ := hR.out _ hr; obtain ⟨u7, e9⟩ := Option.isSome_iff_exists.mp e7; have HR := Lib.hid hr; clear hr e7)
  go_ret
  exact ⟨rfl, w1, HR.out, rfl⟩

theorem act_write_counts (p0 p1 p2 g : Nat) (many : Int) (bs' bn : Nat) (W : Value) (armed : Bool) (acts : Int) (done down : Bool) (w : World) (h : BoxAt w g many bs' bn W armed acts done down) (R : World → Prop) (ha : armed = true) (hz : ¬ acts = 0) (h0 : 0 ≤ acts) (hmx : acts ≤ 9223372036854775807)
    (C : Hid (Calls Tryd.prog 83 #[.pointer (some ⟨p0, 0, none⟩), .pointer (some ⟨p1, 0, none⟩), .pointer (some ⟨p2, 0, none⟩)] (w.setCell ⟨g, 5, none⟩ (.int .i64 (acts - 1))) fun r w' => r = .returned (.tuple #[]) ∧ R w')) :
    Calls Tryd.prog 71 #[.pointer (some ⟨g, 0, none⟩), .func (.func 83) #[] #[.pointer (some ⟨p0, 0, none⟩), .pointer (some ⟨p1, 0, none⟩), .pointer (some ⟨p2, 0, none⟩)]] w fun r w' => r = .returned .nilIface ∧ R w' := by
  subst ha
  obtain ⟨c0, c1, c2, c3, c4, c5, c6, c7⟩ := h.cells
  have f5 := h.free 5
  have f7 := h.free 7
  clear h
  go_enter Tryd.func71, Tryd.ntmps71
  go_wp2_with (go_at_call 83; (with_reducible refine C.out.mono ?_); rintro q w1 ⟨rfl, hr⟩; have HR := Lib.hid hr; clear hr)
  go_ret
  exact ⟨rfl, HR.out⟩

theorem act_write_free (p0 p1 p2 g : Nat) (many : Int) (bs' bn : Nat) (W : Value) (armed : Bool) (acts : Int) (done down : Bool) (w : World) (h : BoxAt w g many bs' bn W armed acts done down) (R : World → Prop) (ha : armed = false)
    (C : Hid (Calls Tryd.prog 83 #[.pointer (some ⟨p0, 0, none⟩), .pointer (some ⟨p1, 0, none⟩), .pointer (some ⟨p2, 0, none⟩)] w fun r w' => r = .returned (.tuple #[]) ∧ R w')) :
    Calls Tryd.prog 71 #[.pointer (some ⟨g, 0, none⟩), .func (.func 83) #[] #[.pointer (some ⟨p0, 0, none⟩), .pointer (some ⟨p1, 0, none⟩), .pointer (some ⟨p2, 0, none⟩)]] w fun r w' => r = .returned .nilIface ∧ R w' := by
  subst ha
  obtain ⟨c0, c1, c2, c3, c4, c5, c6, c7⟩ := h.cells
  have f5 := h.free 5
  have f7 := h.free 7
  clear h
  go_enter Tryd.func71, Tryd.ntmps71
  go_wp2_with (go_at_call 83; (with_reducible refine C.out.mono ?_); rintro q w1 ⟨rfl, hr⟩; have HR := Lib.hid hr; clear hr)
  go_ret
  exact ⟨rfl, HR.out⟩

theorem act_sync_lost (p0 g : Nat) (many : Int) (bs' bn : Nat) (W : Value) (armed : Bool) (acts : Int) (done down : Bool) (w : World) (h : BoxAt w g many bs' bn W armed acts done down) (ha : armed = true) (hz : acts = 0) (hd : done = false) :
    Calls Tryd.prog 71 #[.pointer (some ⟨g, 0, none⟩), .func (.func 72) #[] #[.pointer (some ⟨p0, 0, none⟩)]] w fun r w' => r = .returned (.iface 37 (.int .i64 5)) ∧ w' = w.setCell ⟨g, 7, none⟩ (.bool true) := by
  subst ha hz hd
  obtain ⟨c0, c1, c2, c3, c4, c5, c6, c7⟩ := h.cells
  have f5 := h.free 5
  have f7 := h.free 7
  clear h
  go_enter Tryd.func71, Tryd.ntmps71
  go_wp2
  go_ret
  exact ⟨rfl, rfl⟩

theorem act_sync_last (p0 g : Nat) (many : Int) (bs' bn : Nat) (W : Value) (armed : Bool) (acts : Int) (done down : Bool) (w : World) (h : BoxAt w g many bs' bn W armed acts done down) (R : World → Prop) (ha : armed = true) (hz : acts = 0) (hd : done = true)
    (C : Hid (Calls Tryd.prog 72 #[.pointer (some ⟨p0, 0, none⟩)] w fun r w' => r = .returned (.tuple #[]) ∧ R w')) (hR : Hid (∀ wx, R wx → (wx.cell? ⟨g, 7, none⟩).isSome = true ∧ wx.frozen? ⟨g, 7, none⟩ = false)) :
    Calls Tryd.prog 71 #[.pointer (some ⟨g, 0, none⟩), .func (.func 72) #[] #[.pointer (some ⟨p0, 0, none⟩)]] w fun r w' => r = .returned (.iface 37 (.int .i64 5)) ∧ ∃ w1, R w1 ∧ w' = w1.setCell ⟨g, 7, none⟩ (.bool true) := by
  subst ha hz hd
  obtain ⟨c0, c1, c2, c3, c4, c5, c6, c7⟩ := h.cells
  have f5 := h.free 5
  have f7 := h.free 7
  clear h
  go_enter Tryd.func71, Tryd.ntmps71
  go_wp2_with (go_at_call 72; (with_reducible refine C.out.mono ?_); rintro q w1 ⟨rfl, hr⟩; obtain ⟨e7, e8⟩ := hR.out _ hr; obtain ⟨u7, e9⟩ := Option.isSome_iff_exists.mp e7; have HR := Lib.hid hr; clear hr e7)
  go_ret
  exact ⟨rfl, w1, HR.out, rfl⟩

theorem act_sync_counts (p0 g : Nat) (many : Int) (bs' bn : Nat) (W : Value) (armed : Bool) (acts : Int) (done down : Bool) (w : World) (h : BoxAt w g many bs' bn W armed acts done down) (R : World → Prop) (ha : armed = true) (hz : ¬ acts = 0) (h0 : 0 ≤ acts) (hmx : acts ≤ 9223372036854775807)
    (C : Hid (Calls Tryd.prog 72 #[.pointer (some ⟨p0, 0, none⟩)] (w.setCell ⟨g, 5, none⟩ (.int .i64 (acts - 1))) fun r w' => r = .returned (.tuple #[]) ∧ R w')) :
    Calls Tryd.prog 71 #[.pointer (some ⟨g, 0, none⟩), .func (.func 72) #[] #[.pointer (some ⟨p0, 0, none⟩)]] w fun r w' => r = .returned .nilIface ∧ R w' := by
  subst ha
  obtain ⟨c0, c1, c2, c3, c4, c5, c6, c7⟩ := h.cells
  have f5 := h.free 5
  have f7 := h.free 7
  clear h
  go_enter Tryd.func71, Tryd.ntmps71
  go_wp2_with (go_at_call 72; (with_reducible refine C.out.mono ?_); rintro q w1 ⟨rfl, hr⟩; have HR := Lib.hid hr; clear hr)
  go_ret
  exact ⟨rfl, HR.out⟩

theorem act_sync_free (p0 g : Nat) (many : Int) (bs' bn : Nat) (W : Value) (armed : Bool) (acts : Int) (done down : Bool) (w : World) (h : BoxAt w g many bs' bn W armed acts done down) (R : World → Prop) (ha : armed = false)
    (C : Hid (Calls Tryd.prog 72 #[.pointer (some ⟨p0, 0, none⟩)] w fun r w' => r = .returned (.tuple #[]) ∧ R w')) :
    Calls Tryd.prog 71 #[.pointer (some ⟨g, 0, none⟩), .func (.func 72) #[] #[.pointer (some ⟨p0, 0, none⟩)]] w fun r w' => r = .returned .nilIface ∧ R w' := by
  subst ha
  obtain ⟨c0, c1, c2, c3, c4, c5, c6, c7⟩ := h.cells
  have f5 := h.free 5
  have f7 := h.free 7
  clear h
  go_enter Tryd.func71, Tryd.ntmps71
  go_wp2_with (go_at_call 72; (with_reducible refine C.out.mono ?_); rintro q w1 ⟨rfl, hr⟩; have HR := Lib.hid hr; clear hr)
  go_ret
  exact ⟨rfl, HR.out⟩

end Go.Proofs.YteljopjaolegaaaDoor
