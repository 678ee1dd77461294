/-
  CONTRACTS: package super: may, place, body, Make; and the reference's.
-/
import Derived.Test.YteljopjaolegaaaDoorSuper
import Derived.Lib.SlBytesConst
namespace Go.Proofs.YteljopjaolegaaaDoor
open Go.RowKit
set_option maxRecDepth 100000
set_option linter.unusedVariables false
set_option linter.unusedSimpArgs false

set_option maxHeartbeats 1000000 in
theorem smay_any (s : Sup) (w : World) : Calls Tryd.prog 37 #[s.val] w fun r w' => r = .returned (.bool (supMay s)) ∧ Below w.heap.size w w' := by
  obtain ⟨v, r, e, p⟩ := s
  have hc : (1 ≤ v ∧ v ≤ 1099511627776 ∧ 1 ≤ e ∧ e ≤ 1099511627776 ∧ 16 ≤ p ∧ p ≤ 65536 ∧ 0 ≤ r ∧ r < p) ∨ (¬ 1 ≤ v) ∨ (1 ≤ v ∧ ¬ v ≤ 1099511627776) ∨ (1 ≤ v ∧ v ≤ 1099511627776 ∧ ¬ 1 ≤ e) ∨ (1 ≤ v ∧ v ≤ 1099511627776 ∧ 1 ≤ e ∧ ¬ e ≤ 1099511627776) ∨ (1 ≤ v ∧ v ≤ 1099511627776 ∧ 1 ≤ e ∧ e ≤ 1099511627776 ∧ ¬ 16 ≤ p) ∨ (1 ≤ v ∧ v ≤ 1099511627776 ∧ 1 ≤ e ∧ e ≤ 1099511627776 ∧ 16 ≤ p ∧ ¬ p ≤ 65536) ∨ (1 ≤ v ∧ v ≤ 1099511627776 ∧ 1 ≤ e ∧ e ≤ 1099511627776 ∧ 16 ≤ p ∧ p ≤ 65536 ∧ ¬ 0 ≤ r) ∨ (1 ≤ v ∧ v ≤ 1099511627776 ∧ 1 ≤ e ∧ e ≤ 1099511627776 ∧ 16 ≤ p ∧ p ≤ 65536 ∧ 0 ≤ r ∧ ¬ r < p) := by omega
  rcases hc with ⟨h0, h1, h2, h3, h4, h5, h6, h7⟩ | h0 | ⟨h0, h1⟩ | ⟨h0, h1, h2⟩ | ⟨h0, h1, h2, h3⟩ | ⟨h0, h1, h2, h3, h4⟩ | ⟨h0, h1, h2, h3, h4, h5⟩ | ⟨h0, h1, h2, h3, h4, h5, h6⟩ | ⟨h0, h1, h2, h3, h4, h5, h6, h7⟩
  · rw [show supMay ⟨v, r, e, p⟩ = true by simp only [supMay, decide_eq_true_eq]; omega]
    simp only [Sup.val]
    go_enter Tryd.func37, Tryd.ntmps37
    go_wp2
    go_ret
    exact ⟨rfl, by first | exact Below.refl _ _ | exact (Below.refl _ _).alloc (Nat.le_refl _) _⟩
  all_goals (
    rw [show supMay ⟨v, r, e, p⟩ = false by simp only [supMay, decide_eq_false_iff_not]; omega]
    simp only [Sup.val]
    go_enter Tryd.func37, Tryd.ntmps37
    go_wp2
    go_ret
    exact ⟨rfl, by first | exact Below.refl _ _ | exact (Below.refl _ _).alloc (Nat.le_refl _) _⟩)

set_option maxHeartbeats 2000000 in
theorem rsmay_any (s : Sup) (w : World) : Calls Tryd.prog 41 #[s.val] w fun r w' => r = .returned (.bool (supMay s)) ∧ Below w.heap.size w w' := by
  obtain ⟨v, r, e, p⟩ := s
  have hc : (1 ≤ v ∧ v ≤ 1099511627776 ∧ 1 ≤ e ∧ e ≤ 1099511627776 ∧ 16 ≤ p ∧ p ≤ 65536 ∧ 0 ≤ r ∧ r < p) ∨ (¬ 1 ≤ v) ∨ (1 ≤ v ∧ ¬ v ≤ 1099511627776) ∨ (1 ≤ v ∧ v ≤ 1099511627776 ∧ ¬ 1 ≤ e) ∨ (1 ≤ v ∧ v ≤ 1099511627776 ∧ 1 ≤ e ∧ ¬ e ≤ 1099511627776) ∨ (1 ≤ v ∧ v ≤ 1099511627776 ∧ 1 ≤ e ∧ e ≤ 1099511627776 ∧ ¬ 16 ≤ p) ∨ (1 ≤ v ∧ v ≤ 1099511627776 ∧ 1 ≤ e ∧ e ≤ 1099511627776 ∧ 16 ≤ p ∧ ¬ p ≤ 65536) ∨ (1 ≤ v ∧ v ≤ 1099511627776 ∧ 1 ≤ e ∧ e ≤ 1099511627776 ∧ 16 ≤ p ∧ p ≤ 65536 ∧ ¬ 0 ≤ r) ∨ (1 ≤ v ∧ v ≤ 1099511627776 ∧ 1 ≤ e ∧ e ≤ 1099511627776 ∧ 16 ≤ p ∧ p ≤ 65536 ∧ 0 ≤ r ∧ ¬ r < p) := by omega
  rcases hc with ⟨h0, h1, h2, h3, h4, h5, h6, h7⟩ | h0 | ⟨h0, h1⟩ | ⟨h0, h1, h2⟩ | ⟨h0, h1, h2, h3⟩ | ⟨h0, h1, h2, h3, h4⟩ | ⟨h0, h1, h2, h3, h4, h5⟩ | ⟨h0, h1, h2, h3, h4, h5, h6⟩ | ⟨h0, h1, h2, h3, h4, h5, h6, h7⟩
  · rw [show supMay ⟨v, r, e, p⟩ = true by simp only [supMay, decide_eq_true_eq]; omega]
    simp only [Sup.val]
    go_enter Tryd.func41, Tryd.ntmps41
    go_wp2
    go_ret
    exact ⟨rfl, by first | exact Below.refl _ _ | exact (Below.refl _ _).alloc (Nat.le_refl _) _⟩
  all_goals (
    rw [show supMay ⟨v, r, e, p⟩ = false by simp only [supMay, decide_eq_false_iff_not]; omega]
    simp only [Sup.val]
    go_enter Tryd.func41, Tryd.ntmps41
    go_wp2
    go_ret
    exact ⟨rfl, by first | exact Below.refl _ _ | exact (Below.refl _ _).alloc (Nat.le_refl _) _⟩)

theorem splace_any (s : Sup) (w : World) (h : supMay s = true) : Calls Tryd.prog 39 #[s.val] w fun r w' => r = .returned (.int .i64 (supPlace s)) ∧ Below w.heap.size w w' := by
  obtain ⟨v, r, e, p⟩ := s
  simp only [supMay, decide_eq_true_eq] at h
  have hv : 0 ≤ v := by omega
  have hp : ((supPlace ⟨v, r, e, p⟩ : Nat) : Int) = v % 2 := by simp only [supPlace]; omega
  rw [hp]
  simp only [Sup.val]
  clear h hp
  go_enter Tryd.func39, Tryd.ntmps39
  go_wp2
  go_ret
  exact ⟨rfl, by first | exact Below.refl _ _ | exact (Below.refl _ _).alloc (Nat.le_refl _) _⟩

def supPtrs (g : Nat) : Array Value := #[.pointer (some ⟨g, 0, none⟩), .pointer (some ⟨g, 1, none⟩), .pointer (some ⟨g, 2, none⟩), .pointer (some ⟨g, 3, none⟩)]
theorem snumbers_any (g : Nat) (w : World) : Calls Tryd.prog 46 #[.pointer (some ⟨g, 0, none⟩)] w fun r w' => r = .returned (.agg #[.pointer (some ⟨g, 0, none⟩), .pointer (some ⟨g, 1, none⟩), .pointer (some ⟨g, 2, none⟩), .pointer (some ⟨g, 3, none⟩)]) ∧ Below w.heap.size w w' := by
  go_enter Tryd.func46, Tryd.ntmps46
  go_wp2_with fail
  go_region
  all_goals (try go_wp2)
  all_goals (
    refine bodyPost_ret (results_cell_row rfl _ _ w.heap.size 86 (supPtrs g) (0, 0) _ rfl (heap_alloc_new w _) Tryd.underlying86 rfl (by kernel_rfl)) rfl ⟨rfl, ?_⟩
    exact ((Below.refl _ _).alloc (Nat.le_refl _) _).drew)

theorem index_0 (pa pb pc pd : Option Addr) (w : World) : (Instr.index 86 (.agg #[.pointer pa, .pointer pb, .pointer pc, .pointer pd]) (.int .i64 0)).run Tryd.prog w = .ok (.pointer pa) w := by kernel_rfl
theorem index_1 (pa pb pc pd : Option Addr) (w : World) : (Instr.index 86 (.agg #[.pointer pa, .pointer pb, .pointer pc, .pointer pd]) (.int .i64 1)).run Tryd.prog w = .ok (.pointer pb) w := by kernel_rfl
theorem index_2 (pa pb pc pd : Option Addr) (w : World) : (Instr.index 86 (.agg #[.pointer pa, .pointer pb, .pointer pc, .pointer pd]) (.int .i64 2)).run Tryd.prog w = .ok (.pointer pc) w := by kernel_rfl
theorem index_3 (pa pb pc pd : Option Addr) (w : World) : (Instr.index 86 (.agg #[.pointer pa, .pointer pb, .pointer pc, .pointer pd]) (.int .i64 3)).run Tryd.prog w = .ok (.pointer pd) w := by kernel_rfl

theorem take_pref (a b : List UInt8) (n : Nat) (h : a.length = n) {l : List UInt8} (e : l = a ++ b) : l.take n = a := by rw [e, List.take_left' h]

/-- A superblock in memory. -/
def supCells (s : Sup) : Array Value := #[.int .i64 s.version, .int .i64 s.root, .int .i64 s.epoch, .int .i64 s.pages]

/-- Numbers that a body can be written of. -/
def supIn (s : Sup) : Prop := (0 ≤ s.version ∧ s.version ≤ 1099511627776) ∧ (0 ≤ s.root ∧ s.root ≤ 1099511627776) ∧ (0 ≤ s.epoch ∧ s.epoch ≤ 1099511627776) ∧ (0 ≤ s.pages ∧ s.pages ≤ 1099511627776)
theorem supIn_may (s : Sup) (h : supMay s = true) : supIn s := by
  simp only [supMay, decide_eq_true_eq] at h
  simp only [supIn]; omega

set_option maxHeartbeats 4000000 in
theorem sbody_in (s : Sup) (w : World) (h : supIn s) : Calls Tryd.prog 40 #[s.val] w fun r w' => ∃ v, r = .returned v ∧ w'.ownsRow w.heap.size 5 1 v 36 (bs (supBody s)) ∧ Below w.heap.size w w' := by
  have Hinfo := Lib.hid info_u8
  obtain ⟨v, r, e, p⟩ := s
  simp only [supIn] at h
  obtain ⟨BB, hBB⟩ : ∃ l, l = supBody ⟨v, r, e, p⟩ := ⟨_, rfl⟩
  have HBB : Hid (BB = [67, 70, 82, 84] ++ le 8 v.toNat ++ le 8 r.toNat ++ le 8 e.toNat ++ le 8 p.toNat) := Lib.hid (by rw [hBB, supBody])
  rw [← hBB]
  simp only [Sup.val]
  have kc : (convert 31 31 (.slice (some ⟨w.heap.size + 1, 0, none⟩) 4 4)).run Tryd.prog ((w.alloc (.cells #[.int .i64 v, .int .i64 r, .int .i64 e, .int .i64 p] 30)).alloc (.cells #[.int .u8 67, .int .u8 70, .int .u8 82, .int .u8 84] 5)) = .ok (.slice (some ⟨w.heap.size + 1, 0, none⟩) 4 4) ((w.alloc (.cells #[.int .i64 v, .int .i64 r, .int .i64 e, .int .i64 p] 30)).alloc (.cells #[.int .u8 67, .int .u8 70, .int .u8 82, .int .u8 84] 5 (4, 5))) := by
    have h1 := Lib.run_convert_bytes_const (P := Tryd.prog) (w.alloc (.cells #[.int .i64 v, .int .i64 r, .int .i64 e, .int .i64 p] 30)) 31 5 #[.int .u8 67, .int .u8 70, .int .u8 82, .int .u8 84] 4 4 Tryd.underlying31 Tryd.underlying5
    have e1 : (w.alloc (.cells #[.int .i64 v, .int .i64 r, .int .i64 e, .int .i64 p] 30)).heap.size = w.heap.size + 1 := by simp
    rw [e1] at h1
    exact h1
  have CN : Hid (∀ (z : Int) wx, 0 ≤ z → z ≤ 1099511627776 → Calls Tryd.prog 63 #[.int .i64 z, .int .i64 8] wx fun e w' => ∃ A c, e = .returned (.tuple #[.slice A 8 c, .int .i64 0]) ∧ Bs w' A 8 (le 8 z.toNat) ∧ Below wx.heap.size wx w') := Lib.hid (fun z wx h0 h1 => by
    obtain ⟨n, rfl⟩ : ∃ n : Nat, z = n := ⟨z.toNat, by omega⟩
    have e8 : (256 : Nat) ^ 8 = 18446744073709551616 := by decide
    refine (number_ok n 8 wx (by omega) (by omega) (by omega) (by omega)).mono ?_
    rintro r w' ⟨x, rfl, ho, hb⟩
    obtain ⟨A, c, rfl, hbs⟩ := own_bytes ho
    exact ⟨A, c, rfl, hbs, hb⟩)
  obtain ⟨g, hg⟩ : ∃ g, g = w.heap.size := ⟨_, rfl⟩
  obtain ⟨w2, hw2⟩ : ∃ w2, w2 = ((w.alloc (.cells #[.int .i64 v, .int .i64 r, .int .i64 e, .int .i64 p] 30)).alloc (.cells #[.int .u8 67, .int .u8 70, .int .u8 82, .int .u8 84] 5 (4, 5))) := ⟨_, rfl⟩
  have hs2 : w2.heap.size = g + 1 + 1 := by rw [hw2, hg]; simp
  have hrow : w2.heap[g]? = some (.cells #[.int .i64 v, .int .i64 r, .int .i64 e, .int .i64 p] 30 (0, 0)) := by
    rw [hw2, heap_alloc_old _ _ (by rw [hg]; simp), hg, heap_alloc_new]
  have G2 : Hid (Below g w w2) := Lib.hid (by
    rw [hw2, hg]; exact ((Below.refl _ _).alloc (Nat.le_refl _) _).alloc (by simp) _)
  have HL2 : Hid (Bs w2 (some ⟨g + 1, 0, none⟩) 4 [67, 70, 82, 84]) := Lib.hid (by
    have := lit_bytes (w.alloc (.cells #[.int .i64 v, .int .i64 r, .int .i64 e, .int .i64 p] 30)) [67, 70, 82, 84] #[.int .u8 67, .int .u8 70, .int .u8 82, .int .u8 84] 4 (4, 5) rfl rfl (by omega)
    have e1 : (w.alloc (.cells #[.int .i64 v, .int .i64 r, .int .i64 e, .int .i64 p] 30)).heap.size = g + 1 := by rw [hg]; simp
    rw [e1, ← hw2] at this
    exact this)
  have KC : Hid (∀ wx, Below w2.heap.size w2 wx → wx.cell? ⟨g, 0, none⟩ = some (.int .i64 v) ∧ wx.cell? ⟨g, 1, none⟩ = some (.int .i64 r) ∧ wx.cell? ⟨g, 2, none⟩ = some (.int .i64 e) ∧ wx.cell? ⟨g, 3, none⟩ = some (.int .i64 p)) := Lib.hid (fun wx hx => by
    have hr : wx.heap[g]? = some (.cells #[.int .i64 v, .int .i64 r, .int .i64 e, .int .i64 p] 30 (0, 0)) := by rw [hx.block g (by omega)]; exact hrow
    exact ⟨cell_of_row wx g 0 _ _ _ hr, cell_of_row wx g 1 _ _ _ hr, cell_of_row wx g 2 _ _ _ hr, cell_of_row wx g 3 _ _ _ hr⟩)
  have v0 : Hid (0 ≤ v ∧ v ≤ 1099511627776) := Lib.hid (by omega)
  have r0 : Hid (0 ≤ r ∧ r ≤ 1099511627776) := Lib.hid (by omega)
  have e0 : Hid (0 ≤ e ∧ e ≤ 1099511627776) := Lib.hid (by omega)
  have p0 : Hid (0 ≤ p ∧ p ≤ 1099511627776) := Lib.hid (by omega)
  have Hg := Lib.hid hg
  have HB2 : Hid (g ≤ w2.heap.size) := Lib.hid (by omega)
  clear h hBB hrow
  go_enter Tryd.func40, Tryd.ntmps40
  go_wp2_with (go_at_call 46; rw [← hw2]; refine (snumbers_any w.heap.size w2).mono ?_; rintro q w3 ⟨rfl, hb⟩; have E3 := Lib.hid hb; clear hb)
  have hgg := Hg.out
  subst hgg
  clear kc hw2 hs2
  have Hc47 : Hid (∀ k, k ≤ 4 → 4 + 8 * k + 8 ≤ 140737488355328) := Lib.hid (fun k h => by omega)
  go_loopw [3, 11] (fun o i wr => ∃ (k : Nat) (z : Int), k ≤ 4 ∧ i = .int .i64 z ∧ z = k ∧ Below w2.heap.size w2 wr ∧ ((k = 0 ∧ o = .slice (some ⟨w.heap.size + 1, 0, none⟩) 4 4) ∨ (1 ≤ k ∧ wr.ownsRow w2.heap.size 5 1 o (4 + 8 * k) (bs (BB.take (4 + 8 * k)))))) (fun _ i _ => 4 - (intOf i).toNat)
  case atStart => exact ⟨0, 0, by omega, rfl, rfl, E3.out, .inl ⟨rfl, rfl⟩⟩
  case round =>
    obtain ⟨k, z, hk, rfl, hz, hb, ho⟩ := hrel
    have Hb := Lib.hid hb
    obtain ⟨c0, c1, c2, c3⟩ := KC.out _ hb
    clear hb
    have hcase : k = 0 ∨ k = 1 ∨ k = 2 ∨ k = 3 ∨ k = 4 := by omega
    rcases hcase with rfl | rfl | rfl | rfl | rfl
    · obtain rfl : z = 0 := by omega
      have hix : (Instr.index 86 (.agg #[.pointer (some ⟨w.heap.size, 0, none⟩), .pointer (some ⟨w.heap.size, 1, none⟩), .pointer (some ⟨w.heap.size, 2, none⟩), .pointer (some ⟨w.heap.size, 3, none⟩)]) (.int .i64 0)).run Tryd.prog wr = .ok (.pointer (some ⟨w.heap.size, 0, none⟩)) wr := index_0 _ _ _ _ wr
      have C9 : Hid (Calls Tryd.prog 63 #[.int .i64 v, .int .i64 8] wr fun q9 w' => ∃ A c, q9 = .returned (.tuple #[.slice A 8 c, .int .i64 0]) ∧ Bs w' A 8 (le 8 v.toNat) ∧ Below wr.heap.size wr w') := Lib.hid (CN.out v wr v0.out.1 v0.out.2)
      have hbt : BB.take 12 = [67, 70, 82, 84] ++ le 8 v.toNat := by
        rw [HBB.out]
        simp [le_length, List.take_of_length_le, List.take_append]
      have hu3 : u3 = .slice (some ⟨w.heap.size + 1, 0, none⟩) 4 4 := by
        rcases ho with ⟨_, h⟩ | ⟨h, _⟩
        · exact h
        · omega
      subst hu3
      have HL := Lib.hid (HL2.out.below Hb.out)
      have Hbt := Lib.hid hbt
      clear ho hk hbt hz
      go_wp2_with (first
        | (go_at_call 63; (with_reducible refine C9.out.mono ?_); rintro q w4 ⟨A, c, rfl, hbs, hb⟩; have HX := Lib.hid hbs; have E4 : Hid (Below w2.heap.size w2 w4) := Lib.hid (Hb.out.trans (hb.mono Hb.out.size)); have HL4 := Lib.hid (HL.out.below hb); clear hbs hb)
        | (at_builtin; refine wpList_append_full rfl _ _ 31 rfl w2.heap.size 5 (.int .u8 0) Tryd.underlying31 Hinfo.out rfl ⟨w.heap.size + 1, 0, none⟩ 4 [67, 70, 82, 84] rfl HL4.out A 8 c (le 8 v.toNat) rfl HX.out (by omega) (by omega) E4.out.size ?_; intro va w5 ho hb; have O5 : Hid (w5.ownsRow w2.heap.size 5 1 va (4 + 8 * 1) (bs (BB.take (4 + 8 * 1)))) := Lib.hid (by rw [Hbt.out]; exact ho); have E5 : Hid (Below w2.heap.size w2 w5) := Lib.hid (E4.out.trans (hb.mono E4.out.size)); clear ho hb))
      go_roundw
      case rel => exact ⟨1, 1, by omega, rfl, rfl, E5.out, .inr ⟨by omega, O5.out⟩⟩
      case measure => simp [intOf]
    · obtain rfl : z = 1 := by omega
      have hix : (Instr.index 86 (.agg #[.pointer (some ⟨w.heap.size, 0, none⟩), .pointer (some ⟨w.heap.size, 1, none⟩), .pointer (some ⟨w.heap.size, 2, none⟩), .pointer (some ⟨w.heap.size, 3, none⟩)]) (.int .i64 1)).run Tryd.prog wr = .ok (.pointer (some ⟨w.heap.size, 1, none⟩)) wr := index_1 _ _ _ _ wr
      have C9 : Hid (Calls Tryd.prog 63 #[.int .i64 r, .int .i64 8] wr fun q9 w' => ∃ A c, q9 = .returned (.tuple #[.slice A 8 c, .int .i64 0]) ∧ Bs w' A 8 (le 8 r.toNat) ∧ Below wr.heap.size wr w') := Lib.hid (CN.out r wr r0.out.1 r0.out.2)
      have hbt : BB.take 20 = [67, 70, 82, 84] ++ le 8 v.toNat ++ le 8 r.toNat := by
        rw [HBB.out]
        simp [le_length, List.take_of_length_le, List.take_append]
      have ho2 : wr.ownsRow w2.heap.size 5 1 u3 12 (bs (BB.take 12)) := by
        rcases ho with ⟨h, _⟩ | ⟨_, h⟩
        · omega
        · exact h
      have hbp : BB.take 12 = [67, 70, 82, 84] ++ le 8 v.toNat := by
        rw [HBB.out]
        simp [le_length, List.take_of_length_le, List.take_append]
      rw [hbp] at ho2
      have O := Lib.hid ho2
      have Hbt := Lib.hid hbt
      clear ho ho2 hk hbt hbp hz
      go_wp2_with (first
        | (go_at_call 63; (with_reducible refine C9.out.mono ?_); rintro q w4 ⟨A, c, rfl, hbs, hb⟩; have HX := Lib.hid hbs; have E4 : Hid (Below w2.heap.size w2 w4) := Lib.hid (Hb.out.trans (hb.mono Hb.out.size)); have O4 := Lib.hid (own_below O.out hb); clear hbs hb)
        | (at_builtin; refine wpList_append_bytes rfl _ _ 31 rfl w2.heap.size 5 (.int .u8 0) Tryd.underlying31 Hinfo.out rfl u3 12 (bs ([67, 70, 82, 84] ++ le 8 v.toNat)) rfl O4.out A 8 c (le 8 r.toNat) rfl HX.out (by omega) E4.out.size ?_; intro va w5 ho hg hla; rw [← bs_append] at ho; have O5 : Hid (w5.ownsRow w2.heap.size 5 1 va (4 + 8 * 2) (bs (BB.take (4 + 8 * 2)))) := Lib.hid (by rw [Hbt.out]; exact ho); have E5 : Hid (Below w2.heap.size w2 w5) := Lib.hid (E4.out.grown hg E4.out.size (fun i hi => (O4.out.lt i hi).1)); clear ho hg hla))
      go_roundw
      case rel => exact ⟨2, 2, by omega, rfl, rfl, E5.out, .inr ⟨by omega, O5.out⟩⟩
      case measure => simp [intOf]
    · obtain rfl : z = 2 := by omega
      have hix : (Instr.index 86 (.agg #[.pointer (some ⟨w.heap.size, 0, none⟩), .pointer (some ⟨w.heap.size, 1, none⟩), .pointer (some ⟨w.heap.size, 2, none⟩), .pointer (some ⟨w.heap.size, 3, none⟩)]) (.int .i64 2)).run Tryd.prog wr = .ok (.pointer (some ⟨w.heap.size, 2, none⟩)) wr := index_2 _ _ _ _ wr
      have C9 : Hid (Calls Tryd.prog 63 #[.int .i64 e, .int .i64 8] wr fun q9 w' => ∃ A c, q9 = .returned (.tuple #[.slice A 8 c, .int .i64 0]) ∧ Bs w' A 8 (le 8 e.toNat) ∧ Below wr.heap.size wr w') := Lib.hid (CN.out e wr e0.out.1 e0.out.2)
      have hbt : BB.take 28 = [67, 70, 82, 84] ++ le 8 v.toNat ++ le 8 r.toNat ++ le 8 e.toNat := by
        rw [HBB.out]
        simp [le_length, List.take_of_length_le, List.take_append]
      have ho2 : wr.ownsRow w2.heap.size 5 1 u3 20 (bs (BB.take 20)) := by
        rcases ho with ⟨h, _⟩ | ⟨_, h⟩
        · omega
        · exact h
      have hbp : BB.take 20 = [67, 70, 82, 84] ++ le 8 v.toNat ++ le 8 r.toNat := by
        rw [HBB.out]
        simp [le_length, List.take_of_length_le, List.take_append]
      rw [hbp] at ho2
      have O := Lib.hid ho2
      have Hbt := Lib.hid hbt
      clear ho ho2 hk hbt hbp hz
      go_wp2_with (first
        | (go_at_call 63; (with_reducible refine C9.out.mono ?_); rintro q w4 ⟨A, c, rfl, hbs, hb⟩; have HX := Lib.hid hbs; have E4 : Hid (Below w2.heap.size w2 w4) := Lib.hid (Hb.out.trans (hb.mono Hb.out.size)); have O4 := Lib.hid (own_below O.out hb); clear hbs hb)
        | (at_builtin; refine wpList_append_bytes rfl _ _ 31 rfl w2.heap.size 5 (.int .u8 0) Tryd.underlying31 Hinfo.out rfl u3 20 (bs ([67, 70, 82, 84] ++ le 8 v.toNat ++ le 8 r.toNat)) rfl O4.out A 8 c (le 8 e.toNat) rfl HX.out (by omega) E4.out.size ?_; intro va w5 ho hg hla; rw [← bs_append] at ho; have O5 : Hid (w5.ownsRow w2.heap.size 5 1 va (4 + 8 * 3) (bs (BB.take (4 + 8 * 3)))) := Lib.hid (by rw [Hbt.out]; exact ho); have E5 : Hid (Below w2.heap.size w2 w5) := Lib.hid (E4.out.grown hg E4.out.size (fun i hi => (O4.out.lt i hi).1)); clear ho hg hla))
      go_roundw
      case rel => exact ⟨3, 3, by omega, rfl, rfl, E5.out, .inr ⟨by omega, O5.out⟩⟩
      case measure => simp [intOf]
    · obtain rfl : z = 3 := by omega
      have hix : (Instr.index 86 (.agg #[.pointer (some ⟨w.heap.size, 0, none⟩), .pointer (some ⟨w.heap.size, 1, none⟩), .pointer (some ⟨w.heap.size, 2, none⟩), .pointer (some ⟨w.heap.size, 3, none⟩)]) (.int .i64 3)).run Tryd.prog wr = .ok (.pointer (some ⟨w.heap.size, 3, none⟩)) wr := index_3 _ _ _ _ wr
      have C9 : Hid (Calls Tryd.prog 63 #[.int .i64 p, .int .i64 8] wr fun q9 w' => ∃ A c, q9 = .returned (.tuple #[.slice A 8 c, .int .i64 0]) ∧ Bs w' A 8 (le 8 p.toNat) ∧ Below wr.heap.size wr w') := Lib.hid (CN.out p wr p0.out.1 p0.out.2)
      have hbt : BB.take 36 = [67, 70, 82, 84] ++ le 8 v.toNat ++ le 8 r.toNat ++ le 8 e.toNat ++ le 8 p.toNat := by
        rw [HBB.out]
        simp [le_length, List.take_of_length_le, List.take_append]
      have ho2 : wr.ownsRow w2.heap.size 5 1 u3 28 (bs (BB.take 28)) := by
        rcases ho with ⟨h, _⟩ | ⟨_, h⟩
        · omega
        · exact h
      have hbp : BB.take 28 = [67, 70, 82, 84] ++ le 8 v.toNat ++ le 8 r.toNat ++ le 8 e.toNat := by
        rw [HBB.out]
        simp [le_length, List.take_of_length_le, List.take_append]
      rw [hbp] at ho2
      have O := Lib.hid ho2
      have Hbt := Lib.hid hbt
      clear ho ho2 hk hbt hbp hz
      go_wp2_with (first
        | (go_at_call 63; (with_reducible refine C9.out.mono ?_); rintro q w4 ⟨A, c, rfl, hbs, hb⟩; have HX := Lib.hid hbs; have E4 : Hid (Below w2.heap.size w2 w4) := Lib.hid (Hb.out.trans (hb.mono Hb.out.size)); have O4 := Lib.hid (own_below O.out hb); clear hbs hb)
        | (at_builtin; refine wpList_append_bytes rfl _ _ 31 rfl w2.heap.size 5 (.int .u8 0) Tryd.underlying31 Hinfo.out rfl u3 28 (bs ([67, 70, 82, 84] ++ le 8 v.toNat ++ le 8 r.toNat ++ le 8 e.toNat)) rfl O4.out A 8 c (le 8 p.toNat) rfl HX.out (by omega) E4.out.size ?_; intro va w5 ho hg hla; rw [← bs_append] at ho; have O5 : Hid (w5.ownsRow w2.heap.size 5 1 va (4 + 8 * 4) (bs (BB.take (4 + 8 * 4)))) := Lib.hid (by rw [Hbt.out]; exact ho); have E5 : Hid (Below w2.heap.size w2 w5) := Lib.hid (E4.out.grown hg E4.out.size (fun i hi => (O4.out.lt i hi).1)); clear ho hg hla))
      go_roundw
      case rel => exact ⟨4, 4, by omega, rfl, rfl, E5.out, .inr ⟨by omega, O5.out⟩⟩
      case measure => simp [intOf]
    · obtain rfl : z = 4 := by omega
      have ho2 : wr.ownsRow w2.heap.size 5 1 u3 36 (bs BB) := by
        rcases ho with ⟨h, _⟩ | ⟨_, h⟩
        · omega
        · have e : BB.take (4 + 8 * 4) = BB := List.take_of_length_le (by rw [HBB.out]; simp [le_length])
          rw [e] at h
          exact h
      have O := Lib.hid ho2
      clear ho ho2 hk hz
      go_wp2_with fail
      go_ret
      exact ⟨u3, rfl, own_mono O.out HB2.out, G2.out.trans (Hb.out.mono HB2.out)⟩

theorem sbody_any (s : Sup) (w : World) (h : supMay s = true) : Calls Tryd.prog 40 #[s.val] w fun r w' => ∃ v, r = .returned v ∧ w'.ownsRow w.heap.size 5 1 v 36 (bs (supBody s)) ∧ Below w.heap.size w w' := sbody_in s w (supIn_may s h)

end Go.Proofs.YteljopjaolegaaaDoor
