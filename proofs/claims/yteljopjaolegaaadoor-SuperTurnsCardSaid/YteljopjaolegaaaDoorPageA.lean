/-
  CONTRACTS: package page: a number laid into a page, a page's bytes.
-/
import Derived.Test.YteljopjaolegaaaDoorPage
import Derived.Test.YteljopjaolegaaaDoorGen
import Derived.Test.YteljopjaolegaaaDoorSumD
import Derived.Test.YteljopjaolegaaaDoorSumA
namespace Go.Proofs.YteljopjaolegaaaDoor
open Go.RowKit
set_option maxRecDepth 100000
set_option linter.unusedVariables false

set_option maxHeartbeats 1000000 in
theorem field_any (g at0 n size : Nat) (L : List UInt8) (w : World) (hL : L.length = 4096) (hg : w.heap[g]? = some (.cells (bs L).toArray 5 (0, 0))) (h1 : 1 ≤ size) (h8 : size ≤ 8) (hn : n ≤ 9223372036854775807) (hk : n < 256 ^ size) (hat : at0 + size ≤ 4096) :
    Calls Tryd.prog 61 #[.slice (some ⟨g, 0, none⟩) 4096 4096, .int .i64 at0, .int .i64 n, .int .i64 size] w fun e w' => e = .returned (.tuple #[]) ∧ w'.heap[g]? = some (.cells (bs (splice L at0 (le size n))).toArray 5 (0, 0)) ∧ w.grownBy w' (some g) := by
  have Hg := Lib.hid hg
  have Hsz := Lib.hid size_u8
  have CN : Hid (∀ wx, Calls Tryd.prog 63 #[.int .i64 n, .int .i64 size] wx fun e w' => ∃ v, e = .returned (.tuple #[v, .int .i64 0]) ∧ w'.ownsRow wx.heap.size 5 1 v size (bs (le size n)) ∧ Below wx.heap.size wx w') := Lib.hid (fun wx => number_ok n size wx h1 h8 hn hk)
  have Hfit : Hid (at0 + size ≤ L.length) := Lib.hid (by omega)
  have Hmin : Hid (size = Nat.min size (4096 - at0)) := Lib.hid (by show size = min size (4096 - at0); omega)
  have hai : (at0 : Int) ≤ 4096 := by omega
  have hlt : ¬ at0 = 4096 := by omega
  clear hg hn hk hL
  go_enter Tryd.func61, Tryd.ntmps61
  go_wp2_with (first
    | (go_at_call 63; with_reducible refine (CN.out _).mono ?_; rintro e w2 ⟨x, rfl, ho, hb⟩; obtain ⟨Ax, cx, hxe, hxb⟩ := own_bytes ho; subst hxe; have HX := Lib.hid hxb; have H2 := Lib.hid hb; have Hg2 : Hid (w2.heap[g]? = some (.cells (bs L).toArray 5 (0, 0))) := Lib.hid (by rw [hb.block g (lt_block Hg.out)]; exact Hg.out); clear ho hb hxb)
    | (refine wpList_copy_bytes rfl _ _ 31 31 rfl 5 Tryd.underlying31 Hsz.out (some ⟨g, at0, none⟩) (4096 - at0) (4096 - at0) Ax size cx rfl rfl g at0 L 5 Hg2.out (le size n) HX.out size Hmin.out (fun _ => rfl) Hfit.out ?_; intro w3 hw3 hg3))
  go_end0
  refine ⟨rfl, ?_, ?_⟩
  · have := hw3.out
    rw [List.take_of_length_le (by rw [le_length]; exact Nat.le_refl _)] at this
    exact this
  · exact ⟨hg3.os.trans H2.out.os, hg3.tape.trans H2.out.tape, hg3.output.trans H2.out.output, Nat.le_trans H2.out.size hg3.size, fun k hk hne => (hg3.block k (Nat.lt_of_lt_of_le hk H2.out.size) hne).trans (H2.out.block k hk)⟩

/-- A page that may be. -/
def MakeOk (number kind len : Int) : Bool := decide (0 ≤ number ∧ number < 65536 ∧ 1 ≤ kind ∧ kind ≤ 255 ∧ len ≤ 4085)

theorem ub4 (s : BitVec 32) : ui s = ((s.toNat : Nat) : Int) := rfl

set_option maxHeartbeats 1000000 in
theorem make_ok (number kind n c : Nat) (A : Option Addr) (body : List UInt8) (w : World) (hN : Nib w) (hb : Bs w A n body) (h1 : number < 65536) (h2 : 1 ≤ kind) (h3 : kind ≤ 255) (h4 : n ≤ 4085) :
    Calls Tryd.prog 38 #[.int .i64 number, .int .i64 kind, .slice A n c] w fun e w' => e = .returned (.tuple #[.slice (some ⟨w.heap.size, 0, none⟩) 4096 4096, .int .i64 0]) ∧
      w'.heap[w.heap.size]? = some (.cells (bs (pageOf number kind body)).toArray 5 (0, 0)) ∧ Below w.heap.size w w' := by
  have Hinfo := Lib.hid info_u8
  have Hsz := Lib.hid size_u8
  have HN := Lib.hid hN
  have Hb := Lib.hid hb
  have hl := hb.len
  have Hl := Lib.hid hl
  obtain ⟨g, hgd⟩ : ∃ g, g = w.heap.size := ⟨_, rfl⟩
  have Hgd := Lib.hid hgd
  have Hm1 : Hid (1 * 4096 ≤ 281474976710656) := Lib.hid (by omega)
  have Hm2 : Hid (4096 ≤ maxLen) := Lib.hid (by simp only [maxLen]; omega)
  have HB2 : Hid (g ≤ w.heap.size) := Lib.hid (by omega)
  have HLC : Hid ((4096 : Int) = ((4096 : Nat) : Int)) := Lib.hid (by decide)
  have hbn : body.length ≤ 4085 := by omega
  have P0 : Hid (bs pageL0 = List.replicate 4096 (.int .u8 0)) := Lib.hid (by rw [bs_zeros]; rfl)
  have Q0 : pageL0.length = 4096 := by rw [pageL0, List.length_replicate]
  have Q1 : (pageL1 number).length = 4096 := by rw [pageL1_is]; simp [le_length]
  have Q2 : (pageL2 number kind).length = 4096 := by rw [pageL2_is]; simp [le_length]
  have Q3 : Hid ((pageL3 number kind n).length = 4096) := Lib.hid (by rw [pageL3_is]; simp [le_length])
  have Q4 : Hid ((pageL4 number kind body).length = 4096) := Lib.hid (by rw [pageL4_is _ _ _ hbn, List.length_append, pageRest_length _ _ _ hbn]; simp)
  have Qd : Hid ((pageL4 number kind body).drop 4 = pageRest number kind body) := Lib.hid (pageL4_drop _ _ _ hbn)
  obtain ⟨zi, hzi⟩ : ∃ z : Int, z = (number : Int) := ⟨_, rfl⟩
  obtain ⟨kz, hkz⟩ : ∃ z : Int, z = (kind : Int) := ⟨_, rfl⟩
  obtain ⟨ss, hss⟩ : ∃ s : BitVec 32, s = Crc.sum (pageRest number kind body) := ⟨_, rfl⟩
  have C1 : Hid (∀ wx, wx.heap[g]? = some (.cells (bs (pageL0)).toArray 5 (0, 0)) → Calls Tryd.prog 61 #[.slice (some ⟨g, 0, none⟩) 4096 4096, .int .i64 4, .int .i64 zi, .int .i64 4] wx fun e w' => e = .returned (.tuple #[]) ∧ w'.heap[g]? = some (.cells (bs (pageL1 number)).toArray 5 (0, 0)) ∧ wx.grownBy w' (some g)) := Lib.hid (fun wx h => by
    rw [hzi]; exact field_any g 4 number 4 pageL0 wx Q0 h (by omega) (by omega) (by omega) (by omega) (by omega))
  have C2 : Hid (∀ wx, wx.heap[g]? = some (.cells (bs (pageL1 number)).toArray 5 (0, 0)) → Calls Tryd.prog 61 #[.slice (some ⟨g, 0, none⟩) 4096 4096, .int .i64 8, .int .i64 kz, .int .i64 1] wx fun e w' => e = .returned (.tuple #[]) ∧ w'.heap[g]? = some (.cells (bs (pageL2 number kind)).toArray 5 (0, 0)) ∧ wx.grownBy w' (some g)) := Lib.hid (fun wx h => by
    rw [hkz]; exact field_any g 8 kind 1 _ wx Q1 h (by omega) (by omega) (by omega) (by omega) (by omega))
  have C3 : Hid (∀ wx, wx.heap[g]? = some (.cells (bs (pageL2 number kind)).toArray 5 (0, 0)) → Calls Tryd.prog 61 #[.slice (some ⟨g, 0, none⟩) 4096 4096, .int .i64 9, .int .i64 n, .int .i64 2] wx fun e w' => e = .returned (.tuple #[]) ∧ w'.heap[g]? = some (.cells (bs (pageL3 number kind n)).toArray 5 (0, 0)) ∧ wx.grownBy w' (some g)) := Lib.hid (fun wx h => by
    exact field_any g 9 n 2 _ wx Q2 h (by omega) (by omega) (by omega) (by omega) (by omega))
  have C5 : Hid (∀ wx, wx.heap[g]? = some (.cells (bs (pageL4 number kind body)).toArray 5 (0, 0)) → Calls Tryd.prog 61 #[.slice (some ⟨g, 0, none⟩) 4096 4096, .int .i64 0, .int .i64 (ui ss), .int .i64 4] wx fun e w' => e = .returned (.tuple #[]) ∧ w'.heap[g]? = some (.cells (bs (pageOf number kind body)).toArray 5 (0, 0)) ∧ wx.grownBy w' (some g)) := Lib.hid (fun wx h => by
    rw [ub4, hss, ← pageL5_is _ _ _ hbn]; exact field_any g 0 (pageSum number kind body) 4 _ wx Q4.out h (by omega) (by omega) (by have := pageSum_lt number kind body; omega) (by have := pageSum_lt number kind body; omega) (by omega))
  have HS : Hid (∀ wx, wx.heap[g]? = some (.cells (bs (pageL4 number kind body)).toArray 5 (0, 0)) → Nib wx → Calls Tryd.prog 62 #[.slice (some ⟨g, 4, none⟩) 4092 4092] wx fun e w' => e = .returned (.int .i64 (ui ss)) ∧ wx = w') := Lib.hid (fun wx h hn => by
    have hb := bs_block h 4 4092 (by have := Q4.out; omega) (by omega)
    rw [Qd.out, List.take_of_length_le (by rw [pageRest_length _ _ _ hbn]; exact Nat.le_refl _)] at hb
    rw [hss]
    exact sum_any _ _ _ _ _ hb hn)
  have Hmin : Hid (n = Nat.min n (4096 - 11)) := Lib.hid (by show n = min n (4096 - 11); omega)
  have Hfit : Hid (11 + n ≤ (pageL3 number kind n).length) := Lib.hid (by rw [Q3.out]; omega)
  have HL4 : Hid (splice (pageL3 number kind n) 11 (body.take n) = pageL4 number kind body) := Lib.hid (by rw [pageL4, hl, List.take_of_length_le (by omega)])
  have i1 : zi < 65536 := by omega
  have i0 : 0 ≤ zi := by omega
  have i2 : 1 ≤ kz := by omega
  have i3 : kz ≤ 255 := by omega
  have i4 : (n : Int) ≤ 4085 := by omega
  rw [← hzi, ← hkz]
  clear hN hb hl h1 h2 h3 h4 hbn Q0 Q1 Q2 hzi hkz hss hgd
  go_enter Tryd.func38, Tryd.ntmps38
  go_wp2_with (first
    | (at_make; refine wpList_make_zeros rfl _ _ 31 rfl g 5 (.int .u8 0) 1 Tryd.underlying31 Hinfo.out rfl _ _ 4096 rfl rfl HLC.out HLC.out Hm1.out Hm2.out HB2.out ?_; intro w1 Ho1 hb1; rw [← Hgd.out] at Ho1 ⊢; have Z1 : Hid (w1.heap[g]? = some (.cells (bs pageL0).toArray 5 (0, 0))) := Lib.hid (by rw [P0.out]; exact own_block Ho1.out); have B1 := Lib.hid hb1; clear hb1 Ho1)
    | (go_at_call 61; with_reducible refine (C1.out w1 Z1.out).mono ?_; rintro e w2 ⟨rfl, hg, hgr⟩; have Z2 := Lib.hid hg; have B2 : Hid (Below w.heap.size w w2) := Lib.hid (B1.out.grown hgr B1.out.size (fun k hk => by cases hk; rw [Hgd.out]; exact Nat.le_refl _)); clear hg hgr)
    | (go_at_call 61; with_reducible refine (C2.out w2 Z2.out).mono ?_; rintro e w3 ⟨rfl, hg, hgr⟩; have Z3 := Lib.hid hg; have B3 : Hid (Below w.heap.size w w3) := Lib.hid (B2.out.grown hgr B2.out.size (fun k hk => by cases hk; rw [Hgd.out]; exact Nat.le_refl _)); clear hg hgr)
    | (go_at_call 61; with_reducible refine (C3.out w3 Z3.out).mono ?_; rintro e w4 ⟨rfl, hg, hgr⟩; have Z4 := Lib.hid hg; have B4 : Hid (Below w.heap.size w w4) := Lib.hid (B3.out.grown hgr B3.out.size (fun k hk => by cases hk; rw [Hgd.out]; exact Nat.le_refl _)); clear hg hgr)
    | (go_at_call 62; with_reducible refine (HS.out w5 Z5.out (HN.out.below B5.out)).mono ?_; rintro e w' ⟨rfl, rfl⟩)
    | (go_at_call 61; with_reducible refine (C5.out w5 Z5.out).mono ?_; rintro e w6 ⟨rfl, hg, hgr⟩; have Z6 := Lib.hid hg; have B6 : Hid (Below w.heap.size w w6) := Lib.hid (B5.out.grown hgr B5.out.size (fun k hk => by cases hk; rw [Hgd.out]; exact Nat.le_refl _)); clear hg hgr)
    | (refine wpList_copy_bytes rfl _ _ 31 31 rfl 5 Tryd.underlying31 Hsz.out (some ⟨g, 11, none⟩) 4085 4085 A n c rfl rfl g 11 (pageL3 number kind n) 5 Z4.out body (Hb.out.below B4.out) n Hmin.out (fun _ => rfl) Hfit.out ?_; intro w5 hw5 hg5; have Z5 : Hid (w5.heap[g]? = some (.cells (bs (pageL4 number kind body)).toArray 5 (0, 0))) := Lib.hid (by rw [← HL4.out]; exact hw5.out); have B5 : Hid (Below w.heap.size w w5) := Lib.hid (B4.out.grown hg5 B4.out.size (fun k hk => by cases hk; rw [Hgd.out]; exact Nat.le_refl _)); clear hw5 hg5))
  go_ret2
  have hgd := Hgd.out
  subst hgd
  exact ⟨rfl, Z6.out, B6.out⟩

end Go.Proofs.YteljopjaolegaaaDoor
