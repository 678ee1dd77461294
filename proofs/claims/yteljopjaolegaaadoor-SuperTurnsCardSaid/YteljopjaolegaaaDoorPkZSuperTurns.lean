/-
  PROVED HERE: coffretlaw14.SuperTurns answers true for every superblock and every slice of integers, where the table of sixteen words reads as its initialiser lays it.
-/
import Derived.Test.YteljopjaolegaaaDoorRow
import Derived.Test.YteljopjaolegaaaDoorPkF
import Derived.Test.YteljopjaolegaaaDoorAwakeU
import Derived.Deep.Grids

namespace Go.Proofs.YteljopjaolegaaaDoor
open Go.ChangeShapes Go.WideShapes Go.ChangeAt Go.RowKit
set_option maxRecDepth 100000

theorem supTypes : Tryd.prog.cellTypes Tryd.prog.depth 30 = some [3, 3, 3, 3] := by kernel_rfl
theorem supCellsOf : Tryd.prog.cellsOf 30 = 4 := by kernel_rfl

theorem cell_int {W : World} {b0 : Nat} {v : Value} (h : Cell.okWide Tryd.prog W .any b0 3 v) : ∃ n, v = .int .i64 n ∧ -9223372036854775808 ≤ n ∧ n ≤ 9223372036854775807 := by
  have h2 : Cell.ok Tryd.prog W .any b0 3 v := by
    simp only [Cell.okWide, Tryd.underlying3] at h
    exact h
  simp only [Cell.ok, Tryd.underlying3] at h2
  cases v with
  | int k n =>
    simp only [IntKind.has] at h2
    obtain ⟨rfl, h3, h4⟩ := h2
    exact ⟨n, rfl, by simpa [IntKind.min, IntKind.max, IntKind.signed, IntKind.bits] using h3, by simpa [IntKind.min, IntKind.max, IntKind.signed, IntKind.bits] using h4⟩
  | _ => simp at h2

theorem arg_sup {W : World} {b0 : Nat} {v : Value} (hval : Value.okWide Tryd.prog W .any b0 30 v) :
    ∃ x0 x1 x2 x3 : Int, v = .agg #[.int .i64 x0, .int .i64 x1, .int .i64 x2, .int .i64 x3] := by
  simp only [Value.okWide, Tryd.underlying30] at hval
  obtain ⟨cs, rfl, hsz, ts, hts, _, hcell⟩ := hval
  rw [supTypes] at hts
  cases hts
  rw [supCellsOf] at hsz
  have one : ∀ i, i < 4 → ∃ c, cs[i]? = some (.int .i64 c) := by
    intro i hi
    obtain ⟨u, hu, hc⟩ := hcell i cs[i] (Array.getElem?_eq_getElem (by omega))
    have e : u = 3 := by
      have : ∀ i : Fin 4, ([3, 3, 3, 3] : List TypeId)[i.val % 4]? = some 3 := by decide
      exact Option.some.inj (hu.symm.trans (this ⟨i, hi⟩))
    subst e
    obtain ⟨c, hc', _, _⟩ := cell_int hc
    exact ⟨c, by rw [Array.getElem?_eq_getElem (by omega), hc']⟩
  obtain ⟨x0, h0⟩ := one 0 (by omega)
  obtain ⟨x1, h1⟩ := one 1 (by omega)
  obtain ⟨x2, h2⟩ := one 2 (by omega)
  obtain ⟨x3, h3⟩ := one 3 (by omega)
  refine ⟨x0, x1, x2, x3, congrArg Value.agg ?_⟩
  apply Array.ext_getElem?
  intro i
  match i with
  | 0 => exact h0
  | 1 => exact h1
  | 2 => exact h2
  | 3 => exact h3
  | i + 4 => rw [Array.getElem?_eq_none (by omega), Array.getElem?_eq_none (by simp)]

end Go.Proofs.YteljopjaolegaaaDoor

/-
  SuperTurns: what the law keeps, and how it turns.
-/
namespace Go.Proofs.YteljopjaolegaaaDoor
open Go.RowKit
set_option maxRecDepth 100000
set_option linter.unusedVariables false
set_option linter.unusedSimpArgs false

theorem i64_low (n : Int) (m : Int) (i : Nat) (hm : (BitVec.ofInt 64 m).toNat = 2 ^ i - 1) (hi : i ≤ 8) : bits .and .i64 n m = n % (2 ^ i : Nat) := by
  have key : (BitVec.ofInt 64 n &&& BitVec.ofInt 64 m).toNat = (n % ((2 ^ 64 : Nat) : Int)).toNat % 2 ^ i := by
    rw [BitVec.toNat_and, BitVec.toNat_ofInt, hm, Nat.and_two_pow_sub_one_eq_mod]
  show IntKind.i64.wrap ((BitVec.ofInt 64 n &&& BitVec.ofInt 64 m).toNat : Nat) = _
  rw [key, IntKind.wrap_i64]
  have : i = 0 ∨ i = 1 ∨ i = 2 ∨ i = 3 ∨ i = 4 ∨ i = 5 ∨ i = 6 ∨ i = 7 ∨ i = 8 := by omega
  rcases this with rfl | rfl | rfl | rfl | rfl | rfl | rfl | rfl | rfl <;> simp <;> omega
theorem and7 (n : Int) : bits .and .i64 n 7 = n % 8 := i64_low n 7 3 (by decide) (by decide)
theorem and15 (n : Int) : bits .and .i64 n 15 = n % 16 := i64_low n 15 4 (by decide) (by decide)
theorem and1 (n : Int) : bits .and .i64 n 1 = n % 2 := i64_low n 1 1 (by decide) (by decide)

/-- A slice of integers. -/
def Ints (w : World) (A : Option Addr) (n : Nat) (R : List Int) : Prop := R.length = n ∧ n ≤ 9223372036854775807 ∧ ∀ (j : Nat) (z : Int), R[j]? = some z → ∃ ad, A = some ad ∧ w.cell? (ad.add j) = some (.int .i64 z)
def TS (R : List Int) (pg : Int) (k : Nat) : Sup := ⟨1 + k, R.getD k 0 % 16, 1 + (k / 3 : Nat), pg⟩
def scells (L : List Sup) : List Value := L.flatMap (fun s => [.int .i64 s.version, .int .i64 s.root, .int .i64 s.epoch, .int .i64 s.pages])
def TSL (R : List Int) (pg : Int) (k : Nat) : List Sup := (List.range k).map (TS R pg)
theorem ts_may (R : List Int) (pg : Int) (k : Nat) (hk : k < 20) (h1 : 16 ≤ pg) (h2 : pg ≤ 23) : supMay (TS R pg k) = true := decide_eq_true (by simp only [TS]; omega)
theorem scells_snoc (L : List Sup) (s : Sup) : scells (L ++ [s]) = scells L ++ [.int .i64 s.version, .int .i64 s.root, .int .i64 s.epoch, .int .i64 s.pages] := by simp [scells]
theorem tsl_next (R : List Int) (pg : Int) (k : Nat) : TSL R pg (k + 1) = TSL R pg k ++ [TS R pg k] := by simp [TSL, List.range_succ]
theorem scells_at (L : List Sup) (k : Nat) (s : Sup) (h : L[k]? = some s) : (scells L)[4 * k]? = some (.int .i64 s.version) ∧ (scells L)[4 * k + 1]? = some (.int .i64 s.root) ∧ (scells L)[4 * k + 2]? = some (.int .i64 s.epoch) ∧ (scells L)[4 * k + 3]? = some (.int .i64 s.pages) := by
  induction L generalizing k with
  | nil => simp at h
  | cons a L ih =>
    have e0 : scells (a :: L) = .int .i64 a.version :: .int .i64 a.root :: .int .i64 a.epoch :: .int .i64 a.pages :: scells L := rfl
    cases k with
    | zero => rw [List.getElem?_cons_zero] at h; cases h; exact ⟨rfl, rfl, rfl, rfl⟩
    | succ k =>
      rw [List.getElem?_cons_succ] at h
      obtain ⟨h1, h2, h3, h4⟩ := ih k h
      rw [e0, show 4 * (k + 1) = 4 * k + 1 + 1 + 1 + 1 by omega, show 4 * k + 1 + 1 + 1 + 1 + 1 = (4 * k + 1) + 1 + 1 + 1 + 1 by omega, show 4 * k + 1 + 1 + 1 + 1 + 2 = (4 * k + 2) + 1 + 1 + 1 + 1 by omega, show 4 * k + 1 + 1 + 1 + 1 + 3 = (4 * k + 3) + 1 + 1 + 1 + 1 by omega]
      simp only [List.getElem?_cons_succ]
      exact ⟨h1, h2, h3, h4⟩

def TO (h b : Nat) (W : Value) (i : Nat) : Prop := i = h ∨ i = b ∨ W.ownBlock = some i
structure TW (w wr : World) (h g b : Nat) (R : List Int) (pg : Int) (k : Nat) (d : DiskV) (W : Value) (x0 x1 x2 : Int) : Prop where
  disk : DX w wr h g d (TO h b W)
  box : SupAt wr b x0 x1 x2 pg
  row : wr.ownsRow w.heap.size 30 4 W k (scells (TSL R pg k))
  wb : w.heap.size ≤ b
  hb : h ≠ b
  nb : W.ownBlock ≠ some b
  first : k = 0 → d = DiskV.new (8 * pg)
  turns : ∀ j, k = j + 1 → d.Turns (TS R pg j) ∧ x0 = 1 + j
  ahead : ∀ j, k = j + 2 → d.Ahead (TS R pg (j + 1)) (TS R pg j)

/-- The box is set. -/
theorem TW.sets {w wr : World} {h g b : Nat} {R : List Int} {pg : Int} {k : Nat} {d : DiskV} {W : Value} {x0 x1 x2 : Int} (t : TW w wr h g b R pg k d W x0 x1 x2) (a0 a1 a2 : Int) :
    DX w (((wr.setCell ⟨b, 0, none⟩ (.int .i64 a0)).setCell ⟨b, 1, none⟩ (.int .i64 a1)).setCell ⟨b, 2, none⟩ (.int .i64 a2)) h g d (TO h b W) ∧ SupAt (((wr.setCell ⟨b, 0, none⟩ (.int .i64 a0)).setCell ⟨b, 1, none⟩ (.int .i64 a1)).setCell ⟨b, 2, none⟩ (.int .i64 a2)) b a0 a1 a2 pg ∧
      (((wr.setCell ⟨b, 0, none⟩ (.int .i64 a0)).setCell ⟨b, 1, none⟩ (.int .i64 a1)).setCell ⟨b, 2, none⟩ (.int .i64 a2)).ownsRow w.heap.size 30 4 W k (scells (TSL R pg k)) := by
  have e0 : Ext (fun i => i = b) wr (wr.setCell ⟨b, 0, none⟩ (.int .i64 a0)) := Ext.setCell (Ext.refl (fun i => i = b) wr) ⟨b, 0, none⟩ (fun _ => rfl) _
  have e1 := Ext.setCell e0 ⟨b, 1, none⟩ (fun _ => rfl) (.int .i64 a1)
  have ext : Ext (fun i => i = b) wr (((wr.setCell ⟨b, 0, none⟩ (.int .i64 a0)).setCell ⟨b, 1, none⟩ (.int .i64 a1)).setCell ⟨b, 2, none⟩ (.int .i64 a2)) := Ext.setCell e1 ⟨b, 2, none⟩ (fun _ => rfl) _
  refine ⟨t.disk.own ext (fun i hi => ?_) (fun i hi => .inl hi) (.inl rfl), ((t.box.set0 a0).set1 a1).set2 a2, own_keep t.row (fun i hi => ?_)⟩
  · have hi : i = b := hi
    subst hi
    exact ⟨.inr (.inl rfl), Ne.symm t.hb, t.wb⟩
  · exact ext.block i (t.disk.lt (.inr (.inr hi))) (fun e => by have e : i = b := e; subst e; exact t.nb hi)
theorem TW.write {w wr : World} {h g b : Nat} {R : List Int} {pg : Int} {k : Nat} {d : DiskV} {W : Value} {x0 x1 x2 : Int} (t : TW w wr h g b R pg k d W x0 x1 x2) (hp1 : 16 ≤ pg) (hp2 : pg ≤ 23) (hk : k < 20) :
    (d.swrite (TS R pg k)).2 = 0 ∧ (d.swrite (TS R pg k)).1.Turns (TS R pg k) ∧ (d.swrite (TS R pg k)).1.sread = (TS R pg k, 0) ∧ ∀ j, k + 1 = j + 2 → (d.swrite (TS R pg k)).1.Ahead (TS R pg (j + 1)) (TS R pg j) := by
  cases k with
  | zero =>
    rw [t.first rfl]
    obtain ⟨a1, a2, a3⟩ := DiskV.turns_first (TS R pg 0) (ts_may R pg 0 hk hp1 hp2)
    exact ⟨a1, a2, a3, fun j e => by omega⟩
  | succ j =>
    obtain ⟨a1, a2, a3, a4⟩ := DiskV.turns_next d (TS R pg j) (TS R pg (j + 1)) (t.turns j rfl).1 (ts_may R pg (j + 1) hk hp1 hp2) (by simp only [TS]; omega) rfl
    refine ⟨a1, a2, a3, fun i e => ?_⟩
    have e : i = j := by omega
    subst e
    exact a4
theorem TW.wait {w wr : World} {h g b : Nat} {R : List Int} {pg : Int} {k : Nat} {d : DiskV} {W : Value} {x0 x1 x2 : Int} (t : TW w wr h g b R pg k d W x0 x1 x2) : d.wait = [] := by
  cases k with
  | zero => rw [t.first rfl]; rfl
  | succ j => exact (t.turns j rfl).1.2.2.2.1
/-- One more is written, and put. -/
theorem TW.next {w wr w6 w7 : World} {h g b : Nat} {R : List Int} {pg : Int} {k : Nat} {d : DiskV} {W W' : Value} {x0 x1 x2 : Int} {O : Nat → Prop} (t : TW w wr h g b R pg k d W x0 x1 x2) (hp1 : 16 ≤ pg) (hp2 : pg ≤ 23) (hk : k < 20)
    (hx : DX w w6 h g (d.swrite (TS R pg k)).1 O) (hO : ∀ i, TO h b W i → O i) (hB : SupAt w6 b (1 + k) (R.getD k 0 % 16) (1 + (k / 3 : Nat)) pg)
    (hrow : w7.ownsRow w.heap.size 30 4 W' (k + 1) (scells (TSL R pg k) ++ [.int .i64 (1 + k), .int .i64 (R.getD k 0 % 16), .int .i64 (1 + (k / 3 : Nat)), .int .i64 pg])) (hg : w6.grownBy w7 W.ownBlock) (hl : Lies w6 w7 W W') :
    TW w w7 h g b R pg (k + 1) (d.swrite (TS R pg k)).1 W' (1 + k) (R.getD k 0 % 16) (1 + (k / 3 : Nat)) ∧ (d.swrite (TS R pg k)).2 = 0 ∧ (d.swrite (TS R pg k)).1.sread = (TS R pg k, 0) := by
  have hx1 := hx.mono hO (.inl rfl)
  have main := t.write hp1 hp2 hk
  obtain ⟨m1, m2, m3, m4⟩ := main
  have hbl : b < w6.heap.size := hB.lt
  have nb : W'.ownBlock ≠ some b := fun e => by
    rcases hl with hl | ⟨i, hl, hi, _⟩
    · exact t.nb (hl.symm.trans e)
    · rw [e] at hl; cases hl; omega
  refine ⟨⟨hx1.own (S := fun i => W.ownBlock = some i) (Ext.of_grown hg (fun i e => e)) (fun i hi => ⟨.inr (.inr hi), fun e => ?_, own_geM t.row hi⟩) (fun i hi => ?_) (.inl rfl), (hg.block b hbl (fun e => t.nb e.symm)).trans hB, ?_, t.wb, t.hb, nb, fun e => by omega, fun j e => ?_, fun j e => m4 j e⟩, m1, m3⟩
  · have e : i = h := e
    subst e
    obtain ⟨cur, hc⟩ := own_obj (own_monoM t.row (Nat.zero_le _)) hi
    obtain ⟨_, _, _, _, _, hp, _⟩ := t.disk
    unfold PtrAt at hp
    rw [hp] at hc
    cases hc
  · rcases hi with e | e | e
    · exact .inl (.inl e)
    · exact .inl (.inr (.inl e))
    · rcases hl with hl | ⟨j, hl, hj, _⟩
      · exact .inl (.inr (.inr (hl.symm.trans e)))
      · rw [e] at hl; cases hl
        obtain ⟨cur, hc⟩ := own_obj (own_monoM hrow (Nat.zero_le _)) e
        exact .inr ⟨hj, lt_block hc⟩
  · rw [tsl_next, scells_snoc]; exact hrow
  · have e : j = k := by omega
    subst e
    exact ⟨m2, rfl⟩
theorem TW.below {w wr wy : World} {h g b : Nat} {R : List Int} {pg : Int} {k : Nat} {d : DiskV} {W : Value} {x0 x1 x2 : Int} (t : TW w wr h g b R pg k d W x0 x1 x2) (hb : Below wr.heap.size wr wy) : TW w wy h g b R pg k d W x0 x1 x2 :=
  ⟨t.disk.below hb, t.box.below hb, own_belowM t.row hb, t.wb, t.hb, t.nb, t.first, t.turns, t.ahead⟩
theorem TW.new {w wx : World} {h g b : Nat} {R : List Int} {pg x0 x1 x2 : Int} (hx : DX w wx h g (DiskV.new (8 * pg)) (fun k => k = b ∨ k = h)) (hB : SupAt wx b x0 x1 x2 pg) (hw : w.heap.size ≤ b) (hne : h ≠ b) : TW w wx h g b R pg 0 (DiskV.new (8 * pg)) (.slice none 0 0) x0 x1 x2 :=
  ⟨hx.mono (fun i hi => by rcases hi with e | e | e; exact .inr e; exact .inl e; cases e) (.inl rfl), hB, World.ownsRow_nil _ _ _ _, hw, hne, fun e => (by cases e), fun _ => rfl, fun j e => (by omega), fun j e => (by omega)⟩

end Go.Proofs.YteljopjaolegaaaDoor

/-
  An argument of type []int, opened.
-/
namespace Go.Proofs.YteljopjaolegaaaDoor
open Go.ChangeShapes Go.WideShapes Go.ChangeAt Go.RowKit Go.Deep
set_option maxRecDepth 100000

theorem intCells2 : Tryd.prog.cellsOf 3 = 1 := by kernel_rfl
theorem arg_ints {H : Type} {enc : TypeId × Value → H} {W : World} {base b0 : Nat} {held : Bool} {v : Value} {d : DataW H} {p : List MemPlace}
    (hval : Value.okWide Tryd.prog W .any b0 49 v) (h : DataW.Trod enc Tryd.prog W base (fun _ => true) held 49 v d p) : ∃ A n c R, v = .slice A n c ∧ Ints W A n R := by
  obtain ⟨A, n, c, rfl⟩ := okWide_slice Tryd.underlying49 hval
  obtain ⟨fuel, hf⟩ := h
  rcases open_ints Tryd.underlying49 Tryd.underlying3 intCells2 hf with ⟨hcs, _⟩ | ⟨a, len, cap, zs, hcs, _, hl, hm, hzl, _, hcell, _⟩
  · simp [Value.cells] at hcs
    obtain ⟨rfl, rfl, rfl⟩ := hcs
    exact ⟨none, 0, 0, [], rfl, rfl, by omega, fun j z h => by simp at h⟩
  · simp [Value.cells] at hcs
    obtain ⟨rfl, rfl, rfl⟩ := hcs
    simp only [if_true] at hzl
    refine ⟨some a, n, c, zs.take n, rfl, by rw [List.length_take]; omega, by simp only [maxLen] at hm; omega, fun j z hj => ⟨a, rfl, ?_⟩⟩
    have hjn : j < n := by
      have := (List.getElem?_eq_some_iff.1 hj).1
      rw [List.length_take] at this; omega
    rw [List.getElem?_take_of_lt hjn] at hj
    rw [hcell j (by omega), List.getD_eq_getElem?_getD, hj]; rfl

end Go.Proofs.YteljopjaolegaaaDoor

/-
  THE WALK of coffretlaw14.SuperTurns.
-/
namespace Go.Proofs.YteljopjaolegaaaDoor
open Go.RowKit
set_option maxRecDepth 100000
set_option linter.unusedVariables false
set_option linter.unusedSimpArgs false

theorem info_sup : (Tryd.prog.info? 30).map (fun i => (i.zero, i.size, i.bytes)) = some (some (.agg #[.int .i64 0, .int .i64 0, .int .i64 0, .int .i64 0]), 4, 32) := by kernel_rfl

set_option maxHeartbeats 8000000 in
theorem superTurns_any (v r e p : Int) (A : Option Addr) (n c : Nat) (R : List Int) (w : World) (hN : Nib w) (hR : Ints w A n R) :
    Calls Tryd.prog 7 #[.agg #[.int .i64 v, .int .i64 r, .int .i64 e, .int .i64 p], .slice A n c] w fun q w' => q = .returned (.bool true) ∧ Below w.heap.size w w' := by
  obtain ⟨B0, hB⟩ : ∃ B, B = w.heap.size := ⟨_, rfl⟩
  have HB := Lib.hid hB
  have HBl : Hid (∀ wx, Below B0 w wx → B0 ≤ wx.heap.size) := Lib.hid (fun wx h => by rw [hB]; exact h.size)
  have Hlow : Hid (∀ wx, Below B0 w wx → Below w.heap.size w wx) := Lib.hid (fun wx h => by rw [← hB]; exact h)
  have KT : Hid (∀ wx wy, Below B0 w wx → Below wx.heap.size wx wy → Below B0 w wy) := Lib.hid (fun wx wy h1 h2 => h1.trans (h2.mono (HBl.out _ h1)))
  have KA : Hid (∀ wx o, Below B0 w wx → Below B0 w (wx.alloc o)) := Lib.hid (fun wx o h => h.alloc (HBl.out _ h) _)
  have KN : Hid (∀ wx, Below B0 w wx → Nib wx) := Lib.hid (fun wx hx => hN.below (Hlow.out _ hx))
  have HN := Lib.hid hN
  have HR := Lib.hid hR
  have G0 : Hid (Below B0 w (w.alloc (.cells #[.int .i64 v, .int .i64 r, .int .i64 e, .int .i64 p] 30))) := Lib.hid (KA.out _ _ (Below.refl _ _))
  have S0 : Hid (SupAt (w.alloc (.cells #[.int .i64 v, .int .i64 r, .int .i64 e, .int .i64 p] 30)) w.heap.size v r e p) := Lib.hid (SupAt.new w v r e p)
  have Ha : Hid (∀ wx, Below B0 w wx → Calls Tryd.prog 9 #[] wx fun q w' => q = .returned (.bool true) ∧ Below wx.heap.size wx w') := Lib.hid (fun wx hx => awake14 wx (KN.out _ hx))
  obtain ⟨m, hm⟩ : ∃ m, m = p % 8 := ⟨_, rfl⟩
  have h7 : bits .and .i64 p 7 = m := by rw [hm]; exact and7 p
  have hm0 : 0 ≤ m := by omega
  have hm1 : m ≤ 7 := by omega
  have CN : Hid (∀ wx b, Below B0 w wx → b < wx.heap.size → Calls Tryd.prog 10 #[.int .i64 (8 * (16 + m))] wx fun x w' => ∃ h g, x = .returned (.pointer (some ⟨h, 0, none⟩)) ∧ DX w w' h g (DiskV.new (8 * (16 + m))) (fun k => k = b ∨ k = h) ∧ Below wx.heap.size wx w' ∧ wx.heap.size ≤ h) := Lib.hid (fun wx b hx hb => dx_new _ w wx (fun k => k = b) (by omega) (Hlow.out _ hx) (fun k e => by have e : k = b := e; rw [e]; exact hb))
  clear hB hN hR hm
  go_enter Tryd.func7, Tryd.ntmps7
  go_wp2_with (first
    | ((go_at_call 9; (with_reducible refine (Ha.out _ G0.out).mono ?_)); rintro q w1 ⟨rfl, hb⟩; have G1 := Lib.hid (KT.out _ _ G0.out hb); have S1 := Lib.hid (S0.out.below hb); have S1s := Lib.hid (S1.out.set3 (16 + m)); have G2 : Hid (Below B0 w (w1.setCell ⟨w.heap.size, 3, none⟩ (.int .i64 (16 + m)))) := Lib.hid (Below.setCell G1.out (p := ⟨w.heap.size, 3, none⟩) (Nat.le_of_eq HB.out) _); obtain ⟨c0, c1, c2, c3⟩ := S1.out.cells; have f3 := S1.out.free 3; clear hb)
    | ((go_at_call 10; (with_reducible refine (CN.out _ w.heap.size G2.out S1s.out.lt).mono ?_)); rintro x w2 ⟨h, g, rfl, hd, hb, hh⟩; have T0 := Lib.hid (TW.new (R := R) hd (S1s.out.below hb) (Nat.le_refl _) (fun e => by have := S1s.out.lt; omega)); clear hd hb hh))
  obtain ⟨b, hb⟩ : ∃ b, b = w.heap.size := ⟨_, rfl⟩
  rw [← hb] at T0
  rw [← hb]
  obtain ⟨D0, hD0⟩ : ∃ D, D = DiskV.new (8 * (16 + m)) := ⟨_, rfl⟩
  rw [← hD0] at T0
  clear hD0 hb CN Ha S1 S1s c0 c1 c2 c3 f3 G2 S0 G0 h7
  have hnz : (n : Int) ≤ 9223372036854775807 := by have := HR.out.2.1; omega
  have hp16 : 16 ≤ 16 + m := by omega
  have hp23 : 16 + m ≤ 23 := by omega
  have Hp16 := Lib.hid hp16
  have Hp23 := Lib.hid hp23
  have CD : Hid (∀ wx h g d O, DX w wx h g d O → Calls Tryd.prog 25 #[.pointer (some ⟨h, 0, none⟩)] wx fun x w' => ∃ q, x = .returned (.pointer (some ⟨q, 0, none⟩)) ∧ DX w w' h g d (fun k => O k ∨ k = q) ∧ PtrAt w' q g 95 ∧ Below wx.heap.size wx w' ∧ wx.heap.size ≤ q) := Lib.hid (fun wx h g d O k => dx_disk k)
  clear hp16 hp23
  go_loopw [7, 8] (fun x i wr => ∃ (k : Nat) (d : DiskV) (Ap : Option Addr) (cp : Nat) (x0 x1 x2 : Int), k ≤ n ∧ k ≤ 20 ∧ i = .int .i64 k ∧ x = .slice Ap k cp ∧ TW w wr h g b R (16 + m) k d x x0 x1 x2) (fun _ i _ => 20 - (intOf i).toNat)
  case atStart => exact ⟨0, D0, none, 0, v, r, e, by omega, by omega, rfl, rfl, T0.out⟩
  case round =>
    obtain ⟨k, d, Ap, cp, x0, x1, x2, hkn, hk20, rfl, rfl, ht⟩ := hrel
    have T := Lib.hid ht
    clear ht T0
    by_cases hlt : k < n ∧ k < 20
    · obtain ⟨hlt, hlt2⟩ := hlt
      obtain ⟨z, hz⟩ : ∃ z, R[k]? = some z := ⟨_, List.getElem?_eq_getElem (by rw [HR.out.1]; exact hlt)⟩
      obtain ⟨ad, rfl, hcell⟩ := HR.out.2.2 k z hz
      have hzd : R.getD k 0 = z := by rw [List.getD_eq_getElem?_getD, hz]; rfl
      obtain ⟨y, hy⟩ : ∃ y, y = z % 16 := ⟨_, rfl⟩
      have h15 : bits .and .i64 z 15 = y := by rw [hy]; exact and15 z
      obtain ⟨qd, hqd⟩ : ∃ qd, qd = k / 3 := ⟨_, rfl⟩
      have hquo : Int.tdiv (k : Int) 3 = (qd : Int) := by rw [Int.tdiv_eq_ediv_of_nonneg (by omega)]; omega
      have hTS : TS R (16 + m) k = ⟨1 + k, y, 1 + (qd : Int), 16 + m⟩ := by simp only [TS, hzd, hy, hqd]
      have HTS := Lib.hid hTS
      have hab : ad.block < w.heap.size := by
        have h1 := World.block_lt_of_cell? _ _ hcell
        have h2 : (ad.add k).block = ad.block := by unfold Addr.add; split <;> rfl
        rw [h2] at h1; exact h1
      have hadr : (wr.setCell ⟨b, 0, none⟩ (.int .i64 (1 + k))).cell? (ad.add k) = some (.int .i64 z) := by
        have hb2 : ad.block ≠ b := fun e => by have := T.out.wb; omega
        have hb3 : (ad.add k).block = ad.block := by unfold Addr.add; split <;> rfl
        exact (World.cell?_of_block (heap_setCell_other _ _ _ _ (by rw [hb3]; exact hb2))).trans (cell_below T.out.disk.base hcell)
      obtain ⟨c0, c1, c2, c3⟩ := T.out.box.cells
      have f0 := T.out.box.free 0
      have f1 := T.out.box.free 1
      have f2 := T.out.box.free 2
      obtain ⟨s1, s2, s3⟩ := T.out.sets (1 + k) y (1 + (qd : Int))
      obtain ⟨w3, hw3⟩ : ∃ w3, w3 = (((wr.setCell ⟨b, 0, none⟩ (.int .i64 (1 + k))).setCell ⟨b, 1, none⟩ (.int .i64 y)).setCell ⟨b, 2, none⟩ (.int .i64 (1 + (qd : Int)))) := ⟨_, rfl⟩
      rw [← hw3] at s1 s2 s3
      have S1 := Lib.hid s1
      have S2 := Lib.hid s2
      have S3 := Lib.hid s3
      have W3 := Lib.hid hw3
      have WR := T.out.write Hp16.out Hp23.out hlt2
      rw [hTS] at WR
      obtain ⟨m1, m2, m3, m4⟩ := WR
      obtain ⟨D5, hD5⟩ : ∃ D, D = (d.swrite ⟨1 + k, y, 1 + (qd : Int), 16 + m⟩).1 := ⟨_, rfl⟩
      rw [← hD5] at m3
      have CW : Hid (∀ wx q, DX w wx h g d (fun i => TO h b (.slice Ap k cp) i ∨ i = q) → PtrAt wx q g 95 → Calls Tryd.prog 24 #[.pointer (some ⟨q, 0, none⟩), .agg #[.int .i64 (1 + k), .int .i64 y, .int .i64 (1 + (qd : Int)), .int .i64 (16 + m)]] wx fun x w' => x = .returned .nilIface ∧ DX w w' h g D5 (fun i => TO h b (.slice Ap k cp) i ∨ i = q) ∧ Stays (fun i => TO h b (.slice Ap k cp) i ∨ i = q) wx w') := Lib.hid (fun wx q k hq => by
        refine (dx_swrite k (.inr rfl) hq HN.out ⟨1 + _, y, 1 + (qd : Int), 16 + m⟩ (by rw [T.out.wait]; decide)).mono ?_
        rintro x w' ⟨h1, h2, h3⟩
        rw [m1] at h1
        rw [← hD5] at h2
        exact ⟨h1, h2, h3⟩)
      have M3 := Lib.hid m3
      have HD5 := Lib.hid hD5
      have Hlt := Lib.hid hlt
      have Hlt2 := Lib.hid hlt2
      have Hzd : Hid (R.getD k 0 % 16 = y ∧ k / 3 = qd) := Lib.hid ⟨by rw [hzd, hy], hqd.symm⟩
      have hki : (k : Int) < (n : Int) := by omega
      have hki2 : (k : Int) < 20 := by omega
      have hk0 : (0 : Int) ≤ (k : Int) := by omega
      have hqd2 : (qd : Int) ≤ 20 := by omega
      clear hz hcell hzd hy hqd hTS hab s1 s2 s3 hw3 m1 m2 m3 m4 hD5 hlt hlt2 hkn hk20
      go_wp2_with fail
      rw [← W3.out]
      clear hadr c0 c1 c2 c3 f0 f1 f2 h15 hquo
      have Y0 := Lib.hid S2.out.cells
      go_region_held3 (fun w' => w'.cell? ⟨b, 0, none⟩ = some (.int .i64 (1 + k)) ∧ w'.cell? ⟨b, 1, none⟩ = some (.int .i64 y) ∧ w'.cell? ⟨b, 2, none⟩ = some (.int .i64 (1 + (qd : Int))) ∧ w'.cell? ⟨b, 3, none⟩ = some (.int .i64 (16 + m))) (first | exact Y0.out | exact Y1.out | exact Y2.out) (first
        | ((go_at_call 25; (with_reducible refine (CD.out _ h g d (TO h b (.slice Ap k cp)) ?_).mono ?_)); (first | exact S1.out | exact S1.out.drew | exact S1.out.drew.drew); rintro x w5 ⟨q, rfl, hk5, hq5, hb5, -⟩; have K5 := Lib.hid hk5; have P5 := Lib.hid hq5; have B5 := Lib.hid hb5; have X5 := Lib.hid (SupAt.below hb5 S2.out); have Y1 := Lib.hid X5.out.cells; clear hk5 hq5 hb5)
        | ((go_at_call 24; (with_reducible refine (CW.out _ q ?_ ?_).mono ?_)); (first | exact K5.out | exact K5.out.drew | exact K5.out.drew.drew); (first | exact P5.out); rintro x w6 ⟨rfl, hk6, hs6⟩; have K6 := Lib.hid hk6; have S6 := Lib.hid hs6; have X6 : Hid (SupAt w6 b (1 + k) y (1 + (qd : Int)) (16 + m)) := Lib.hid ((hs6 b (.inl (.inr (.inl rfl)))).trans X5.out); have Y2 := Lib.hid X6.out.cells; clear hk6 hs6))
      have Hinf := Lib.hid info_sup
      have ST : Hid (Stays (TO h b (.slice Ap k cp)) w3 w6) := Lib.hid (fun i hi => (S6.out i (.inl hi)).trans (B5.out.block i (S1.out.lt hi)))
      have HO6 : Hid (w6.ownsRow w.heap.size 30 4 (.slice Ap k cp) k (scells (TSL R (16 + m) k))) := Lib.hid (own_keep S3.out (fun i hi => ST.out i (.inr (.inr hi))))
      have Hx1 : Hid (k + 1 ≤ maxLen) := Lib.hid (by have := Hlt2.out; simp only [maxLen]; omega)
      have Hx2 : Hid ((k + 1) * 32 ≤ 140737488355328) := Lib.hid (by have := Hlt2.out; omega)
      have Hb6 := Lib.hid K6.out.base.size
      obtain ⟨c0, c1, c2, c3⟩ := X6.out.cells
      have NXT : Hid (∀ w7 W', w7.ownsRow w.heap.size 30 4 W' (k + 1) (scells (TSL R (16 + m) k) ++ [.int .i64 (1 + k), .int .i64 y, .int .i64 (1 + (qd : Int)), .int .i64 (16 + m)]) → w6.grownBy w7 (Value.slice Ap k cp).ownBlock → Lies w6 w7 (.slice Ap k cp) W' → TW w w7 h g b R (16 + m) (k + 1) D5 W' (1 + k) y (1 + (qd : Int))) := Lib.hid (fun w7 W' h1 h2 h3 => by
        obtain ⟨z1, z2⟩ := Hzd.out
        have hx := K6.out
        rw [HD5.out, ← HTS.out] at hx
        have nx := (T.out.next Hp16.out Hp23.out Hlt2.out hx (fun i hi => .inl hi) (by rw [z1, z2]; exact X6.out) (by rw [z1, z2]; exact h1) h2 h3).1
        rw [z1, z2, HTS.out, ← HD5.out] at nx
        exact nx)
      have CR : Hid (∀ wx q O, DX w wx h g D5 O → PtrAt wx q g 95 → Calls Tryd.prog 26 #[.pointer (some ⟨q, 0, none⟩)] wx fun x w' => x = .returned (.tuple #[.agg #[.int .i64 (1 + k), .int .i64 y, .int .i64 (1 + (qd : Int)), .int .i64 (16 + m)], .nilIface]) ∧ Below wx.heap.size wx w') := Lib.hid (fun wx q O k hq => by
        have := dx_sread k hq HN.out
        rw [M3.out] at this
        exact this)
      clear S6 B5 P5 K5 X5 Y0 Y1 Y2
      go_wp2_with (first
        | (at_builtin; refine wpList_append_elem rfl _ _ 50 rfl w.heap.size 30 (.agg #[.int .i64 0, .int .i64 0, .int .i64 0, .int .i64 0]) 4 32 Tryd.underlying50 Hinf.out rfl (by decide) (.slice Ap k cp) _ _ #[.int .i64 (1 + k), .int .i64 y, .int .i64 (1 + (qd : Int)), .int .i64 (16 + m)] rfl rfl HO6.out rfl (fun u hu => by simp at hu; rcases hu with rfl | rfl | rfl | rfl <;> rfl) Hx1.out Hx2.out Hb6.out ?_; intro v' w7 hown7 hg7 hl7; have T7 := Lib.hid (NXT.out _ _ hown7 hg7 hl7); obtain ⟨gw, cw, rfl⟩ := own_slice1 hown7; clear hown7 hg7 hl7)
        | ((go_at_call 25; (with_reducible refine (CD.out _ h g D5 _ T7.out.disk).mono ?_)); rintro x w8 ⟨q2, rfl, hk8, hq8, hb8, -⟩; have K8 := Lib.hid hk8; have P8 := Lib.hid hq8; have T8 := Lib.hid (T7.out.below hb8); clear hk8 hq8 hb8)
        | ((go_at_call 26; (with_reducible refine (CR.out _ q2 _ K8.out P8.out).mono ?_)); rintro x w9 ⟨rfl, hb9⟩; have T9 := Lib.hid (T8.out.below hb9); have TA : Hid (TW w (w9.alloc (.cells #[.int .i64 (1 + k), .int .i64 y, .int .i64 (1 + (qd : Int)), .int .i64 (16 + m)] 30)) h g b R (16 + m) (k + 1) D5 (.slice (some ⟨gw, 0, none⟩) (k + 1) cw) (1 + k) y (1 + (qd : Int))) := Lib.hid (T9.out.below ((Below.refl _ _).alloc (Nat.le_refl _) _)); have XA := Lib.hid (SupAt.new w9 (1 + k) y (1 + (qd : Int)) (16 + m)); obtain ⟨d0, d1, d2, d3⟩ := TA.out.box.cells; obtain ⟨e0, e1, e2, e3⟩ := XA.out.cells; clear hb9))
      go_roundw
      case rel => exact ⟨k + 1, D5, some ⟨gw, 0, none⟩, cw, 1 + k, y, 1 + (qd : Int), by have := Hlt.out; omega, by have := Hlt2.out; omega, by go_num, by go_num, TA.out⟩
      case measure => have := Hlt2.out; simp [intOf]; omega
    · have hc : ¬ (k : Int) < (n : Int) ∨ ((k : Int) < (n : Int) ∧ ¬ (k : Int) < 20) := by omega
      have hk0 : (0 : Int) ≤ (k : Int) := by omega
      have hkb : (k : Int) ≤ 20 := by omega
      clear hlt hkn hk20
      by_cases h2 : k < 2
      · have h2i : (k : Int) < 2 := by omega
        clear h2
        rcases hc with hc | ⟨hc, hc2⟩
        all_goals (
          go_wp2_with fail
          go_ret
          exact ⟨rfl, T.out.disk.base⟩)
      · have h2i : ¬ (k : Int) < 2 := by omega
        obtain ⟨j, hj⟩ : ∃ j, k = j + 2 := ⟨k - 2, by omega⟩
        obtain ⟨tu, hx0⟩ := T.out.turns (j + 1) (by omega)
        have ta := T.out.ahead j hj
        have hk2 : (k : Int) - 2 = (j : Int) := by omega
        have hjk : (j : Int) < (k : Int) := by omega
        have HJ := Lib.hid hj
        have hsp := DiskV.turns_spoilt d _ _ tu ta
        obtain ⟨par, hpar⟩ : ∃ par, par = (supPlace (TS R (16 + m) (j + 1)) : Int) := ⟨_, rfl⟩
        have ha1 : bits .and .i64 x0 1 = par := by
          rw [and1, hx0, hpar]
          simp only [supPlace, TS]
          omega
        rw [← hpar] at hsp
        have hpar2 : 0 ≤ par ∧ par ≤ 1 := by have := supPlace_lt (TS R (16 + m) (j + 1)); omega
        obtain ⟨hpa, hpb⟩ := hpar2
        obtain ⟨D9, hD9⟩ : ∃ D, D = d.plant (8 * par) [] := ⟨_, rfl⟩
        rw [← hD9] at hsp
        have CP : Hid (Calls Tryd.prog 27 #[.pointer (some ⟨h, 0, none⟩), .int .i64 (8 * par), .slice none 0 0] wr fun x w' => x = .returned (.tuple #[]) ∧ DX w w' h g D9 (TO h b (.slice Ap k cp)) ∧ Stays (TO h b (.slice Ap k cp)) wr w') := Lib.hid (by
          rw [hD9]
          exact dx_plant T.out.disk (8 * par) none 0 0 [] (Bs.nil _ _) (by rw [T.out.wait]; decide))
        obtain ⟨t0, t1, t2, t3, hts⟩ : ∃ t0 t1 t2 t3, TS R (16 + m) j = ⟨t0, t1, t2, t3⟩ := ⟨_, _, _, _, rfl⟩
        have CR : Hid (∀ wx q O, DX w wx h g D9 O → PtrAt wx q g 95 → Calls Tryd.prog 26 #[.pointer (some ⟨q, 0, none⟩)] wx fun x w' => x = .returned (.tuple #[.agg #[.int .i64 t0, .int .i64 t1, .int .i64 t2, .int .i64 t3], .nilIface]) ∧ Below wx.heap.size wx w') := Lib.hid (fun wx q O k hq => by
          have := dx_sread k hq HN.out
          rw [hsp, hts] at this
          exact this)
        obtain ⟨gp, rfl⟩ : ∃ gp, Ap = some ⟨gp, 0, none⟩ := by
          rcases T.out.row.2 with ⟨_, h5⟩ | ⟨gp, cap, cur, h5, _⟩
          · omega
          · cases h5; exact ⟨gp, rfl⟩
        have ROW : Hid (∀ wx, Stays (TO h b (.slice (some ⟨gp, 0, none⟩) k cp)) wr wx → wx.cell? ⟨gp, j * 4, none⟩ = some (.int .i64 t0) ∧ wx.cell? ⟨gp, j * 4 + 1, none⟩ = some (.int .i64 t1) ∧ wx.cell? ⟨gp, j * 4 + 2, none⟩ = some (.int .i64 t2) ∧ wx.cell? ⟨gp, j * 4 + 3, none⟩ = some (.int .i64 t3)) := Lib.hid (fun wx hs => by
          have hL : (TSL R (16 + m) k)[j]? = some ⟨t0, t1, t2, t3⟩ := by
            rw [← hts, TSL, List.getElem?_map, List.getElem?_range (by have := HJ.out; omega)]; rfl
          obtain ⟨u0, u1, u2, u3⟩ := scells_at _ _ _ hL
          have rw' := (own_keep T.out.row (fun i hi => hs i (.inr (.inr hi))) : wx.ownsRow _ _ _ _ _ _)
          have ad : ∀ i, (⟨gp, 0, none⟩ : Addr).add i = ⟨gp, i, none⟩ := fun i => by unfold Addr.add; split <;> simp_all
          have g0 := rw'.cells (g := gp) rfl _ _ u0
          have g1 := rw'.cells (g := gp) rfl _ _ u1
          have g2 := rw'.cells (g := gp) rfl _ _ u2
          have g3 := rw'.cells (g := gp) rfl _ _ u3
          rw [ad] at g0 g1 g2 g3
          rw [show j * 4 = 4 * j by omega]
          exact ⟨g0, g1, g2, g3⟩)
        have c0 := T.out.box.cells.1
        have hj0 : (0 : Int) ≤ (j : Int) := by omega
        clear h2 hsp hpar hD9 hx0 tu ta hts hj
        rcases hc with hc | ⟨hc, hc2⟩
        · go_wp2_with (first
            | ((go_at_call 27; (with_reducible refine CP.out.mono ?_)); rintro x w5 ⟨rfl, hk5, hs5⟩; have K5 := Lib.hid hk5; have S5 := Lib.hid hs5; clear hk5 hs5)
            | ((go_at_call 25; (with_reducible refine (CD.out _ h g D9 _ K5.out).mono ?_)); rintro x w8 ⟨q2, rfl, hk8, hq8, hb8, -⟩; have K8 := Lib.hid hk8; have P8 := Lib.hid hq8; have S8 := Lib.hid (S5.out.trans (K5.out.stays hb8)); clear hk8 hq8 hb8)
            | ((go_at_call 26; (with_reducible refine (CR.out _ q2 _ K8.out P8.out).mono ?_)); rintro x w9 ⟨rfl, hb9⟩; have K9 := Lib.hid (K8.out.below hb9); have S9 : Hid (Stays (TO h b (.slice (some ⟨gp, 0, none⟩) k cp)) wr w9) := Lib.hid (S8.out.trans (fun i hi => hb9.block i (K8.out.lt (.inl hi)))); clear hb9))
          have XA := Lib.hid (SupAt.new w9 t0 t1 t2 t3)
          have RA := Lib.hid (ROW.out _ (S9.out.trans (K9.out.mono (fun _ h => .inl h) (.inl rfl) |>.stays ((Below.refl w9.heap.size w9).alloc (Nat.le_refl _) (.cells #[.int .i64 t0, .int .i64 t1, .int .i64 t2, .int .i64 t3] 30)))))
          have BA := Lib.hid (K9.out.base.trans ((Below.refl w9.heap.size w9).alloc (Nat.le_refl _) (.cells #[.int .i64 t0, .int .i64 t1, .int .i64 t2, .int .i64 t3] 30) |>.mono K9.out.base.size))
          obtain ⟨wA, hwA⟩ : ∃ wA, wA = (w9.alloc (.cells #[.int .i64 t0, .int .i64 t1, .int .i64 t2, .int .i64 t3] 30)) := ⟨_, rfl⟩
          rw [← hwA] at XA RA BA
          rw [← hwA]
          obtain ⟨e0, e1, e2, e3⟩ := XA.out.cells
          obtain ⟨r0, r1, r2, r3⟩ := RA.out
          have q0 : ∀ t, (wA.drewN t).cell? ⟨w9.heap.size, 0, none⟩ = some (.int .i64 t0) := fun t => e0
          have q1 : ∀ t, (wA.drewN t).cell? ⟨w9.heap.size, 1, none⟩ = some (.int .i64 t1) := fun t => e1
          have q2 : ∀ t, (wA.drewN t).cell? ⟨w9.heap.size, 2, none⟩ = some (.int .i64 t2) := fun t => e2
          have q3 : ∀ t, (wA.drewN t).cell? ⟨w9.heap.size, 3, none⟩ = some (.int .i64 t3) := fun t => e3
          have p0 : ∀ t, (wA.drewN t).cell? ⟨gp, j * 4, none⟩ = some (.int .i64 t0) := fun t => r0
          have p1 : ∀ t, (wA.drewN t).cell? ⟨gp, j * 4 + 1, none⟩ = some (.int .i64 t1) := fun t => r1
          have p2 : ∀ t, (wA.drewN t).cell? ⟨gp, j * 4 + 2, none⟩ = some (.int .i64 t2) := fun t => r2
          have p3 : ∀ t, (wA.drewN t).cell? ⟨gp, j * 4 + 3, none⟩ = some (.int .i64 t3) := fun t => r3
          clear hwA e0 e1 e2 e3 r0 r1 r2 r3
          go_quiet (fail)
          go_wp2_with fail
          go_ret
          exact ⟨rfl, BA.out.trans ⟨rfl, rfl, rfl, Nat.le_refl _, fun _ _ => rfl⟩⟩
        · go_wp2_with (first
            | ((go_at_call 27; (with_reducible refine CP.out.mono ?_)); rintro x w5 ⟨rfl, hk5, hs5⟩; have K5 := Lib.hid hk5; have S5 := Lib.hid hs5; clear hk5 hs5)
            | ((go_at_call 25; (with_reducible refine (CD.out _ h g D9 _ K5.out).mono ?_)); rintro x w8 ⟨q2, rfl, hk8, hq8, hb8, -⟩; have K8 := Lib.hid hk8; have P8 := Lib.hid hq8; have S8 := Lib.hid (S5.out.trans (K5.out.stays hb8)); clear hk8 hq8 hb8)
            | ((go_at_call 26; (with_reducible refine (CR.out _ q2 _ K8.out P8.out).mono ?_)); rintro x w9 ⟨rfl, hb9⟩; have K9 := Lib.hid (K8.out.below hb9); have S9 : Hid (Stays (TO h b (.slice (some ⟨gp, 0, none⟩) k cp)) wr w9) := Lib.hid (S8.out.trans (fun i hi => hb9.block i (K8.out.lt (.inl hi)))); clear hb9))
          have XA := Lib.hid (SupAt.new w9 t0 t1 t2 t3)
          have RA := Lib.hid (ROW.out _ (S9.out.trans (K9.out.mono (fun _ h => .inl h) (.inl rfl) |>.stays ((Below.refl w9.heap.size w9).alloc (Nat.le_refl _) (.cells #[.int .i64 t0, .int .i64 t1, .int .i64 t2, .int .i64 t3] 30)))))
          have BA := Lib.hid (K9.out.base.trans ((Below.refl w9.heap.size w9).alloc (Nat.le_refl _) (.cells #[.int .i64 t0, .int .i64 t1, .int .i64 t2, .int .i64 t3] 30) |>.mono K9.out.base.size))
          obtain ⟨wA, hwA⟩ : ∃ wA, wA = (w9.alloc (.cells #[.int .i64 t0, .int .i64 t1, .int .i64 t2, .int .i64 t3] 30)) := ⟨_, rfl⟩
          rw [← hwA] at XA RA BA
          rw [← hwA]
          obtain ⟨e0, e1, e2, e3⟩ := XA.out.cells
          obtain ⟨r0, r1, r2, r3⟩ := RA.out
          have q0 : ∀ t, (wA.drewN t).cell? ⟨w9.heap.size, 0, none⟩ = some (.int .i64 t0) := fun t => e0
          have q1 : ∀ t, (wA.drewN t).cell? ⟨w9.heap.size, 1, none⟩ = some (.int .i64 t1) := fun t => e1
          have q2 : ∀ t, (wA.drewN t).cell? ⟨w9.heap.size, 2, none⟩ = some (.int .i64 t2) := fun t => e2
          have q3 : ∀ t, (wA.drewN t).cell? ⟨w9.heap.size, 3, none⟩ = some (.int .i64 t3) := fun t => e3
          have p0 : ∀ t, (wA.drewN t).cell? ⟨gp, j * 4, none⟩ = some (.int .i64 t0) := fun t => r0
          have p1 : ∀ t, (wA.drewN t).cell? ⟨gp, j * 4 + 1, none⟩ = some (.int .i64 t1) := fun t => r1
          have p2 : ∀ t, (wA.drewN t).cell? ⟨gp, j * 4 + 2, none⟩ = some (.int .i64 t2) := fun t => r2
          have p3 : ∀ t, (wA.drewN t).cell? ⟨gp, j * 4 + 3, none⟩ = some (.int .i64 t3) := fun t => r3
          clear hwA e0 e1 e2 e3 r0 r1 r2 r3
          go_quiet (fail)
          go_wp2_with fail
          go_ret
          exact ⟨rfl, BA.out.trans ⟨rfl, rfl, rfl, Nat.le_refl _, fun _ _ => rfl⟩⟩

end Go.Proofs.YteljopjaolegaaaDoor

/-
  PROVED HERE: coffretlaw14.SuperTurns answers true for every superblock and every slice of integers, where the table of sixteen words reads as its initialiser lays it.
-/
namespace Go.Proofs.YteljopjaolegaaaDoor.superTurns
open Go.ChangeShapes Go.WideShapes Go.ChangeAt Go.RowKit
set_option maxRecDepth 100000

/-- The law's answer, for every argument and every world that holds the table. -/
theorem contract (H : Type) (enc : TypeId × Value → H) (W : World) (base : Nat) (args : Array Value) (ds gs : List (DataW H)) (before : List MemPlace)
    (hval : ∀ (j : Nat) t v, Tryd.f7.params[j]? = some t → args[j]? = some v → Value.okWide Tryd.prog W .any base t v)
    (hW : DataW.Whole enc Tryd.prog Tryd.f7.params.toList Rows.superTurnsSpec.vars false W args.toList ds gs before)
    (hz : (DataW.weightsEach Tryd.prog Tryd.f7.params.toList ds).all (· ≤ reachBytes) = true) (hL : laidMet Tryd.prog Rows.superTurnsRow.laid W) :
    Calls Tryd.prog 7 args W fun e W' => ∃ v, e = .returned v ∧ Rows.superTurnsSpec.post enc Tryd.prog Tryd.f7 false true false false W args v W' := by
  have hN : Nib W := nib_of hL
  have hW' := hW
  obtain ⟨p, q, hA0, hV, rfl, _, _⟩ := hW
  have hA : DataW.TrodAll enc Tryd.prog W 0 (fun _ => true) true Tryd.f7.params.toList args.toList ds p := hA0
  rw [Tryd.params7] at hA hval hz
  clear hA0
  obtain ⟨v0, vs0, d0, ds0, p0, q0, hargs, rfl, rfl, h0, r0⟩ := trodAll_cons hA
  obtain ⟨v1, vs1, d1, ds1, p1, q1, rfl, rfl, rfl, h1, r1⟩ := trodAll_cons r0
  obtain ⟨rfl, rfl, rfl⟩ := trodAll_nil r1
  obtain rfl : args = #[v0, v1] := by cases args; simp_all
  obtain ⟨s0a, s0b, s0c, s0d, rfl⟩ := arg_sup (hval 0 30 v0 rfl rfl)
  obtain ⟨A1, n1, c1, l1, rfl, hb1⟩ := arg_ints (hval 1 49 v1 rfl rfl) h1
  refine (superTurns_any s0a s0b s0c s0d A1 n1 c1 l1 W hN hb1).mono fun e W' ⟨he, hb⟩ => ?_
  subst he
  exact post_true rfl (by kernel_rfl) rfl hW' rfl hb

theorem laid_met (os : Os) : laidMet Tryd.prog Rows.superTurnsRow.laid ((laidWorld os).forCall (fun _ _ => 0) ⟨#[], #[.agg #[.int .i64 0, .int .i64 0, .int .i64 0, .int .i64 0], .slice none 0 0], []⟩).memory :=
  laidMet_of_run' 8 (by kernel_rfl) (by kernel_rfl)
theorem reads (os : Os) {H : Type} (enc : TypeId × Value → H) : ∃ places, DataW.whole enc Tryd.prog ((laidWorld os).forCall (fun _ _ => 0) ⟨#[], #[.agg #[.int .i64 0, .int .i64 0, .int .i64 0, .int .i64 0], .slice none 0 0], []⟩).memory Tryd.f7.params.toList Rows.superTurnsSpec.vars false #[.agg #[.int .i64 0, .int .i64 0, .int .i64 0, .int .i64 0], .slice none 0 0].toList 8 = some ([.agg [.lit (.int .i64 0), .lit (.int .i64 0), .lit (.int .i64 0), .lit (.int .i64 0)], .nil], [], places) :=
  ⟨[], by kernel_rfl⟩

set_option maxRecDepth 100000 in
theorem lifted (os : Os) (started : os.Started) (H : Type) (enc : TypeId × Value → H) (F : Stop.Interp) :
    ReturnsInHanded {} Tryd.checked os 7 .any ((OpenSpec.ofChange Rows.superTurnsSpec).preRow enc Tryd.prog Tryd.f7 Rows.superTurnsRow.domain false Rows.superTurnsRow.laid) (((OpenSpec.ofChange Rows.superTurnsSpec).at F).post enc Tryd.prog Tryd.f7 false true false false) := by
  obtain ⟨places, hx⟩ := reads os enc
  refine returnsInHanded_of_row (C := Tryd.checked) (s := OpenSpec.ofChange Rows.superTurnsSpec) ownK started (by kernel_rfl) Tryd.func7
    (witness_row_at (enc := enc) (C := Tryd.checked) false (laidWorld os) #[.agg #[.int .i64 0, .int .i64 0, .int .i64 0, .int .i64 0], .slice none 0 0] rfl (by kernel_rfl) (by kernel_rfl) (by kernel_rfl)
      (OpenSpec.preRow_of_cond 8 hx (by kernel_rfl) (fun k hk => by cases hk) (by kernel_rfl) (laid_met os))) ?_
  intro W base args ds gs before hval hW _ hcond hz hL _ _
  have hgs : gs = [] := by
    obtain ⟨_, _, _, hV, _⟩ := hW
    exact (trodVars_none hV).1
  subst hgs
  have hz' : (DataW.weightsEach Tryd.prog Tryd.f7.params.toList ds).all (· ≤ reachBytes) = true := by
    have e : (OpenSpec.ofChange Rows.superTurnsSpec).bare.plain.varTypes Tryd.checked.prog = [] := rfl
    rw [e, List.append_nil, List.append_nil] at hz
    exact hz
  exact contract H enc W base args ds [] before hval hW hz' hL

theorem said : Rows.SuperTurnsSaid :=
  OpenClaim.holds_of_cond 7 Tryd.f7 rfl rfl rfl rfl rfl rfl rfl ⟨rfl, rfl, rfl, rfl, rfl⟩ rfl rfl rfl rfl rfl (by kernel_rfl) Tryd.func7 (by kernel_rfl)
    (of_decide_eq_true (by kernel_rfl)) (by unfold Func.isWrapper; first | (rw [if_pos (by decide +kernel)]; kernel_rfl) | (rw [if_neg (by decide +kernel)]; exact ⟨rfl, rfl⟩))
    (fun os started H enc _ F => by rw [OpenClaim.pre_eq_preRow]; exact lifted os started H enc F)

theorem plain (f : FuncId) (fn : Func) (hf : Tryd.pinned.checked.prog.funcNamed "coffret/coffretlaw14.SuperTurns" = some f) (hfn : Tryd.pinned.checked.prog.funcs[f]? = some fn) :
    true = Tryd.pinned.checked.prog.looks [] ∧ ∀ (j : Nat) t, fn.params[j]? = some t → Tryd.pinned.checked.prog.wantsStandIn t = false := by
  obtain rfl : f = 7 := Option.some.inj ((show Tryd.prog.funcNamed "coffret/coffretlaw14.SuperTurns" = some 7 by kernel_rfl).symm.trans hf) |>.symm
  obtain rfl : fn = Tryd.f7 := (Option.some.inj (Tryd.func7.symm.trans hfn)).symm
  refine ⟨by kernel_rfl, fun j t ht => ?_⟩
  rw [Tryd.params7] at ht
  have hall : ∀ t ∈ (#[30, 49] : Array TypeId), Tryd.prog.wantsStandIn t = false := by
    intro t ht
    simp only [List.mem_toArray, List.mem_cons, List.not_mem_nil, or_false] at ht
    rcases ht with rfl | rfl <;> kernel_rfl
  exact hall t (Array.mem_of_getElem? ht)

/-- THE CARD. -/
theorem card : Rows.SuperTurnsCardSaid :=
  Claim7.holds_tied_plain_at .later [] _ _ _ _ said (fun _ h => by cases h) (by kernel_rfl) (fun _ h => by cases h) superTurns_row_tie rfl ⟨rfl, rfl⟩ (by kernel_rfl) rfl plain (by kernel_rfl)
end Go.Proofs.YteljopjaolegaaaDoor.superTurns
