/-
  CONTRACTS: two rows are their owner's; the program's Read and the reference's, whatever they are asked; the reference's Number where there is none.
-/
import Derived.Test.YteljopjaolegaaaDoorOwned
import Derived.Test.YteljopjaolegaaaDoorSumD
namespace Go.Proofs.YteljopjaolegaaaDoor
open Go.RowKit
set_option maxRecDepth 100000
set_option linter.unusedVariables false

theorem own_mono {w : World} {b b' : Nat} {e : TypeId} {s : Nat} {v : Value} {n : Nat} {xs : List Value} (h : w.ownsRow b e s v n xs) (hb : b' ≤ b) : w.ownsRow b' e s v n xs := by
  refine ⟨h.1, ?_⟩
  rcases h.2 with h2 | ⟨g, cap, cur, rfl, hb', hg, hn, hc, hs, ht⟩
  · exact .inl h2
  · exact .inr ⟨g, cap, cur, rfl, Nat.le_trans hb hb', hg, hn, hc, hs, ht⟩
theorem own_below {w w' : World} {b : Nat} {e : TypeId} {s : Nat} {v : Value} {n : Nat} {xs : List Value} (h : w.ownsRow b e s v n xs) (hb : Below w.heap.size w w') : w'.ownsRow b e s v n xs :=
  own_keep h fun g e => hb.block g (own_lt h e).2
theorem own_grown {w w' : World} {b : Nat} {e : TypeId} {s : Nat} {v : Value} {n g : Nat} {xs : List Value} (h : w.ownsRow b e s v n xs) (hg : w.grownBy w' (some g)) (hne : v.ownBlock ≠ some g) : w'.ownsRow b e s v n xs :=
  own_keep h fun k e => hg.block k (own_lt h e).2 (fun e2 => by cases e2; exact hne e)

theorem owned_two (base : Nat) (x y : Value) (lx ly : List UInt8) (w : World) (hx : w.ownsRow base 5 1 x lx.length (bs lx)) (hy : w.ownsRow base 5 1 y ly.length (bs ly))
    (hd : ∀ g, x.ownBlock = some g → y.ownBlock ≠ some g) (sx : lx.length ≤ 1099511627776) (sy : ly.length ≤ 1099511627776) (hb : base ≤ w.heap.size) :
    Calls Tryd.prog 21 #[.slice (some ⟨w.heap.size, 0, none⟩) 2 2] (w.alloc (.cells #[x, y] 31)) fun e w' => e = .returned (.bool true) ∧ Below base w w' := by
  have hal : Below w.heap.size w (w.alloc (.cells #[x, y] 31)) := (Below.refl _ _).alloc (Nat.le_refl _) _
  have ho := owned_any base w.heap.size 2 2 [x, y] [] [lx, ly] (w.alloc (.cells #[x, y] 31)) ?_ hb ?_ (by simp; omega) rfl (by omega)
  · exact ho.mono fun e w' h => ⟨h.1, ((Below.refl _ _).alloc hb _).trans h.2⟩
  · refine ⟨rfl, ?_, ?_, ?_, ?_⟩
    · intro j v l h1 h2
      match j, h1, h2 with
      | 0, h1, h2 => cases h1; cases h2; exact own_below hx hal
      | 1, h1, h2 => cases h1; cases h2; exact own_below hy hal
    · intro i j v v' g hij h1 h2 h3 h4
      match i, j, h1, h2 with
      | 0, 0, _, _ => exact hij rfl
      | 1, 1, _, _ => exact hij rfl
      | 0, 1, h1, h2 => cases h1; cases h2; exact hd g h3 h4
      | 1, 0, h1, h2 => cases h1; cases h2; exact hd g h4 h3
    · intro j v h1 h2
      match j, h1 with
      | 0, h1 => cases h1; have := (own_lt hx h2).2; omega
      | 1, h1 => cases h1; have := (own_lt hy h2).2; omega
    · intro j l h1
      match j, h1 with
      | 0, h1 => cases h1; exact sx
      | 1, h1 => cases h1; exact sy
  · rw [heap_alloc_new]; rfl

/-- What is read. -/
def rd (n : Nat) (l : List UInt8) (a k : Int) : Int × Int :=
  if ReadBad n a k = true then (0, 1) else if (n : Int) < a + k then (0, 110) else readRes (unle ((l.drop a.toNat).take k.toNat))

theorem read_any (A : Option Addr) (n c : Nat) (a k : Int) (l : List UInt8) (w : World) (hb : Bs w A n l) (hc : n ≤ c) :
    Calls Tryd.prog 47 #[.slice A n c, .int .i64 a, .int .i64 k] w fun e w' => e = .returned (.tuple #[.int .i64 (rd n l a k).1, .int .i64 (rd n l a k).2]) ∧ w = w' := by
  unfold rd
  by_cases h1 : ReadBad n a k = true
  · rw [if_pos h1]; exact read_bad A n c a k w h1
  · rw [if_neg h1]
    simp only [ReadBad, decide_eq_true_eq] at h1
    obtain ⟨a, rfl⟩ := Int.eq_ofNat_of_zero_le (show 0 ≤ a by omega)
    obtain ⟨k, rfl⟩ := Int.eq_ofNat_of_zero_le (show 0 ≤ k by omega)
    by_cases h2 : (n : Int) < (a : Int) + (k : Int)
    · rw [if_pos h2]; exact read_short A n c a k w (by omega) (by omega) (by omega) (by omega)
    · rw [if_neg h2]; exact read_ok A n c a k l w hb hc (by omega) (by omega) (by omega)

theorem rread_any (A : Option Addr) (n c : Nat) (a k : Int) (l : List UInt8) (w : World) (hb : Bs w A n l) :
    Calls Tryd.prog 49 #[.slice A n c, .int .i64 a, .int .i64 k] w fun e w' => e = .returned (.tuple #[.int .i64 (rd n l a k).1, .int .i64 (rd n l a k).2]) ∧ w = w' := by
  unfold rd
  by_cases h1 : ReadBad n a k = true
  · rw [if_pos h1]; exact rread_bad A n c a k w h1
  · rw [if_neg h1]
    simp only [ReadBad, decide_eq_true_eq] at h1
    obtain ⟨a, rfl⟩ := Int.eq_ofNat_of_zero_le (show 0 ≤ a by omega)
    obtain ⟨k, rfl⟩ := Int.eq_ofNat_of_zero_le (show 0 ≤ k by omega)
    by_cases h2 : (n : Int) < (a : Int) + (k : Int)
    · rw [if_pos h2]; exact rread_short A n c a k w (by omega) (by omega) (by omega) (by omega)
    · rw [if_neg h2]; exact rread_ok A n c a k l w hb (by omega) (by omega) (by omega)

theorem rnumber_bad (n k : Int) (w : World) (h : NumOk n k = false) (hn : n ≤ 9223372036854775807) :
    Calls Tryd.prog 66 #[.int .i64 n, .int .i64 k] w fun e w' => e = .returned (.tuple #[.slice none 0 0, .int .i64 1]) ∧ Below w.heap.size w w' := by
  by_cases h1 : k < 1
  · go_enter Tryd.func66, Tryd.ntmps66
    go_wp2
    go_ret2
    exact ⟨rfl, Below.refl _ _⟩
  · by_cases h8 : 8 < k
    · go_enter Tryd.func66, Tryd.ntmps66
      go_wp2
      go_ret2
      exact ⟨rfl, Below.refl _ _⟩
    · by_cases h0 : n < 0
      · go_enter Tryd.func66, Tryd.ntmps66
        go_wp2
        go_ret2
        exact ⟨rfl, Below.refl _ _⟩
      · obtain ⟨n, rfl⟩ := Int.eq_ofNat_of_zero_le (show 0 ≤ n by omega)
        obtain ⟨k, rfl⟩ := Int.eq_ofNat_of_zero_le (show 0 ≤ k by omega)
        refine (rnumber_nat n k w (by omega) (by omega) (by omega)).mono fun e w' hh => ?_
        rcases hh.2 with ⟨hlt, _⟩ | ⟨_, e1⟩
        · exfalso
          simp only [NumOk, decide_eq_false_iff_not] at h
          refine h ⟨by omega, by omega, by omega, ?_⟩
          have e : (256 : Int) ^ k = ((256 ^ k : Nat) : Int) := by rw [Int.natCast_pow]; rfl
          rw [Int.toNat_natCast, e]
          omega
        · exact ⟨e1, hh.1⟩

theorem rnumber_ok (n k : Nat) (w : World) (h1 : 1 ≤ k) (h8 : k ≤ 8) (hn : n ≤ 9223372036854775807) (hk : n < 256 ^ k) :
    Calls Tryd.prog 66 #[.int .i64 n, .int .i64 k] w fun e w' => ∃ v, e = .returned (.tuple #[v, .int .i64 0]) ∧ w'.ownsRow w.heap.size 5 1 v k (bs (le k n)) ∧ Below w.heap.size w w' :=
  (rnumber_nat n k w h1 h8 hn).mono fun e w' hh => by
    rcases hh.2 with ⟨_, v, e1, e2⟩ | ⟨hno, _⟩
    · exact ⟨v, e1, e2, hh.1⟩
    · exact absurd hk hno

end Go.Proofs.YteljopjaolegaaaDoor
