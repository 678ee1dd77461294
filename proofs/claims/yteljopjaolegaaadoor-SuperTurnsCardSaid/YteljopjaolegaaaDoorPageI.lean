/-
  CONTRACTS: page.Make's row as one that is owned; page.Open and the reference's Open, by whether they open.
-/
import Derived.Test.YteljopjaolegaaaDoorPageH
import Derived.Test.YteljopjaolegaaaDoorPageG
namespace Go.Proofs.YteljopjaolegaaaDoor
open Go.RowKit
set_option maxRecDepth 100000
set_option linter.unusedVariables false

theorem own_of_block {w : World} {base g n : Nat} {l : List UInt8} (h : w.heap[g]? = some (.cells (bs l).toArray 5 (0, 0))) (hl : l.length = n) (hb : base ≤ g) (hm : n ≤ 9223372036854775807) : w.ownsRow base 5 1 (.slice (some ⟨g, 0, none⟩) n n) n (bs l) :=
  ⟨by simp [bs_length, hl], .inr ⟨g, n, (bs l).toArray, rfl, hb, h, Nat.le_refl _, by simp only [maxLen]; omega, by simp [bs_length, hl], by rw [List.take_of_length_le (by simp [bs_length, hl])]⟩⟩

theorem make_own (number kind n c : Nat) (A : Option Addr) (body : List UInt8) (w : World) (hN : Nib w) (hb : Bs w A n body) (h1 : number < 65536) (h2 : 1 ≤ kind) (h3 : kind ≤ 255) (h4 : n ≤ 4085) :
    Calls Tryd.prog 38 #[.int .i64 number, .int .i64 kind, .slice A n c] w fun e w' => ∃ v, e = .returned (.tuple #[v, .int .i64 0]) ∧ w'.ownsRow w.heap.size 5 1 v 4096 (bs (pageOf number kind body)) ∧ Below w.heap.size w w' :=
  (make_ok number kind n c A body w hN hb h1 h2 h3 h4).mono fun e w' h => ⟨_, h.1, own_of_block h.2.1 (pageOf_length _ _ _ (by rw [hb.len]; exact h4)) (Nat.le_refl _) (by omega), h.2.2⟩

theorem open_yes (A : Option Addr) (n c : Nat) (l : List UInt8) (number : Int) (w : World) (hN : Nib w) (hb : Bs w A n l) (hc : n ≤ c) (h0 : openCode l number = 0) :
    Calls Tryd.prog 44 #[.slice A n c, .int .i64 number] w fun e w' => ∃ v, e = .returned (.tuple #[.int .i64 (ub (openKind l)), v, .int .i64 0]) ∧ w'.ownsRow w.heap.size 5 1 v (openLen l) (bs (openBody l)) ∧ Below w.heap.size w w' :=
  (open_any A n c l number w hN hb hc).mono fun e w' h => by
    rcases h.2 with ⟨_, v, he, ho⟩ | ⟨hn, _⟩
    · exact ⟨v, he, ho, h.1⟩
    · exact absurd h0 hn
theorem open_no (A : Option Addr) (n c : Nat) (l : List UInt8) (number : Int) (w : World) (hN : Nib w) (hb : Bs w A n l) (hc : n ≤ c) (h0 : ¬ openCode l number = 0) :
    Calls Tryd.prog 44 #[.slice A n c, .int .i64 number] w fun e w' => e = .returned (.tuple #[.int .i64 0, .slice none 0 0, .int .i64 (openCode l number)]) ∧ Below w.heap.size w w' :=
  (open_any A n c l number w hN hb hc).mono fun e w' h => by
    rcases h.2 with ⟨hn, _⟩ | ⟨_, he⟩
    · exact absurd hn h0
    · exact ⟨he, h.1⟩

end Go.Proofs.YteljopjaolegaaaDoor
