/-
  A LIST OF RECORDS: a row of slices of bytes, each its own, in memory.
-/
import Derived.Test.YtaaimonnpmfnlaaDoorStep
import Derived.Test.YtaaimonnpmfnlaaDoorOwnedB
namespace Go.Proofs.YtaaimonnpmfnlaaDoor
open Go.RowKit
set_option maxRecDepth 100000
set_option linter.unusedVariables false

structure Recs (w : World) (base : Nat) (v : Value) (vs : List Value) (ls : List (List UInt8)) : Prop where
  outer : w.ownsRow base 22 1 v vs.length vs
  len : ls.length = vs.length
  own : ∀ (j : Nat) (u : Value) (l : List UInt8), vs[j]? = some u → ls[j]? = some l → w.ownsRow base 5 1 u l.length (bs l)
  apart : ∀ (i j : Nat) (u u' : Value) (g : Nat), i ≠ j → vs[i]? = some u → vs[j]? = some u' → u.ownBlock = some g → u'.ownBlock ≠ some g
  off : ∀ (j : Nat) (u : Value) (g : Nat), vs[j]? = some u → u.ownBlock = some g → v.ownBlock ≠ some g

theorem Recs.nil (w : World) (base : Nat) : Recs w base (.slice none 0 0) [] [] :=
  ⟨World.ownsRow_nil _ _ _ _, rfl, fun j u l h => by simp at h, fun i j u u' g _ h => by simp at h, fun j u g h => by simp at h⟩
theorem Recs.mono {w : World} {base b' : Nat} {v : Value} {vs : List Value} {ls : List (List UInt8)} (h : Recs w base v vs ls) (hb : b' ≤ base) : Recs w b' v vs ls :=
  ⟨own_mono h.outer hb, h.len, fun j u l h1 h2 => own_mono (h.own j u l h1 h2) hb, h.apart, h.off⟩
theorem Recs.below {w w' : World} {base : Nat} {v : Value} {vs : List Value} {ls : List (List UInt8)} (h : Recs w base v vs ls) (hb : Below w.heap.size w w') : Recs w' base v vs ls :=
  ⟨own_below h.outer hb, h.len, fun j u l h1 h2 => own_below (h.own j u l h1 h2) hb, h.apart, h.off⟩
theorem Recs.lt {w : World} {base : Nat} {v : Value} {vs : List Value} {ls : List (List UInt8)} (h : Recs w base v vs ls) {j : Nat} {u : Value} {g : Nat} (hu : vs[j]? = some u) (hg : u.ownBlock = some g) : base ≤ g ∧ g < w.heap.size := by
  have hj := (List.getElem?_eq_some_iff.1 hu).1
  have hj2 : j < ls.length := by rw [h.len]; exact hj
  exact own_lt (h.own j u ls[j] hu (List.getElem?_eq_getElem hj2)) hg
/-- A world in which another row has turned. -/
theorem Recs.grown {w w' : World} {base g0 : Nat} {v : Value} {vs : List Value} {ls : List (List UInt8)} (h : Recs w base v vs ls) (hg : w.grownBy w' (some g0)) (hlt : g0 < base) : Recs w' base v vs ls :=
  ⟨own_grown h.outer hg (fun e => by have := (own_lt h.outer e).1; omega), h.len, fun j u l h1 h2 => own_grown (h.own j u l h1 h2) hg (fun e => by have := (h.lt h1 e).1; omega), h.apart, h.off⟩

/-- One record more: it was laid into new blocks; then the outer row grew. -/
theorem Recs.push {w w1 w2 : World} {base : Nat} {v v' x : Value} {vs : List Value} {ls : List (List UInt8)} {l : List UInt8} (h : Recs w base v vs ls) (hb : base ≤ w.heap.size)
    (h1 : Below w.heap.size w w1) (hx : w1.ownsRow w.heap.size 5 1 x l.length (bs l))
    (ho : w2.ownsRow base 22 1 v' (vs.length + 1) (vs ++ [x])) (hg : w1.grownBy w2 v.ownBlock) (hl : Lies w1 w2 v v') : Recs w2 base v' (vs ++ [x]) (ls ++ [l]) := by
  have hold : ∀ (j : Nat) (u : Value) (g : Nat), vs[j]? = some u → u.ownBlock = some g → v'.ownBlock ≠ some g := by
    intro j u g hu hgu
    have hlt := (h.lt hu hgu).2
    rcases hl with hl | ⟨k, hk, hks, _⟩
    · rw [hl]; exact h.off j u g hu hgu
    · rw [hk]; intro e; cases e; have := h1.size; omega
  have hnew : ∀ g, x.ownBlock = some g → v'.ownBlock ≠ some g := by
    intro g hgx
    have hlt := own_lt hx hgx
    rcases hl with hl | ⟨k, hk, hks, _⟩
    · rw [hl]; intro e; have := (own_lt h.outer e).2; omega
    · rw [hk]; intro e; cases e; omega
  have hkeep : ∀ (u : Value) (l : List UInt8) (b : Nat), w1.ownsRow b 5 1 u l.length (bs l) → (∀ g, u.ownBlock = some g → v.ownBlock ≠ some g) → w2.ownsRow b 5 1 u l.length (bs l) := by
    intro u l b hu hne
    exact own_keep hu fun g e => hg.block g (own_lt hu e).2 (fun e2 => hne g e e2.symm)
  refine ⟨by simpa using ho, by simp [h.len], ?_, ?_, ?_⟩
  · intro j u m hu hm
    by_cases hj : j < vs.length
    · rw [List.getElem?_append_left hj] at hu
      rw [List.getElem?_append_left (by rw [h.len]; exact hj)] at hm
      exact hkeep u m base (own_below (h.own j u m hu hm) h1) (fun g e => h.off j u g hu e)
    · have hj2 : j = vs.length := by
        have := (List.getElem?_eq_some_iff.1 hu).1
        simp at this; omega
      subst hj2
      rw [List.getElem?_append_right (Nat.le_refl _), Nat.sub_self] at hu
      rw [List.getElem?_append_right (by rw [h.len]; exact Nat.le_refl _), h.len, Nat.sub_self] at hm
      cases hu; cases hm
      exact hkeep x l base (own_mono hx hb) (fun g e e2 => by have := (own_lt h.outer e2).2; have := (own_lt hx e).1; omega)
  · intro i j u u' g hij hu hu' hgu
    by_cases hi : i < vs.length
    · rw [List.getElem?_append_left hi] at hu
      by_cases hj : j < vs.length
      · rw [List.getElem?_append_left hj] at hu'
        exact h.apart i j u u' g hij hu hu' hgu
      · have hj2 : j = vs.length := by
          have := (List.getElem?_eq_some_iff.1 hu').1
          simp at this; omega
        subst hj2
        rw [List.getElem?_append_right (Nat.le_refl _), Nat.sub_self] at hu'
        cases hu'
        intro e
        have := (h.lt hu hgu).2
        have := (own_lt hx e).1
        omega
    · have hi2 : i = vs.length := by
        have := (List.getElem?_eq_some_iff.1 hu).1
        simp at this; omega
      subst hi2
      rw [List.getElem?_append_right (Nat.le_refl _), Nat.sub_self] at hu
      cases hu
      have hj : j < vs.length := by
        have := (List.getElem?_eq_some_iff.1 hu').1
        simp at this; omega
      rw [List.getElem?_append_left hj] at hu'
      intro e
      have := (h.lt hu' e).2
      have := (own_lt hx hgu).1
      omega
  · intro j u g hu hgu
    by_cases hj : j < vs.length
    · rw [List.getElem?_append_left hj] at hu
      exact hold j u g hu hgu
    · have hj2 : j = vs.length := by
        have := (List.getElem?_eq_some_iff.1 hu).1
        simp at this; omega
      subst hj2
      rw [List.getElem?_append_right (Nat.le_refl _), Nat.sub_self] at hu
      cases hu
      exact hnew g hgu

end Go.Proofs.YtaaimonnpmfnlaaDoor
