/-
  A PAGE THAT OPENS IS THE PAGE OF WHAT IS IN IT; superblocks' pages there and back, in plain Lean.
-/
import Derived.Test.YteljopjaolegaaaDoorSuperJ
namespace Go.Proofs.YteljopjaolegaaaDoor
open Go.RowKit
set_option maxRecDepth 100000
set_option linter.unusedVariables false

theorem zeros_of_all : ∀ (l : List UInt8), l.all (· == 0) = true → l = List.replicate l.length 0
  | [], _ => rfl
  | a :: l, h => by
    simp only [List.all_cons, Bool.and_eq_true, beq_iff_eq] at h
    rw [List.length_cons, List.replicate_succ, ← zeros_of_all l h.2, h.1]

/-- Bytes that open under a number are that page of what is in them. -/
theorem page_is (l : List UInt8) (m : Nat) (h : openCode l m = 0) : l = pageOf m (openKind l).toNat (openBody l) ∧ l.length = 4096 ∧ openLen l ≤ 4085 ∧ openKind l ≠ 0 ∧ (openBody l).length = openLen l := by
  simp only [openCode] at h
  split at h
  · cases h
  rename_i h1
  split at h
  · cases h
  rename_i h2
  split at h
  · cases h
  rename_i h3
  split at h
  · cases h
  rename_i h4
  split at h
  rotate_left
  · cases h
  rename_i h5
  have hl : l.length = 4096 := Decidable.not_not.mp h1
  have hs : unle (l.take 4) = (Crc.sum (l.drop 4)).toNat := Decidable.not_not.mp h2
  have hn : unle ((l.drop 4).take 4) = m := by have := Decidable.not_not.mp h3; omega
  have hk : ¬ l.getD 8 0 = 0 := fun e => h4 (.inl e)
  have hle : unle ((l.drop 9).take 2) ≤ 4085 := by
    have : ¬ 4085 < unle ((l.drop 9).take 2) := fun e => h4 (.inr e)
    omega
  have hbl : (openBody l).length = openLen l := by
    simp only [openBody, openLen, List.length_take, List.length_drop]; omega
  refine ⟨?_, hl, hle, hk, hbl⟩
  have p4 : le 4 m = (l.drop 4).take 4 := by
    have e := le_unle ((l.drop 4).take 4)
    rw [show ((l.drop 4).take 4).length = 4 by simp; omega, hn] at e
    exact e
  have p1 : le 1 (openKind l).toNat = (l.drop 8).take 1 := by
    have e := le_unle ((l.drop 8).take 1)
    have hd : (l.drop 8).take 1 = [openKind l] := by
      rw [openKind, List.getD_eq_getElem?_getD]
      have h8 : 8 < l.length := by omega
      rw [List.getElem?_eq_getElem h8, List.drop_eq_getElem_cons h8]
      rfl
    rw [hd] at e ⊢
    rw [← e]
    simp [unle]
  have p2 : le 2 (openBody l).length = (l.drop 9).take 2 := by
    have e := le_unle ((l.drop 9).take 2)
    rw [show ((l.drop 9).take 2).length = 2 by simp; omega] at e
    rw [hbl]; exact e
  have pz : List.replicate (4085 - (openBody l).length) 0 = l.drop (11 + openLen l) := by
    have e := zeros_of_all _ h5
    rw [show 4085 - (openBody l).length = (l.drop (11 + openLen l)).length by rw [List.length_drop, hbl, hl]; simp only [openLen]; omega]
    exact e.symm
  have hr : pageRest m (openKind l).toNat (openBody l) = l.drop 4 := by
    rw [pageRest, p4, p1, p2, pz]
    have a1 : (l.drop 4).take 4 ++ (l.drop 8).take 1 = (l.drop 4).take 5 := by
      rw [show l.drop 8 = (l.drop 4).drop 4 by rw [List.drop_drop]]; rw [← List.take_add]
    have a2 : (l.drop 4).take 5 ++ (l.drop 9).take 2 = (l.drop 4).take 7 := by
      rw [show l.drop 9 = (l.drop 4).drop 5 by rw [List.drop_drop]]; rw [← List.take_add]
    have a3 : (l.drop 4).take 7 ++ openBody l = (l.drop 4).take (7 + openLen l) := by
      rw [openBody, show l.drop 11 = (l.drop 4).drop 7 by rw [List.drop_drop]]; rw [← List.take_add]
    rw [a1, a2, a3, show l.drop (11 + openLen l) = (l.drop 4).drop (7 + openLen l) by rw [List.drop_drop]; congr 1; omega, List.take_append_drop]
  have p0 : le 4 (pageSum m (openKind l).toNat (openBody l)) = l.take 4 := by
    rw [pageSum, hr, ← hs]
    have e := le_unle (l.take 4)
    rw [show (l.take 4).length = 4 by simp; omega] at e
    exact e
  rw [pageOf, p0, hr, List.take_append_drop]

theorem supPage_open (s : Sup) (h : supMay s = true) (z : Int) : openCode (supPage s) z = (if s.version % 2 = z then 0 else 121) ∧ openKind (supPage s) = 1 ∧ openLen (supPage s) = 36 ∧ openBody (supPage s) = supBody s := by
  have hp := supPlace_lt s
  have hm := of_decide_eq_true (show decide _ = true from h)
  have ep : ((supPlace s : Nat) : Int) = s.version % 2 := by simp only [supPlace]; omega
  have hb := supBody_length s
  refine ⟨?_, ?_, ?_, ?_⟩
  · rw [supPage, open_page _ _ _ _ (by omega) (by omega) (by omega) (by rw [hb]; omega), ep]
  · rw [openKind, supPage, pageOf_kind]; rfl
  · rw [supPage, pageOf_len _ _ _ (by rw [hb]; omega), hb]
  · rw [supPage, pageOf_body _ _ _ (by rw [hb]; omega)]

/-- A superblock's page is opened as it was made, and under no other number. -/
theorem sup_back (s : Sup) (h : supMay s = true) (z : Int) (hz : z = 0 ∨ z = 1) : supCode (supPage s) z = (if s.version % 2 = z then 0 else 121) ∧ supOpen (supPage s) z = (if s.version % 2 = z then s else .zero) := by
  obtain ⟨h1, h2, h3, h4⟩ := supPage_open s h z
  have ht : supTells (openBody (supPage s)) = s := by rw [h4]; exact supTells_body s h
  by_cases he : s.version % 2 = z
  · rw [if_pos he] at h1
    have e : supCode (supPage s) z = 0 := by
      simp only [supCode]
      rw [if_neg (not_not_intro hz), if_neg (not_not_intro h1), if_neg (not_not_intro ⟨h2, h3, by rw [h4]; rfl⟩), ht, if_pos ⟨h, he⟩]
    refine ⟨by rw [e, if_pos he], ?_⟩
    simp only [supOpen]
    rw [if_pos e, if_pos he, ht]
  · rw [if_neg he] at h1
    have e : supCode (supPage s) z = 121 := by
      simp only [supCode]
      rw [if_neg (not_not_intro hz), if_pos (by rw [h1]; decide), h1]
    refine ⟨by rw [e, if_neg he], ?_⟩
    simp only [supOpen]
    rw [if_neg (by rw [e]; decide), if_neg he]

/-- Bytes that open are the page of the superblock that is told. -/
theorem sup_page (l : List UInt8) (z : Int) (h : supCode l z = 0) : supMay (supOpen l z) = true ∧ supPage (supOpen l z) = l ∧ (supOpen l z).version % 2 = z := by
  have h0 := h
  simp only [supCode] at h
  split at h
  · cases h
  rename_i hz
  split at h
  · rename_i h1; exact absurd h h1
  rename_i ho
  split at h
  · cases h
  rename_i hk
  split at h
  rotate_left
  · cases h
  rename_i hm
  have hz := Decidable.not_not.mp hz
  have ho := Decidable.not_not.mp ho
  obtain ⟨k1, k2, k3⟩ := Decidable.not_not.mp hk
  have e : supOpen l z = supTells (openBody l) := by simp only [supOpen]; rw [if_pos h0]
  rw [e]
  refine ⟨hm.1, ?_, hm.2⟩
  obtain ⟨m, rfl⟩ : ∃ m : Nat, z = m := ⟨z.toNat, by omega⟩
  obtain ⟨p1, p2, p3, p4, p5⟩ := page_is l m ho
  have hb : supBody (supTells (openBody l)) = openBody l := supBody_tells _ (by rw [p5, k2]) k3
  have hp : supPlace (supTells (openBody l)) = m := by simp only [supPlace]; omega
  rw [supPage, hb, hp]
  rw [k1] at p1
  exact p1.symm

def supPlain : Sup := ⟨3, 9, 2, 20⟩
theorem supPlain_may : supMay supPlain = true := by decide
theorem supCode_nil (z : Int) (hz : z = 0 ∨ z = 1) : supCode [] z = 122 := by
  simp only [supCode]
  rw [if_neg (not_not_intro hz), if_pos (by rw [open_short _ _ (by decide)]; decide), open_short _ _ (by decide)]
theorem supOpen_nil (z : Int) (hz : z = 0 ∨ z = 1) : supOpen [] z = .zero := by
  simp only [supOpen]; rw [if_neg (by rw [supCode_nil z hz]; decide)]
theorem supChoose_plain : supChoose [] (supPage supPlain) = (supPlain, 0) := by
  obtain ⟨h1, h2⟩ := sup_back supPlain supPlain_may 1 (.inr rfl)
  rw [if_pos (by decide)] at h1 h2
  rw [supChoose, if_neg (fun h => h.2 h1), if_pos (by rw [supCode_nil 0 (.inl rfl)]; decide), h2]
theorem supChoose_none : supChoose [] [] = (.zero, 140) := by
  rw [supChoose, if_pos ⟨by rw [supCode_nil 0 (.inl rfl)]; decide, by rw [supCode_nil 1 (.inr rfl)]; decide⟩]

end Go.Proofs.YteljopjaolegaaaDoor
