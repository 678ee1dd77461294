/-
  CONTRACTS: super.Open and the reference's of any bytes. (Printed by rsuperall.py.)
-/
import Derived.Test.YteljopjaolegaaaDoorSuperH
namespace Go.Proofs.YteljopjaolegaaaDoor
open Go.RowKit
set_option maxRecDepth 100000
set_option linter.unusedVariables false
set_option linter.unusedSimpArgs false

theorem ub_one (x : UInt8) : ub x = 1 ↔ x = 1 := by
  constructor
  · intro h
    simp only [ub] at h
    have : x.toNat = 1 := by omega
    exact UInt8.toNat_inj.mp this
  · rintro rfl; rfl

theorem sopen_any (A : Option Addr) (n c : Nat) (l : List UInt8) (z : Int) (w : World) (hN : Nib w) (hb : Bs w A n l) (hc : n ≤ c) :
    Calls Tryd.prog 18 #[.slice A n c, .int .i64 z] w fun q w' => q = .returned (.tuple #[(supOpen l z).val, .int .i64 (supCode l z)]) ∧ Below w.heap.size w w' := by
  by_cases hz : z = 0 ∨ z = 1
  rotate_left
  · have e : supCode l z = 1 := by simp only [supCode]; rw [if_pos hz]
    have e2 : supOpen l z = .zero := by simp only [supOpen]; rw [e]; rfl
    rw [e, e2]
    exact sopen_arg A n c z w (fun h => hz (.inl h)) (fun h => hz (.inr h))
  by_cases h0 : openCode l z = 0
  rotate_left
  · have e : supCode l z = openCode l z := by simp only [supCode]; rw [if_neg (not_not_intro hz), if_pos h0]
    have e2 : supOpen l z = .zero := by simp only [supOpen]; rw [e, if_neg h0]
    rw [e, e2]
    exact sopen_page A n c z (openCode l z) w hz h0 (Lib.hid (fun wx hx => open_no A n c l z wx (hN.below hx) (hb.below hx) hc h0))
  have CO : Hid (∀ wx, Below w.heap.size w wx → Calls Tryd.prog 44 #[.slice A n c, .int .i64 z] wx fun q w' => ∃ Av cv, q = .returned (.tuple #[.int .i64 (ub (openKind l)), .slice Av (openLen l) cv, .int .i64 0]) ∧ Bs w' Av (openLen l) (openBody l) ∧ openLen l ≤ cv ∧ Below wx.heap.size wx w') := Lib.hid (fun wx hx => by
    refine (open_yes A n c l z wx (hN.below hx) (hb.below hx) hc h0).mono ?_
    rintro q w' ⟨v, rfl, ho, hbl⟩
    obtain ⟨Av, cv, rfl, hbs, hcv⟩ := own_bytes_cap ho
    exact ⟨Av, cv, rfl, hbs, hcv, hbl⟩)
  have bad (h : supCode l z = 140) : (.tuple #[(supOpen l z).val, .int .i64 (supCode l z)] : Value) = .tuple #[Sup.zero.val, .int .i64 140] := by
    have e2 : supOpen l z = .zero := by simp only [supOpen]; rw [h]; rfl
    rw [h, e2]
  by_cases hk : openKind l = 1
  rotate_left
  · rw [bad (by simp only [supCode]; rw [if_neg (not_not_intro hz), if_neg (not_not_intro h0), if_pos (fun h => hk h.1)])]
    exact sopen_kind A n c (openLen l) z (ub (openKind l)) (openBody l) w hz (fun h => hk ((ub_one _).mp h)) CO
  have hk1 : ub (openKind l) = 1 := (ub_one _).mpr hk
  rw [hk1] at CO
  by_cases hl : openLen l = 36
  rotate_left
  · rw [bad (by simp only [supCode]; rw [if_neg (not_not_intro hz), if_neg (not_not_intro h0), if_pos (fun h => hl h.2.1)])]
    exact sopen_long A n c (openLen l) z (openBody l) w hz hl CO
  by_cases hm : (openBody l).take 4 = [67, 70, 82, 84]
  rotate_left
  · rw [bad (by simp only [supCode]; rw [if_neg (not_not_intro hz), if_neg (not_not_intro h0), if_pos (fun h => hm h.2.2)])]
    exact sopen_mark A n c (openLen l) z (openBody l) w hz hl hm CO
  have hcode : supCode l z = if supMay (supTells (openBody l)) = true ∧ (supTells (openBody l)).version % 2 = z then 0 else 140 := by
    simp only [supCode]; rw [if_neg (not_not_intro hz), if_neg (not_not_intro h0), if_neg (not_not_intro ⟨hk, hl, hm⟩)]
  by_cases hr : supReads (openBody l) = true
  rotate_left
  · have hmay : ¬ supMay (supTells (openBody l)) = true := fun h => hr (supMay_reads _ h)
    rw [bad (by rw [hcode, if_neg (fun h => hmay h.1)])]
    exact sopen_unread A n c (openLen l) z _ _ _ _ (openBody l) w hz hl hm rfl rfl rfl rfl (by simpa using hr) CO
  have hr4 := of_decide_eq_true (show decide _ = true from hr)
  by_cases hmay : supMay (supTells (openBody l)) = true
  rotate_left
  · rw [bad (by rw [hcode, if_neg (fun h => hmay h.1)])]
    exact sopen_maynot A n c (openLen l) z _ _ _ _ (openBody l) w hz hl hm rfl rfl rfl rfl (by omega) (by simpa [supTells] using hmay) CO
  by_cases hpl : (supTells (openBody l)).version % 2 = z
  rotate_left
  · rw [bad (by rw [hcode, if_neg (fun h => hpl h.2)])]
    exact sopen_off A n c (openLen l) z _ _ _ _ (openBody l) w hz hl hm rfl rfl rfl rfl (by omega) (by simpa [supTells] using hmay) hpl CO
  have e0 : supCode l z = 0 := by rw [hcode, if_pos ⟨hmay, hpl⟩]
  have e2 : supOpen l z = supTells (openBody l) := by simp only [supOpen]; rw [if_pos e0]
  rw [e0, e2]
  exact sopen_fine A n c (openLen l) z (supTells (openBody l)).version (supTells (openBody l)).root (supTells (openBody l)).epoch (supTells (openBody l)).pages (openBody l) w hz hl hm rfl rfl rfl rfl (by simp only [supTells]; omega) (by simpa [supTells] using hmay) hpl CO

theorem rsopen_any (A : Option Addr) (n c : Nat) (l : List UInt8) (z : Int) (w : World) (hb : Bs w A n l) (hc : n ≤ c) :
    Calls Tryd.prog 20 #[.slice A n c, .int .i64 z] w fun q w' => q = .returned (.tuple #[(supOpen l z).val, .int .i64 (supCode l z)]) ∧ Below w.heap.size w w' := by
  by_cases hz : z = 0 ∨ z = 1
  rotate_left
  · have e : supCode l z = 1 := by simp only [supCode]; rw [if_pos hz]
    have e2 : supOpen l z = .zero := by simp only [supOpen]; rw [e]; rfl
    rw [e, e2]
    exact rsopen_arg A n c z w (fun h => hz (.inl h)) (fun h => hz (.inr h))
  by_cases h0 : openCode l z = 0
  rotate_left
  · have e : supCode l z = openCode l z := by simp only [supCode]; rw [if_neg (not_not_intro hz), if_pos h0]
    have e2 : supOpen l z = .zero := by simp only [supOpen]; rw [e, if_neg h0]
    rw [e, e2]
    exact rsopen_page A n c z (openCode l z) w hz h0 (Lib.hid (fun wx hx => ropen_no A n c l z wx (hb.below hx) hc h0))
  have CO : Hid (∀ wx, Below w.heap.size w wx → Calls Tryd.prog 48 #[.slice A n c, .int .i64 z] wx fun q w' => ∃ Av cv, q = .returned (.tuple #[.int .i64 (ub (openKind l)), .slice Av (openLen l) cv, .int .i64 0]) ∧ Bs w' Av (openLen l) (openBody l) ∧ openLen l ≤ cv ∧ Below wx.heap.size wx w') := Lib.hid (fun wx hx => by
    refine (ropen_yes A n c l z wx (hb.below hx) hc h0).mono ?_
    rintro q w' ⟨v, rfl, ho, hbl⟩
    obtain ⟨Av, cv, rfl, hbs, hcv⟩ := own_bytes_cap ho
    exact ⟨Av, cv, rfl, hbs, hcv, hbl⟩)
  have bad (h : supCode l z = 140) : (.tuple #[(supOpen l z).val, .int .i64 (supCode l z)] : Value) = .tuple #[Sup.zero.val, .int .i64 140] := by
    have e2 : supOpen l z = .zero := by simp only [supOpen]; rw [h]; rfl
    rw [h, e2]
  by_cases hk : openKind l = 1
  rotate_left
  · rw [bad (by simp only [supCode]; rw [if_neg (not_not_intro hz), if_neg (not_not_intro h0), if_pos (fun h => hk h.1)])]
    exact rsopen_kind A n c (openLen l) z (ub (openKind l)) (openBody l) w hz (fun h => hk ((ub_one _).mp h)) CO
  have hk1 : ub (openKind l) = 1 := (ub_one _).mpr hk
  rw [hk1] at CO
  by_cases hl : openLen l = 36
  rotate_left
  · rw [bad (by simp only [supCode]; rw [if_neg (not_not_intro hz), if_neg (not_not_intro h0), if_pos (fun h => hl h.2.1)])]
    exact rsopen_long A n c (openLen l) z (openBody l) w hz hl CO
  by_cases hm : (openBody l).take 4 = [67, 70, 82, 84]
  rotate_left
  · rw [bad (by simp only [supCode]; rw [if_neg (not_not_intro hz), if_neg (not_not_intro h0), if_pos (fun h => hm h.2.2)])]
    exact rsopen_mark A n c (openLen l) z (openBody l) w hz hl hm CO
  have hcode : supCode l z = if supMay (supTells (openBody l)) = true ∧ (supTells (openBody l)).version % 2 = z then 0 else 140 := by
    simp only [supCode]; rw [if_neg (not_not_intro hz), if_neg (not_not_intro h0), if_neg (not_not_intro ⟨hk, hl, hm⟩)]
  by_cases hr : supReads (openBody l) = true
  rotate_left
  · have hmay : ¬ supMay (supTells (openBody l)) = true := fun h => hr (supMay_reads _ h)
    rw [bad (by rw [hcode, if_neg (fun h => hmay h.1)])]
    exact rsopen_unread A n c (openLen l) z _ _ _ _ (openBody l) w hz hl hm rfl rfl rfl rfl (by simpa using hr) CO
  have hr4 := of_decide_eq_true (show decide _ = true from hr)
  by_cases hmay : supMay (supTells (openBody l)) = true
  rotate_left
  · rw [bad (by rw [hcode, if_neg (fun h => hmay h.1)])]
    exact rsopen_maynot A n c (openLen l) z _ _ _ _ (openBody l) w hz hl hm rfl rfl rfl rfl (by omega) (by simpa [supTells] using hmay) CO
  by_cases hpl : (supTells (openBody l)).version % 2 = z
  rotate_left
  · rw [bad (by rw [hcode, if_neg (fun h => hpl h.2)])]
    exact rsopen_off A n c (openLen l) z _ _ _ _ (openBody l) w hz hl hm rfl rfl rfl rfl (by omega) (by simpa [supTells] using hmay) hpl CO
  have e0 : supCode l z = 0 := by rw [hcode, if_pos ⟨hmay, hpl⟩]
  have e2 : supOpen l z = supTells (openBody l) := by simp only [supOpen]; rw [if_pos e0]
  rw [e0, e2]
  exact rsopen_fine A n c (openLen l) z (supTells (openBody l)).version (supTells (openBody l)).root (supTells (openBody l)).epoch (supTells (openBody l)).pages (openBody l) w hz hl hm rfl rfl rfl rfl (by simp only [supTells]; omega) (by simpa [supTells] using hmay) hpl CO

end Go.Proofs.YteljopjaolegaaaDoor
