/-
  PLAIN: which frames are found, and which are not.
-/
import Derived.Test.YtaaimonnpmfnlaaDoorScan
namespace Go.Proofs.YtaaimonnpmfnlaaDoor
set_option maxRecDepth 100000
set_option linter.unusedVariables false

theorem unle_zeros (n : Nat) : unle (List.replicate n 0) = 0 := by
  induction n with
  | zero => rfl
  | succ n ih => rw [List.replicate_succ, unle, ih]; rfl

/-- A frame stands at the beginning of bytes. -/
theorem next_frame (e number : Nat) (b rest : List UInt8) (hn : number < 2147483648) (hb : b.length ≤ 268435456) : nextOf (frameOf e number b ++ rest) e number = 20 + b.length := by
  have hl := frameOf_length e number b
  have h4 : (frameOf e number b ++ rest).take 4 = le 4 b.length := by rw [List.take_append_of_le_length (by omega), frame_take4]
  have hu : unle ((frameOf e number b ++ rest).take 4) = b.length := by rw [h4, unle_le, Nat.mod_eq_of_lt (by omega)]
  have hd : (frameOf e number b ++ rest).drop 20 = b ++ rest := by rw [List.drop_append_of_le_length (by omega), frame_drop20]
  rw [nextOf, hu, if_pos]
  refine ⟨by rw [List.length_append]; omega, by rw [List.length_append]; omega, hb, hn, ?_⟩
  rw [hd, List.take_left' rfl, ← hl, List.take_left' rfl]

/-- Another epoch, another number, another sum: no frame is found. -/
theorem next_not (l : List UInt8) (e number u : Nat) (hu : unle (l.take 4) = u) (he : e < 18446744073709551616) (hn : number < 4294967296) (h : u + 20 ≤ l.length → ¬ headSays (l.take (20 + u)) e number) : nextOf l e number = 0 := by
  rw [nextOf, hu]
  refine if_neg (fun h2 => ?_)
  have h3 := (next_says l e number he hn h2.1 (by rw [hu]; exact h2.2.1)).1 (by rw [hu]; exact h2.2.2.2.2)
  rw [hu] at h3
  exact h h2.2.1 h3

theorem next_epoch (l : List UInt8) (e number : Nat) (he : e < 18446744073709551616) (hn : number < 4294967296) (h : ¬ unle ((l.drop 4).take 8) = e) : nextOf l e number = 0 := by
  refine next_not l e number _ rfl he hn (fun hl hs => h ?_)
  have h1 := hs.1
  rw [List.drop_take, List.take_take, Nat.min_eq_left (by omega)] at h1
  exact h1
theorem next_zeros (n e number : Nat) (he1 : 1 ≤ e) (he : e < 18446744073709551616) (hn : number < 4294967296) : nextOf (List.replicate n 0) e number = 0 := by
  refine next_epoch _ e number he hn (fun h => ?_)
  rw [List.drop_replicate, List.take_replicate, unle_zeros] at h
  omega
theorem next_number (l : List UInt8) (e number : Nat) (he : e < 18446744073709551616) (hn : number < 4294967296) (h : ¬ unle ((l.drop 12).take 4) = number) : nextOf l e number = 0 := by
  refine next_not l e number _ rfl he hn (fun hl hs => h ?_)
  have h1 := hs.2.1
  rw [List.drop_take, List.take_take, Nat.min_eq_left (by omega)] at h1
  exact h1

theorem frame_epoch (e number : Nat) (b rest : List UInt8) (he : e < 18446744073709551616) : unle (((frameOf e number b ++ rest).drop 4).take 8) = e := by
  have hl := frameOf_length e number b
  rw [List.drop_append_of_le_length (by omega), frame_drop4, List.append_assoc, List.take_left' (le_length 8 _), unle_le, Nat.mod_eq_of_lt (by omega)]
theorem frame_number (e number : Nat) (b rest : List UInt8) (hn : number < 4294967296) : unle (((frameOf e number b ++ rest).drop 12).take 4) = number := by
  have hl := frameOf_length e number b
  rw [List.drop_append_of_le_length (by omega), frame_drop12, List.append_assoc, List.take_left' (le_length 4 _), unle_le, Nat.mod_eq_of_lt (by omega)]

theorem next_nil (e number : Nat) : nextOf [] e number = 0 := by rw [nextOf, if_neg (by simp)]

/-- The scan of one frame, and nothing but zeros behind it. -/
theorem scan_one (e : Nat) (b : List UInt8) (k : Nat) (he1 : 1 ≤ e) (he : e ≤ 1099511627776) (hb : b.length ≤ 268435456) : scanFrom (frameOf e 0 b ++ List.replicate k 0) e 0 0 = ([b], 20 + b.length) := by
  have hl := frameOf_length e 0 b
  have h0 : beginsOf 0 = 0 := rfl
  have hn := next_frame e 0 b (List.replicate k 0) (by omega) hb
  have hz : nextOf ((frameOf e 0 b ++ List.replicate k 0).drop (beginsOf (20 + b.length))) e 1 = 0 := by
    have hge := beginsOf_ge (20 + b.length)
    rw [List.drop_append, List.drop_of_length_le (by omega), List.nil_append, List.drop_replicate]
    exact next_zeros _ e 1 he1 (by omega) (by omega)
  rw [scanFrom_yes (by rw [h0, List.drop_zero, hn]; omega), h0, List.drop_zero, hn, Nat.zero_add, Nat.zero_add, scanFrom_no hz]
  have hd : (frameOf e 0 b ++ List.replicate k 0).drop 20 = b ++ List.replicate k 0 := by rw [List.drop_append_of_le_length (by omega), frame_drop20]
  rw [hd, Nat.add_sub_cancel_left, List.take_left' rfl]
theorem scan_none (s : List UInt8) (e : Nat) (h : nextOf s e 0 = 0) : scanFrom s e 0 0 = ([], 0) := by
  have h0 : beginsOf 0 = 0 := rfl
  rw [scanFrom_no (by rw [h0, List.drop_zero]; exact h)]

/-! ### Bytes laid into stamped sectors -/
def sectorL (hd p : List UInt8) : List UInt8 := hd ++ p ++ List.replicate (512 - (hd.length + p.length)) 0
def stampedL (hd f : List UInt8) : List UInt8 :=
  if h : f = [] then [] else sectorL hd (f.take 504) ++ stampedL hd (f.drop 504)
termination_by f.length
decreasing_by
  have : f.length ≠ 0 := fun e => h (List.eq_nil_of_length_eq_zero e)
  rw [List.length_drop]; omega
theorem stampedL_nil (hd : List UInt8) : stampedL hd [] = [] := by rw [stampedL, dif_pos rfl]
theorem stampedL_yes {hd f : List UInt8} (h : ¬ f = []) : stampedL hd f = sectorL hd (f.take 504) ++ stampedL hd (f.drop 504) := by rw [stampedL, dif_neg h]

theorem sectorL_length (hd p : List UInt8) (h1 : hd.length ≤ 8) (h2 : p.length ≤ 504) : (sectorL hd p).length = 512 := by
  simp [sectorL]; omega
theorem stampedL_length (hd : List UInt8) (h1 : hd.length ≤ 8) (n : Nat) : ∀ f : List UInt8, f.length ≤ n → (stampedL hd f).length ≤ 2 * f.length + 512 ∧ (stampedL hd f).length * 504 ≤ (f.length + 503) * 512 := by
  induction n with
  | zero =>
    intro f h
    have : f = [] := List.eq_nil_of_length_eq_zero (by omega)
    rw [this, stampedL_nil]; simp
  | succ n ih =>
    intro f h
    by_cases hf : f = []
    · rw [hf, stampedL_nil]; simp
    · have hl : f.length ≠ 0 := fun e => hf (List.eq_nil_of_length_eq_zero e)
      have := ih (f.drop 504) (by rw [List.length_drop]; omega)
      rw [List.length_drop] at this
      rw [stampedL_yes hf, List.length_append, sectorL_length hd _ h1 (by rw [List.length_take]; omega)]
      by_cases h5 : 504 ≤ f.length
      · omega
      · have h6 : f.drop 504 = [] := List.drop_of_length_le (by omega)
        rw [h6, stampedL_nil]
        simp only [List.length_nil]
        omega

/-- The stream of such sectors is the bytes, and zeros. -/
theorem stream_stamped (e : Nat) (he : e ≤ 1099511627776) (n : Nat) : ∀ f : List UInt8, f.length ≤ n → ∃ k, streamOf (stampedL (le 8 e) f) e = f ++ List.replicate k 0 := by
  induction n with
  | zero =>
    intro f h
    have : f = [] := List.eq_nil_of_length_eq_zero (by omega)
    rw [this, stampedL_nil, streamOf_no (by simp)]
    exact ⟨0, rfl⟩
  | succ n ih =>
    intro f h
    by_cases hf : f = []
    · rw [hf, stampedL_nil, streamOf_no (by simp)]
      exact ⟨0, rfl⟩
    · have hl : f.length ≠ 0 := fun e => hf (List.eq_nil_of_length_eq_zero e)
      have hp : (f.take 504).length ≤ 504 := by rw [List.length_take]; omega
      have hs := sectorL_length (le 8 e) (f.take 504) (by rw [le_length]; omega) hp
      have hst : (stampedL (le 8 e) f).take 8 = le 8 e := by
        rw [stampedL_yes hf, sectorL]
        simp only [List.append_assoc]
        rw [List.take_left' (le_length 8 e)]
      have hcond : 512 ≤ (stampedL (le 8 e) f).length ∧ unle ((stampedL (le 8 e) f).take 8) = e := by
        refine ⟨by rw [stampedL_yes hf, List.length_append, hs]; omega, ?_⟩
        rw [hst, unle_le, Nat.mod_eq_of_lt (by omega)]
      have hd5 : (stampedL (le 8 e) f).drop 512 = stampedL (le 8 e) (f.drop 504) := by
        rw [stampedL_yes hf, List.drop_left' hs]
      have hd8 : ((stampedL (le 8 e) f).drop 8).take 504 = f.take 504 ++ List.replicate (504 - (f.take 504).length) 0 := by
        rw [stampedL_yes hf, sectorL]
        simp only [List.append_assoc]
        rw [List.drop_left' (le_length 8 e), ← List.append_assoc, le_length, show 512 - (8 + (f.take 504).length) = 504 - (f.take 504).length by omega]
        exact List.take_left' (by rw [List.length_append, List.length_replicate]; omega)
      obtain ⟨k, hk⟩ := ih (f.drop 504) (by rw [List.length_drop]; omega)
      rw [streamOf_yes hcond, hd8, hd5, hk]
      by_cases h5 : 504 ≤ f.length
      · rw [List.length_take, Nat.min_eq_left h5, Nat.sub_self, List.replicate_zero, List.append_nil, ← List.append_assoc, List.take_append_drop]
        exact ⟨k, rfl⟩
      · have h6 : f.drop 504 = [] := List.drop_of_length_le (by omega)
        rw [h6, List.nil_append, List.take_of_length_le (by omega), List.append_assoc, List.replicate_append_replicate]
        exact ⟨_, rfl⟩
theorem stamp_stamped (e e' : Nat) (f : List UInt8) (hne : ¬ e = e') (he : e ≤ 1099511627776) : streamOf (stampedL (le 8 e) f) e' = [] := by
  refine streamOf_no (fun h => ?_)
  by_cases hf : f = []
  · rw [hf, stampedL_nil] at h; simp at h
  · have h2 := h.2
    rw [stampedL_yes hf, sectorL] at h2
    simp only [List.append_assoc] at h2
    rw [List.take_left' (le_length 8 e), unle_le, Nat.mod_eq_of_lt (by omega)] at h2
    exact hne h2

end Go.Proofs.YtaaimonnpmfnlaaDoor
