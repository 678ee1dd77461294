/-
  THE RECORDS THAT STAND IN SECTORS, in plain Lean.
-/
import Derived.Test.YtaaimonnpmfnlaaDoorJour
namespace Go.Proofs.YtaaimonnpmfnlaaDoor
set_option maxRecDepth 100000
set_option linter.unusedVariables false

theorem frame_take4 (e number : Nat) (b : List UInt8) : (frameOf e number b).take 4 = le 4 b.length := by
  simp only [frameOf, jHead, List.append_assoc]; rw [List.take_left' (le_length 4 _)]
theorem frame_drop4 (e number : Nat) (b : List UInt8) : (frameOf e number b).drop 4 = le 8 e ++ (le 4 number ++ (le 4 (jSum e number b).toNat ++ b)) := by
  simp only [frameOf, jHead, List.append_assoc]; rw [List.drop_left' (le_length 4 _)]
theorem frame_drop12 (e number : Nat) (b : List UInt8) : (frameOf e number b).drop 12 = le 4 number ++ (le 4 (jSum e number b).toNat ++ b) := by
  have h := congrArg (List.drop 8) (frame_drop4 e number b)
  rw [List.drop_drop, List.drop_left' (le_length 8 _)] at h; exact h
theorem frame_drop16 (e number : Nat) (b : List UInt8) : (frameOf e number b).drop 16 = le 4 (jSum e number b).toNat ++ b := by
  have h := congrArg (List.drop 4) (frame_drop12 e number b)
  rw [List.drop_drop, List.drop_left' (le_length 4 _)] at h; exact h
theorem frame_drop20 (e number : Nat) (b : List UInt8) : (frameOf e number b).drop 20 = b := by
  have h := congrArg (List.drop 4) (frame_drop16 e number b)
  rw [List.drop_drop, List.drop_left' (le_length 4 _)] at h; exact h
theorem frame_take16 (e number : Nat) (b : List UInt8) : (frameOf e number b).take 16 = jHead e number b.length := by
  simp only [frameOf, List.append_assoc]; rw [List.take_left' (jHead_length _ _ _)]

/-- What a frame's head tells. -/
def headSays (l : List UInt8) (e number : Nat) : Prop :=
  unle ((l.drop 4).take 8) = e ∧ unle ((l.drop 12).take 4) = number ∧ unle ((l.drop 16).take 4) = (Crc.sum (l.take 16 ++ l.drop 20)).toNat

theorem frame_says (e number : Nat) (b : List UInt8) (he : e < 18446744073709551616) (hn : number < 4294967296) : headSays (frameOf e number b) e number := by
  refine ⟨?_, ?_, ?_⟩
  · rw [frame_drop4, List.take_left' (le_length 8 _), unle_le, Nat.mod_eq_of_lt (by omega)]
  · rw [frame_drop12, List.take_left' (le_length 4 _), unle_le, Nat.mod_eq_of_lt (by omega)]
  · rw [frame_drop16, List.take_left' (le_length 4 _), unle_le, frame_take16, frame_drop20, Nat.mod_eq_of_lt (by have := (jSum e number b).isLt; omega)]
    rfl

theorem take_le (l : List UInt8) (a k : Nat) (h : a + k ≤ l.length) : (l.drop a).take k = le k (unle ((l.drop a).take k)) := by
  have e := le_unle ((l.drop a).take k)
  rw [show ((l.drop a).take k).length = k by simp; omega] at e
  exact e.symm

theorem says_frame (l : List UInt8) (e number : Nat) (h20 : 20 ≤ l.length) (hl : unle (l.take 4) + 20 = l.length) (h : headSays l e number) : l = frameOf e number (l.drop 20) := by
  obtain ⟨h1, h2, h3⟩ := h
  have p0 := take_le l 0 4 (by omega)
  have p1 := take_le l 4 8 (by omega)
  have p2 := take_le l 12 4 (by omega)
  have p3 := take_le l 16 4 (by omega)
  rw [List.drop_zero] at p0
  rw [h1] at p1
  rw [h2] at p2
  rw [h3] at p3
  have hb : (l.drop 20).length = unle (l.take 4) := by rw [List.length_drop]; omega
  have hh : l.take 16 = jHead e number (l.drop 20).length := by
    rw [hb, jHead, ← p0, ← p1, ← p2]
    have a1 : l.take 16 = l.take 12 ++ (l.drop 12).take 4 := by rw [← List.take_add]
    have a2 : l.take 12 = l.take 4 ++ (l.drop 4).take 8 := by rw [← List.take_add]
    rw [a1, a2]
  have a3 : l = l.take 16 ++ (l.drop 16).take 4 ++ l.drop 20 := by
    have b1 : l.take 20 = l.take 16 ++ (l.drop 16).take 4 := by rw [← List.take_add]
    rw [← b1, List.take_append_drop]
  rw [frameOf, jSum, ← hh, ← p3]
  exact a3

/-- How long the frame is that stands at the beginning of bytes; 0: none does. -/
def nextOf (l : List UInt8) (e number : Nat) : Nat :=
  if 20 ≤ l.length ∧ unle (l.take 4) + 20 ≤ l.length ∧ unle (l.take 4) ≤ 268435456 ∧ number < 2147483648 ∧ l.take (20 + unle (l.take 4)) = frameOf e number ((l.drop 20).take (unle (l.take 4))) then 20 + unle (l.take 4) else 0
theorem nextOf_cases (l : List UInt8) (e number : Nat) : nextOf l e number = 0 ∨ (20 ≤ nextOf l e number ∧ nextOf l e number ≤ l.length ∧ nextOf l e number ≤ 268435476) := by
  rw [nextOf]
  split
  · rename_i h; right; omega
  · left; rfl

theorem next_says (l : List UInt8) (e number : Nat) (he : e < 18446744073709551616) (hn : number < 4294967296) (h1 : 20 ≤ l.length) (h2 : unle (l.take 4) + 20 ≤ l.length) :
    l.take (20 + unle (l.take 4)) = frameOf e number ((l.drop 20).take (unle (l.take 4))) ↔ headSays (l.take (20 + unle (l.take 4))) e number := by
  have hlen : (l.take (20 + unle (l.take 4))).length = 20 + unle (l.take 4) := by rw [List.length_take]; omega
  have h4 : (l.take (20 + unle (l.take 4))).take 4 = l.take 4 := by rw [List.take_take, Nat.min_eq_left (by omega)]
  have hd : (l.take (20 + unle (l.take 4))).drop 20 = (l.drop 20).take (unle (l.take 4)) := by rw [List.drop_take, Nat.add_sub_cancel_left]
  constructor
  · intro h
    rw [h]
    exact frame_says _ _ _ he hn
  · intro h
    have := says_frame _ e number (by omega) (by rw [h4, hlen]; omega) h
    rw [hd] at this
    exact this

/-- The place at which the next frame begins. -/
def beginsOf (at0 : Nat) : Nat := if 484 < at0 % 504 then (at0 / 504 + 1) * 504 else at0
theorem beginsOf_ge (at0 : Nat) : at0 ≤ beginsOf at0 := by rw [beginsOf]; split <;> omega
theorem beginsOf_le (at0 : Nat) : beginsOf at0 ≤ at0 + 19 := by rw [beginsOf]; split <;> omega

/-- The stream of the sectors at the beginning of bytes that have the epoch's stamp. -/
def streamOf (l : List UInt8) (e : Nat) : List UInt8 :=
  if h : 512 ≤ l.length ∧ unle (l.take 8) = e then (l.drop 8).take 504 ++ streamOf (l.drop 512) e else []
termination_by l.length
decreasing_by rw [List.length_drop]; omega
theorem streamOf_yes {l : List UInt8} {e : Nat} (h : 512 ≤ l.length ∧ unle (l.take 8) = e) : streamOf l e = (l.drop 8).take 504 ++ streamOf (l.drop 512) e := by
  rw [streamOf, dif_pos h]
theorem streamOf_no {l : List UInt8} {e : Nat} (h : ¬ (512 ≤ l.length ∧ unle (l.take 8) = e)) : streamOf l e = [] := by
  rw [streamOf, dif_neg h]
theorem streamOf_length (n : Nat) : ∀ (l : List UInt8) (e : Nat), l.length ≤ n → (streamOf l e).length ≤ l.length := by
  induction n with
  | zero => intro l e h; rw [streamOf_no (by omega)]; simp
  | succ n ih =>
    intro l e h
    by_cases hc : 512 ≤ l.length ∧ unle (l.take 8) = e
    · rw [streamOf_yes hc, List.length_append, List.length_take, List.length_drop]
      have := ih (l.drop 512) e (by rw [List.length_drop]; omega)
      rw [List.length_drop] at this
      omega
    · rw [streamOf_no hc]; simp

/-- The records from a place of the stream on, and where they end. -/
def scanFrom (s : List UInt8) (e : Nat) (E c : Nat) : List (List UInt8) × Nat :=
  if h : nextOf (s.drop (beginsOf E)) e c = 0 then ([], E)
  else ((s.drop (beginsOf E + 20)).take (nextOf (s.drop (beginsOf E)) e c - 20) :: (scanFrom s e (beginsOf E + nextOf (s.drop (beginsOf E)) e c) (c + 1)).1, (scanFrom s e (beginsOf E + nextOf (s.drop (beginsOf E)) e c) (c + 1)).2)
termination_by s.length - E
decreasing_by
  all_goals
    have h1 := nextOf_cases (s.drop (beginsOf E)) e c
    have h2 := beginsOf_ge E
    rw [List.length_drop] at h1
    omega
theorem scanFrom_no {s : List UInt8} {e E c : Nat} (h : nextOf (s.drop (beginsOf E)) e c = 0) : scanFrom s e E c = ([], E) := by rw [scanFrom, dif_pos h]
theorem scanFrom_yes {s : List UInt8} {e E c : Nat} (h : ¬ nextOf (s.drop (beginsOf E)) e c = 0) : scanFrom s e E c = ((s.drop (beginsOf E + 20)).take (nextOf (s.drop (beginsOf E)) e c - 20) :: (scanFrom s e (beginsOf E + nextOf (s.drop (beginsOf E)) e c) (c + 1)).1, (scanFrom s e (beginsOf E + nextOf (s.drop (beginsOf E)) e c) (c + 1)).2) := by
  rw [scanFrom, dif_neg h]
def scanOf (l : List UInt8) (e : Nat) : List (List UInt8) × Nat := scanFrom (streamOf l e) e 0 0

end Go.Proofs.YtaaimonnpmfnlaaDoor
