/-
  PLAIN: what a page's bytes tell; a page of which some bytes are other ones.
-/
import Derived.Test.YteljopjaolegaaaDoorPageF
import Derived.Test.YteljopjaolegaaaDoorStep
namespace Go.Proofs.YteljopjaolegaaaDoor
set_option maxRecDepth 100000
set_option linter.unusedVariables false

theorem pageOf_take (number kind : Nat) (body : List UInt8) : (pageOf number kind body).take 4 = le 4 (pageSum number kind body) := by
  rw [pageOf, List.take_left' (le_length 4 _)]
theorem pageOf_drop (number kind : Nat) (body : List UInt8) : (pageOf number kind body).drop 4 = pageRest number kind body := by
  rw [pageOf, List.drop_left' (le_length 4 _)]
theorem pageRest_take (number kind : Nat) (body : List UInt8) : (pageRest number kind body).take 4 = le 4 number := by
  simp only [pageRest, List.append_assoc]
  rw [List.take_left' (le_length 4 _)]
theorem pageRest_drop (number kind : Nat) (body : List UInt8) : (pageRest number kind body).drop 4 = le 1 kind ++ (le 2 body.length ++ (body ++ List.replicate (4085 - body.length) 0)) := by
  simp only [pageRest, List.append_assoc]
  rw [List.drop_left' (le_length 4 _)]
theorem pageOf_kind (number kind : Nat) (body : List UInt8) : (pageOf number kind body).getD 8 0 = UInt8.ofNat (kind % 256) := by
  have e : (pageOf number kind body)[8]? = some (UInt8.ofNat (kind % 256)) := by
    have h1 := congrArg (List.drop 4) (pageOf_drop number kind body)
    rw [pageRest_drop] at h1
    rw [List.drop_drop] at h1
    have h2 : ((pageOf number kind body).drop (4 + 4))[0]? = (pageOf number kind body)[8]? := by rw [List.getElem?_drop]
    rw [← h2, h1]
    rfl
  simp [List.getD, e]
theorem pageOf_nine (number kind : Nat) (body : List UInt8) : (pageOf number kind body).drop 9 = le 2 body.length ++ (body ++ List.replicate (4085 - body.length) 0) := by
  have h1 := congrArg (fun l => (l.drop 4).drop 1) (pageOf_drop number kind body)
  simp only [pageRest_drop, List.drop_left' (le_length 1 kind)] at h1
  rw [List.drop_drop, List.drop_drop] at h1
  exact h1
theorem pageOf_eleven (number kind : Nat) (body : List UInt8) : (pageOf number kind body).drop 11 = body ++ List.replicate (4085 - body.length) 0 := by
  have h1 := congrArg (List.drop 2) (pageOf_nine number kind body)
  rw [List.drop_left' (le_length 2 _)] at h1
  rw [List.drop_drop] at h1
  exact h1
theorem pageOf_len (number kind : Nat) (body : List UInt8) (h : body.length ≤ 4085) : openLen (pageOf number kind body) = body.length := by
  rw [openLen, pageOf_nine, List.take_left' (le_length 2 _), unle_le, Nat.mod_eq_of_lt (by omega)]
theorem pageOf_body (number kind : Nat) (body : List UInt8) (h : body.length ≤ 4085) : openBody (pageOf number kind body) = body := by
  rw [openBody, pageOf_len _ _ _ h, pageOf_eleven, List.take_left' rfl]

/-- A page is opened as it was made, and under no other number. -/
theorem open_page (number kind : Nat) (body : List UInt8) (m : Int) (h1 : number < 65536) (h2 : 1 ≤ kind) (h3 : kind ≤ 255) (h4 : body.length ≤ 4085) :
    openCode (pageOf number kind body) m = if (number : Int) = m then 0 else 121 := by
  have hs := pageSum_lt number kind body
  have e1 : ¬ (pageOf number kind body).length ≠ 4096 := by rw [pageOf_length _ _ _ h4]; omega
  have e2 : ¬ unle ((pageOf number kind body).take 4) ≠ (Crc.sum ((pageOf number kind body).drop 4)).toNat := by
    rw [pageOf_take, pageOf_drop, unle_le, Nat.mod_eq_of_lt (by omega)]
    exact fun h => h rfl
  have e3 : unle (((pageOf number kind body).drop 4).take 4) = number := by
    rw [pageOf_drop, pageRest_take, unle_le, Nat.mod_eq_of_lt (by omega)]
  have e4 : ¬ ((pageOf number kind body).getD 8 0 = 0 ∨ 4085 < unle (((pageOf number kind body).drop 9).take 2)) := by
    have hl := pageOf_len number kind body h4
    rw [openLen] at hl
    rw [pageOf_kind, hl]
    intro h
    rcases h with h | h
    · have := congrArg UInt8.toNat h
      rw [UInt8.toNat_ofNat'] at this
      simp at this
      omega
    · omega
  have e5 : ((pageOf number kind body).drop (11 + unle (((pageOf number kind body).drop 9).take 2))).all (· == 0) = true := by
    have hl := pageOf_len number kind body h4
    rw [openLen] at hl
    rw [hl, ← List.drop_drop, pageOf_eleven, List.drop_left' rfl]
    simp
  rw [openCode, if_neg e1, if_neg e2, e3]
  by_cases hm : (number : Int) = m
  · rw [if_pos hm, if_neg (fun h => h hm), if_neg e4, if_pos e5]
  · rw [if_neg hm, if_pos hm]

theorem open_short (l : List UInt8) (m : Int) (h : ¬ l.length = 4096) : openCode l m = 122 := by rw [openCode, if_pos h]

/-- A page of which some neighbouring bytes, of its sum or of the rest, are other ones is refused. -/
theorem open_turned (number kind : Nat) (body : List UInt8) (k : Nat) (xs : List UInt8) (i : Nat) (h1 : number < 65536) (h2 : 1 ≤ kind) (h3 : kind ≤ 255) (h4 : body.length ≤ 4085)
    (hk : k + i ≤ 4096) (hi : i ≤ 4) (hx : xs.length = 4) (hs : k < 4 → k + i ≤ 4) :
    (openCode (tw (pageOf number kind body) k xs i) number == 0) = (xs.take i).all (· == 0) := by
  have hL := pageOf_length number kind body h4
  cases ha : (xs.take i).all (· == 0) with
  | true => rw [tw_all _ _ _ _ (by omega) (by omega) ha, open_page _ _ _ _ h1 h2 h3 h4, if_pos rfl]; rfl
  | false =>
    have htl : (tw (pageOf number kind body) k xs i).length = 4096 := by rw [tw_length _ _ _ _ (by omega) (by omega), hL]
    have hz := tw_zip (pageOf number kind body) k xs i (by omega) (by omega)
    have hne : unle ((tw (pageOf number kind body) k xs i).take 4) ≠ (Crc.sum ((tw (pageOf number kind body) k xs i).drop 4)).toNat := by
      by_cases hk4 : k < 4
      · have hki := hs hk4
        have hd : (tw (pageOf number kind body) k xs i).drop 4 = pageRest number kind body := by
          rw [← pageOf_drop]
          have e : (((pageOf number kind body).take k ++ List.zipWith (· ^^^ ·) (((pageOf number kind body).drop k).take i) (xs.take i))).length = k + i := by simp; omega
          rw [tw, List.drop_append, e, List.drop_of_length_le (by omega), List.nil_append, List.drop_drop]
          congr 1
          omega
        rw [hd]
        intro he
        have h5 : unle ((tw (pageOf number kind body) k xs i).take 4) = unle ((pageOf number kind body).take 4) := by
          rw [he, pageOf_take, unle_le]
          have := pageSum_lt number kind body
          rw [Nat.mod_eq_of_lt (by omega)]
          rfl
        have h6 : (tw (pageOf number kind body) k xs i).take 4 = (pageOf number kind body).take 4 := by
          have e1 := le_unle ((tw (pageOf number kind body) k xs i).take 4)
          have e2 := le_unle ((pageOf number kind body).take 4)
          rw [show ((tw (pageOf number kind body) k xs i).take 4).length = 4 by simp; omega] at e1
          rw [show ((pageOf number kind body).take 4).length = 4 by simp; omega] at e2
          rw [← e1, ← e2, h5]
        have h7 : tw (pageOf number kind body) k xs i = pageOf number kind body := by
          rw [← List.take_append_drop 4 (tw (pageOf number kind body) k xs i), h6, hd, ← pageOf_drop, List.take_append_drop]
        rw [h7, zipWith_self] at hz
        rw [List.all_eq_false] at ha
        obtain ⟨y, hy, hy0⟩ := ha
        have : y ∈ List.replicate (pageOf number kind body).length (0 : UInt8) := by rw [hz]; simp [hy]
        rw [List.mem_replicate] at this
        exact hy0 (by rw [this.2]; rfl)
      · have hd : (tw (pageOf number kind body) k xs i).drop 4 = tw (pageRest number kind body) (k - 4) xs i := by
          rw [tw, tw, ← pageOf_drop, List.append_assoc, List.drop_append, List.length_take, hL, Nat.min_eq_left (by omega), show 4 - k = 0 by omega, List.drop_zero, List.drop_drop, List.drop_drop, List.drop_take]
          rw [show 4 + (k - 4) = k by omega, show 4 + (k - 4 + i) = k + i by omega, List.append_assoc]
        have ht : (tw (pageOf number kind body) k xs i).take 4 = (pageOf number kind body).take 4 := by
          rw [tw, List.append_assoc, List.take_append_of_le_length (by simp; omega), List.take_take, Nat.min_eq_left (by omega)]
        have hrl := pageRest_length number kind body h4
        have hb := tw_tells (pageRest number kind body) (k - 4) xs i (by omega) (by omega) hi
        rw [ha, beq_eq_false_iff_ne] at hb
        rw [hd, ht, pageOf_take, unle_le, Nat.mod_eq_of_lt (by have := pageSum_lt number kind body; omega)]
        intro he
        apply hb
        unfold ui
        rw [← he]
        rfl
    rw [openCode, if_neg (fun h => h htl), if_pos hne]
    rfl

end Go.Proofs.YteljopjaolegaaaDoor
