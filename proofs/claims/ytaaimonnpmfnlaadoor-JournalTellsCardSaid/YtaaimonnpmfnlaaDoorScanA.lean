/-
  CONTRACTS: package journal: the stream of stamped sectors; the place at which the next frame begins.
-/
import Derived.Test.YtaaimonnpmfnlaaDoorScan
import Derived.Test.YtaaimonnpmfnlaaDoorJourC
namespace Go.Proofs.YtaaimonnpmfnlaaDoor
open Go.RowKit
set_option maxRecDepth 100000
set_option linter.unusedVariables false

theorem begins_any (n : Nat) (w : World) (hn : n ≤ 1152921504606846976) : Calls Tryd.prog 41 #[.int .i64 n] w fun r w' => r = .returned (.int .i64 (beginsOf n : Nat)) ∧ w = w' := by
  have h0 : (0 : Int) ≤ (n : Int) := by omega
  have h1 : (n : Int) ≤ 1152921504606846976 := by omega
  have hm : (n : Int) % 504 ≤ 503 := by omega
  have hm0 : (0 : Int) ≤ (n : Int) % 504 := by omega
  have hb : (beginsOf n : Int) = if 504 - (n : Int) % 504 < 20 then (n : Int) + (504 - (n : Int) % 504) else n := by
    rw [beginsOf]
    split <;> split <;> omega
  by_cases h : 504 - (n : Int) % 504 < 20
  · rw [hb, if_pos h]
    clear hb hn
    go_enter Tryd.func41, Tryd.ntmps41
    go_wp2
    go_ret
    exact ⟨rfl, rfl⟩
  · rw [hb, if_neg h]
    clear hb hn
    go_enter Tryd.func41, Tryd.ntmps41
    go_wp2
    go_ret
    exact ⟨rfl, rfl⟩

theorem rbegins_any (n : Nat) (w : World) (hn : n ≤ 1152921504606846976) : Calls Tryd.prog 44 #[.int .i64 n] w fun r w' => r = .returned (.int .i64 (beginsOf n : Nat)) ∧ w = w' := by
  have h0 : (0 : Int) ≤ (n : Int) := by omega
  have h1 : (n : Int) ≤ 1152921504606846976 := by omega
  have hm : (n : Int) % 504 ≤ 503 := by omega
  have hm0 : (0 : Int) ≤ (n : Int) % 504 := by omega
  have hb : (beginsOf n : Int) = if 484 < (n : Int) % 504 then ((n : Int) / 504 + 1) * 504 else n := by
    rw [beginsOf]
    split <;> split <;> omega
  have hd0 : (0 : Int) ≤ (n : Int) / 504 := by omega
  have hd1 : (n : Int) / 504 ≤ 1152921504606846976 := by omega
  have hd2 : ((n : Int) / 504 + 1) * 504 ≤ 1152921504606847976 := by omega
  by_cases h : 484 < (n : Int) % 504
  · rw [hb, if_pos h]
    clear hb hn
    go_enter Tryd.func44, Tryd.ntmps44
    go_wp2
    go_ret
    exact ⟨rfl, rfl⟩
  · rw [hb, if_neg h]
    clear hb hn
    go_enter Tryd.func44, Tryd.ntmps44
    go_wp2
    go_ret
    exact ⟨rfl, rfl⟩

/-- A stamp, as it is read. -/
theorem stamp_cases (u e : Nat) (he : e ≤ 1099511627776) : (u = e ∧ readRes u = ((e : Int), 0)) ∨ (¬ u = e ∧ ∃ z, readRes u = (z, 0) ∧ ¬ z = (e : Int)) ∨ (¬ u = e ∧ readRes u = (0, 111)) := by
  by_cases h : u ≤ 9223372036854775807
  · by_cases hu : u = e
    · exact .inl ⟨hu, by rw [readRes_ok h, hu]⟩
    · exact .inr (.inl ⟨hu, (u : Int), readRes_ok h, by omega⟩)
  · exact .inr (.inr ⟨by omega, readRes_big h⟩)

theorem app_drop (l : List UInt8) : l.drop 8 = (l.drop 8).take 504 ++ l.drop 512 := by
  rw [show 512 = 8 + 504 from rfl, ← List.drop_drop, List.take_append_drop]

def sliceLen2 : Value → Nat
  | .slice _ k _ => k
  | _ => 0

set_option maxHeartbeats 2000000 in
theorem stream_any (A : Option Addr) (n c e : Nat) (l : List UInt8) (w : World) (hb : Bs w A n l) (hc : n ≤ c) (he : e ≤ 1099511627776) (hn : n ≤ 140737488355328) :
    Calls Tryd.prog 40 #[.slice A n c, .int .i64 e] w fun r w' => ∃ v, r = .returned v ∧ w'.ownsRow w.heap.size 5 1 v (streamOf l e).length (bs (streamOf l e)) ∧ Below w.heap.size w w' := by
  have Hinfo := Lib.hid info_u8
  obtain ⟨B, hB⟩ : ∃ B, B = w.heap.size := ⟨_, rfl⟩
  have HBl : Hid (∀ wx, Below B w wx → B ≤ wx.heap.size) := Lib.hid (fun wx h => by rw [hB]; exact h.size)
  have Hlow : Hid (∀ wx, Below B w wx → Below w.heap.size w wx) := Lib.hid (fun wx h => by rw [← hB]; exact h)
  obtain ⟨S, hS⟩ : ∃ S, S = streamOf l e := ⟨_, rfl⟩
  have HS := Lib.hid hS
  have HSl : Hid (S.length ≤ 140737488355328) := Lib.hid (by
    have := streamOf_length l.length l e (Nat.le_refl _)
    rw [← hS, hb.len] at this; omega)
  obtain ⟨ei, hei⟩ : ∃ z : Int, z = (e : Int) := ⟨_, rfl⟩
  have Hei := Lib.hid hei
  have He := Lib.hid he
  have C : Hid (∀ wx A' n' c' l', Below B w wx → Bs w A' n' l' → 512 ≤ n' → n' ≤ c' → Calls Tryd.prog 60 #[.slice A' n' c', .int .i64 0, .int .i64 8] wx fun r w' => r = .returned (.tuple #[.int .i64 (readRes (unle (l'.take 8))).1, .int .i64 (readRes (unle (l'.take 8))).2]) ∧ wx = w') := Lib.hid (fun wx A' n' c' l' hw hb' h5 hc' => by
    have := read_ok A' n' c' 0 8 l' wx (hb'.below (Hlow.out _ hw)) hc' (by omega) (by omega) (by omega)
    rw [List.drop_zero] at this; exact this)
  have Hb := Lib.hid hb
  have Hc := Lib.hid hc
  have HBw := Lib.hid hB
  rw [← hS, ← hei]
  clear hS hb hc hei he hn hB
  go_enter Tryd.func40, Tryd.ntmps40
  go_wp2_with fail
  go_loopw [0, 5] (fun b o wr => ∃ (A' : Option Addr) (n' c' m : Nat) (l' O : List UInt8), b = .slice A' n' c' ∧ n' ≤ c' ∧ Bs w A' n' l' ∧ wr.ownsRow B 5 1 o m (bs O) ∧ O ++ streamOf l' e = S ∧ Below B w wr) (fun b _ _ => sliceLen2 b)
  case atStart => exact ⟨A, n, c, 0, l, [], rfl, Hc.out, Hb.out, World.ownsRow_nil _ _ _ _, HS.out.symm, Below.refl _ _⟩
  case round =>
    obtain ⟨A', n', c', m, l', O, rfl, hc', hb', ho, hs, hw⟩ := hrel
    have Hc' := Lib.hid hc'
    have Hb' := Lib.hid hb'
    have Ho := Lib.hid ho
    have Hs := Lib.hid hs
    have Hw := Lib.hid hw
    clear ho hs hw
    have hfin : Hid (¬ (512 ≤ l'.length ∧ unle (l'.take 8) = e) → wr.ownsRow B 5 1 u5 S.length (bs S)) := Lib.hid (fun h => by
      have h1 := Hs.out
      rw [streamOf_no h, List.append_nil] at h1
      have h2 := Ho.out
      have h3 := h2.1
      rw [bs_length, Nat.mul_one] at h3
      rw [h1] at h2 h3
      rw [h3]
      exact h2)
    have hl' := hb'.len
    by_cases h5 : 512 ≤ n'
    · obtain ⟨ad, _, rfl, -, -⟩ := hb'.get (k := 0) (by omega)
      have C9 := Lib.hid (C.out wr _ _ _ _ Hw.out hb' h5 hc')
      have h5i : (512 : Int) ≤ (n' : Int) := by omega
      have hci : (n' : Int) ≤ (c' : Int) := by omega
      have H5 := Lib.hid h5
      rcases stamp_cases (unle (l'.take 8)) e He.out with ⟨hu, hr⟩ | ⟨hu, z, hr, hz⟩ | ⟨hu, hr⟩
      · rw [hr] at C9
        have hcc : (512 : Int) ≤ (c' : Int) := by omega
        have Hst : Hid (streamOf l' e = (l'.drop 8).take 504 ++ streamOf (l'.drop 512) e) := Lib.hid (streamOf_yes ⟨by rw [hl']; exact h5, hu⟩)
        have Hsub : Hid (Bs w (some ⟨ad.block, ad.off + 8, none⟩) 504 ((l'.drop 8).take 504)) := Lib.hid (hb'.sub 8 504 (by omega))
        have Hrest : Hid (Bs w (if c' = 512 then some ad else some ⟨ad.block, ad.off + 512, none⟩) (n' - 512) (l'.drop 512)) := Lib.hid (by
          by_cases hcc : c' = 512
          · rw [if_pos hcc]
            have : l'.drop 512 = [] := List.drop_of_length_le (by omega)
            rw [this, show n' - 512 = 0 by omega]
            exact Bs.nil _ _
          · rw [if_neg hcc]
            have := hb'.sub 512 (n' - 512) (by omega)
            rw [List.take_of_length_le (by rw [List.length_drop]; omega)] at this
            exact this)
        have Hm : Hid (m + 504 ≤ 140737488355328) := Lib.hid (by
          have h1 := congrArg List.length Hs.out
          have h2 := Ho.out.1
          rw [bs_length] at h2
          rw [Hst.out, List.length_append, List.length_append, List.length_take, List.length_drop] at h1
          have := HSl.out
          omega)
        rw [← Hei.out] at C9
        clear hfin hb' hu hr hl' h5 hc'
        go_wp2_with (first
          | (go_at_call 60; (with_reducible refine C9.out.mono ?_); rintro r w' ⟨rfl, rfl⟩)
          | (at_builtin; refine wpList_append_bytes rfl _ _ 22 rfl B 5 (.int .u8 0) Tryd.underlying22 Hinfo.out rfl u5 m (bs O) rfl Ho.out (some ⟨ad.block, ad.off + 8, none⟩) 504 _ ((l'.drop 8).take 504) rfl (Hsub.out.below (Hlow.out _ Hw.out)) Hm.out (HBl.out _ Hw.out) ?_; intro va w4 ho hg hla; rw [← bs_append] at ho; have O4 := Lib.hid ho; have B4 : Hid (Below B w w4) := Lib.hid (Hw.out.grown hg (HBl.out _ Hw.out) (fun i hi => (Ho.out.lt i hi).1)); clear ho hg hla))
        go_roundw
        case rel => exact ⟨_, n' - 512, c' - 512, m + 504, l'.drop 512, O ++ (l'.drop 8).take 504, rfl, by have := Hc'.out; omega, Hrest.out, O4.out, by rw [List.append_assoc, ← Hst.out]; exact Hs.out, B4.out⟩
        case measure => have := H5.out; simp only [sliceLen2]; omega
      · rw [hr] at C9
        have Hfin := Lib.hid (hfin.out (fun h => hu h.2))
        rw [← Hei.out] at hz
        have hzb : (z == ei) = false := by simp; exact hz
        have hzb : (z != ei) = true := by simp; exact hz
        clear hfin hb' hu hr hl' h5 hc'
        go_wp2_with (go_at_call 60; (with_reducible refine C9.out.mono ?_); rintro r w' ⟨rfl, rfl⟩)
        go_ret
        have hB := HBw.out
        subst hB
        exact ⟨u5, rfl, Hfin.out, Hw.out⟩
      · rw [hr] at C9
        have Hfin := Lib.hid (hfin.out (fun h => hu h.2))
        clear hfin hb' hu hr hl' h5 hc'
        go_wp2_with (go_at_call 60; (with_reducible refine C9.out.mono ?_); rintro r w' ⟨rfl, rfl⟩)
        go_ret
        have hB := HBw.out
        subst hB
        exact ⟨u5, rfl, Hfin.out, Hw.out⟩
    · have h5i : ¬ (512 : Int) ≤ (n' : Int) := by omega
      have Hfin := Lib.hid (hfin.out (fun h => h5 (by rw [← hl']; exact h.1)))
      clear hfin hb' hl' h5 hc'
      go_wp2_with fail
      go_ret
      have hB := HBw.out
      subst hB
      exact ⟨u5, rfl, Hfin.out, Hw.out⟩

end Go.Proofs.YtaaimonnpmfnlaaDoor
