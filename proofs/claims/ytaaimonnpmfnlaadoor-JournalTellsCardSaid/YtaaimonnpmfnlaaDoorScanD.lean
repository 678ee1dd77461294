/-
  CONTRACTS: the reference's Stream and stands (layer 15).
-/
import Derived.Test.YtaaimonnpmfnlaaDoorScanC
import Derived.Laws.Strings
namespace Go.Proofs.YtaaimonnpmfnlaaDoor
open Go.RowKit
set_option maxRecDepth 100000
set_option linter.unusedVariables false

theorem streamOf_drop {l : List UInt8} {e q : Nat} (h : q + 512 ≤ l.length) (hu : unle ((l.drop q).take 8) = e) : streamOf (l.drop q) e = (l.drop (q + 8)).take 504 ++ streamOf (l.drop (q + 512)) e := by
  rw [streamOf_yes ⟨by rw [List.length_drop]; omega, hu⟩, List.drop_drop, List.drop_drop]

set_option maxHeartbeats 2000000 in
theorem rstream_any (A : Option Addr) (n c e : Nat) (l : List UInt8) (w : World) (hb : Bs w A n l) (hc : n ≤ c) (he : e ≤ 1099511627776) (hn : n ≤ 140737488355328) :
    Calls Tryd.prog 43 #[.slice A n c, .int .i64 e] w fun r w' => ∃ v, r = .returned v ∧ w'.ownsRow w.heap.size 5 1 v (streamOf l e).length (bs (streamOf l e)) ∧ Below w.heap.size w w' := by
  have Hinfo := Lib.hid info_u8
  obtain ⟨B, hB⟩ : ∃ B, B = w.heap.size := ⟨_, rfl⟩
  have HBl : Hid (∀ wx, Below B w wx → B ≤ wx.heap.size) := Lib.hid (fun wx h => by rw [hB]; exact h.size)
  have Hlow : Hid (∀ wx, Below B w wx → Below w.heap.size w wx) := Lib.hid (fun wx h => by rw [← hB]; exact h)
  obtain ⟨S, hS⟩ : ∃ S, S = streamOf l e := ⟨_, rfl⟩
  have HS := Lib.hid hS
  have HSl : Hid (S.length ≤ 140737488355328) := Lib.hid (by
    have := streamOf_length l.length l e (Nat.le_refl _)
    rw [← hS, hb.len] at this; omega)
  obtain ⟨ei, hei⟩ : ∃ z : Int, z = (e : Int) := ⟨_, rfl⟩
  have Hei := Lib.hid hei
  have He := Lib.hid he
  have C : Hid (∀ wx q, Below B w wx → q + 512 ≤ n → Calls Tryd.prog 61 #[.slice A n c, .int .i64 q, .int .i64 8] wx fun r w' => r = .returned (.tuple #[.int .i64 (readRes (unle ((l.drop q).take 8))).1, .int .i64 (readRes (unle ((l.drop q).take 8))).2]) ∧ wx = w') := Lib.hid (fun wx q hw h5 =>
    rread_ok A n c q 8 l wx (hb.below (Hlow.out _ hw)) (by omega) (by omega) (by omega))
  have Hb := Lib.hid hb
  have Hc := Lib.hid hc
  have Hl := Lib.hid hb.len
  have HBw := Lib.hid hB
  have hni : (n : Int) ≤ 140737488355328 := by omega
  rw [← hS, ← hei]
  clear hS hb hc hei he hn hB
  go_enter Tryd.func43, Tryd.ntmps43
  go_wp2_with fail
  go_loopw [5, 6] (fun o a wr => ∃ (q m : Nat) (O : List UInt8), a = .int .i64 q ∧ q ≤ n ∧ wr.ownsRow B 5 1 o m (bs O) ∧ O ++ streamOf (l.drop q) e = S ∧ Below B w wr) (fun _ a _ => n - (intOf a).toNat)
  case atStart => exact ⟨0, 0, [], rfl, by omega, World.ownsRow_nil _ _ _ _, by rw [HS.out]; rfl, Below.refl _ _⟩
  case round =>
    obtain ⟨q, m, O, rfl, hq, ho, hs, hw⟩ := hrel
    have Ho := Lib.hid ho
    have Hs := Lib.hid hs
    have Hw := Lib.hid hw
    clear ho hs hw
    have hfin : Hid (¬ (q + 512 ≤ n ∧ unle ((l.drop q).take 8) = e) → wr.ownsRow B 5 1 u5 S.length (bs S)) := Lib.hid (fun h => by
      have h1 := Hs.out
      rw [streamOf_no (by rw [List.length_drop, Hl.out]; omega), List.append_nil] at h1
      have h2 := Ho.out
      have h3 := h2.1
      rw [bs_length, Nat.mul_one] at h3
      rw [h1] at h2 h3
      rw [h3]
      exact h2)
    have hq0 : (0 : Int) ≤ (q : Int) := by omega
    have hqi : (q : Int) ≤ (n : Int) := by omega
    by_cases h5 : q + 512 ≤ n
    · have hA : ∃ ad, A = some ad := by obtain ⟨ad, _, e, _⟩ := Hb.out.get (k := 0) (by omega); exact ⟨ad, e⟩
      obtain ⟨ad, hA⟩ := hA
      have C9 := Lib.hid (C.out wr q Hw.out h5)
      have h5i : (q : Int) + 512 ≤ (n : Int) := by omega
      have hci : (n : Int) ≤ (c : Int) := by have := Hc.out; omega
      have H5 := Lib.hid h5
      rcases stamp_cases (unle ((l.drop q).take 8)) e He.out with ⟨hu, hr⟩ | ⟨hu, z, hr, hz⟩ | ⟨hu, hr⟩
      · rw [hr] at C9
        have Hst : Hid (streamOf (l.drop q) e = (l.drop (q + 8)).take 504 ++ streamOf (l.drop (q + 512)) e) := Lib.hid (streamOf_drop (by rw [Hl.out]; exact h5) hu)
        obtain ⟨lo, hlo⟩ : ∃ lo, lo = q + 8 := ⟨_, rfl⟩
        obtain ⟨hi, hhi⟩ : ∃ hi, hi = q + 512 := ⟨_, rfl⟩
        have Hsub : Hid (∀ wx, Below B w wx → Bs wx (some (ad.add lo)) 504 ((l.drop (q + 8)).take 504)) := Lib.hid (fun wx hw => by
          have := ((Hb.out.below (Hlow.out _ hw))).sub (q + 8) 504 (by omega)
          rw [hA] at Hb
          rw [hlo]
          have h2 := (Hb.out.below (Hlow.out _ hw)).sub (q + 8) 504 (by omega)
          exact h2)
        have h01 : (q : Int) + 8 = (lo : Int) := by omega
        have h02 : (q : Int) + 512 = (hi : Int) := by omega
        have h03 : (lo : Int) ≤ (hi : Int) := by omega
        have h04 : (hi : Int) ≤ (c : Int) := by omega
        have h05 : ¬ c = lo := by omega
        have h06 : hi - lo = 504 := by omega
        have Hhi : Hid (hi ≤ n ∧ hi = q + 512) := Lib.hid (by omega)
        have Hm : Hid (m + 504 ≤ 140737488355328) := Lib.hid (by
          have h1 := congrArg List.length Hs.out
          have h2 := Ho.out.1
          rw [bs_length] at h2
          have h3 := Hl.out
          rw [Hst.out, List.length_append, List.length_append, List.length_take, List.length_drop] at h1
          have := HSl.out
          omega)
        rw [← Hei.out] at C9
        subst hA
        clear hfin hu hr h5 hlo hhi hq
        go_wp2_with (first
          | (go_at_call 61; (with_reducible refine C9.out.mono ?_); rintro r w' ⟨rfl, rfl⟩)
          | (at_builtin; refine wpList_append_bytes rfl _ _ 22 rfl B 5 (.int .u8 0) Tryd.underlying22 Hinfo.out rfl u5 m (bs O) rfl Ho.out _ 504 _ ((l.drop (q + 8)).take 504) rfl (Hsub.out _ Hw.out) Hm.out (HBl.out _ Hw.out) ?_; intro va w4 ho hg hla; rw [← bs_append] at ho; have O4 := Lib.hid ho; have B4 : Hid (Below B w w4) := Lib.hid (Hw.out.grown hg (HBl.out _ Hw.out) (fun i hi => (Ho.out.lt i hi).1)); clear ho hg hla))
        go_roundw
        case rel => exact ⟨hi, m + 504, O ++ (l.drop (q + 8)).take 504, by go_num, Hhi.out.1, O4.out, by rw [List.append_assoc, Hhi.out.2, ← Hst.out]; exact Hs.out, B4.out⟩
        case measure => have := H5.out; have := Hhi.out; simp [intOf]; omega
      · rw [hr] at C9
        have Hfin := Lib.hid (hfin.out (fun h => hu h.2))
        rw [← Hei.out] at hz
        have hzb : (z == ei) = false := by simp; exact hz
        have hzb : (z != ei) = true := by simp; exact hz
        subst hA
        clear hfin hu hr h5 hq
        go_wp2_with (go_at_call 61; (with_reducible refine C9.out.mono ?_); rintro r w' ⟨rfl, rfl⟩)
        go_ret
        have hB := HBw.out
        subst hB
        exact ⟨u5, rfl, Hfin.out, Hw.out⟩
      · rw [hr] at C9
        have Hfin := Lib.hid (hfin.out (fun h => hu h.2))
        subst hA
        clear hfin hu hr h5 hq
        go_wp2_with (go_at_call 61; (with_reducible refine C9.out.mono ?_); rintro r w' ⟨rfl, rfl⟩)
        go_ret
        have hB := HBw.out
        subst hB
        exact ⟨u5, rfl, Hfin.out, Hw.out⟩
    · have h5i : ¬ (q : Int) + 512 ≤ (n : Int) := by omega
      have Hfin := Lib.hid (hfin.out (fun h => h5 h.1))
      clear hfin h5 hq
      go_wp2_with fail
      go_ret
      have hB := HBw.out
      subst hB
      exact ⟨u5, rfl, Hfin.out, Hw.out⟩

theorem strB_list (a : List UInt8) : (strB a).toList = a := ByteArray.toList_mk a
theorem strB_ne {a b : List UInt8} (h : ¬ a = b) : ((strB a).toList == (strB b).toList) = false := by
  rw [strB_list, strB_list, beq_eq_false_iff_ne]; exact h
theorem strB_eq (a : List UInt8) : ((strB a).toList == (strB a).toList) = true := by simp

theorem rread_four (A : Option Addr) (n c a : Nat) (l : List UInt8) (w : World) (hb : Bs w A n l) (hk : a + 4 ≤ n) :
    Calls Tryd.prog 61 #[.slice A n c, .int .i64 a, .int .i64 4] w fun e w' => e = .returned (.tuple #[.int .i64 (unle ((l.drop a).take 4)), .int .i64 0]) ∧ w = w' := by
  have hs : unle ((l.drop a).take 4) ≤ 9223372036854775807 := by
    have h1 := unle_lt ((l.drop a).take 4)
    have h2 : ((l.drop a).take 4).length ≤ 4 := by simp; omega
    have h3 : 256 ^ ((l.drop a).take 4).length ≤ 256 ^ 4 := Nat.pow_le_pow_right (by omega) h2
    have : (256 : Nat) ^ 4 = 4294967296 := by decide
    omega
  have := rread_ok A n c a 4 l w hb (by omega) (by omega) hk
  rw [readRes_ok hs] at this
  exact this

theorem stands_short (A : Option Addr) (n c : Nat) (e number : Int) (w : World) (h : n < 20) :
    Calls Tryd.prog 45 #[.slice A n c, .int .i64 e, .int .i64 number] w fun r w' => r = .returned (.int .i64 0) ∧ w = w' := by
  have hi : (n : Int) < 20 := by omega
  clear h
  go_enter Tryd.func45, Tryd.ntmps45
  go_wp2
  go_ret
  exact ⟨rfl, rfl⟩

theorem stands_long (ad : Addr) (n c u : Nat) (e number : Int) (w : World) (hmx : (n : Int) ≤ 9223372036854775807) (h : 20 ≤ n) (hu : (n : Int) - 20 < (u : Int) ∨ (268435456 : Int) < (u : Int))
    (C0 : Hid (Calls Tryd.prog 61 #[.slice (some ad) n c, .int .i64 0, .int .i64 4] w fun e w' => e = .returned (.tuple #[.int .i64 u, .int .i64 0]) ∧ w = w')) :
    Calls Tryd.prog 45 #[.slice (some ad) n c, .int .i64 e, .int .i64 number] w fun r w' => r = .returned (.int .i64 0) ∧ w = w' := by
  have hi : (20 : Int) ≤ (n : Int) := by omega
  clear h
  by_cases h1 : (n : Int) - 20 < (u : Int)
  · clear hu
    go_enter Tryd.func45, Tryd.ntmps45
    go_wp2_with (go_at_call 61; (with_reducible refine C0.out.mono ?_); rintro r w' ⟨rfl, rfl⟩)
    go_ret
    exact ⟨rfl, rfl⟩
  · have h2 : (268435456 : Int) < (u : Int) := by omega
    clear hu
    go_enter Tryd.func45, Tryd.ntmps45
    go_wp2_with (go_at_call 61; (with_reducible refine C0.out.mono ?_); rintro r w' ⟨rfl, rfl⟩)
    go_ret
    exact ⟨rfl, rfl⟩

set_option maxHeartbeats 2000000 in
theorem stands_body (ad : Addr) (n c u : Nat) (e number z : Int) (l F : List UInt8) (w : World) (hb : Bs w (some ad) n l) (hc : n ≤ c) (h : 20 ≤ n) (hu : u + 20 ≤ n) (hl : u ≤ 268435456)
    (C0 : Hid (Calls Tryd.prog 61 #[.slice (some ad) n c, .int .i64 0, .int .i64 4] w fun e w' => e = .returned (.tuple #[.int .i64 u, .int .i64 0]) ∧ w = w'))
    (CG : Hid (∀ A' c', Bs w A' u ((l.drop 20).take u) → Calls Tryd.prog 13 #[.int .i64 e, .int .i64 number, .slice A' u c'] w fun r w' => ∃ Av nv cv, r = .returned (.tuple #[.slice Av nv cv, .int .i64 z]) ∧ Bs w' Av nv F ∧ Below w.heap.size w w')) :
    Calls Tryd.prog 45 #[.slice (some ad) n c, .int .i64 e, .int .i64 number] w fun r w' => r = .returned (.int .i64 (if F = l.take (20 + u) then ((20 + u : Nat) : Int) else 0)) ∧ Below w.heap.size w w' := by
  have hmx := hb.max
  have hi : (20 : Int) ≤ (n : Int) := by omega
  have hui : ¬ (n : Int) - 20 < (u : Int) := by omega
  have hli : (u : Int) ≤ 268435456 := by omega
  obtain ⟨hi2, hhi⟩ : ∃ h, h = 20 + u := ⟨_, rfl⟩
  have h02 : (20 : Int) + (u : Int) = (hi2 : Int) := by omega
  have h02w : IntKind.i64.wrap (20 + (u : Int)) = (hi2 : Int) := by rw [wrapi_i64 _ (by omega) (by omega)]; omega
  have h03 : (20 : Int) ≤ (hi2 : Int) := by omega
  have h04 : (hi2 : Int) ≤ (c : Int) := by omega
  have h06 : hi2 - 20 = u := by omega
  obtain ⟨R, hR⟩ : ∃ R, R = (l.drop 20).take u := ⟨_, rfl⟩
  rw [← hR] at CG
  have Hs1 : Hid (¬ c = 20 → Bs w (some ⟨ad.block, ad.off + 20, none⟩) u R) := Lib.hid (fun _ => by rw [hR]; exact hb.sub 20 u (by omega))
  have Hs2 : Hid (c = 20 → Bs w (some ad) u R) := Lib.hid (fun h => by
    have hu0 : u = 0 := by omega
    have hR0 : R = [] := by rw [hR, hu0, List.take_zero]
    rw [hu0, hR0]; exact Bs.nil _ _)
  obtain ⟨t, ht⟩ : ∃ t, t = l.take (20 + u) := ⟨_, rfl⟩
  have Hcv : Hid (∀ wx, Below w.heap.size w wx → ∀ cx, (convert 22 9 (.slice (some ad) hi2 cx)).run Tryd.prog wx = .ok (.string (strB t)) wx) := Lib.hid (fun wx hx cx => by
    rw [hhi, ht]; exact run_convert_bs ((hb.head (20 + u) (by omega)).below hx) cx)
  rw [← ht, ← hhi]
  clear hb hc h hu hl hhi hR ht
  have go (Ax : Option Addr) (cx : Nat) (hx : Bs w Ax u R) : Hid (Calls Tryd.prog 13 #[.int .i64 e, .int .i64 number, .slice Ax u cx] w fun r w' => ∃ Av nv cv, r = .returned (.tuple #[.slice Av nv cv, .int .i64 z]) ∧ Bs w' Av nv F ∧ Below w.heap.size w w') := Lib.hid (CG.out Ax cx hx)
  have hcase : ¬ c = 20 ∨ c = 20 := by omega
  by_cases hF : F = t
  · subst hF
    rw [if_pos rfl]
    have hne := strB_eq F
    rcases hcase with hc | hc
    · have C9 := go _ (c - 20) (Hs1.out hc)
      clear Hs1 Hs2 go CG
      go_enter Tryd.func45, Tryd.ntmps45
      go_wp2_with (first
        | (go_at_call 61; (with_reducible refine C0.out.mono ?_); rintro r w' ⟨rfl, rfl⟩)
        | (go_at_call 13; (with_reducible refine C9.out.mono ?_); rintro r w9 ⟨Av, nv, cv, rfl, hbv, hb⟩; have G9 := Lib.hid hb; have hc1 := fun (m : Nat) => run_convert_bs (hbv.drewN m) cv; have hc2 := fun (m : Nat) => Hcv.out (w9.drewN m) (below_drewN hb m); clear hb hbv))
      go_quiet (fail)
      go_wp2
      go_ret
      exact ⟨rfl, below_drewN G9.out _⟩
    · have C9 := go _ (c - 20) (Hs2.out hc)
      clear Hs1 Hs2 go CG
      subst hc
      go_enter Tryd.func45, Tryd.ntmps45
      go_wp2_with (first
        | (go_at_call 61; (with_reducible refine C0.out.mono ?_); rintro r w' ⟨rfl, rfl⟩)
        | (go_at_call 13; (with_reducible refine C9.out.mono ?_); rintro r w9 ⟨Av, nv, cv, rfl, hbv, hb⟩; have G9 := Lib.hid hb; have hc1 := fun (m : Nat) => run_convert_bs (hbv.drewN m) cv; have hc2 := fun (m : Nat) => Hcv.out (w9.drewN m) (below_drewN hb m); clear hb hbv))
      go_quiet (fail)
      go_wp2
      go_ret
      exact ⟨rfl, below_drewN G9.out _⟩
  · rw [if_neg hF]
    have hne := strB_ne hF
    clear hF
    rcases hcase with hc | hc
    · have C9 := go _ (c - 20) (Hs1.out hc)
      clear Hs1 Hs2 go CG
      go_enter Tryd.func45, Tryd.ntmps45
      go_wp2_with (first
        | (go_at_call 61; (with_reducible refine C0.out.mono ?_); rintro r w' ⟨rfl, rfl⟩)
        | (go_at_call 13; (with_reducible refine C9.out.mono ?_); rintro r w9 ⟨Av, nv, cv, rfl, hbv, hb⟩; have G9 := Lib.hid hb; have hc1 := fun (m : Nat) => run_convert_bs (hbv.drewN m) cv; have hc2 := fun (m : Nat) => Hcv.out (w9.drewN m) (below_drewN hb m); clear hb hbv))
      go_quiet (fail)
      go_wp2
      go_ret
      exact ⟨rfl, below_drewN G9.out _⟩
    · have C9 := go _ (c - 20) (Hs2.out hc)
      clear Hs1 Hs2 go CG
      subst hc
      go_enter Tryd.func45, Tryd.ntmps45
      go_wp2_with (first
        | (go_at_call 61; (with_reducible refine C0.out.mono ?_); rintro r w' ⟨rfl, rfl⟩)
        | (go_at_call 13; (with_reducible refine C9.out.mono ?_); rintro r w9 ⟨Av, nv, cv, rfl, hbv, hb⟩; have G9 := Lib.hid hb; have hc1 := fun (m : Nat) => run_convert_bs (hbv.drewN m) cv; have hc2 := fun (m : Nat) => Hcv.out (w9.drewN m) (below_drewN hb m); clear hb hbv))
      go_quiet (fail)
      go_wp2
      go_ret
      exact ⟨rfl, below_drewN G9.out _⟩

theorem stands_any (A : Option Addr) (n c e number : Nat) (l : List UInt8) (w : World) (hb : Bs w A n l) (hc : n ≤ c) (he1 : 1 ≤ e) (he : e ≤ 1099511627776) :
    Calls Tryd.prog 45 #[.slice A n c, .int .i64 e, .int .i64 number] w fun r w' => r = .returned (.int .i64 (nextOf l e number : Nat)) ∧ Below w.heap.size w w' := by
  have hl := hb.len
  by_cases h20 : 20 ≤ n
  · obtain ⟨ad, _, rfl, -, -⟩ := hb.get (k := 0) (by omega)
    obtain ⟨u, hu⟩ : ∃ u, u = unle (l.take 4) := ⟨_, rfl⟩
    have C0 := rread_four (some ad) n c 0 l w hb (by omega)
    rw [List.drop_zero, ← hu] at C0
    have hmx := hb.max
    by_cases hlong : (n : Int) - 20 < (u : Int) ∨ (268435456 : Int) < (u : Int)
    · have e0 : nextOf l e number = 0 := by
        rw [nextOf, ← hu, if_neg (by omega)]
      rw [e0]
      exact (stands_long ad n c u e number w (by omega) h20 hlong (Lib.hid C0)).mono fun r w' h => ⟨h.1, by rw [← h.2]; exact Below.refl _ _⟩
    · have hRl : ((l.drop 20).take u).length = u := by rw [List.length_take, List.length_drop]; omega
      by_cases hn : number < 2147483648
      · have hh := stands_body ad n c u e number 0 l (frameOf e number ((l.drop 20).take u)) w hb hc h20 (by omega) (by omega) (Lib.hid C0) (Lib.hid (fun A' c' hx => by
          refine (rframe_ok e number u c' A' _ w hx he1 he hn (by omega)).mono ?_
          rintro r w' ⟨v, rfl, ho, hb'⟩
          obtain ⟨Av, cv, rfl, hbv⟩ := own_bytes ho
          exact ⟨Av, _, cv, rfl, hbv, hb'⟩))
        have hval : (if frameOf e number ((l.drop 20).take u) = l.take (20 + u) then ((20 + u : Nat) : Int) else 0) = ((nextOf l e number : Nat) : Int) := by
          rw [nextOf, ← hu]
          by_cases hc1 : l.take (20 + u) = frameOf e number ((l.drop 20).take u)
          · rw [if_pos hc1.symm, if_pos ⟨by omega, by omega, by omega, hn, hc1⟩]
          · rw [if_neg (fun h => hc1 h.symm), if_neg (fun h => hc1 h.2.2.2.2)]; rfl
        rw [hval] at hh
        exact hh
      · have hh := stands_body ad n c u e number 1 l [] w hb hc h20 (by omega) (by omega) (Lib.hid C0) (Lib.hid (fun A' c' hx => by
          refine (rframe_bad e number u c' A' w (by simp only [FrOk, decide_eq_false_iff_not]; omega)).mono ?_
          rintro r w' ⟨rfl, rfl⟩
          exact ⟨none, 0, 0, rfl, Bs.nil _ _, Below.refl _ _⟩))
        have hval : (if ([] : List UInt8) = l.take (20 + u) then ((20 + u : Nat) : Int) else 0) = ((nextOf l e number : Nat) : Int) := by
          rw [if_neg (fun h => by
            have := congrArg List.length h
            rw [List.length_take, List.length_nil] at this
            omega), nextOf, ← hu, if_neg (fun h => hn h.2.2.2.1)]
          rfl
        rw [hval] at hh
        exact hh
  · have e0 : nextOf l e number = 0 := by rw [nextOf, if_neg (by omega)]
    rw [e0]
    exact (stands_short A n c e number w (by omega)).mono fun r w' h => ⟨h.1, by rw [← h.2]; exact Below.refl _ _⟩

end Go.Proofs.YtaaimonnpmfnlaaDoor
