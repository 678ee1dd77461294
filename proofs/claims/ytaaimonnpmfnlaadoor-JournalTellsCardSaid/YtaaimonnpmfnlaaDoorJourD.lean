/-
  CONTRACTS: what the laws of layer 15 use: two rows of records held against each other; a frame laid into stamped sectors.
-/
import Derived.Test.YtaaimonnpmfnlaaDoorScanE
import Derived.Test.YtaaimonnpmfnlaaDoorTell
namespace Go.Proofs.YtaaimonnpmfnlaaDoor
open Go.RowKit
set_option maxRecDepth 100000
set_option linter.unusedVariables false

/-- A row of slices of bytes, read. -/
structure RowsR (w : World) (A : Option Addr) (m : Nat) (ls : List (List UInt8)) : Prop where
  len : ls.length = m
  max : m ≤ 9223372036854775807
  get : ∀ (j : Nat) (l : List UInt8), ls[j]? = some l → ∃ (ad : Addr) (Aj : Option Addr) (cj : Nat), A = some ad ∧ w.cell? (ad.add j) = some (.slice Aj l.length cj) ∧ Bs w Aj l.length l ∧ l.length ≤ cj

theorem Recs.rows {w : World} {base : Nat} {v : Value} {vs : List Value} {ls : List (List UInt8)} (h : Recs w base v vs ls) : ∃ A c, v = .slice A vs.length c ∧ vs.length ≤ c ∧ RowsR w A vs.length ls := by
  obtain ⟨A, c, rfl, hc, hcell⟩ := own_slice h.outer
  refine ⟨A, c, rfl, hc, h.len, ?_, ?_⟩
  · rcases h.outer.2 with ⟨_, h0⟩ | ⟨g, cap, cur, _, _, _, hn, hm, _⟩
    · omega
    · simp only [maxLen] at hm; omega
  · intro j l hl
    have hj : j < vs.length := by rw [← h.len]; exact (List.getElem?_eq_some_iff.1 hl).1
    have hu := List.getElem?_eq_getElem hj
    obtain ⟨ad, e, hc2⟩ := hcell j _ hu
    have ho := h.own j _ l hu hl
    obtain ⟨Aj, cj, e2, hcj, hb, _⟩ := own_addr ho
    rw [e2] at hc2
    exact ⟨ad, Aj, cj, e, hc2, hb, hcj⟩
theorem RowsR.heap {w wx : World} {A : Option Addr} {m : Nat} {ls : List (List UInt8)} (h : RowsR w A m ls) (e : wx.heap = w.heap) : RowsR wx A m ls :=
  ⟨h.len, h.max, fun j l hl => by
    obtain ⟨ad, Aj, cj, h1, h2, h3, h4⟩ := h.get j l hl
    exact ⟨ad, Aj, cj, h1, by simpa [World.cell?, e] using h2, h3.heap e, h4⟩⟩
theorem RowsR.below {w w1 : World} {A : Option Addr} {m : Nat} {ls : List (List UInt8)} (h : RowsR w A m ls) (hb : Below w.heap.size w w1) : RowsR w1 A m ls :=
  ⟨h.len, h.max, fun j l hl => by
    obtain ⟨ad, Aj, cj, h1, h2, h3, h4⟩ := h.get j l hl
    exact ⟨ad, Aj, cj, h1, cell_below hb h2, h3.below hb, h4⟩⟩

theorem drewN_drewN (w : World) (k n : Nat) : (w.drewN k).drewN n = w.drewN (k + n) := by simp [World.drewN, Nat.add_assoc]

theorem same_len (A A' : Option Addr) (m m' c c' : Nat) (w : World) (h : ¬ m = m') :
    Calls Tryd.prog 17 #[.slice A m c, .slice A' m' c'] w fun r w' => r = .returned (.bool false) ∧ w = w' := by
  have hi : ¬ (m : Int) = (m' : Int) := by omega
  have h2 : ((m : Int) != (m' : Int)) = true := by simp; omega
  clear h
  go_enter Tryd.func17, Tryd.ntmps17
  go_wp2
  go_ret
  exact ⟨rfl, rfl⟩

set_option maxHeartbeats 2000000 in
theorem same_any (A A' : Option Addr) (m m' c c' : Nat) (la lb : List (List UInt8)) (w : World) (ha : RowsR w A m la) (hb : RowsR w A' m' lb) (hc : m ≤ c) (hc' : m' ≤ c') :
    Calls Tryd.prog 17 #[.slice A m c, .slice A' m' c'] w fun r w' => r = .returned (.bool (decide (la = lb))) ∧ ∃ k, w' = w.drewN k := by
  by_cases hm : m = m'
  · subst hm
    have Ha := Lib.hid ha
    have Hb := Lib.hid hb
    have Hla := Lib.hid ha.len
    have Hlb := Lib.hid hb.len
    have hmx : (m : Int) ≤ 9223372036854775807 := by have := ha.max; omega
    have hci : (m : Int) ≤ (c : Int) := by omega
    have hci' : (m : Int) ≤ (c' : Int) := by omega
    have hne : ((m : Int) != (m : Int)) = false := by simp
    clear ha hb hc hc'
    go_enter Tryd.func17, Tryd.ntmps17
    go_wp2_with fail
    go_loopw [5] (fun i wr => ∃ (q k : Nat), i = .int .i64 q ∧ q ≤ m ∧ la.take q = lb.take q ∧ wr = w.drewN k) (fun i _ => m - (intOf i).toNat)
    case atStart => exact ⟨0, 0, rfl, by omega, rfl, rfl⟩
    case round =>
      obtain ⟨q, k, rfl, hq, htk, rfl⟩ := hrel
      by_cases hlt : q < m
      · obtain ⟨x, hx⟩ : ∃ x, la[q]? = some x := ⟨_, List.getElem?_eq_getElem (by rw [Hla.out]; exact hlt)⟩
        obtain ⟨y, hy⟩ : ∃ y, lb[q]? = some y := ⟨_, List.getElem?_eq_getElem (by rw [Hlb.out]; exact hlt)⟩
        obtain ⟨ad, Aj, cj, rfl, hca, hba, -⟩ := Ha.out.get q x hx
        obtain ⟨ad', Aj', cj', rfl, hcb, hbb, -⟩ := Hb.out.get q y hy
        have hca2 : ∀ t, (w.drewN t).cell? (ad.add q) = some (.slice Aj x.length cj) := fun t => hca
        have hcb2 : ∀ t, (w.drewN t).cell? (ad'.add q) = some (.slice Aj' y.length cj') := fun t => hcb
        have h1 := fun (t : Nat) => run_convert_bs (hba.drewN t) cj
        have h2 := fun (t : Nat) => run_convert_bs (hbb.drewN t) cj'
        have hqi : (q : Int) < (m : Int) := by omega
        have hq0 : (0 : Int) ≤ (q : Int) := by omega
        have Hq := Lib.hid hlt
        have Htk := Lib.hid htk
        have Hx := Lib.hid hx
        have Hy := Lib.hid hy
        clear hca hcb hba hbb hlt hq htk hx hy
        by_cases hxy : x = y
        · have hs : ((strB x).toList == (strB y).toList) = true := by rw [hxy]; exact strB_eq y
          have Hxy := Lib.hid hxy
          clear hxy
          go_wp2_with fail
          go_quiet (fail)
          go_wp2
          go_roundw
          case rel => exact ⟨q + 1, k + nq, by go_num, Hq.out, by rw [take_snoc Hx.out, take_snoc Hy.out, Htk.out, Hxy.out], by first | rfl | exact drewN_drewN _ _ _⟩
          case measure => have := Hq.out; simp [intOf]; omega
        · have hs := strB_ne hxy
          have Hd : Hid (decide (la = lb) = false) := Lib.hid (by
            rw [decide_eq_false_iff_not]
            intro e
            have := Hx.out
            rw [e, Hy.out] at this
            exact hxy (Option.some.inj this).symm)
          clear hxy
          go_wp2_with fail
          go_quiet (fail)
          go_wp2
          go_ret
          exact ⟨by rw [Hd.out]; rfl, k + nq, drewN_drewN _ _ _⟩
      · have hqi : ¬ (q : Int) < (m : Int) := by omega
        have Hd : Hid (decide (la = lb) = true) := Lib.hid (by
          rw [decide_eq_true_eq]
          rw [List.take_of_length_le (by rw [Hla.out]; omega), List.take_of_length_le (by rw [Hlb.out]; omega)] at htk
          exact htk)
        clear hlt hq htk
        go_wp2_with fail
        go_ret
        exact ⟨by rw [Hd.out]; rfl, k, rfl⟩
  · have hd : decide (la = lb) = false := by
      rw [decide_eq_false_iff_not]
      intro e
      exact hm (by rw [← ha.len, ← hb.len, e])
    rw [hd]
    exact (same_len A A' m m' c c' w hm).mono fun r w' h => ⟨h.1, 0, h.2.symm⟩

/-- The stamp that an epoch's sectors have. -/
def stampOf (e : Int) : List UInt8 := if NumOk e 8 = true then le 8 e.toNat else []
theorem stampOf_length (e : Int) : (stampOf e).length ≤ 8 := by
  rw [stampOf]; split
  · rw [le_length]; exact Nat.le_refl _
  · simp
theorem rnumber_stamp (e : Int) (w : World) (he : e ≤ 9223372036854775807) :
    Calls Tryd.prog 46 #[.int .i64 e, .int .i64 8] w fun r w' => ∃ v z, r = .returned (.tuple #[v, .int .i64 z]) ∧ w'.ownsRow w.heap.size 5 1 v (stampOf e).length (bs (stampOf e)) ∧ Below w.heap.size w w' := by
  by_cases h : NumOk e 8 = true
  · have hs : stampOf e = le 8 e.toNat := if_pos h
    simp only [NumOk, decide_eq_true_eq] at h
    rw [hs, le_length]
    obtain ⟨n, rfl⟩ : ∃ n : Nat, e = n := ⟨e.toNat, by omega⟩
    have h4 := h.2.2.2
    have e1 : (256 : Int) ^ (8 : Int).toNat = ((256 ^ 8 : Nat) : Int) := by decide
    rw [e1] at h4
    exact (rnumber_ok n 8 w (by omega) (by omega) (by omega) (by omega)).mono fun r w' ⟨v, h1, h2, h3⟩ => ⟨v, 0, h1, h2, h3⟩
  · have hs : stampOf e = [] := if_neg h
    rw [hs]
    exact (rnumber_bad e 8 w (by simpa using h) he).mono fun r w' ⟨h1, h2⟩ => ⟨_, 1, h1, World.ownsRow_nil _ _ _ _, h2⟩

set_option maxHeartbeats 4000000 in
theorem stamped_any (A : Option Addr) (n c : Nat) (ez : Int) (l : List UInt8) (w : World) (hb : Bs w A n l) (hc : n ≤ c) (he : ez ≤ 9223372036854775807) (hn : n ≤ 1099511627776) :
    Calls Tryd.prog 18 #[.int .i64 ez, .slice A n c] w fun r w' => ∃ v, r = .returned v ∧ w'.ownsRow w.heap.size 5 1 v (stampedL (stampOf ez) l).length (bs (stampedL (stampOf ez) l)) ∧ Below w.heap.size w w' := by
  have Hinfo := Lib.hid info_u8
  obtain ⟨B, hB⟩ : ∃ B, B = w.heap.size := ⟨_, rfl⟩
  have HBl : Hid (∀ wx, Below B w wx → B ≤ wx.heap.size) := Lib.hid (fun wx h => by rw [hB]; exact h.size)
  have Hlow : Hid (∀ wx, Below B w wx → Below w.heap.size w wx) := Lib.hid (fun wx h => by rw [← hB]; exact h)
  obtain ⟨hd, hhd⟩ : ∃ h, h = stampOf ez := ⟨_, rfl⟩
  have Hh8 : Hid (hd.length ≤ 8) := Lib.hid (by rw [hhd]; exact stampOf_length ez)
  obtain ⟨S, hS⟩ : ∃ S, S = stampedL hd l := ⟨_, rfl⟩
  have HS := Lib.hid hS
  have HSl : Hid (S.length ≤ 2199023256064) := Lib.hid (by
    have := (stampedL_length hd Hh8.out l.length l (Nat.le_refl _)).1
    rw [← hS, hb.len] at this; omega)
  have CN : Hid (∀ wx, Calls Tryd.prog 46 #[.int .i64 ez, .int .i64 8] wx fun r w' => ∃ v z, r = .returned (.tuple #[v, .int .i64 z]) ∧ w'.ownsRow wx.heap.size 5 1 v hd.length (bs hd) ∧ Below wx.heap.size wx w') := Lib.hid (fun wx => by rw [hhd]; exact rnumber_stamp ez wx he)
  have Hb := Lib.hid hb
  have Hc := Lib.hid hc
  have HBw := Lib.hid hB
  rw [← hhd, ← hS]
  have Hn := Lib.hid hn
  clear hS hb hc he hn hB hhd
  go_enter Tryd.func18, Tryd.ntmps18
  go_wp2_with fail
  go_loopw [1, 5] (fun b o wr => ∃ (A' : Option Addr) (n' c' m : Nat) (l' O : List UInt8), b = .slice A' n' c' ∧ n' ≤ c' ∧ Bs w A' n' l' ∧ wr.ownsRow B 5 1 o m (bs O) ∧ O ++ stampedL hd l' = S ∧ Below B w wr) (fun b _ _ => sliceLen2 b)
  case atStart => exact ⟨A, n, c, 0, l, [], rfl, Hc.out, Hb.out, World.ownsRow_nil _ _ _ _, HS.out.symm, Below.refl _ _⟩
  case round =>
    obtain ⟨A', n', c', m, l', O3, rfl, hc', hb', ho, hs, hw⟩ := hrel
    obtain ⟨wo, rfl⟩ : ∃ wo : World, wo = wr := ⟨_, rfl⟩
    have Ho := Lib.hid ho
    have Hs := Lib.hid hs
    have Hw := Lib.hid hw
    clear ho hs hw
    have hl' := hb'.len
    by_cases hlt : 0 < n'
    · obtain ⟨ad, _, rfl, -, -⟩ := hb'.get (k := 0) hlt
      have h0i : (0 : Int) < (n' : Int) := by omega
      have Hst : Hid (stampedL hd l' = sectorL hd (l'.take 504) ++ stampedL hd (l'.drop 504)) := Lib.hid (stampedL_yes (fun e => by rw [e] at hl'; simp at hl'; omega))
      have hcase : (504 : Int) < (n' : Int) ∨ ¬ (504 : Int) < (n' : Int) := by omega
      rcases hcase with h504 | h504
      · have hcp : ¬ c' = 504 := by omega
        have Hrest : Hid (Bs w (some ⟨ad.block, ad.off + 504, none⟩) (n' - 504) (l'.drop 504)) := Lib.hid (by
          have := hb'.sub 504 (n' - 504) (by omega)
          rw [List.take_of_length_le (by rw [List.length_drop]; omega)] at this
          exact this)
        have Hhead : Hid (Bs w (some ad) 504 (l'.take 504)) := Lib.hid (hb'.head 504 (by omega))
        have h5c : (504 : Int) ≤ (c' : Int) := by omega
        have HLp : Hid ((l'.take 504).length = 504) := Lib.hid (by rw [List.length_take]; omega)
        have Hx1 : Hid (hd.length + 504 ≤ 140737488355328) := Lib.hid (by have := Hh8.out; omega)
        have Hx2 : Hid (hd.length + 504 ≤ 512) := Lib.hid (by have := Hh8.out; omega)
        have HN' := Lib.hid hc'
        have Hp5 : Hid (0 < 504) := Lib.hid (by omega)
        clear hb' hl' hc' hlt
        go_wp2_with (first
          | (go_at_call 46; (with_reducible refine (CN.out wo).mono ?_); rintro r w1 ⟨v, z, rfl, ho, hb⟩; obtain ⟨Ax, cx, rfl, -⟩ := own_slice ho; have O1 := Lib.hid ho; have G1 := Lib.hid hb; clear ho hb)
          | (at_builtin; refine wpList_append_bytes rfl _ _ 22 rfl wo.heap.size 5 (.int .u8 0) Tryd.underlying22 Hinfo.out rfl (.slice Ax hd.length cx) hd.length (bs hd) rfl O1.out (some ad) 504 c' (l'.take 504) rfl (Hhead.out.below (Hlow.out _ (Hw.out.trans (G1.out.mono (HBl.out _ Hw.out))))) Hx1.out G1.out.size ?_; intro va w2 ho hg hla; rw [← bs_append] at ho; obtain ⟨Ay, cy, hva, -⟩ := own_slice ho; subst hva; have O2 := Lib.hid ho; have G2 : Hid (Below wo.heap.size wo w2) := Lib.hid (G1.out.grown hg G1.out.size (fun i hi => (O1.out.lt i hi).1)); clear ho hg hla))
        clear O1 G1
        obtain ⟨pre, hpre⟩ : ∃ pre, pre = hd ++ l'.take 504 := ⟨_, rfl⟩
        have Hpre := Lib.hid hpre
        obtain ⟨q0, hq0⟩ : ∃ q0, q0 = hd.length + 504 := ⟨_, rfl⟩
        have Hq0 := Lib.hid hq0
        rw [← hpre, ← hq0] at O2
        rw [← hq0]
        clear hpre hq0
        go_loopw [6] (fun x wi => ∃ (q : Nat) (A9 : Option Addr) (c9 : Nat), q0 ≤ q ∧ q ≤ 512 ∧ x = .slice A9 q c9 ∧ wi.ownsRow wo.heap.size 5 1 (.slice A9 q c9) q (bs (pre ++ List.replicate (q - q0) 0)) ∧ Below wo.heap.size wo wi) (fun x _ => 512 - sliceLen2 x)
        case atStart => exact ⟨q0, Ay, cy, Nat.le_refl _, by have := Hx2.out; have := Hq0.out; omega, rfl, by rw [Nat.sub_self, List.replicate_zero, List.append_nil]; exact O2.out, G2.out⟩
        case round =>
          obtain ⟨q, A9, c9, hq1, hq2, rfl, ho, hbi⟩ := hrel
          have O := Lib.hid ho
          have G := Lib.hid hbi
          have Hq1 := Lib.hid hq1
          have Hq2 := Lib.hid hq2
          by_cases h5 : q < 512
          · have hqi : (q : Int) < 512 := by omega
            have Hc1 : Hid (q + 1 ≤ maxLen) := Lib.hid (by simp only [maxLen]; omega)
            have Hc2 : Hid ((q + 1) * 1 ≤ 140737488355328) := Lib.hid (by omega)
            have Hlt := Lib.hid h5
            clear ho hbi hq1 hq2 h5
            go_wp2_with (at_builtin; refine wpList_append_one rfl _ _ 22 rfl wo.heap.size 5 (.int .u8 0) 1 Tryd.underlying22 Hinfo.out rfl (.slice A9 q c9) q (bs (pre ++ List.replicate (q - q0) 0)) (.int .u8 0) rfl O.out rfl rfl Hc1.out Hc2.out G.out.size ?_; intro v' w9 ho hg hla; have O9 : Hid (w9.ownsRow wo.heap.size 5 1 v' (q + 1) (bs (pre ++ List.replicate (q + 1 - q0) 0))) := Lib.hid (by have e : q + 1 - q0 = (q - q0) + 1 := by { have := Hq1.out; omega }; rw [e, List.replicate_succ', ← List.append_assoc, bs_append]; exact ho); have G9 : Hid (Below wo.heap.size wo w9) := Lib.hid (G.out.grown hg G.out.size (fun i hi => (O.out.lt i hi).1)); clear ho hg hla; obtain ⟨Az, cz, ez, _⟩ := own_bytes O9.out; subst ez)
            go_roundw
            case rel => exact ⟨q + 1, Az, cz, by have := Hq1.out; omega, by have := Hlt.out; omega, rfl, O9.out, G9.out⟩
            case measure => have := Hlt.out; simp only [sliceLen2]; omega
          · have hqi : ¬ (q : Int) < 512 := by omega
            have hq5 : q = 512 := by omega
            have Hsec : Hid (pre ++ List.replicate (q - q0) 0 = sectorL hd (l'.take 504)) := Lib.hid (by rw [Hpre.out, sectorL, HLp.out, hq5, Hq0.out])
            have HOo := Lib.hid (own_below Ho.out G.out)
            have Hm : Hid (m + q ≤ 140737488355328) := Lib.hid (by
              have h1 := congrArg List.length Hs.out
              have h2 := Ho.out.1
              have h3 := HSl.out
              rw [bs_length] at h2
              rw [List.length_append] at h1
              omega)
            have hob := O.out
            rw [Hsec.out] at hob
            obtain ⟨A8, c8, e8, hb8⟩ := own_bytes hob
            cases e8
            have HB8 := Lib.hid hb8
            clear ho hbi hq1 hq2 h5 hq5 hob hb8
            go_wp2_with (at_builtin; refine wpList_append_bytes rfl _ _ 22 rfl B 5 (.int .u8 0) Tryd.underlying22 Hinfo.out rfl u5 m (bs O3) rfl HOo.out A9 q c9 (sectorL hd (l'.take 504)) rfl HB8.out Hm.out (Nat.le_trans (HBl.out _ Hw.out) G.out.size) ?_; intro vb w7 ho hg hla; rw [← bs_append] at ho; have O7 := Lib.hid ho; have G7 : Hid (Below B w w7) := Lib.hid ((Hw.out.trans (G.out.mono (HBl.out _ Hw.out))).grown hg (Nat.le_trans (HBl.out _ Hw.out) G.out.size) (fun i hi => (HOo.out.lt i hi).1)); clear ho hg hla)
            go_roundw
            case rel => exact ⟨_, n' - 504, c' - 504, m + q, l'.drop 504, O3 ++ sectorL hd (l'.take 504), rfl, by have := HN'.out; omega, Hrest.out, O7.out, by rw [List.append_assoc, ← Hst.out]; exact Hs.out, G7.out⟩
            case measure => have := Hp5.out; have := HN'.out; simp only [sliceLen2]; omega
      · have Hrest : Hid (∀ A9, Bs w A9 0 (l'.drop 504)) := Lib.hid (fun A9 => by
          have : l'.drop 504 = [] := List.drop_of_length_le (by omega)
          rw [this]; exact Bs.nil _ _)
        have htk : l'.take 504 = l' := List.take_of_length_le (by omega)
        have Hhead : Hid (Bs w (some ad) n' (l'.take 504)) := Lib.hid (by rw [htk]; exact hb')
        have h5c : (n' : Int) ≤ (c' : Int) := by omega
        have HLp : Hid ((l'.take 504).length = n') := Lib.hid (by rw [htk]; exact hl')
        have Hx1 : Hid (hd.length + n' ≤ 140737488355328) := Lib.hid (by have := Hh8.out; omega)
        have Hx2 : Hid (hd.length + n' ≤ 512) := Lib.hid (by have := Hh8.out; omega)
        have HN' := Lib.hid hc'
        have Hp5 : Hid (0 < n') := Lib.hid (by omega)
        clear hb' hl' hc' hlt htk
        go_wp2_with (first
          | (go_at_call 46; (with_reducible refine (CN.out wo).mono ?_); rintro r w1 ⟨v, z, rfl, ho, hb⟩; obtain ⟨Ax, cx, rfl, -⟩ := own_slice ho; have O1 := Lib.hid ho; have G1 := Lib.hid hb; clear ho hb)
          | (at_builtin; refine wpList_append_bytes rfl _ _ 22 rfl wo.heap.size 5 (.int .u8 0) Tryd.underlying22 Hinfo.out rfl (.slice Ax hd.length cx) hd.length (bs hd) rfl O1.out (some ad) n' c' (l'.take 504) rfl (Hhead.out.below (Hlow.out _ (Hw.out.trans (G1.out.mono (HBl.out _ Hw.out))))) Hx1.out G1.out.size ?_; intro va w2 ho hg hla; rw [← bs_append] at ho; obtain ⟨Ay, cy, hva, -⟩ := own_slice ho; subst hva; have O2 := Lib.hid ho; have G2 : Hid (Below wo.heap.size wo w2) := Lib.hid (G1.out.grown hg G1.out.size (fun i hi => (O1.out.lt i hi).1)); clear ho hg hla))
        all_goals (
          clear O1 G1
          obtain ⟨pre, hpre⟩ : ∃ pre, pre = hd ++ l'.take 504 := ⟨_, rfl⟩
          have Hpre := Lib.hid hpre
          obtain ⟨q0, hq0⟩ : ∃ q0, q0 = hd.length + n' := ⟨_, rfl⟩
          have Hq0 := Lib.hid hq0
          rw [← hpre, ← hq0] at O2
          rw [← hq0]
          clear hpre hq0
          go_loopw [6] (fun x wi => ∃ (q : Nat) (A9 : Option Addr) (c9 : Nat), q0 ≤ q ∧ q ≤ 512 ∧ x = .slice A9 q c9 ∧ wi.ownsRow wo.heap.size 5 1 (.slice A9 q c9) q (bs (pre ++ List.replicate (q - q0) 0)) ∧ Below wo.heap.size wo wi) (fun x _ => 512 - sliceLen2 x)
          case atStart => exact ⟨q0, Ay, cy, Nat.le_refl _, by have := Hx2.out; have := Hq0.out; omega, rfl, by rw [Nat.sub_self, List.replicate_zero, List.append_nil]; exact O2.out, G2.out⟩
          case round =>
            obtain ⟨q, A9, c9, hq1, hq2, rfl, ho, hbi⟩ := hrel
            have O := Lib.hid ho
            have G := Lib.hid hbi
            have Hq1 := Lib.hid hq1
            have Hq2 := Lib.hid hq2
            by_cases h5 : q < 512
            · have hqi : (q : Int) < 512 := by omega
              have Hc1 : Hid (q + 1 ≤ maxLen) := Lib.hid (by simp only [maxLen]; omega)
              have Hc2 : Hid ((q + 1) * 1 ≤ 140737488355328) := Lib.hid (by omega)
              have Hlt := Lib.hid h5
              clear ho hbi hq1 hq2 h5
              go_wp2_with (at_builtin; refine wpList_append_one rfl _ _ 22 rfl wo.heap.size 5 (.int .u8 0) 1 Tryd.underlying22 Hinfo.out rfl (.slice A9 q c9) q (bs (pre ++ List.replicate (q - q0) 0)) (.int .u8 0) rfl O.out rfl rfl Hc1.out Hc2.out G.out.size ?_; intro v' w9 ho hg hla; have O9 : Hid (w9.ownsRow wo.heap.size 5 1 v' (q + 1) (bs (pre ++ List.replicate (q + 1 - q0) 0))) := Lib.hid (by have e : q + 1 - q0 = (q - q0) + 1 := by { have := Hq1.out; omega }; rw [e, List.replicate_succ', ← List.append_assoc, bs_append]; exact ho); have G9 : Hid (Below wo.heap.size wo w9) := Lib.hid (G.out.grown hg G.out.size (fun i hi => (O.out.lt i hi).1)); clear ho hg hla; obtain ⟨Az, cz, ez, _⟩ := own_bytes O9.out; subst ez)
              go_roundw
              case rel => exact ⟨q + 1, Az, cz, by have := Hq1.out; omega, by have := Hlt.out; omega, rfl, O9.out, G9.out⟩
              case measure => have := Hlt.out; simp only [sliceLen2]; omega
            · have hqi : ¬ (q : Int) < 512 := by omega
              have hq5 : q = 512 := by omega
              have Hsec : Hid (pre ++ List.replicate (q - q0) 0 = sectorL hd (l'.take 504)) := Lib.hid (by rw [Hpre.out, sectorL, HLp.out, hq5, Hq0.out])
              have HOo := Lib.hid (own_below Ho.out G.out)
              have Hm : Hid (m + q ≤ 140737488355328) := Lib.hid (by
                have h1 := congrArg List.length Hs.out
                have h2 := Ho.out.1
                have h3 := HSl.out
                rw [bs_length] at h2
                rw [List.length_append] at h1
                omega)
              have hob := O.out
              rw [Hsec.out] at hob
              obtain ⟨A8, c8, e8, hb8⟩ := own_bytes hob
              cases e8
              have HB8 := Lib.hid hb8
              clear ho hbi hq1 hq2 h5 hq5 hob hb8
              go_wp2_with (at_builtin; refine wpList_append_bytes rfl _ _ 22 rfl B 5 (.int .u8 0) Tryd.underlying22 Hinfo.out rfl u5 m (bs O3) rfl HOo.out A9 q c9 (sectorL hd (l'.take 504)) rfl HB8.out Hm.out (Nat.le_trans (HBl.out _ Hw.out) G.out.size) ?_; intro vb w7 ho hg hla; rw [← bs_append] at ho; have O7 := Lib.hid ho; have G7 : Hid (Below B w w7) := Lib.hid ((Hw.out.trans (G.out.mono (HBl.out _ Hw.out))).grown hg (Nat.le_trans (HBl.out _ Hw.out) G.out.size) (fun i hi => (HOo.out.lt i hi).1)); clear ho hg hla)
              go_roundw
              case rel => exact ⟨_, 0, _, m + q, l'.drop 504, O3 ++ sectorL hd (l'.take 504), rfl, by omega, Hrest.out _, O7.out, by rw [List.append_assoc, ← Hst.out]; exact Hs.out, G7.out⟩
              case measure => have := Hp5.out; have := HN'.out; simp only [sliceLen2]; omega)
    · have h0i : ¬ (0 : Int) < (n' : Int) := by omega
      have Hfin : Hid (wo.ownsRow B 5 1 u5 S.length (bs S)) := Lib.hid (by
        have h0 : l' = [] := List.eq_nil_of_length_eq_zero (by omega)
        have h1 := Hs.out
        rw [h0, stampedL_nil, List.append_nil] at h1
        have h2 := Ho.out
        have h3 := h2.1
        rw [bs_length, Nat.mul_one] at h3
        rw [h1] at h2 h3
        rw [h3]
        exact h2)
      clear hb' hl' hc' hlt
      go_wp2_with fail
      go_ret
      have hB := HBw.out
      subst hB
      exact ⟨u5, rfl, Hfin.out, Hw.out⟩

end Go.Proofs.YtaaimonnpmfnlaaDoor
