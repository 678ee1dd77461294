/-
  CONTRACT: journal.Scan.
-/
import Derived.Test.YtaaimonnpmfnlaaDoorScanB
import Derived.Test.YtaaimonnpmfnlaaDoorRecs
namespace Go.Proofs.YtaaimonnpmfnlaaDoor
open Go.RowKit
set_option maxRecDepth 100000
set_option linter.unusedVariables false

theorem info_row2 : (Tryd.prog.info? 22).map (fun i => (i.zero, i.size, i.bytes)) = some (some (.slice none 0 0), 1, 24) := by kernel_rfl

theorem scan_bad (A : Option Addr) (n c : Nat) (e : Int) (w : World) (h : EpOk e = false) :
    Calls Tryd.prog 15 #[.slice A n c, .int .i64 e] w fun r w' => r = .returned (.tuple #[.slice none 0 0, .int .i64 0]) ∧ w = w' := by
  have C2 : Hid (Calls Tryd.prog 34 #[.int .i64 e] w fun r w' => r = .returned (.bool false) ∧ w = w') := Lib.hid (by have := epochs_any e w; rw [h] at this; exact this)
  clear h
  go_enter Tryd.func15, Tryd.ntmps15
  go_wp2_with (go_at_call 34; (with_reducible refine C2.out.mono ?_); rintro r w' ⟨rfl, rfl⟩)
  go_ret2
  exact ⟨rfl, rfl⟩

set_option maxHeartbeats 4000000 in
theorem scan_ok (A : Option Addr) (n c e : Nat) (l : List UInt8) (w : World) (hN : Nib w) (hb : Bs w A n l) (hc : n ≤ c) (he1 : 1 ≤ e) (he : e ≤ 1099511627776) (hn : n ≤ 140737488355328) :
    Calls Tryd.prog 15 #[.slice A n c, .int .i64 e] w fun r w' => ∃ v vs, r = .returned (.tuple #[v, .int .i64 ((scanOf l e).2 : Nat)]) ∧ Recs w' w.heap.size v vs (scanOf l e).1 ∧ Hid (vs.length ≤ 2147483648) ∧ Below w.heap.size w w' := by
  have Hinfo8 := Lib.hid info_u8
  have Hinfo := Lib.hid info_row2
  obtain ⟨B, hB⟩ : ∃ B, B = w.heap.size := ⟨_, rfl⟩
  have HBl : Hid (∀ wx, Below B w wx → B ≤ wx.heap.size) := Lib.hid (fun wx h => by rw [hB]; exact h.size)
  have Hlow : Hid (∀ wx, Below B w wx → Below w.heap.size w wx) := Lib.hid (fun wx h => by rw [← hB]; exact h)
  have KN : Hid (∀ wx, Below B w wx → Nib wx) := Lib.hid (fun wx h => hN.below (Hlow.out _ h))
  obtain ⟨S, hS⟩ : ∃ S, S = streamOf l e := ⟨_, rfl⟩
  obtain ⟨T, hT⟩ : ∃ T, T = scanOf l e := ⟨_, rfl⟩
  have HT : Hid (T = scanFrom S e 0 0) := Lib.hid (by rw [hT, hS]; rfl)
  have HSl : Hid (S.length ≤ 140737488355328) := Lib.hid (by
    have := streamOf_length l.length l e (Nat.le_refl _)
    rw [← hS, hb.len] at this; omega)
  obtain ⟨ei, hei⟩ : ∃ z : Int, z = (e : Int) := ⟨_, rfl⟩
  have He := Lib.hid he
  have CE : Hid (Calls Tryd.prog 34 #[.int .i64 ei] w fun r w' => r = .returned (.bool true) ∧ w = w') := Lib.hid (by
    have := epochs_any ei w
    rw [show EpOk ei = true by simp only [EpOk, decide_eq_true_eq]; omega] at this; exact this)
  obtain ⟨sl, hsl⟩ : ∃ sl, sl = S.length := ⟨_, rfl⟩
  have Hsl := Lib.hid hsl
  have CS : Hid (Calls Tryd.prog 40 #[.slice A n c, .int .i64 ei] w fun r w' => ∃ v, r = .returned v ∧ w'.ownsRow w.heap.size 5 1 v sl (bs S) ∧ Below w.heap.size w w') := Lib.hid (by
    rw [hei, hsl, hS]; exact stream_any A n c e l w hb hc he hn)
  have CB : Hid (∀ (E : Nat) (wx : World), E ≤ 140737488355328 → Calls Tryd.prog 41 #[.int .i64 E] wx fun r w' => r = .returned (.int .i64 (beginsOf E : Nat)) ∧ wx = w') := Lib.hid (fun E wx h => begins_any E wx (by omega))
  have CX : Hid (∀ (wx : World) (A' : Option Addr) (n' c' k : Nat) (l' : List UInt8), Nib wx → Bs wx A' n' l' → n' ≤ c' → k < 2147483648 → Calls Tryd.prog 42 #[.slice A' n' c', .int .i64 ei, .int .i64 k] wx fun r w' => r = .returned (.int .i64 (nextOf l' e k : Nat)) ∧ Below wx.heap.size wx w') := Lib.hid (fun wx A' n' c' k l' h1 h2 h3 h4 => by
    rw [hei]; exact next_any A' n' c' e k l' wx h1 h2 h3 he h4)
  have HBw := Lib.hid hB
  rw [← hT, ← hei]
  clear hS hb hc hei he hn hB hN hT he1 hsl
  go_enter Tryd.func15, Tryd.ntmps15
  go_wp2_with (first
    | (go_at_call 34; (with_reducible refine CE.out.mono ?_); rintro r w' ⟨rfl, rfl⟩)
    | (go_at_call 40; (with_reducible refine CS.out.mono ?_); rintro r w1 ⟨v, rfl, ho, hb⟩; have G1 : Hid (Below B w w1) := Lib.hid (by rw [HBw.out]; exact hb); obtain ⟨As, cs, rfl, hcs, hbs, -⟩ := own_addr ho; have Hcs := Lib.hid hcs; have Hbs := Lib.hid hbs; have Hnone : Hid (As = none → cs = 0) := Lib.hid (fun e => by subst e; rcases ho.2 with ⟨e2, _⟩ | ⟨g, cap, cur, e2, _⟩ <;> cases e2; rfl); clear ho hb hcs hbs))
  clear CE CS
  obtain ⟨M31, hM31⟩ : ∃ M : Nat, M = 2147483648 := ⟨_, rfl⟩
  have HM31 := Lib.hid hM31
  clear hM31
  obtain ⟨B1, hB1⟩ : ∃ B, B = w1.heap.size := ⟨_, rfl⟩
  have HB1 := Lib.hid hB1
  have HB1l : Hid (∀ wx, Below B1 w1 wx → B1 ≤ wx.heap.size ∧ Below w1.heap.size w1 wx ∧ Below B w wx) := Lib.hid (fun wx h => ⟨by rw [hB1]; exact h.size, by rw [← hB1]; exact h, G1.out.trans (h.mono (by rw [hB1]; exact HBl.out _ G1.out))⟩)
  clear hB1
  go_loopw [7, 8] (fun o en wr => ∃ (vs : List Value) (ls : List (List UInt8)) (E k : Nat) (Ao : Option Addr) (co : Nat), o = .slice Ao k co ∧ vs.length = k ∧ en = .int .i64 E ∧ Recs wr B1 o vs ls ∧ ls ++ (scanFrom S e E k).1 = T.1 ∧ (scanFrom S e E k).2 = T.2 ∧ E ≤ sl ∧ k ≤ M31 ∧ Below B1 w1 wr) (fun _ en _ => sl - (intOf en).toNat)
  case atStart => exact ⟨[], [], 0, 0, none, 0, rfl, rfl, rfl, Recs.nil _ _, by rw [HT.out]; rfl, by rw [HT.out], by omega, by omega, Below.refl _ _⟩
  case round =>
    obtain ⟨vs, ls, E, k, Ao, co, rfl, hvs, rfl, hrec, hT1, hT2, hEs, hk31, hbw⟩ := hrel
    have Hrec := Lib.hid hrec
    have HT1 := Lib.hid hT1
    have HT2 := Lib.hid hT2
    have Hbw := Lib.hid hbw
    have Hvs := Lib.hid hvs
    have HEs := Lib.hid hEs
    have Hk31 := Lib.hid hk31
    have hco : k ≤ co := by obtain ⟨A2, c2, e2, h2, _⟩ := own_slice hrec.outer; cases e2; rw [hvs] at h2; exact h2
    have hfin : Hid (nextOf (S.drop (beginsOf E)) e k = 0 → Recs wr B (.slice Ao k co) vs T.1 ∧ (E : Int) = (T.2 : Nat)) := Lib.hid (fun h => by
      have h1 := HT1.out
      have h2 := HT2.out
      rw [scanFrom_no h] at h1 h2
      simp only [List.append_nil] at h1
      rw [← h1, ← h2]
      exact ⟨Hrec.out.mono (by rw [HB1.out]; exact HBl.out _ G1.out), rfl⟩)
    clear hrec hT1 hT2 hbw
    by_cases hk : k < 2147483648
    · obtain ⟨kz, hkz⟩ : ∃ z : Int, (k : Int) = z := ⟨_, rfl⟩
      have hki : kz < 2147483648 := by omega
      obtain ⟨a, ha⟩ : ∃ a, a = beginsOf E := ⟨_, rfl⟩
      have haE : E ≤ a ∧ a ≤ E + 19 := by rw [ha]; exact ⟨beginsOf_ge E, beginsOf_le E⟩
      have CB9 : Hid (Calls Tryd.prog 41 #[.int .i64 E] wr fun r w' => r = .returned (.int .i64 a) ∧ wr = w') := Lib.hid (by rw [ha]; exact CB.out E wr (by have := HSl.out; have := Hsl.out; omega))
      have hb1 := Hbs.out.below (HB1l.out _ Hbw.out).2.1
      have Hb1 := Lib.hid hb1
      have hsl47 : sl ≤ 140737488355328 := by have := HSl.out; have := Hsl.out; omega
      rw [← ha] at hfin
      by_cases hN0 : nextOf (S.drop a) e k = 0
      · have Hf := Lib.hid (hfin.out hN0)
        clear hfin
        obtain ⟨q, hq⟩ : ∃ q, q = min a sl := ⟨_, rfl⟩
        have hdrop : S.drop q = S.drop a := by
          by_cases h : a ≤ sl
          · rw [hq, Nat.min_eq_left h]
          · rw [hq, Nat.min_eq_right (by omega), List.drop_of_length_le (by have := Hsl.out; omega), List.drop_of_length_le (by have := Hsl.out; omega)]
        have hqs : q ≤ sl := by omega
        have hqi : (q = a ∧ ¬ (sl : Int) < (a : Int)) ∨ (q = sl ∧ (sl : Int) < (a : Int)) := by omega
        have hqc : (q : Int) ≤ (cs : Int) := by have := Hcs.out; omega
        have hqs2 : (q : Int) ≤ (sl : Int) := by omega
        have Hbq : Hid (∀ A', (As = none → A' = none) → (∀ ad, As = some ad → A' = if cs = q then some ad else some (ad.add q)) → Bs wr A' (sl - q) (S.drop a)) := Lib.hid (fun A' h1 h2 => by
          rw [← hdrop]
          cases As with
          | none =>
            have := Hnone.out rfl
            have hz : sl = 0 := by have := Hcs.out; omega
            have : S.drop q = [] := List.drop_of_length_le (by have := Hsl.out; omega)
            rw [this, show sl - q = 0 by omega]
            exact Bs.nil _ _
          | some ad =>
            rw [h2 ad rfl]
            by_cases hcq : cs = q
            · have : S.drop q = [] := List.drop_of_length_le (by have := Hsl.out; have := Hcs.out; omega)
              rw [this, show sl - q = 0 by have := Hcs.out; omega]
              exact Bs.nil _ _
            · rw [if_neg hcq]
              have h3 := hb1.sub q (sl - q) (by omega)
              rw [List.take_of_length_le (by rw [List.length_drop]; have := Hsl.out; omega)] at h3
              exact h3)
        have CX9 : Hid (∀ A', (As = none → A' = none) → (∀ ad, As = some ad → A' = if cs = q then some ad else some (ad.add q)) → Calls Tryd.prog 42 #[.slice A' (sl - q) (cs - q), .int .i64 ei, .int .i64 kz] wr fun r w' => r = .returned (.int .i64 0) ∧ Below wr.heap.size wr w') := Lib.hid (fun A' h1 h2 => by
          have := CX.out wr A' (sl - q) (cs - q) k (S.drop a) (KN.out _ (HB1l.out _ Hbw.out).2.2) (Hbq.out A' h1 h2) (by have := Hcs.out; omega) hk
          rw [hN0, hkz] at this
          exact this)
        clear hN0 hdrop hq hb1 hqs haE hk31 hEs hvs hco ha hsl47 CX CB hk
        have Hqi := Lib.hid hqi
        have Hqs := Lib.hid hqs2
        clear hqi hqs2
        cases As with
        | none =>
          have hz : sl = 0 ∧ cs = 0 := by have := Hnone.out rfl; have := Hcs.out; omega
          obtain ⟨rfl, rfl⟩ := hz
          have C8 : Hid (Calls Tryd.prog 42 #[.slice none 0 0, .int .i64 ei, .int .i64 kz] wr fun r w' => r = .returned (.int .i64 0) ∧ Below wr.heap.size wr w') := Lib.hid (by have := CX9.out none (fun _ => rfl) (fun ad h => by cases h); simpa using this)
          have hac : a = 0 ∨ (0 : Int) < (a : Int) := by omega
          clear CX9 Hbq Hqi Hqs hqc Hnone
          rcases hac with rfl | hac
          all_goals (
            go_wp2_with (first
              | (go_at_call 41; (with_reducible refine CB9.out.mono ?_); rintro r w' ⟨rfl, rfl⟩)
              | (go_at_call 42; (with_reducible refine C8.out.mono ?_); rintro r w9 ⟨rfl, hb⟩; have G9 := Lib.hid hb; clear hb))
            all_goals (
              go_ret2
              have F1 : Recs w9 w.heap.size (.slice Ao k co) vs T.1 := by rw [← HBw.out]; exact Hf.out.1.below G9.out
              have F2 : Hid (vs.length ≤ 2147483648) := Lib.hid (by rw [Hvs.out, ← HM31.out]; exact Hk31.out)
              have F3 := Hlow.out _ ((HB1l.out _ Hbw.out).2.2.trans (G9.out.mono (HBl.out _ (HB1l.out _ Hbw.out).2.2)))
              have F0 := congrArg (fun z => Ending.returned (.tuple #[.slice Ao k co, .int .i64 z])) Hf.out.2
              first | exact ⟨.slice Ao k co, vs, F0, F1, F2, F3⟩ | exact ⟨.slice Ao k co, F0, vs, F1, F2, F3⟩))
        | some ad =>
          have C8 : Hid (Calls Tryd.prog 42 #[.slice (if cs = q then some ad else some (ad.add q)) (sl - q) (cs - q), .int .i64 ei, .int .i64 kz] wr fun r w' => r = .returned (.int .i64 0) ∧ Below wr.heap.size wr w') := Lib.hid (CX9.out _ (fun h => by cases h) (fun ad2 h => by cases h; rfl))
          clear CX9 Hbq
          rcases Hqi.out with ⟨rfl, hlt⟩ | ⟨rfl, hlt⟩
          all_goals clear Hqi
          · go_wp2_with (first
              | (go_at_call 41; (with_reducible refine CB9.out.mono ?_); rintro r w' ⟨rfl, rfl⟩)
              | (go_at_call 42; (with_reducible refine C8.out.mono ?_); rintro r w9 ⟨rfl, hb⟩; have G9 := Lib.hid hb; clear hb))
            all_goals (
              go_ret2
              have F1 : Recs w9 w.heap.size (.slice Ao k co) vs T.1 := by rw [← HBw.out]; exact Hf.out.1.below G9.out
              have F2 : Hid (vs.length ≤ 2147483648) := Lib.hid (by rw [Hvs.out, ← HM31.out]; exact Hk31.out)
              have F3 := Hlow.out _ ((HB1l.out _ Hbw.out).2.2.trans (G9.out.mono (HBl.out _ (HB1l.out _ Hbw.out).2.2)))
              have F0 := congrArg (fun z => Ending.returned (.tuple #[.slice Ao k co, .int .i64 z])) Hf.out.2
              first | exact ⟨.slice Ao k co, vs, F0, F1, F2, F3⟩ | exact ⟨.slice Ao k co, F0, vs, F1, F2, F3⟩)
          · simp only [Nat.sub_self] at C8
            go_wp2_with (first
              | (go_at_call 41; (with_reducible refine CB9.out.mono ?_); rintro r w' ⟨rfl, rfl⟩)
              | (go_at_call 42; (with_reducible refine C8.out.mono ?_); rintro r w9 ⟨rfl, hb⟩; have G9 := Lib.hid hb; clear hb))
            all_goals (
              go_ret2
              have F1 : Recs w9 w.heap.size (.slice Ao k co) vs T.1 := by rw [← HBw.out]; exact Hf.out.1.below G9.out
              have F2 : Hid (vs.length ≤ 2147483648) := Lib.hid (by rw [Hvs.out, ← HM31.out]; exact Hk31.out)
              have F3 := Hlow.out _ ((HB1l.out _ Hbw.out).2.2.trans (G9.out.mono (HBl.out _ (HB1l.out _ Hbw.out).2.2)))
              have F0 := congrArg (fun z => Ending.returned (.tuple #[.slice Ao k co, .int .i64 z])) Hf.out.2
              first | exact ⟨.slice Ao k co, vs, F0, F1, F2, F3⟩ | exact ⟨.slice Ao k co, F0, vs, F1, F2, F3⟩)
      · have hcs := nextOf_cases (S.drop a) e k
        obtain ⟨N, hN⟩ : ∃ N, N = nextOf (S.drop a) e k := ⟨_, rfl⟩
        rw [List.length_drop, ← Hsl.out, ← hN] at hcs
        rw [← hN] at hN0
        have hN2 : 20 ≤ N ∧ N ≤ sl - a ∧ N ≤ 268435476 := by omega
        obtain ⟨ad, _, rfl, -, -⟩ := hb1.get (k := a) (by omega)
        have C8 : Hid (Calls Tryd.prog 42 #[.slice (some (ad.add a)) (sl - a) (cs - a), .int .i64 ei, .int .i64 kz] wr fun r w' => r = .returned (.int .i64 N) ∧ Below wr.heap.size wr w') := Lib.hid (by
          have h3 := hb1.sub a (sl - a) (by omega)
          rw [List.take_of_length_le (by rw [List.length_drop]; have := Hsl.out; omega)] at h3
          have := CX.out wr _ (sl - a) (cs - a) k (S.drop a) (KN.out _ (HB1l.out _ Hbw.out).2.2) h3 (by have := Hcs.out; omega) hk
          rw [← hN, hkz] at this
          exact this)
        obtain ⟨lo, hlo⟩ : ∃ lo, lo = a + 20 := ⟨_, rfl⟩
        obtain ⟨hi, hhi⟩ : ∃ hi, hi = a + N := ⟨_, rfl⟩
        obtain ⟨R, hR⟩ : ∃ R, R = (S.drop lo).take (hi - lo) := ⟨_, rfl⟩
        have hRl : R.length = hi - lo := by rw [hR, List.length_take, List.length_drop]; have := Hsl.out; omega
        have HRl := Lib.hid hRl
        have HT3 : Hid ((ls ++ [R]) ++ (scanFrom S e hi (k + 1)).1 = T.1 ∧ (scanFrom S e hi (k + 1)).2 = T.2) := Lib.hid (by
          have h1 := HT1.out
          have h2 := HT2.out
          have hyes := scanFrom_yes (s := S) (e := e) (E := E) (c := k) (by rw [← ha, ← hN]; exact hN0)
          rw [← ha, ← hN, ← hhi, ← hlo, show N - 20 = hi - lo by omega, ← hR] at hyes
          rw [hyes] at h1 h2
          rw [List.append_assoc]
          exact ⟨h1, h2⟩)
        have Hsrc : Hid (¬ cs = lo → ∀ wx, Below wr.heap.size wr wx → Bs wx (some (ad.add lo)) (hi - lo) R) := Lib.hid (fun _ wx hx => by
          rw [hR]; exact (hb1.sub lo (hi - lo) (by omega)).below hx)
        have Hnil : Hid (cs = lo → hi - lo = 0 ∧ R = []) := Lib.hid (fun h => by
          have h0 : hi - lo = 0 := by have := Hcs.out; omega
          exact ⟨h0, by rw [hR, h0, List.take_zero]⟩)
        have h01 : (a : Int) + 20 = (lo : Int) := by omega
        have h02 : (a : Int) + (N : Int) = (hi : Int) := by omega
        have h03 : (lo : Int) ≤ (hi : Int) := by omega
        have h04 : (hi : Int) ≤ (cs : Int) := by have := Hcs.out; omega
        have h05 : ¬ (sl : Int) < (a : Int) := by omega
        have h06 : ¬ cs = a := by have := Hcs.out; omega
        have h07 : ¬ N = 0 := hN0
        have h08 : (a : Int) ≤ (cs : Int) := by have := Hcs.out; omega
        have h09 : (hi : Int) ≤ 140737488355328 := by omega
        have H10 : Hid (hi - lo ≤ 268435456) := Lib.hid (by omega)
        have H11 : Hid (hi ≤ sl ∧ E < hi ∧ k + 1 ≤ M31) := Lib.hid (by have := HM31.out; omega)
        have Hr1 : Hid (0 + (hi - lo) ≤ 140737488355328) := Lib.hid (by omega)
        have Hc1 : Hid (k + 1 ≤ maxLen) := Lib.hid (by simp only [maxLen]; omega)
        have Hc2 : Hid ((k + 1) * 24 ≤ 140737488355328) := Lib.hid (by omega)
        have HB1w : Hid (B1 ≤ wr.heap.size) := Lib.hid (HB1l.out _ Hbw.out).1
        clear hN0 hN hN2 hcs hfin hb1 haE hk31 hEs hvs hco ha hsl47 CX CB hk hlo hhi hR hRl Hnone Hbs Hb1 HT1 HT2
        have step (Ax : Option Addr) (h : ∀ wx, Below wr.heap.size wr wx → Bs wx Ax (hi - lo) R) : Hid (∀ wx, Below wr.heap.size wr wx → Bs wx Ax (hi - lo) R) := Lib.hid h
        by_cases hcl : cs = lo
        · have Hsrc2 := step (some ad) (fun wx _ => by rw [(Hnil.out hcl).1, (Hnil.out hcl).2]; exact Bs.nil _ _)
          clear Hsrc Hnil step
          subst hcl
          go_wp2_with (first
            | (go_at_call 41; (with_reducible refine CB9.out.mono ?_); rintro r w' ⟨rfl, rfl⟩)
            | (go_at_call 42; (with_reducible refine C8.out.mono ?_); rintro r w9 ⟨rfl, hb⟩; have G9 := Lib.hid hb; clear hb)
            | (at_builtin; refine wpList_append_bytes rfl _ _ 22 rfl w9.heap.size 5 (.int .u8 0) Tryd.underlying22 Hinfo8.out rfl (.slice none 0 0) 0 (bs []) rfl (World.ownsRow_nil _ _ _ _) _ (hi - cs) _ R rfl (Hsrc2.out _ G9.out) Hr1.out (Nat.le_refl _) ?_; intro va w10 ho hg hla; rw [Nat.zero_add] at ho; obtain ⟨Av, cv, hva, -⟩ := own_slice ho; subst hva; have G10 : Hid (Below w9.heap.size w9 w10) := Lib.hid ((Below.refl _ _).grown hg (Nat.le_refl _) (fun i hi => by cases hi)); have X10 := Lib.hid ho; have O10 := Lib.hid (own_below (own_below Hrec.out.outer G9.out) G10.out); have HB10 : Hid (B1 ≤ w10.heap.size) := Lib.hid (Nat.le_trans HB1w.out (Nat.le_trans G9.out.size G10.out.size)); rw [Hvs.out] at O10; clear ho hg hla)
            | (at_builtin; refine wpList_append_one rfl _ _ 30 rfl B1 22 (.slice none 0 0) 24 Tryd.underlying30 Hinfo.out rfl (.slice Ao k co) k vs (.slice Av (hi - cs) cv) rfl O10.out rfl rfl Hc1.out Hc2.out HB10.out ?_; intro vb w11 ho hg hla; have R11 : Hid (Recs w11 B1 vb (vs ++ [.slice Av (hi - cs) cv]) (ls ++ [R])) := Lib.hid ((Hrec.out.below G9.out).push (Nat.le_trans HB1w.out G9.out.size) G10.out (by rw [HRl.out]; exact X10.out) (by rw [Hvs.out]; exact ho) hg hla); have G11 : Hid (Below B1 w1 w11) := Lib.hid ((Hbw.out.trans (((G9.out.mono HB1w.out)).trans (G10.out.mono (Nat.le_trans HB1w.out G9.out.size)))).grown hg HB10.out (fun i hi => (O10.out.lt i hi).1)); obtain ⟨Ab, cb, hvb, -⟩ := own_slice ho; subst hvb; clear ho hg hla))
          go_roundw
          case rel => exact ⟨_, _, hi, k + 1, Ab, cb, rfl, by rw [List.length_append, Hvs.out]; rfl, rfl, R11.out, HT3.out.1, HT3.out.2, H11.out.1, H11.out.2.2, G11.out⟩
          case measure => have := H11.out; simp [intOf]; omega
        · have Hsrc2 := step (some (ad.add lo)) (Hsrc.out hcl)
          clear Hsrc Hnil step
          go_wp2_with (first
            | (go_at_call 41; (with_reducible refine CB9.out.mono ?_); rintro r w' ⟨rfl, rfl⟩)
            | (go_at_call 42; (with_reducible refine C8.out.mono ?_); rintro r w9 ⟨rfl, hb⟩; have G9 := Lib.hid hb; clear hb)
            | (at_builtin; refine wpList_append_bytes rfl _ _ 22 rfl w9.heap.size 5 (.int .u8 0) Tryd.underlying22 Hinfo8.out rfl (.slice none 0 0) 0 (bs []) rfl (World.ownsRow_nil _ _ _ _) _ (hi - lo) _ R rfl (Hsrc2.out _ G9.out) Hr1.out (Nat.le_refl _) ?_; intro va w10 ho hg hla; rw [Nat.zero_add] at ho; obtain ⟨Av, cv, hva, -⟩ := own_slice ho; subst hva; have G10 : Hid (Below w9.heap.size w9 w10) := Lib.hid ((Below.refl _ _).grown hg (Nat.le_refl _) (fun i hi => by cases hi)); have X10 := Lib.hid ho; have O10 := Lib.hid (own_below (own_below Hrec.out.outer G9.out) G10.out); have HB10 : Hid (B1 ≤ w10.heap.size) := Lib.hid (Nat.le_trans HB1w.out (Nat.le_trans G9.out.size G10.out.size)); rw [Hvs.out] at O10; clear ho hg hla)
            | (at_builtin; refine wpList_append_one rfl _ _ 30 rfl B1 22 (.slice none 0 0) 24 Tryd.underlying30 Hinfo.out rfl (.slice Ao k co) k vs (.slice Av (hi - lo) cv) rfl O10.out rfl rfl Hc1.out Hc2.out HB10.out ?_; intro vb w11 ho hg hla; have R11 : Hid (Recs w11 B1 vb (vs ++ [.slice Av (hi - lo) cv]) (ls ++ [R])) := Lib.hid ((Hrec.out.below G9.out).push (Nat.le_trans HB1w.out G9.out.size) G10.out (by rw [HRl.out]; exact X10.out) (by rw [Hvs.out]; exact ho) hg hla); have G11 : Hid (Below B1 w1 w11) := Lib.hid ((Hbw.out.trans (((G9.out.mono HB1w.out)).trans (G10.out.mono (Nat.le_trans HB1w.out G9.out.size)))).grown hg HB10.out (fun i hi => (O10.out.lt i hi).1)); obtain ⟨Ab, cb, hvb, -⟩ := own_slice ho; subst hvb; clear ho hg hla))
          go_roundw
          case rel => exact ⟨_, _, hi, k + 1, Ab, cb, rfl, by rw [List.length_append, Hvs.out]; rfl, rfl, R11.out, HT3.out.1, HT3.out.2, H11.out.1, H11.out.2.2, G11.out⟩
          case measure => have := H11.out; simp [intOf]; omega
    · obtain ⟨kz, hkz⟩ : ∃ z : Int, (k : Int) = z := ⟨_, rfl⟩
      have hki : ¬ kz < 2147483648 := by omega
      have Hf := Lib.hid (hfin.out (by
        rw [nextOf, if_neg (fun h => hk h.2.2.2.1)]))
      clear hfin hk hk31 hEs hvs hco CX CB
      go_wp2_with fail
      go_ret2
      have F1 : Recs wr w.heap.size (.slice Ao k co) vs T.1 := by rw [← HBw.out]; exact Hf.out.1
      have F2 : Hid (vs.length ≤ 2147483648) := Lib.hid (by rw [Hvs.out, ← HM31.out]; exact Hk31.out)
      have F3 := Hlow.out _ (HB1l.out _ Hbw.out).2.2
      have F0 := congrArg (fun z => Ending.returned (.tuple #[.slice Ao k co, .int .i64 z])) Hf.out.2
      first | exact ⟨.slice Ao k co, vs, F0, F1, F2, F3⟩ | exact ⟨.slice Ao k co, F0, vs, F1, F2, F3⟩

end Go.Proofs.YtaaimonnpmfnlaaDoor
