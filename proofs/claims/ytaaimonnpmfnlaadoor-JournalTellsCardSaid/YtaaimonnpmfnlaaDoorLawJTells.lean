/-
  THE WALK of coffretlaw15.JournalTells.
-/
import Derived.Test.YtaaimonnpmfnlaaDoorJTell
namespace Go.Proofs.YtaaimonnpmfnlaaDoor
open Go.RowKit
set_option maxRecDepth 100000
set_option linter.unusedVariables false

theorem tell_any (A : Option Addr) (n c : Nat) (z : Int) (l : List UInt8) (k : Nat) (w : World) (hN : Nib w) (hb : Bs w A n l) (hc : n ≤ c) (hn : n ≤ 140737488355328) (hk : (scanZ l z).1.length = k) :
    Calls Tryd.prog 15 #[.slice A n c, .int .i64 z] w fun r w' => ∃ A' c' E, r = .returned (.tuple #[.slice A' k c', .int .i64 E]) ∧ Below w.heap.size w w' := by
  refine (scan_any A n c z l w hN hb hc hn).mono ?_
  rintro r w' ⟨v, vs, rfl, hr, _, hb2⟩
  obtain ⟨A1, c1, rfl, _, _⟩ := hr.rows
  have hl : vs.length = k := by rw [← hr.len]; exact hk
  rw [hl]
  exact ⟨A1, c1, _, rfl, hb2⟩

set_option maxHeartbeats 4000000 in
theorem journalTells_pos (e0 : Nat) (A : Option Addr) (n c : Nat) (at0 oz : Int) (x0 x1 x2 x3 : UInt8) (l : List UInt8) (w : World) (hN : Nib w) (h : Bs w A n l) (h1 : 1 ≤ e0) (h2 : e0 ≤ 1099511627776) (h4 : n ≤ 268435456) (ha0 : 0 ≤ at0) (ha : at0 ≤ 9223372036854775807) (hoz : oz ≤ 9223372036854775807) :
    Calls Tryd.prog 5 #[.int .i64 e0, .slice A n c, .int .i64 at0, .agg #[.int .u8 (ub x0), .int .u8 (ub x1), .int .u8 (ub x2), .int .u8 (ub x3)], .int .i64 oz] w fun e w' => e = .returned (.bool true) ∧ Below w.heap.size w w' := by
  obtain ⟨M, hM⟩ : ∃ M, M = 20 + n := ⟨_, rfl⟩
  obtain ⟨D, hD⟩ : ∃ D, D = 12 + n := ⟨_, rfl⟩
  obtain ⟨N, hNN⟩ : ∃ N, N = 16 + n := ⟨_, rfl⟩
  obtain ⟨k, hk⟩ : ∃ k : Nat, at0 % (D : Int) = k := ⟨(at0 % (D : Int)).toNat, by have := Int.emod_nonneg at0 (show (D : Int) ≠ 0 by omega); omega⟩
  have hkD : k < D := by have := Int.emod_lt_of_pos at0 (show (0 : Int) < (D : Int) by omega); omega
  obtain ⟨fr, hfr⟩ : ∃ fr, fr = 4 + k := ⟨_, rfl⟩
  have hz : ((D : Int) == 0) = false := by simp; omega
  have i1 : (M : Int) - 8 = (D : Int) := by omega
  have i2 : (M : Int) - 4 = (N : Int) := by omega
  have i3 : (4 : Int) + (k : Int) = (fr : Int) := by omega
  have i4 : ¬ (M : Int) < 20 := by omega
  have i5 : (M : Int) ≤ 268435476 := by omega
  have i6 : (k : Int) ≤ 268435476 := by omega
  have i7 : (fr : Int) ≤ (N : Int) := by omega
  have i8 : (N : Int) ≤ (M : Int) := by omega
  have Hfr : Hid (4 ≤ fr ∧ fr ≤ N ∧ N = 16 + n ∧ M = N + 4) := Lib.hid (by omega)
  have Hinfo := Lib.hid info_u8
  have HN := Lib.hid hN
  obtain ⟨xs, hxs⟩ : ∃ xs : List UInt8, xs = [x0, x1, x2, x3] := ⟨_, rfl⟩
  have X4 : Hid (xs.length = 4) := Lib.hid (by rw [hxs]; rfl)
  obtain ⟨w0, hw0⟩ : ∃ w0, w0 = w.alloc (Obj.cells #[Value.int IntKind.u8 (ub x0), Value.int IntKind.u8 (ub x1), Value.int IntKind.u8 (ub x2), Value.int IntKind.u8 (ub x3)] 36) := ⟨_, rfl⟩
  obtain ⟨B, hB⟩ : ∃ B, B = w0.heap.size := ⟨_, rfl⟩
  obtain ⟨q, hq⟩ : ∃ q, q = w.heap.size := ⟨_, rfl⟩
  have hBq : B = q + 1 := by rw [hB, hw0, hq]; simp
  have h0 : Bs w0 A n l := by rw [hw0]; exact h.below ((Below.refl _ _).alloc (Nat.le_refl _) _)
  have HN0 : Hid (Nib w0) := Lib.hid (by rw [hw0]; exact HN.out.alloc _)
  have HX0 : w0.heap[q]? = some (.cells (bs xs ++ []).toArray 36 (0, 0)) := by rw [hw0, hq, heap_alloc_new, hxs]; rfl
  have HBl : Hid (∀ wx, Below B w0 wx → B ≤ wx.heap.size) := Lib.hid (fun wx h => by rw [hB]; exact h.size)
  have Hup : Hid (∀ wx, Below w0.heap.size w0 wx → Below B w0 wx) := Lib.hid (fun wx h => by rw [hB]; exact h)
  have Hlow : Hid (∀ wx, Below B w0 wx → Below w.heap.size w wx) := Lib.hid (fun wx h => by
    have h1 : Below w.heap.size w w0 := by rw [hw0]; exact (Below.refl _ _).alloc (Nat.le_refl _) _
    exact h1.trans (h.mono (by rw [← hq, hBq]; omega)))
  have K1 : Hid (∀ wx, Below B w0 wx → Bs wx A n l) := Lib.hid (fun wx h => h0.below (by rw [← hB]; exact h))
  have KN : Hid (∀ wx, Below B w0 wx → Nib wx) := Lib.hid (fun wx h => HN0.out.below (by rw [← hB]; exact h))
  have KX : Hid (∀ wx, Below B w0 wx → wx.heap[q]? = some (.cells (bs xs ++ []).toArray 36 (0, 0))) := Lib.hid (fun wx h => by rw [h.block q (by omega)]; exact HX0)
  have Hw0 := Lib.hid hw0
  have Hq := Lib.hid hq
  obtain ⟨ez, hez⟩ : ∃ z : Int, z = (e0 : Int) := ⟨_, rfl⟩
  have hl := h.len
  have hb28 : l.length ≤ 268435456 := by omega
  obtain ⟨F, hF⟩ : ∃ F, F = frameOf e0 0 l := ⟨_, rfl⟩
  obtain ⟨G, hG⟩ : ∃ G, G = frameOf e0 1 l := ⟨_, rfl⟩
  have HGl : Hid (G.length = M) := Lib.hid (by rw [hG, frameOf_length, hl, hM])
  have HFl : Hid (F.length = M) := Lib.hid (by rw [hF, frameOf_length, hl, hM])
  have C0 : Hid (∀ wx, Below B w0 wx → Calls Tryd.prog 11 #[.int .i64 ez, .int .i64 0, .slice A n c] wx fun r w' => ∃ v, r = .returned (.tuple #[v, .int .i64 0]) ∧ w'.ownsRow wx.heap.size 5 1 v M (bs F) ∧ Below wx.heap.size wx w') := Lib.hid (fun wx hb => by
    rw [hez, hF, hM]; exact frame_ok e0 0 n c A l wx (KN.out _ hb) (K1.out _ hb) h1 h2 (by omega) h4)
  have C1 : Hid (∀ wx, Below B w0 wx → Calls Tryd.prog 11 #[.int .i64 ez, .int .i64 1, .slice A n c] wx fun r w' => ∃ v, r = .returned (.tuple #[v, .int .i64 0]) ∧ w'.ownsRow wx.heap.size 5 1 v M (bs G) ∧ Below wx.heap.size wx w') := Lib.hid (fun wx hb => by
    rw [hez, hG, hM]; exact frame_ok e0 1 n c A l wx (KN.out _ hb) (K1.out _ hb) h1 h2 (by omega) h4)
  have CP : Hid (∀ wx Ax cx z Y, z ≤ 9223372036854775807 → Bs wx Ax M Y → M ≤ cx → Calls Tryd.prog 18 #[.int .i64 z, .slice Ax M cx] wx fun r w' => ∃ As cs, r = .returned (.slice As (stampedL (stampOf z) Y).length cs) ∧ (stampedL (stampOf z) Y).length ≤ cs ∧ Bs w' As (stampedL (stampOf z) Y).length (stampedL (stampOf z) Y) ∧ Below wx.heap.size wx w') := Lib.hid (fun wx Ax cx z Y hz hb hc => by
    refine (stamped_any Ax M cx z Y wx hb hc hz (by omega)).mono ?_
    rintro r w' ⟨v, rfl, ho, hb2⟩
    obtain ⟨As, cs, rfl, hcs, hbs, _⟩ := own_addr ho
    exact ⟨As, cs, rfl, hcs, hbs, hb2⟩)
  have CS : Hid (∀ wx As cs z z' Y k, Below B w0 wx → Y.length = M → Bs wx As (stampedL (stampOf z) Y).length (stampedL (stampOf z) Y) → (stampedL (stampOf z) Y).length ≤ cs → (scanZ (stampedL (stampOf z) Y) z').1.length = k → Calls Tryd.prog 15 #[.slice As (stampedL (stampOf z) Y).length cs, .int .i64 z'] wx fun r w' => ∃ A' c' E, r = .returned (.tuple #[.slice A' k c', .int .i64 E]) ∧ Below wx.heap.size wx w') := Lib.hid (fun wx As cs z z' Y k hb hY hbs hcs hk =>
    tell_any As _ cs z' _ k wx (KN.out _ hb) hbs hcs (by
      have := (stampedL_length (stampOf z) (stampOf_length z) Y.length Y (Nat.le_refl _)).1
      omega) hk)
  obtain ⟨kA, hkA⟩ : ∃ kA : Nat, kA = if oz = ez then 1 else 0 := ⟨_, rfl⟩
  have T1 : Hid ((scanZ (stampedL (stampOf ez) F) oz).1.length = kA) := Lib.hid (by rw [hez, hF, hkA, hez]; exact tell_scan e0 l oz h1 h2 hb28)
  have T2 : Hid ((scanZ (stampedL (stampOf ez) G) ez).1.length = 0) := Lib.hid (by rw [hez, hG]; exact tell_number e0 l h1 h2)
  have T3 : Hid ((scanZ (stampedL (stampOf oz) F) oz).1.length = kA) := Lib.hid (by rw [hF, hkA, hez]; exact tell_epoch e0 l oz h1 h2 hb28)
  obtain ⟨MM, hMM⟩ : ∃ MM, MM = frM e0 0 l := ⟨_, rfl⟩
  obtain ⟨SS, hSS⟩ : ∃ SS, SS = frS e0 0 l := ⟨_, rfl⟩
  have HMM : Hid (MM.length = N) := Lib.hid (by rw [hMM, frM_length, hl, hNN])
  have HSS : Hid (SS.length = 4) := Lib.hid (by rw [hSS]; exact frS_length e0 0 l)
  have HFF : Hid (F = frT MM SS) := Lib.hid (by rw [hF, hMM, hSS, frT_frame])
  have T4 : Hid (∀ j, j ≤ 4 → fr + j ≤ N → (scanZ (stampedL (stampOf ez) (frT (tw MM fr xs j) SS)) ez).1.length = if (xs.take j).all (· == 0) = true then 1 else 0) := Lib.hid (fun j hj hfj => by
    rw [hez, hMM, hSS]; exact tell_turned e0 l fr xs j h1 h2 hb28 (by omega) (by omega) hj X4.out)
  have HTl : Hid (∀ j, j ≤ 4 → fr + j ≤ N → (frT (tw MM fr xs j) SS).length = M) := Lib.hid (fun j hj hfj => by
    have := HMM.out
    rw [frT_length _ _ HSS.out (by rw [tw_length _ _ _ _ (by omega) (by rw [X4.out]; omega)]; omega), tw_length _ _ _ _ (by omega) (by rw [X4.out]; omega)]; omega)
  have hkc : (oz = ez ∧ kA = 1) ∨ (¬ oz = ez ∧ kA = 0) := by
    by_cases ho : oz = ez
    · exact .inl ⟨ho, by rw [hkA, if_pos ho]⟩
    · exact .inr ⟨ho, by rw [hkA, if_neg ho]⟩
  have hezm : ez ≤ 9223372036854775807 := by omega
  have Hez := Lib.hid hezm
  have Hoz := Lib.hid hoz
  have HMz : Hid (¬ M = 0 ∧ M ≤ 9223372036854775807) := Lib.hid (by omega)
  rw [← hez]
  clear hN h hB hBq h0 HX0 hw0 h1 h2 h4 hez hF hG hxs hq hl hb28 hkA hM hD hNN hkD hfr hMM hSS hezm hoz
  have hkcase : Hid ((oz = ez ∧ kA = 1) ∨ (¬ oz = ez ∧ kA = 0)) := Lib.hid hkc
  have hb1 : ((kA : Int) == 1) = (oz == ez) := by
    rcases hkc with ⟨h1, h2⟩ | ⟨h1, h2⟩
    · rw [h1, h2]; simp
    · rw [h2]; simp; exact h1
  clear hkc
  go_enter Tryd.func5, Tryd.ntmps5
  go_wp2_with (first
    | (go_at_call 9; rw [← Hw0.out]; refine (awake15 _ HN0.out).mono ?_; rintro e w1 ⟨rfl, hb⟩; have G1 := Lib.hid (Hup.out _ hb); clear hb)
    | (go_at_call 11; (with_reducible refine (C0.out w1 G1.out).mono ?_); rintro r w2 ⟨v, rfl, ho, hb⟩; have G2 : Hid (Below B w0 w2) := Lib.hid (G1.out.trans (hb.mono (HBl.out _ G1.out))); obtain ⟨gf, cf, rf, rfl, hgb, hgc, hcf, -, -⟩ := own_row_full ho HMz.out.1; have Hgb : Hid (B ≤ gf) := Lib.hid (Nat.le_trans (HBl.out _ G1.out) hgb); have Hg2 := Lib.hid hgc; have Hcf := Lib.hid hcf; have B2 := Lib.hid (bs_row hgc HFl.out HMz.out.2); clear ho hb hgb hgc hcf C0)
    | (go_at_call 18; (with_reducible refine (CP.out w2 _ cf ez F Hez.out B2.out Hcf.out).mono ?_); rintro r w3 ⟨As, cs, rfl, hcs, hbs, hb⟩; have G3 : Hid (Below B w0 w3) := Lib.hid (G2.out.trans (hb.mono (HBl.out _ G2.out))); have S3 := Lib.hid hbs; have Hcs3 := Lib.hid hcs; have E3 := Lib.hid hb; clear hcs hbs hb)
    | (go_at_call 15; (with_reducible refine (CS.out w3 As cs ez oz F kA G3.out HFl.out S3.out Hcs3.out T1.out).mono ?_); rintro r w4 ⟨A4, c4, E4, rfl, hb⟩; have G4 : Hid (Below B w0 w4) := Lib.hid (G3.out.trans (hb.mono (HBl.out _ G3.out))); have EE4 : Hid (Below w2.heap.size w2 w4) := Lib.hid (E3.out.trans (hb.mono E3.out.size)); clear hb)
    | (go_at_call 11; (with_reducible refine (C1.out w4 G4.out).mono ?_); rintro r w5 ⟨v, rfl, ho, hb⟩; have G5 : Hid (Below B w0 w5) := Lib.hid (G4.out.trans (hb.mono (HBl.out _ G4.out))); obtain ⟨Ag, cg, rfl, hcg, hbg, -⟩ := own_addr ho; have EE5 : Hid (Below w2.heap.size w2 w5) := Lib.hid (EE4.out.trans (hb.mono EE4.out.size)); have B5 := Lib.hid hbg; have Hcg := Lib.hid hcg; clear ho hb hcg hbg C1)
    | (go_at_call 18; (with_reducible refine (CP.out w5 _ cg ez G Hez.out B5.out Hcg.out).mono ?_); rintro r w6 ⟨As6, cs6, rfl, hcs, hbs, hb⟩; have G6 : Hid (Below B w0 w6) := Lib.hid (G5.out.trans (hb.mono (HBl.out _ G5.out))); have S6 := Lib.hid hbs; have Hcs6 := Lib.hid hcs; have EE6 : Hid (Below w2.heap.size w2 w6) := Lib.hid (EE5.out.trans (hb.mono EE5.out.size)); clear hcs hbs hb)
    | (go_at_call 15; (with_reducible refine (CS.out w6 As6 cs6 ez ez G 0 G6.out HGl.out S6.out Hcs6.out T2.out).mono ?_); rintro r w7 ⟨A7, c7, E7, rfl, hb⟩; have G7 : Hid (Below B w0 w7) := Lib.hid (G6.out.trans (hb.mono (HBl.out _ G6.out))); have EE7 : Hid (Below w2.heap.size w2 w7) := Lib.hid (EE6.out.trans (hb.mono EE6.out.size)); have B7 := Lib.hid (B2.out.below EE7.out); clear hb)
    | (go_at_call 18; (with_reducible refine (CP.out w7 _ cf oz F Hoz.out B7.out Hcf.out).mono ?_); rintro r w8 ⟨As8, cs8, rfl, hcs, hbs, hb⟩; have G8 : Hid (Below B w0 w8) := Lib.hid (G7.out.trans (hb.mono (HBl.out _ G7.out))); have S8 := Lib.hid hbs; have Hcs8 := Lib.hid hcs; have EE8 : Hid (Below w2.heap.size w2 w8) := Lib.hid (EE7.out.trans (hb.mono EE7.out.size)); clear hcs hbs hb)
    | (go_at_call 15; (with_reducible refine (CS.out w8 As8 cs8 oz oz F kA G8.out HFl.out S8.out Hcs8.out T3.out).mono ?_); rintro r w9 ⟨A9, c9, E9, rfl, hb⟩; have G9 : Hid (Below B w0 w9) := Lib.hid (G8.out.trans (hb.mono (HBl.out _ G8.out))); have EE9 : Hid (Below w2.heap.size w2 w9) := Lib.hid (EE8.out.trans (hb.mono EE8.out.size)); have Hg9 : Hid (w9.heap[gf]? = some (.cells (bs F ++ rf).toArray 5 (0, 0))) := Lib.hid (by rw [EE9.out.block gf (lt_block Hg2.out)]; exact Hg2.out); clear hb))
  have CP9 : Hid (∀ wx Ax Y, Bs wx Ax M Y → Calls Tryd.prog 18 #[.int .i64 ez, .slice Ax M cf] wx fun r w' => ∃ As cs, r = .returned (.slice As (stampedL (stampOf ez) Y).length cs) ∧ (stampedL (stampOf ez) Y).length ≤ cs ∧ Bs w' As (stampedL (stampOf ez) Y).length (stampedL (stampOf ez) Y) ∧ Below wx.heap.size wx w') := Lib.hid (fun wx Ax Y hb => CP.out wx Ax cf ez Y Hez.out hb Hcf.out)
  have CS9 : Hid (∀ wx As cs Y k, Below B w0 wx → Y.length = M → Bs wx As (stampedL (stampOf ez) Y).length (stampedL (stampOf ez) Y) → (stampedL (stampOf ez) Y).length ≤ cs → (scanZ (stampedL (stampOf ez) Y) ez).1.length = k → Calls Tryd.prog 15 #[.slice As (stampedL (stampOf ez) Y).length cs, .int .i64 ez] wx fun r w' => ∃ A' c' E, r = .returned (.tuple #[.slice A' k c', .int .i64 E]) ∧ Below wx.heap.size wx w') := Lib.hid (fun wx As cs Y k a1 a2 a3 a4 a5 => CS.out wx As cs ez ez Y k a1 a2 a3 a4 a5)
  clear Hinfo CS CP T1 T2 T3 B2 S3 Hcs3 E3 B5 Hcg S6 Hcs6 S8 Hcs8 B7 EE4 EE5 EE6 EE7 EE8 G3 G4 G5 G6 G7 G8 hkcase hb1 i1 i3 hk hz i6
  go_loopw [23, 24] (fun tu i wr => ∃ j : Nat, j ≤ 4 ∧ fr + j ≤ N ∧ i = .int .i64 j ∧ tu = .bool (!(xs.take j).all (· == 0)) ∧ wr.heap[gf]? = some (.cells (bs (frT (tw MM fr xs j) SS) ++ rf).toArray 5 (0, 0)) ∧ Below B w0 wr) (fun _ i _ => 4 - (intOf i).toNat)
  case atStart => exact ⟨0, by omega, Hfr.out.2.1, rfl, rfl, by rw [tw_zero, ← HFF.out]; exact Hg9.out, G9.out⟩
  case round =>
    obtain ⟨j, hj4, hjn, rfl, rfl, h1, h2⟩ := hrel
    have H1 := Lib.hid h1
    have H2 := Lib.hid h2
    have Hj4 := Lib.hid hj4
    have Hjn := Lib.hid hjn
    clear h1 h2
    have hl16 : 16 ≤ (tw MM fr xs j).length := by rw [tw_length _ _ _ _ (by rw [HMM.out]; exact hjn) (by rw [X4.out]; exact hj4), HMM.out]; have := Hfr.out; omega
    by_cases hin : j < 4 ∧ fr + j < N
    · obtain ⟨hj, hkj⟩ := hin
      have Hj := Lib.hid hj
      have Hkj := Lib.hid hkj
      obtain ⟨x, hx⟩ : ∃ x, xs[j]? = some x := ⟨_, List.getElem?_eq_getElem (by rw [X4.out]; exact hj)⟩
      obtain ⟨y, hy⟩ : ∃ y, MM[fr + j]? = some y := ⟨_, List.getElem?_eq_getElem (by rw [HMM.out]; exact hkj)⟩
      have hcy := bs_cell H1.out (frT_get HSS.out hl16 (tw_get (xs := xs) hy (by rw [X4.out]; omega)))
      have hcx := bs_cell (KX.out _ H2.out) hx
      rw [Hq.out] at hcx
      obtain ⟨b, hb⟩ : ∃ b, b = (xs.take j).all (· == 0) := ⟨_, rfl⟩
      have Hb := Lib.hid hb
      rw [← hb]
      have Hx := Lib.hid hx
      have Hy := Lib.hid hy
      have Hset := Lib.hid (set_block H1.out (if 16 ≤ fr + j then fr + j + 4 else fr + j) (.int .u8 (ub (y ^^^ x))))
      have hfr0 := free_block H1.out (if 16 ≤ fr + j then fr + j + 4 else fr + j)
      have Hbs := Lib.hid (bs_set (rest := rf) (l := frT (tw MM fr xs j) SS) (j := if 16 ≤ fr + j then fr + j + 4 else fr + j) (c := y ^^^ x) (by
        rw [frT_length _ _ HSS.out hl16, tw_length _ _ _ _ (by rw [HMM.out]; exact hjn) (by rw [X4.out]; exact hj4), HMM.out]
        split <;> omega))
      have Hfs := Lib.hid (frT_set (M := tw MM fr xs j) HSS.out hl16 (fr + j) (y ^^^ x))
      have hji : (j : Int) < 4 := by omega
      have hj0 : (0 : Int) ≤ (j : Int) := by omega
      have hkji : (fr : Int) + (j : Int) < (N : Int) := by omega
      have hkj0 : (0 : Int) ≤ (fr : Int) + (j : Int) := by omega
      have hfM : (fr : Int) + (j : Int) < (M : Int) := by have := Hfr.out; omega
      have hfM4 : (fr : Int) + (j : Int) + 4 < (M : Int) := by have := Hfr.out; omega
      have hfM5 : (0 : Int) ≤ (fr : Int) + (j : Int) + 4 := by omega
      by_cases h16 : 16 ≤ fr + j
      · rw [if_pos h16] at hcy hfr0
        have H16 := Lib.hid h16
        have h16i : (16 : Int) ≤ (fr : Int) + (j : Int) := by omega
        clear hx hy hb hj hkj hjn hj4 hl16 h16
        go_wp2_with fail
        go_region
        have R1 : Hid ((wr.setCell ⟨gf, fr + j + 4, none⟩ (.int .u8 (ub (y ^^^ x)))).drew.heap[gf]? = some (.cells (bs (frT (tw MM fr xs (j + 1)) SS) ++ rf).toArray 5 (0, 0))) := Lib.hid (by
          have := Hset.out
          rw [Hbs.out, Hfs.out, tw_set Hy.out Hx.out, if_pos H16.out] at this
          exact this)
        have R2 : Hid (Below B w0 (wr.setCell ⟨gf, fr + j + 4, none⟩ (.int .u8 (ub (y ^^^ x)))).drew) := Lib.hid ((H2.out.setCell Hgb.out _).drew)
        have R3 := bs_cell (KX.out _ R2.out) Hx.out
        rw [Hq.out] at R3
        have R4 : Hid ((xs.take (j + 1)).all (· == 0) = (b && (ub x == 0))) := Lib.hid (by
          rw [take_snoc Hx.out, List.all_append, ← Hb.out]
          congr 1
          simp only [List.all_cons, List.all_nil, Bool.and_true]
          rw [Bool.eq_iff_iff, beq_iff_eq, beq_iff_eq]
          exact ⟨fun h => by rw [h]; rfl, fun h => ub_inj (by rw [h]; rfl)⟩)
        clear hcy hcx hfr0 Hset Hb H1 H2 Hbs Hfs
        generalize (wr.setCell ⟨gf, fr + j + 4, none⟩ (.int .u8 (ub (y ^^^ x)))).drew = w10 at *
        cases b with
        | true =>
          go_wp2
          go_roundw
          case rel => exact ⟨j + 1, by have := Hj.out; omega, by have := Hkj.out; omega, by go_num, by rw [R4.out]; simp [bne], R1.out, R2.out⟩
          case measure => have := Hj.out; simp [intOf]; omega
        | false =>
          go_wp2
          go_roundw
          case rel => exact ⟨j + 1, by have := Hj.out; omega, by have := Hkj.out; omega, by go_num, by rw [R4.out]; rfl, R1.out, R2.out⟩
          case measure => have := Hj.out; simp [intOf]; omega
      · rw [if_neg h16] at hcy hfr0
        have H16 := Lib.hid h16
        have h16i : ¬ (16 : Int) ≤ (fr : Int) + (j : Int) := by omega
        clear hx hy hb hj hkj hjn hj4 hl16 h16
        go_wp2_with fail
        go_region
        have R1 : Hid ((wr.setCell ⟨gf, fr + j, none⟩ (.int .u8 (ub (y ^^^ x)))).drew.heap[gf]? = some (.cells (bs (frT (tw MM fr xs (j + 1)) SS) ++ rf).toArray 5 (0, 0))) := Lib.hid (by
          have := Hset.out
          rw [Hbs.out, Hfs.out, tw_set Hy.out Hx.out, if_neg H16.out] at this
          exact this)
        have R2 : Hid (Below B w0 (wr.setCell ⟨gf, fr + j, none⟩ (.int .u8 (ub (y ^^^ x)))).drew) := Lib.hid ((H2.out.setCell Hgb.out _).drew)
        have R3 := bs_cell (KX.out _ R2.out) Hx.out
        rw [Hq.out] at R3
        have R4 : Hid ((xs.take (j + 1)).all (· == 0) = (b && (ub x == 0))) := Lib.hid (by
          rw [take_snoc Hx.out, List.all_append, ← Hb.out]
          congr 1
          simp only [List.all_cons, List.all_nil, Bool.and_true]
          rw [Bool.eq_iff_iff, beq_iff_eq, beq_iff_eq]
          exact ⟨fun h => by rw [h]; rfl, fun h => ub_inj (by rw [h]; rfl)⟩)
        clear hcy hcx hfr0 Hset Hb H1 H2 Hbs Hfs
        generalize (wr.setCell ⟨gf, fr + j, none⟩ (.int .u8 (ub (y ^^^ x)))).drew = w10 at *
        cases b with
        | true =>
          go_wp2
          go_roundw
          case rel => exact ⟨j + 1, by have := Hj.out; omega, by have := Hkj.out; omega, by go_num, by rw [R4.out]; simp [bne], R1.out, R2.out⟩
          case measure => have := Hj.out; simp [intOf]; omega
        | false =>
          go_wp2
          go_roundw
          case rel => exact ⟨j + 1, by have := Hj.out; omega, by have := Hkj.out; omega, by go_num, by rw [R4.out]; rfl, R1.out, R2.out⟩
          case measure => have := Hj.out; simp [intOf]; omega
    · obtain ⟨Y, hY⟩ : ∃ Y, Y = frT (tw MM fr xs j) SS := ⟨_, rfl⟩
      obtain ⟨kk, hkk⟩ : ∃ kk : Nat, kk = if (xs.take j).all (· == 0) = true then 1 else 0 := ⟨_, rfl⟩
      have HYl : Hid (Y.length = M) := Lib.hid (by rw [hY]; exact HTl.out j hj4 hjn)
      have HTj : Hid ((scanZ (stampedL (stampOf ez) Y) ez).1.length = kk) := Lib.hid (by rw [hY, hkk]; exact T4.out j hj4 hjn)
      have HBY : Hid (Bs wr (some ⟨gf, 0, none⟩) M Y) := Lib.hid (bs_row (rest := rf) (by rw [hY]; exact H1.out) HYl.out HMz.out.2)
      obtain ⟨b, hb⟩ : ∃ b, b = (xs.take j).all (· == 0) := ⟨_, rfl⟩
      rw [← hb] at hkk ⊢
      have hkb : ((kk : Int) == 0) = !b := by rw [hkk]; cases b <;> simp
      have hkb2 : (kk == 0) = !b := by rw [hkk]; cases b <;> simp
      have C9 : Hid (Calls Tryd.prog 18 #[.int .i64 ez, .slice (some ⟨gf, 0, none⟩) M cf] wr fun r w' => ∃ As cs, r = .returned (.slice As (stampedL (stampOf ez) Y).length cs) ∧ (stampedL (stampOf ez) Y).length ≤ cs ∧ Bs w' As (stampedL (stampOf ez) Y).length (stampedL (stampOf ez) Y) ∧ Below wr.heap.size wr w') := Lib.hid (CP9.out wr _ Y HBY.out)
      have hj0 : (0 : Int) ≤ (j : Int) := by omega
      have hkj0 : (0 : Int) ≤ (fr : Int) + (j : Int) := by omega
      have hkjb : (fr : Int) + (j : Int) ≤ 300000000 := by omega
      have hcase : ¬ (j : Int) < 4 ∨ ((j : Int) < 4 ∧ ¬ (fr : Int) + (j : Int) < (N : Int)) := by omega
      clear hin hb hj4 hjn T4 hl16 hY hkk
      rcases hcase with hji | ⟨hji, hkji⟩
      all_goals (
        go_wp2_with (first
          | (go_at_call 18; (with_reducible refine C9.out.mono ?_); rintro r w10 ⟨As, cs, rfl, hcs, hbs, hb⟩; have G10 : Hid (Below B w0 w10) := Lib.hid (H2.out.trans (hb.mono (HBl.out _ H2.out))); have S10 := Lib.hid hbs; have Hcs10 := Lib.hid hcs; clear hcs hbs hb)
          | (go_at_call 15; (with_reducible refine (CS9.out w10 As cs Y kk G10.out HYl.out S10.out Hcs10.out HTj.out).mono ?_); rintro r w11 ⟨A11, c11, E11, rfl, hb⟩; have G11 : Hid (Below B w0 w11) := Lib.hid (G10.out.trans (hb.mono (HBl.out _ G10.out))); clear hb))
        go_ret
        exact ⟨by simp [hkb, hkb2], Hlow.out _ G11.out⟩)

set_option maxHeartbeats 4000000 in
theorem journalTells_neg (e0 : Nat) (A : Option Addr) (n c : Nat) (at0 oz : Int) (x0 x1 x2 x3 : UInt8) (l : List UInt8) (w : World) (hN : Nib w) (h : Bs w A n l) (h1 : 1 ≤ e0) (h2 : e0 ≤ 1099511627776) (h4 : n ≤ 268435456) (ha0 : at0 < 0) (ha : -9223372036854775808 ≤ at0) (hoz : oz ≤ 9223372036854775807) :
    Calls Tryd.prog 5 #[.int .i64 e0, .slice A n c, .int .i64 at0, .agg #[.int .u8 (ub x0), .int .u8 (ub x1), .int .u8 (ub x2), .int .u8 (ub x3)], .int .i64 oz] w fun e w' => e = .returned (.bool true) ∧ Below w.heap.size w w' := by
  obtain ⟨M, hM⟩ : ∃ M, M = 20 + n := ⟨_, rfl⟩
  obtain ⟨D, hD⟩ : ∃ D, D = 12 + n := ⟨_, rfl⟩
  obtain ⟨N, hNN⟩ : ∃ N, N = 16 + n := ⟨_, rfl⟩
  have hte : (-(at0 + 1)).tmod (D : Int) = (-(at0 + 1)) % (D : Int) := Int.tmod_eq_emod_of_nonneg (by omega)
  obtain ⟨k, hk⟩ : ∃ k : Nat, (-(at0 + 1)).tmod (D : Int) = k := ⟨((-(at0 + 1)) % (D : Int)).toNat, by have := Int.emod_nonneg (-(at0 + 1)) (show (D : Int) ≠ 0 by omega); omega⟩
  have hkD : k < D := by have := Int.emod_lt_of_pos (-(at0 + 1)) (show (0 : Int) < (D : Int) by omega); omega
  clear hte
  obtain ⟨fr, hfr⟩ : ∃ fr, fr = 4 + k := ⟨_, rfl⟩
  have hz : ((D : Int) == 0) = false := by simp; omega
  have i1 : (M : Int) - 8 = (D : Int) := by omega
  have i2 : (M : Int) - 4 = (N : Int) := by omega
  have i3 : (4 : Int) + (k : Int) = (fr : Int) := by omega
  have i4 : ¬ (M : Int) < 20 := by omega
  have i5 : (M : Int) ≤ 268435476 := by omega
  have i6 : (k : Int) ≤ 268435476 := by omega
  have i7 : (fr : Int) ≤ (N : Int) := by omega
  have i8 : (N : Int) ≤ (M : Int) := by omega
  have Hfr : Hid (4 ≤ fr ∧ fr ≤ N ∧ N = 16 + n ∧ M = N + 4) := Lib.hid (by omega)
  have Hinfo := Lib.hid info_u8
  have HN := Lib.hid hN
  obtain ⟨xs, hxs⟩ : ∃ xs : List UInt8, xs = [x0, x1, x2, x3] := ⟨_, rfl⟩
  have X4 : Hid (xs.length = 4) := Lib.hid (by rw [hxs]; rfl)
  obtain ⟨w0, hw0⟩ : ∃ w0, w0 = w.alloc (Obj.cells #[Value.int IntKind.u8 (ub x0), Value.int IntKind.u8 (ub x1), Value.int IntKind.u8 (ub x2), Value.int IntKind.u8 (ub x3)] 36) := ⟨_, rfl⟩
  obtain ⟨B, hB⟩ : ∃ B, B = w0.heap.size := ⟨_, rfl⟩
  obtain ⟨q, hq⟩ : ∃ q, q = w.heap.size := ⟨_, rfl⟩
  have hBq : B = q + 1 := by rw [hB, hw0, hq]; simp
  have h0 : Bs w0 A n l := by rw [hw0]; exact h.below ((Below.refl _ _).alloc (Nat.le_refl _) _)
  have HN0 : Hid (Nib w0) := Lib.hid (by rw [hw0]; exact HN.out.alloc _)
  have HX0 : w0.heap[q]? = some (.cells (bs xs ++ []).toArray 36 (0, 0)) := by rw [hw0, hq, heap_alloc_new, hxs]; rfl
  have HBl : Hid (∀ wx, Below B w0 wx → B ≤ wx.heap.size) := Lib.hid (fun wx h => by rw [hB]; exact h.size)
  have Hup : Hid (∀ wx, Below w0.heap.size w0 wx → Below B w0 wx) := Lib.hid (fun wx h => by rw [hB]; exact h)
  have Hlow : Hid (∀ wx, Below B w0 wx → Below w.heap.size w wx) := Lib.hid (fun wx h => by
    have h1 : Below w.heap.size w w0 := by rw [hw0]; exact (Below.refl _ _).alloc (Nat.le_refl _) _
    exact h1.trans (h.mono (by rw [← hq, hBq]; omega)))
  have K1 : Hid (∀ wx, Below B w0 wx → Bs wx A n l) := Lib.hid (fun wx h => h0.below (by rw [← hB]; exact h))
  have KN : Hid (∀ wx, Below B w0 wx → Nib wx) := Lib.hid (fun wx h => HN0.out.below (by rw [← hB]; exact h))
  have KX : Hid (∀ wx, Below B w0 wx → wx.heap[q]? = some (.cells (bs xs ++ []).toArray 36 (0, 0))) := Lib.hid (fun wx h => by rw [h.block q (by omega)]; exact HX0)
  have Hw0 := Lib.hid hw0
  have Hq := Lib.hid hq
  obtain ⟨ez, hez⟩ : ∃ z : Int, z = (e0 : Int) := ⟨_, rfl⟩
  have hl := h.len
  have hb28 : l.length ≤ 268435456 := by omega
  obtain ⟨F, hF⟩ : ∃ F, F = frameOf e0 0 l := ⟨_, rfl⟩
  obtain ⟨G, hG⟩ : ∃ G, G = frameOf e0 1 l := ⟨_, rfl⟩
  have HGl : Hid (G.length = M) := Lib.hid (by rw [hG, frameOf_length, hl, hM])
  have HFl : Hid (F.length = M) := Lib.hid (by rw [hF, frameOf_length, hl, hM])
  have C0 : Hid (∀ wx, Below B w0 wx → Calls Tryd.prog 11 #[.int .i64 ez, .int .i64 0, .slice A n c] wx fun r w' => ∃ v, r = .returned (.tuple #[v, .int .i64 0]) ∧ w'.ownsRow wx.heap.size 5 1 v M (bs F) ∧ Below wx.heap.size wx w') := Lib.hid (fun wx hb => by
    rw [hez, hF, hM]; exact frame_ok e0 0 n c A l wx (KN.out _ hb) (K1.out _ hb) h1 h2 (by omega) h4)
  have C1 : Hid (∀ wx, Below B w0 wx → Calls Tryd.prog 11 #[.int .i64 ez, .int .i64 1, .slice A n c] wx fun r w' => ∃ v, r = .returned (.tuple #[v, .int .i64 0]) ∧ w'.ownsRow wx.heap.size 5 1 v M (bs G) ∧ Below wx.heap.size wx w') := Lib.hid (fun wx hb => by
    rw [hez, hG, hM]; exact frame_ok e0 1 n c A l wx (KN.out _ hb) (K1.out _ hb) h1 h2 (by omega) h4)
  have CP : Hid (∀ wx Ax cx z Y, z ≤ 9223372036854775807 → Bs wx Ax M Y → M ≤ cx → Calls Tryd.prog 18 #[.int .i64 z, .slice Ax M cx] wx fun r w' => ∃ As cs, r = .returned (.slice As (stampedL (stampOf z) Y).length cs) ∧ (stampedL (stampOf z) Y).length ≤ cs ∧ Bs w' As (stampedL (stampOf z) Y).length (stampedL (stampOf z) Y) ∧ Below wx.heap.size wx w') := Lib.hid (fun wx Ax cx z Y hz hb hc => by
    refine (stamped_any Ax M cx z Y wx hb hc hz (by omega)).mono ?_
    rintro r w' ⟨v, rfl, ho, hb2⟩
    obtain ⟨As, cs, rfl, hcs, hbs, _⟩ := own_addr ho
    exact ⟨As, cs, rfl, hcs, hbs, hb2⟩)
  have CS : Hid (∀ wx As cs z z' Y k, Below B w0 wx → Y.length = M → Bs wx As (stampedL (stampOf z) Y).length (stampedL (stampOf z) Y) → (stampedL (stampOf z) Y).length ≤ cs → (scanZ (stampedL (stampOf z) Y) z').1.length = k → Calls Tryd.prog 15 #[.slice As (stampedL (stampOf z) Y).length cs, .int .i64 z'] wx fun r w' => ∃ A' c' E, r = .returned (.tuple #[.slice A' k c', .int .i64 E]) ∧ Below wx.heap.size wx w') := Lib.hid (fun wx As cs z z' Y k hb hY hbs hcs hk =>
    tell_any As _ cs z' _ k wx (KN.out _ hb) hbs hcs (by
      have := (stampedL_length (stampOf z) (stampOf_length z) Y.length Y (Nat.le_refl _)).1
      omega) hk)
  obtain ⟨kA, hkA⟩ : ∃ kA : Nat, kA = if oz = ez then 1 else 0 := ⟨_, rfl⟩
  have T1 : Hid ((scanZ (stampedL (stampOf ez) F) oz).1.length = kA) := Lib.hid (by rw [hez, hF, hkA, hez]; exact tell_scan e0 l oz h1 h2 hb28)
  have T2 : Hid ((scanZ (stampedL (stampOf ez) G) ez).1.length = 0) := Lib.hid (by rw [hez, hG]; exact tell_number e0 l h1 h2)
  have T3 : Hid ((scanZ (stampedL (stampOf oz) F) oz).1.length = kA) := Lib.hid (by rw [hF, hkA, hez]; exact tell_epoch e0 l oz h1 h2 hb28)
  obtain ⟨MM, hMM⟩ : ∃ MM, MM = frM e0 0 l := ⟨_, rfl⟩
  obtain ⟨SS, hSS⟩ : ∃ SS, SS = frS e0 0 l := ⟨_, rfl⟩
  have HMM : Hid (MM.length = N) := Lib.hid (by rw [hMM, frM_length, hl, hNN])
  have HSS : Hid (SS.length = 4) := Lib.hid (by rw [hSS]; exact frS_length e0 0 l)
  have HFF : Hid (F = frT MM SS) := Lib.hid (by rw [hF, hMM, hSS, frT_frame])
  have T4 : Hid (∀ j, j ≤ 4 → fr + j ≤ N → (scanZ (stampedL (stampOf ez) (frT (tw MM fr xs j) SS)) ez).1.length = if (xs.take j).all (· == 0) = true then 1 else 0) := Lib.hid (fun j hj hfj => by
    rw [hez, hMM, hSS]; exact tell_turned e0 l fr xs j h1 h2 hb28 (by omega) (by omega) hj X4.out)
  have HTl : Hid (∀ j, j ≤ 4 → fr + j ≤ N → (frT (tw MM fr xs j) SS).length = M) := Lib.hid (fun j hj hfj => by
    have := HMM.out
    rw [frT_length _ _ HSS.out (by rw [tw_length _ _ _ _ (by omega) (by rw [X4.out]; omega)]; omega), tw_length _ _ _ _ (by omega) (by rw [X4.out]; omega)]; omega)
  have hkc : (oz = ez ∧ kA = 1) ∨ (¬ oz = ez ∧ kA = 0) := by
    by_cases ho : oz = ez
    · exact .inl ⟨ho, by rw [hkA, if_pos ho]⟩
    · exact .inr ⟨ho, by rw [hkA, if_neg ho]⟩
  have hezm : ez ≤ 9223372036854775807 := by omega
  have Hez := Lib.hid hezm
  have Hoz := Lib.hid hoz
  have HMz : Hid (¬ M = 0 ∧ M ≤ 9223372036854775807) := Lib.hid (by omega)
  rw [← hez]
  clear hN h hB hBq h0 HX0 hw0 h1 h2 h4 hez hF hG hxs hq hl hb28 hkA hM hD hNN hkD hfr hMM hSS hezm hoz
  have hkcase : Hid ((oz = ez ∧ kA = 1) ∨ (¬ oz = ez ∧ kA = 0)) := Lib.hid hkc
  have hb1 : ((kA : Int) == 1) = (oz == ez) := by
    rcases hkc with ⟨h1, h2⟩ | ⟨h1, h2⟩
    · rw [h1, h2]; simp
    · rw [h2]; simp; exact h1
  clear hkc
  go_enter Tryd.func5, Tryd.ntmps5
  go_wp2_with (first
    | (go_at_call 9; rw [← Hw0.out]; refine (awake15 _ HN0.out).mono ?_; rintro e w1 ⟨rfl, hb⟩; have G1 := Lib.hid (Hup.out _ hb); clear hb)
    | (go_at_call 11; (with_reducible refine (C0.out w1 G1.out).mono ?_); rintro r w2 ⟨v, rfl, ho, hb⟩; have G2 : Hid (Below B w0 w2) := Lib.hid (G1.out.trans (hb.mono (HBl.out _ G1.out))); obtain ⟨gf, cf, rf, rfl, hgb, hgc, hcf, -, -⟩ := own_row_full ho HMz.out.1; have Hgb : Hid (B ≤ gf) := Lib.hid (Nat.le_trans (HBl.out _ G1.out) hgb); have Hg2 := Lib.hid hgc; have Hcf := Lib.hid hcf; have B2 := Lib.hid (bs_row hgc HFl.out HMz.out.2); clear ho hb hgb hgc hcf C0)
    | (go_at_call 18; (with_reducible refine (CP.out w2 _ cf ez F Hez.out B2.out Hcf.out).mono ?_); rintro r w3 ⟨As, cs, rfl, hcs, hbs, hb⟩; have G3 : Hid (Below B w0 w3) := Lib.hid (G2.out.trans (hb.mono (HBl.out _ G2.out))); have S3 := Lib.hid hbs; have Hcs3 := Lib.hid hcs; have E3 := Lib.hid hb; clear hcs hbs hb)
    | (go_at_call 15; (with_reducible refine (CS.out w3 As cs ez oz F kA G3.out HFl.out S3.out Hcs3.out T1.out).mono ?_); rintro r w4 ⟨A4, c4, E4, rfl, hb⟩; have G4 : Hid (Below B w0 w4) := Lib.hid (G3.out.trans (hb.mono (HBl.out _ G3.out))); have EE4 : Hid (Below w2.heap.size w2 w4) := Lib.hid (E3.out.trans (hb.mono E3.out.size)); clear hb)
    | (go_at_call 11; (with_reducible refine (C1.out w4 G4.out).mono ?_); rintro r w5 ⟨v, rfl, ho, hb⟩; have G5 : Hid (Below B w0 w5) := Lib.hid (G4.out.trans (hb.mono (HBl.out _ G4.out))); obtain ⟨Ag, cg, rfl, hcg, hbg, -⟩ := own_addr ho; have EE5 : Hid (Below w2.heap.size w2 w5) := Lib.hid (EE4.out.trans (hb.mono EE4.out.size)); have B5 := Lib.hid hbg; have Hcg := Lib.hid hcg; clear ho hb hcg hbg C1)
    | (go_at_call 18; (with_reducible refine (CP.out w5 _ cg ez G Hez.out B5.out Hcg.out).mono ?_); rintro r w6 ⟨As6, cs6, rfl, hcs, hbs, hb⟩; have G6 : Hid (Below B w0 w6) := Lib.hid (G5.out.trans (hb.mono (HBl.out _ G5.out))); have S6 := Lib.hid hbs; have Hcs6 := Lib.hid hcs; have EE6 : Hid (Below w2.heap.size w2 w6) := Lib.hid (EE5.out.trans (hb.mono EE5.out.size)); clear hcs hbs hb)
    | (go_at_call 15; (with_reducible refine (CS.out w6 As6 cs6 ez ez G 0 G6.out HGl.out S6.out Hcs6.out T2.out).mono ?_); rintro r w7 ⟨A7, c7, E7, rfl, hb⟩; have G7 : Hid (Below B w0 w7) := Lib.hid (G6.out.trans (hb.mono (HBl.out _ G6.out))); have EE7 : Hid (Below w2.heap.size w2 w7) := Lib.hid (EE6.out.trans (hb.mono EE6.out.size)); have B7 := Lib.hid (B2.out.below EE7.out); clear hb)
    | (go_at_call 18; (with_reducible refine (CP.out w7 _ cf oz F Hoz.out B7.out Hcf.out).mono ?_); rintro r w8 ⟨As8, cs8, rfl, hcs, hbs, hb⟩; have G8 : Hid (Below B w0 w8) := Lib.hid (G7.out.trans (hb.mono (HBl.out _ G7.out))); have S8 := Lib.hid hbs; have Hcs8 := Lib.hid hcs; have EE8 : Hid (Below w2.heap.size w2 w8) := Lib.hid (EE7.out.trans (hb.mono EE7.out.size)); clear hcs hbs hb)
    | (go_at_call 15; (with_reducible refine (CS.out w8 As8 cs8 oz oz F kA G8.out HFl.out S8.out Hcs8.out T3.out).mono ?_); rintro r w9 ⟨A9, c9, E9, rfl, hb⟩; have G9 : Hid (Below B w0 w9) := Lib.hid (G8.out.trans (hb.mono (HBl.out _ G8.out))); have EE9 : Hid (Below w2.heap.size w2 w9) := Lib.hid (EE8.out.trans (hb.mono EE8.out.size)); have Hg9 : Hid (w9.heap[gf]? = some (.cells (bs F ++ rf).toArray 5 (0, 0))) := Lib.hid (by rw [EE9.out.block gf (lt_block Hg2.out)]; exact Hg2.out); clear hb))
  have CP9 : Hid (∀ wx Ax Y, Bs wx Ax M Y → Calls Tryd.prog 18 #[.int .i64 ez, .slice Ax M cf] wx fun r w' => ∃ As cs, r = .returned (.slice As (stampedL (stampOf ez) Y).length cs) ∧ (stampedL (stampOf ez) Y).length ≤ cs ∧ Bs w' As (stampedL (stampOf ez) Y).length (stampedL (stampOf ez) Y) ∧ Below wx.heap.size wx w') := Lib.hid (fun wx Ax Y hb => CP.out wx Ax cf ez Y Hez.out hb Hcf.out)
  have CS9 : Hid (∀ wx As cs Y k, Below B w0 wx → Y.length = M → Bs wx As (stampedL (stampOf ez) Y).length (stampedL (stampOf ez) Y) → (stampedL (stampOf ez) Y).length ≤ cs → (scanZ (stampedL (stampOf ez) Y) ez).1.length = k → Calls Tryd.prog 15 #[.slice As (stampedL (stampOf ez) Y).length cs, .int .i64 ez] wx fun r w' => ∃ A' c' E, r = .returned (.tuple #[.slice A' k c', .int .i64 E]) ∧ Below wx.heap.size wx w') := Lib.hid (fun wx As cs Y k a1 a2 a3 a4 a5 => CS.out wx As cs ez ez Y k a1 a2 a3 a4 a5)
  clear Hinfo CS CP T1 T2 T3 B2 S3 Hcs3 E3 B5 Hcg S6 Hcs6 S8 Hcs8 B7 EE4 EE5 EE6 EE7 EE8 G3 G4 G5 G6 G7 G8 hkcase hb1 i1 i3 hk hz i6
  go_loopw [23, 24] (fun tu i wr => ∃ j : Nat, j ≤ 4 ∧ fr + j ≤ N ∧ i = .int .i64 j ∧ tu = .bool (!(xs.take j).all (· == 0)) ∧ wr.heap[gf]? = some (.cells (bs (frT (tw MM fr xs j) SS) ++ rf).toArray 5 (0, 0)) ∧ Below B w0 wr) (fun _ i _ => 4 - (intOf i).toNat)
  case atStart => exact ⟨0, by omega, Hfr.out.2.1, rfl, rfl, by rw [tw_zero, ← HFF.out]; exact Hg9.out, G9.out⟩
  case round =>
    obtain ⟨j, hj4, hjn, rfl, rfl, h1, h2⟩ := hrel
    have H1 := Lib.hid h1
    have H2 := Lib.hid h2
    have Hj4 := Lib.hid hj4
    have Hjn := Lib.hid hjn
    clear h1 h2
    have hl16 : 16 ≤ (tw MM fr xs j).length := by rw [tw_length _ _ _ _ (by rw [HMM.out]; exact hjn) (by rw [X4.out]; exact hj4), HMM.out]; have := Hfr.out; omega
    by_cases hin : j < 4 ∧ fr + j < N
    · obtain ⟨hj, hkj⟩ := hin
      have Hj := Lib.hid hj
      have Hkj := Lib.hid hkj
      obtain ⟨x, hx⟩ : ∃ x, xs[j]? = some x := ⟨_, List.getElem?_eq_getElem (by rw [X4.out]; exact hj)⟩
      obtain ⟨y, hy⟩ : ∃ y, MM[fr + j]? = some y := ⟨_, List.getElem?_eq_getElem (by rw [HMM.out]; exact hkj)⟩
      have hcy := bs_cell H1.out (frT_get HSS.out hl16 (tw_get (xs := xs) hy (by rw [X4.out]; omega)))
      have hcx := bs_cell (KX.out _ H2.out) hx
      rw [Hq.out] at hcx
      obtain ⟨b, hb⟩ : ∃ b, b = (xs.take j).all (· == 0) := ⟨_, rfl⟩
      have Hb := Lib.hid hb
      rw [← hb]
      have Hx := Lib.hid hx
      have Hy := Lib.hid hy
      have Hset := Lib.hid (set_block H1.out (if 16 ≤ fr + j then fr + j + 4 else fr + j) (.int .u8 (ub (y ^^^ x))))
      have hfr0 := free_block H1.out (if 16 ≤ fr + j then fr + j + 4 else fr + j)
      have Hbs := Lib.hid (bs_set (rest := rf) (l := frT (tw MM fr xs j) SS) (j := if 16 ≤ fr + j then fr + j + 4 else fr + j) (c := y ^^^ x) (by
        rw [frT_length _ _ HSS.out hl16, tw_length _ _ _ _ (by rw [HMM.out]; exact hjn) (by rw [X4.out]; exact hj4), HMM.out]
        split <;> omega))
      have Hfs := Lib.hid (frT_set (M := tw MM fr xs j) HSS.out hl16 (fr + j) (y ^^^ x))
      have hji : (j : Int) < 4 := by omega
      have hj0 : (0 : Int) ≤ (j : Int) := by omega
      have hkji : (fr : Int) + (j : Int) < (N : Int) := by omega
      have hkj0 : (0 : Int) ≤ (fr : Int) + (j : Int) := by omega
      have hfM : (fr : Int) + (j : Int) < (M : Int) := by have := Hfr.out; omega
      have hfM4 : (fr : Int) + (j : Int) + 4 < (M : Int) := by have := Hfr.out; omega
      have hfM5 : (0 : Int) ≤ (fr : Int) + (j : Int) + 4 := by omega
      by_cases h16 : 16 ≤ fr + j
      · rw [if_pos h16] at hcy hfr0
        have H16 := Lib.hid h16
        have h16i : (16 : Int) ≤ (fr : Int) + (j : Int) := by omega
        clear hx hy hb hj hkj hjn hj4 hl16 h16
        go_wp2_with fail
        go_region
        have R1 : Hid ((wr.setCell ⟨gf, fr + j + 4, none⟩ (.int .u8 (ub (y ^^^ x)))).drew.heap[gf]? = some (.cells (bs (frT (tw MM fr xs (j + 1)) SS) ++ rf).toArray 5 (0, 0))) := Lib.hid (by
          have := Hset.out
          rw [Hbs.out, Hfs.out, tw_set Hy.out Hx.out, if_pos H16.out] at this
          exact this)
        have R2 : Hid (Below B w0 (wr.setCell ⟨gf, fr + j + 4, none⟩ (.int .u8 (ub (y ^^^ x)))).drew) := Lib.hid ((H2.out.setCell Hgb.out _).drew)
        have R3 := bs_cell (KX.out _ R2.out) Hx.out
        rw [Hq.out] at R3
        have R4 : Hid ((xs.take (j + 1)).all (· == 0) = (b && (ub x == 0))) := Lib.hid (by
          rw [take_snoc Hx.out, List.all_append, ← Hb.out]
          congr 1
          simp only [List.all_cons, List.all_nil, Bool.and_true]
          rw [Bool.eq_iff_iff, beq_iff_eq, beq_iff_eq]
          exact ⟨fun h => by rw [h]; rfl, fun h => ub_inj (by rw [h]; rfl)⟩)
        clear hcy hcx hfr0 Hset Hb H1 H2 Hbs Hfs
        generalize (wr.setCell ⟨gf, fr + j + 4, none⟩ (.int .u8 (ub (y ^^^ x)))).drew = w10 at *
        cases b with
        | true =>
          go_wp2
          go_roundw
          case rel => exact ⟨j + 1, by have := Hj.out; omega, by have := Hkj.out; omega, by go_num, by rw [R4.out]; simp [bne], R1.out, R2.out⟩
          case measure => have := Hj.out; simp [intOf]; omega
        | false =>
          go_wp2
          go_roundw
          case rel => exact ⟨j + 1, by have := Hj.out; omega, by have := Hkj.out; omega, by go_num, by rw [R4.out]; rfl, R1.out, R2.out⟩
          case measure => have := Hj.out; simp [intOf]; omega
      · rw [if_neg h16] at hcy hfr0
        have H16 := Lib.hid h16
        have h16i : ¬ (16 : Int) ≤ (fr : Int) + (j : Int) := by omega
        clear hx hy hb hj hkj hjn hj4 hl16 h16
        go_wp2_with fail
        go_region
        have R1 : Hid ((wr.setCell ⟨gf, fr + j, none⟩ (.int .u8 (ub (y ^^^ x)))).drew.heap[gf]? = some (.cells (bs (frT (tw MM fr xs (j + 1)) SS) ++ rf).toArray 5 (0, 0))) := Lib.hid (by
          have := Hset.out
          rw [Hbs.out, Hfs.out, tw_set Hy.out Hx.out, if_neg H16.out] at this
          exact this)
        have R2 : Hid (Below B w0 (wr.setCell ⟨gf, fr + j, none⟩ (.int .u8 (ub (y ^^^ x)))).drew) := Lib.hid ((H2.out.setCell Hgb.out _).drew)
        have R3 := bs_cell (KX.out _ R2.out) Hx.out
        rw [Hq.out] at R3
        have R4 : Hid ((xs.take (j + 1)).all (· == 0) = (b && (ub x == 0))) := Lib.hid (by
          rw [take_snoc Hx.out, List.all_append, ← Hb.out]
          congr 1
          simp only [List.all_cons, List.all_nil, Bool.and_true]
          rw [Bool.eq_iff_iff, beq_iff_eq, beq_iff_eq]
          exact ⟨fun h => by rw [h]; rfl, fun h => ub_inj (by rw [h]; rfl)⟩)
        clear hcy hcx hfr0 Hset Hb H1 H2 Hbs Hfs
        generalize (wr.setCell ⟨gf, fr + j, none⟩ (.int .u8 (ub (y ^^^ x)))).drew = w10 at *
        cases b with
        | true =>
          go_wp2
          go_roundw
          case rel => exact ⟨j + 1, by have := Hj.out; omega, by have := Hkj.out; omega, by go_num, by rw [R4.out]; simp [bne], R1.out, R2.out⟩
          case measure => have := Hj.out; simp [intOf]; omega
        | false =>
          go_wp2
          go_roundw
          case rel => exact ⟨j + 1, by have := Hj.out; omega, by have := Hkj.out; omega, by go_num, by rw [R4.out]; rfl, R1.out, R2.out⟩
          case measure => have := Hj.out; simp [intOf]; omega
    · obtain ⟨Y, hY⟩ : ∃ Y, Y = frT (tw MM fr xs j) SS := ⟨_, rfl⟩
      obtain ⟨kk, hkk⟩ : ∃ kk : Nat, kk = if (xs.take j).all (· == 0) = true then 1 else 0 := ⟨_, rfl⟩
      have HYl : Hid (Y.length = M) := Lib.hid (by rw [hY]; exact HTl.out j hj4 hjn)
      have HTj : Hid ((scanZ (stampedL (stampOf ez) Y) ez).1.length = kk) := Lib.hid (by rw [hY, hkk]; exact T4.out j hj4 hjn)
      have HBY : Hid (Bs wr (some ⟨gf, 0, none⟩) M Y) := Lib.hid (bs_row (rest := rf) (by rw [hY]; exact H1.out) HYl.out HMz.out.2)
      obtain ⟨b, hb⟩ : ∃ b, b = (xs.take j).all (· == 0) := ⟨_, rfl⟩
      rw [← hb] at hkk ⊢
      have hkb : ((kk : Int) == 0) = !b := by rw [hkk]; cases b <;> simp
      have hkb2 : (kk == 0) = !b := by rw [hkk]; cases b <;> simp
      have C9 : Hid (Calls Tryd.prog 18 #[.int .i64 ez, .slice (some ⟨gf, 0, none⟩) M cf] wr fun r w' => ∃ As cs, r = .returned (.slice As (stampedL (stampOf ez) Y).length cs) ∧ (stampedL (stampOf ez) Y).length ≤ cs ∧ Bs w' As (stampedL (stampOf ez) Y).length (stampedL (stampOf ez) Y) ∧ Below wr.heap.size wr w') := Lib.hid (CP9.out wr _ Y HBY.out)
      have hj0 : (0 : Int) ≤ (j : Int) := by omega
      have hkj0 : (0 : Int) ≤ (fr : Int) + (j : Int) := by omega
      have hkjb : (fr : Int) + (j : Int) ≤ 300000000 := by omega
      have hcase : ¬ (j : Int) < 4 ∨ ((j : Int) < 4 ∧ ¬ (fr : Int) + (j : Int) < (N : Int)) := by omega
      clear hin hb hj4 hjn T4 hl16 hY hkk
      rcases hcase with hji | ⟨hji, hkji⟩
      all_goals (
        go_wp2_with (first
          | (go_at_call 18; (with_reducible refine C9.out.mono ?_); rintro r w10 ⟨As, cs, rfl, hcs, hbs, hb⟩; have G10 : Hid (Below B w0 w10) := Lib.hid (H2.out.trans (hb.mono (HBl.out _ H2.out))); have S10 := Lib.hid hbs; have Hcs10 := Lib.hid hcs; clear hcs hbs hb)
          | (go_at_call 15; (with_reducible refine (CS9.out w10 As cs Y kk G10.out HYl.out S10.out Hcs10.out HTj.out).mono ?_); rintro r w11 ⟨A11, c11, E11, rfl, hb⟩; have G11 : Hid (Below B w0 w11) := Lib.hid (G10.out.trans (hb.mono (HBl.out _ G10.out))); clear hb))
        go_ret
        exact ⟨by simp [hkb, hkb2], Hlow.out _ G11.out⟩)

set_option maxHeartbeats 1000000 in
theorem journalTells_bad (ez z : Int) (A : Option Addr) (n c : Nat) (at0 oz : Int) (x0 x1 x2 x3 : UInt8) (w : World) (hN : Nib w) (hz1 : 1 ≤ z)
    (hbad : ∀ wx, Calls Tryd.prog 11 #[.int .i64 ez, .int .i64 0, .slice A n c] wx fun r w' => r = .returned (.tuple #[.slice none 0 0, .int .i64 z]) ∧ wx = w') :
    Calls Tryd.prog 5 #[.int .i64 ez, .slice A n c, .int .i64 at0, .agg #[.int .u8 (ub x0), .int .u8 (ub x1), .int .u8 (ub x2), .int .u8 (ub x3)], .int .i64 oz] w fun e w' => e = .returned (.bool true) ∧ Below w.heap.size w w' := by
  have HN := Lib.hid hN
  obtain ⟨w0, hw0⟩ : ∃ w0, w0 = w.alloc (Obj.cells #[Value.int IntKind.u8 (ub x0), Value.int IntKind.u8 (ub x1), Value.int IntKind.u8 (ub x2), Value.int IntKind.u8 (ub x3)] 36) := ⟨_, rfl⟩
  have h1 : Hid (Below w.heap.size w w0) := Lib.hid (by rw [hw0]; exact (Below.refl _ _).alloc (Nat.le_refl _) _)
  have HN0 : Hid (Nib w0) := Lib.hid (by rw [hw0]; exact HN.out.alloc _)
  have Hw0 := Lib.hid hw0
  have CM := Lib.hid hbad
  have hzn : (z != 0) = true := by simp; omega
  have hzn2 : (z == 0) = false := by simp; omega
  clear hN hw0 hbad hz1
  go_enter Tryd.func5, Tryd.ntmps5
  go_wp2_with (first
    | (go_at_call 9; rw [← Hw0.out]; refine (awake15 _ HN0.out).mono ?_; rintro e w1 ⟨rfl, hb⟩; have G1 : Hid (Below w.heap.size w w1) := Lib.hid (h1.out.trans (hb.mono h1.out.size)); clear hb)
    | (go_at_call 11; (with_reducible refine (CM.out w1).mono ?_); rintro e w' ⟨rfl, rfl⟩))
  go_ret
  exact ⟨rfl, G1.out⟩

theorem journalTells_any (ez : Int) (A : Option Addr) (n c : Nat) (at0 oz : Int) (x : Value) (l : List UInt8) (w : World) (hN : Nib w) (h : Bs w A n l) (ha0 : -9223372036854775808 ≤ at0) (ha : at0 ≤ 9223372036854775807) (hoz : oz ≤ 9223372036854775807)
    (hx : ∃ x0 x1 x2 x3 : UInt8, x = .agg #[.int .u8 (ub x0), .int .u8 (ub x1), .int .u8 (ub x2), .int .u8 (ub x3)]) :
    Calls Tryd.prog 5 #[.int .i64 ez, .slice A n c, .int .i64 at0, x, .int .i64 oz] w fun e w' => e = .returned (.bool true) ∧ Below w.heap.size w w' := by
  obtain ⟨x0, x1, x2, x3, rfl⟩ := hx
  cases hk : FrOk ez 0 with
  | false => exact journalTells_bad ez 1 A n c at0 oz x0 x1 x2 x3 w hN (by omega) (fun wx => frame_bad ez 0 n c A wx hk)
  | true =>
    by_cases hl : n ≤ 268435456
    · simp only [FrOk, decide_eq_true_eq] at hk
      obtain ⟨e0, rfl⟩ : ∃ k : Nat, ez = k := ⟨ez.toNat, by omega⟩
      by_cases hs : 0 ≤ at0
      · exact journalTells_pos e0 A n c at0 oz x0 x1 x2 x3 l w hN h (by omega) (by omega) hl hs ha hoz
      · exact journalTells_neg e0 A n c at0 oz x0 x1 x2 x3 l w hN h (by omega) (by omega) hl (by omega) ha0 hoz
    · exact journalTells_bad ez 2 A n c at0 oz x0 x1 x2 x3 w hN (by omega) (fun wx => frame_long ez 0 n c A wx hk (by omega))

end Go.Proofs.YtaaimonnpmfnlaaDoor
