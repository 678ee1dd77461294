/-
  THE WALK of coffretlaw12.PageTells.
-/
import Derived.Test.YtokoagepbhlkdaaDoorLawOpens
namespace Go.Proofs.YtokoagepbhlkdaaDoor
open Go.RowKit
set_option maxRecDepth 100000
set_option linter.unusedVariables false

set_option maxHeartbeats 4000000 in
theorem pageTells_pos (number kind : Nat) (A : Option Addr) (n c : Nat) (at0 : Int) (x0 x1 x2 x3 : UInt8) (l : List UInt8) (w : World) (hN : Nib w) (h : Bs w A n l) (h1 : number < 65536) (h2 : 1 ≤ kind) (h3 : kind ≤ 255) (h4 : n ≤ 4085) (ha0 : 0 ≤ at0) (ha : at0 ≤ 9223372036854775807) :
    Calls Tryd.prog 5 #[.int .i64 number, .int .i64 kind, .slice A n c, .int .i64 at0, .agg #[.int .u8 (ub x0), .int .u8 (ub x1), .int .u8 (ub x2), .int .u8 (ub x3)]] w fun e w' => e = .returned (.bool true) ∧ Below w.heap.size w w' := by
  obtain ⟨k, hk⟩ : ∃ k : Nat, at0 % 4096 = k := ⟨(at0 % 4096).toNat, by omega⟩
  have hkn : (k : Int) < 4096 := by omega
  have hk0 : (0 : Int) ≤ (k : Int) := by omega
  have Hinfo := Lib.hid info_u8
  have HN := Lib.hid hN
  obtain ⟨xs, hxs⟩ : ∃ xs : List UInt8, xs = [x0, x1, x2, x3] := ⟨_, rfl⟩
  have X4 : Hid (xs.length = 4) := Lib.hid (by rw [hxs]; rfl)
  obtain ⟨w0, hw0⟩ : ∃ w0, w0 = w.alloc (Obj.cells #[Value.int IntKind.u8 (ub x0), Value.int IntKind.u8 (ub x1), Value.int IntKind.u8 (ub x2), Value.int IntKind.u8 (ub x3)] 35) := ⟨_, rfl⟩
  obtain ⟨B, hB⟩ : ∃ B, B = w0.heap.size := ⟨_, rfl⟩
  obtain ⟨q, hq⟩ : ∃ q, q = w.heap.size := ⟨_, rfl⟩
  have hBq : B = q + 1 := by rw [hB, hw0, hq]; simp
  have h0 : Bs w0 A n l := by rw [hw0]; exact h.below ((Below.refl _ _).alloc (Nat.le_refl _) _)
  have HN0 : Hid (Nib w0) := Lib.hid (by rw [hw0]; exact HN.out.alloc _)
  have HX0 : w0.heap[q]? = some (.cells (bs xs ++ []).toArray 35 (0, 0)) := by rw [hw0, hq, heap_alloc_new, hxs]; rfl
  have HBl : Hid (∀ wx, Below B w0 wx → B ≤ wx.heap.size) := Lib.hid (fun wx h => by rw [hB]; exact h.size)
  have Hup : Hid (∀ wx, Below w0.heap.size w0 wx → Below B w0 wx) := Lib.hid (fun wx h => by rw [hB]; exact h)
  have Hlow : Hid (∀ wx, Below B w0 wx → Below w.heap.size w wx) := Lib.hid (fun wx h => by
    have h1 : Below w.heap.size w w0 := by rw [hw0]; exact (Below.refl _ _).alloc (Nat.le_refl _) _
    exact h1.trans (h.mono (by rw [← hq, hBq]; omega)))
  have K1 : Hid (∀ wx, Below B w0 wx → Bs wx A n l) := Lib.hid (fun wx h => h0.below (by rw [← hB]; exact h))
  have KN : Hid (∀ wx, Below B w0 wx → Nib wx) := Lib.hid (fun wx h => HN0.out.below (by rw [← hB]; exact h))
  have KX : Hid (∀ wx, Below B w0 wx → wx.heap[q]? = some (.cells (bs xs ++ []).toArray 35 (0, 0))) := Lib.hid (fun wx h => by rw [h.block q (by omega)]; exact HX0)
  have Hw0 := Lib.hid hw0
  have Hq := Lib.hid hq
  have HBq := Lib.hid hBq
  obtain ⟨zi, hzi⟩ : ∃ z : Int, z = (number : Int) := ⟨_, rfl⟩
  obtain ⟨kz, hkz⟩ : ∃ z : Int, z = (kind : Int) := ⟨_, rfl⟩
  obtain ⟨P, hP⟩ : ∃ P, P = pageOf number kind l := ⟨_, rfl⟩
  have HPl : Hid (P.length = 4096) := Lib.hid (by rw [hP]; exact pageOf_length _ _ _ (by rw [h.len]; exact h4))
  have CM : Hid (∀ wx, Below B w0 wx → Calls Tryd.prog 10 #[.int .i64 zi, .int .i64 kz, .slice A n c] wx fun e w' => e = .returned (.tuple #[.slice (some ⟨wx.heap.size, 0, none⟩) 4096 4096, .int .i64 0]) ∧ w'.heap[wx.heap.size]? = some (.cells (bs P).toArray 5 (0, 0)) ∧ Below wx.heap.size wx w') := Lib.hid (fun wx hb => by
    rw [hzi, hkz, hP]; exact make_ok number kind n c A l wx (KN.out _ hb) (K1.out _ hb) h1 h2 h3 h4)
  have CL : Hid (∀ wx g, Calls Tryd.prog 14 #[.slice (some ⟨g, 0, none⟩) k 4096, .int .i64 zi] wx fun e w' => e = .returned (.tuple #[.int .i64 0, .slice none 0 0, .int .i64 122]) ∧ wx = w') := Lib.hid (fun wx g => open_len (some ⟨g, 0, none⟩) k 4096 [] zi wx (by omega))
  have CG : Hid (∀ wx A1 c1, Calls Tryd.prog 14 #[.slice A1 4097 c1, .int .i64 zi] wx fun e w' => e = .returned (.tuple #[.int .i64 0, .slice none 0 0, .int .i64 122]) ∧ wx = w') := Lib.hid (fun wx A1 c1 => open_len A1 4097 c1 [] zi wx (by omega))
  have CT : Hid (∀ wx g j, Below B w0 wx → j ≤ 4 → k + j ≤ 4096 → (k < 4 → k + j ≤ 4) → wx.heap[g]? = some (.cells (bs (tw P k xs j)).toArray 5 (0, 0)) → Calls Tryd.prog 14 #[.slice (some ⟨g, 0, none⟩) 4096 4096, .int .i64 zi] wx fun e w' => ∃ v1 v2 z, e = .returned (.tuple #[v1, v2, .int .i64 z]) ∧ (z == 0) = (xs.take j).all (· == 0) ∧ Below wx.heap.size wx w') := Lib.hid (fun wx g j hb hj hkj hs hg => by
    have ht := open_turned number kind l k xs j h1 h2 h3 (by rw [h.len]; exact h4) hkj hj X4.out hs
    rw [← hP, ← hzi] at ht
    have htl : (tw P k xs j).length = 4096 := by rw [tw_length _ _ _ _ (by rw [HPl.out]; omega) (by rw [X4.out]; omega), HPl.out]
    have hbw : Bs wx (some ⟨g, 0, none⟩) 4096 (tw P k xs j) := by
      have := bs_block hg 0 4096 (by rw [htl]; omega) (by omega)
      rw [List.drop_zero, List.take_of_length_le (by rw [htl]; exact Nat.le_refl _)] at this
      exact this
    refine (open_any (some ⟨g, 0, none⟩) 4096 4096 (tw P k xs j) zi wx (KN.out _ hb) hbw (Nat.le_refl _)).mono ?_
    rintro e w' ⟨hbw', hc⟩
    rcases hc with ⟨hc, v, he, _⟩ | ⟨hc, he⟩
    · rw [hc] at ht; exact ⟨_, _, _, he, ht, hbw'⟩
    · exact ⟨_, _, _, he, ht, hbw'⟩)
  have Hr1 : Hid (0 + 4096 ≤ 140737488355328) := Lib.hid (by omega)
  have Hr2 : Hid (4096 + 1 ≤ maxLen) := Lib.hid (by simp only [maxLen]; omega)
  have Hr3 : Hid ((4096 + 1) * 1 ≤ 140737488355328) := Lib.hid (by omega)
  rw [← hzi, ← hkz]
  have Hkn : Hid (k < 4096) := Lib.hid (by omega)
  clear hN h hB hBq h0 HX0 hw0 h1 h2 h3 h4 hzi hkz hP hxs hq
  go_enter Tryd.func5, Tryd.ntmps5
  go_wp2_with (first
    | (go_at_call 8; rw [← Hw0.out]; refine (awake12 _ HN0.out).mono ?_; rintro e w1 ⟨rfl, hb⟩; have G1 := Lib.hid (Hup.out _ hb); clear hb)
    | (go_at_call 10; (with_reducible refine (CM.out w1 G1.out).mono ?_); rintro e w2 ⟨rfl, hg, hb⟩; have G2 : Hid (Below B w0 w2) := Lib.hid (G1.out.trans (hb.mono (HBl.out _ G1.out))); obtain ⟨g, hgd⟩ : ∃ g, g = w1.heap.size := ⟨_, rfl⟩; have Hbg : Hid (B ≤ g) := Lib.hid (by rw [hgd]; exact HBl.out _ G1.out); rw [← hgd] at hg ⊢; have Hg2 := Lib.hid hg; clear hg hb hgd CM)
    | (go_at_call 14; (first | (with_reducible refine (CL.out w2 g).mono ?_) | (with_reducible refine (CG.out _ _ _).mono ?_)); rintro e w' ⟨rfl, rfl⟩)
    | (at_builtin; refine wpList_append_bytes rfl _ _ 22 rfl w2.heap.size 5 (.int .u8 0) Tryd.underlying22 Hinfo.out rfl (.slice (some ⟨w2.heap.size, 0, none⟩) 0 0) 0 (bs []) rfl (owns_empty 5 (Nat.le_refl _)) (some ⟨g, 0, none⟩) 4096 4096 P rfl (bs_row (rest := []) (by rw [List.append_nil, ((Below.refl w2.heap.size w2).alloc (Nat.le_refl _) _).block g (lt_block Hg2.out)]; exact Hg2.out) HPl.out (by omega)) Hr1.out (by simp) ?_; intro va wa ho hg hla; have Ga : Hid (Below w2.heap.size w2 wa) := Lib.hid (((Below.refl w2.heap.size w2).alloc (Nat.le_refl _) (.cells #[] 5)).grown hg (by simp) (fun i hi => by cases hi; exact Nat.le_refl _)); have Oa : Hid (wa.ownsRow w2.heap.size 5 1 va 4096 (bs P)) := Lib.hid (by rw [Nat.zero_add] at ho; exact ho); clear ho hg hla)
    | (at_builtin; refine wpList_append_one rfl _ _ 22 rfl w2.heap.size 5 (.int .u8 0) 1 Tryd.underlying22 Hinfo.out rfl va 4096 (bs P) (.int .u8 0) rfl Oa.out rfl rfl Hr2.out Hr3.out Ga.out.size ?_; intro vb wb ho hg hla; obtain ⟨Ab, cb, hvb, -⟩ := own_slice ho; subst hvb; have Gb0 : Below w2.heap.size w2 wb := Ga.out.grown hg Ga.out.size (fun i hi => (Oa.out.lt i hi).1); have Gb : Hid (Below B w0 wb) := Lib.hid (G2.out.trans (Gb0.mono (HBl.out _ G2.out))); have Hg3 : Hid (wb.heap[g]? = some (.cells (bs P).toArray 5 (0, 0))) := Lib.hid (by rw [Gb0.block g (lt_block Hg2.out)]; exact Hg2.out); clear ho hg hla Gb0))
  clear Hinfo Hr1 Hr2 Hr3 CL CG Oa Ga
  go_loopw [22, 23] (fun same i wr => ∃ j : Nat, j ≤ 4 ∧ k + j ≤ 4096 ∧ (k < 4 → k + j ≤ 4) ∧ i = .int .i64 j ∧ same = .bool ((xs.take j).all (· == 0)) ∧ wr.heap[g]? = some (.cells (bs (tw P k xs j)).toArray 5 (0, 0)) ∧ Below B w0 wr) (fun _ i _ => 4 - (intOf i).toNat)
  case atStart => exact ⟨0, by omega, by have := Hkn.out; omega, by omega, rfl, rfl, by rw [tw_zero]; exact Hg3.out, Gb.out⟩
  case round =>
    obtain ⟨j, hj4, hjn, hjs, rfl, rfl, h1, h2⟩ := hrel
    have H1 := Lib.hid h1
    have H2 := Lib.hid h2
    have Hj4 := Lib.hid hj4
    have Hjn := Lib.hid hjn
    have Hjs := Lib.hid hjs
    clear h1 h2
    by_cases hin : (j < 4 ∧ k + j < 4096) ∧ ¬ (k < 4 ∧ 4 ≤ k + j)
    · obtain ⟨⟨hj, hkj⟩, hnb⟩ := hin
      have Hj := Lib.hid hj
      have Hkj := Lib.hid hkj
      have Hnb := Lib.hid hnb
      obtain ⟨x, hx⟩ : ∃ x, xs[j]? = some x := ⟨_, List.getElem?_eq_getElem (by rw [X4.out]; exact hj)⟩
      obtain ⟨y, hy⟩ : ∃ y, P[k + j]? = some y := ⟨_, List.getElem?_eq_getElem (by rw [HPl.out]; exact hkj)⟩
      have H1b : Hid (wr.heap[g]? = some (.cells (bs (tw P k xs j) ++ []).toArray 5 (0, 0))) := Lib.hid (by rw [List.append_nil]; exact H1.out)
      have hcy := bs_cell H1b.out (tw_get (xs := xs) hy (by rw [X4.out]; omega))
      have hcx := bs_cell (KX.out _ H2.out) hx
      rw [Hq.out] at hcx
      have hfr := free_block H1.out (k + j)
      have hji : (j : Int) < 4 := by omega
      have hj0 : (0 : Int) ≤ (j : Int) := by omega
      have hkji : (k : Int) + (j : Int) < 4096 := by omega
      have hkj0 : (0 : Int) ≤ (k : Int) + (j : Int) := by omega
      have Hset := Lib.hid (set_block H1.out (k + j) (.int .u8 (ub (y ^^^ x))))
      obtain ⟨b, hb⟩ : ∃ b, b = (xs.take j).all (· == 0) := ⟨_, rfl⟩
      have Hb := Lib.hid hb
      rw [← hb]
      have Hx := Lib.hid hx
      have Hy := Lib.hid hy
      have hbr : (k : Int) < 4 → ¬ 4 ≤ (k : Int) + (j : Int) := by omega
      have hcase : ((k : Int) < 4 ∧ (k : Int) + (j : Int) < 4) ∨ 4 ≤ (k : Int) := by omega
      clear hx hy hb hnb hj hkj hjn hjs hj4 hbr
      rcases hcase with ⟨hk4, hkj4⟩ | hk4
      all_goals go_wp2_with fail
      all_goals go_region
      all_goals (
        have R1 : Hid ((wr.setCell ⟨g, k + j, none⟩ (.int .u8 (ub (y ^^^ x)))).drew.heap[g]? = some (.cells (bs (tw P k xs (j + 1))).toArray 5 (0, 0))) := Lib.hid (by
          have := Hset.out
          have e := bs_set (rest := []) (l := tw P k xs j) (j := k + j) (c := y ^^^ x) (by rw [tw_length _ _ _ _ (by rw [HPl.out]; exact Hjn.out) (by rw [X4.out]; exact Hj4.out), HPl.out]; exact Hkj.out)
          rw [List.append_nil, List.append_nil] at e
          rw [e, tw_set Hy.out Hx.out] at this
          exact this)
        have R2 : Hid (Below B w0 (wr.setCell ⟨g, k + j, none⟩ (.int .u8 (ub (y ^^^ x)))).drew) := Lib.hid ((H2.out.setCell Hbg.out _).drew)
        have R3 := bs_cell (KX.out _ R2.out) Hx.out
        rw [Hq.out] at R3
        have R4 : Hid ((xs.take (j + 1)).all (· == 0) = (b && (ub x == 0))) := Lib.hid (by
          rw [take_snoc Hx.out, List.all_append, ← Hb.out]
          congr 1
          simp only [List.all_cons, List.all_nil, Bool.and_true]
          rw [Bool.eq_iff_iff, beq_iff_eq, beq_iff_eq]
          exact ⟨fun h => by rw [h]; rfl, fun h => ub_inj (by rw [h]; rfl)⟩)
        clear hcy hcx hfr Hset Hb H1 H2 H1b
        generalize (wr.setCell ⟨g, k + j, none⟩ (.int .u8 (ub (y ^^^ x)))).drew = w9 at *
        cases b with
        | true =>
          go_wp2
          go_roundw
          case rel => exact ⟨j + 1, by have := Hj.out; omega, by have := Hkj.out; omega, by have := Hnb.out; omega, by go_num, by rw [R4.out]; simp, R1.out, R2.out⟩
          case measure => have := Hj.out; simp [intOf]; omega
        | false =>
          go_wp2
          go_roundw
          case rel => exact ⟨j + 1, by have := Hj.out; omega, by have := Hkj.out; omega, by have := Hnb.out; omega, by go_num, by rw [R4.out]; rfl, R1.out, R2.out⟩
          case measure => have := Hj.out; simp [intOf]; omega)
    · have C9 : Hid (Calls Tryd.prog 14 #[.slice (some ⟨g, 0, none⟩) 4096 4096, .int .i64 zi] wr fun e w' => ∃ v1 v2 z, e = .returned (.tuple #[v1, v2, .int .i64 z]) ∧ (z == 0) = (xs.take j).all (· == 0) ∧ Below wr.heap.size wr w') := Lib.hid (CT.out wr g j H2.out hj4 hjn hjs H1.out)
      obtain ⟨b, hb⟩ : ∃ b, b = (xs.take j).all (· == 0) := ⟨_, rfl⟩
      rw [← hb] at C9 ⊢
      have hj0 : (0 : Int) ≤ (j : Int) := by omega
      have hkjb : (k : Int) + (j : Int) ≤ 5000 := by omega
      have hkj0 : (0 : Int) ≤ (k : Int) + (j : Int) := by omega
      have hcase : ¬ (j : Int) < 4 ∨ ((j : Int) < 4 ∧ ¬ (k : Int) + (j : Int) < 4096) ∨ ((j : Int) < 4 ∧ (k : Int) + (j : Int) < 4096 ∧ (k : Int) < 4 ∧ 4 ≤ (k : Int) + (j : Int)) := by omega
      clear hin hb hj4 hjn hjs CT
      rcases hcase with hji | ⟨hji, hkji⟩ | ⟨hji, hkji, hk4, hkj4⟩
      all_goals (
        go_wp2_with (go_at_call 14; (with_reducible refine C9.out.mono ?_); rintro e w9 ⟨v1, v2, z, rfl, hz, hb⟩; have G9 : Hid (Below B w0 w9) := Lib.hid (H2.out.trans (hb.mono (HBl.out _ H2.out))); have Hz := Lib.hid hz; clear hz hb)
        go_ret
        exact ⟨by rw [Hz.out]; simp, Hlow.out _ G9.out⟩)

set_option maxHeartbeats 4000000 in
theorem pageTells_neg (number kind : Nat) (A : Option Addr) (n c : Nat) (at0 : Int) (x0 x1 x2 x3 : UInt8) (l : List UInt8) (w : World) (hN : Nib w) (h : Bs w A n l) (h1 : number < 65536) (h2 : 1 ≤ kind) (h3 : kind ≤ 255) (h4 : n ≤ 4085) (ha0 : at0 < 0) (ha : -9223372036854775808 ≤ at0) :
    Calls Tryd.prog 5 #[.int .i64 number, .int .i64 kind, .slice A n c, .int .i64 at0, .agg #[.int .u8 (ub x0), .int .u8 (ub x1), .int .u8 (ub x2), .int .u8 (ub x3)]] w fun e w' => e = .returned (.bool true) ∧ Below w.heap.size w w' := by
  have hte : (-(at0 + 1)).tmod 4096 = (-(at0 + 1)) % 4096 := Int.tmod_eq_emod_of_nonneg (by omega)
  obtain ⟨k, hk⟩ : ∃ k : Nat, (-(at0 + 1)).tmod 4096 = k := ⟨((-(at0 + 1)) % 4096).toNat, by omega⟩
  have hkn : (k : Int) < 4096 := by omega
  clear hte
  have hk0 : (0 : Int) ≤ (k : Int) := by omega
  have Hinfo := Lib.hid info_u8
  have HN := Lib.hid hN
  obtain ⟨xs, hxs⟩ : ∃ xs : List UInt8, xs = [x0, x1, x2, x3] := ⟨_, rfl⟩
  have X4 : Hid (xs.length = 4) := Lib.hid (by rw [hxs]; rfl)
  obtain ⟨w0, hw0⟩ : ∃ w0, w0 = w.alloc (Obj.cells #[Value.int IntKind.u8 (ub x0), Value.int IntKind.u8 (ub x1), Value.int IntKind.u8 (ub x2), Value.int IntKind.u8 (ub x3)] 35) := ⟨_, rfl⟩
  obtain ⟨B, hB⟩ : ∃ B, B = w0.heap.size := ⟨_, rfl⟩
  obtain ⟨q, hq⟩ : ∃ q, q = w.heap.size := ⟨_, rfl⟩
  have hBq : B = q + 1 := by rw [hB, hw0, hq]; simp
  have h0 : Bs w0 A n l := by rw [hw0]; exact h.below ((Below.refl _ _).alloc (Nat.le_refl _) _)
  have HN0 : Hid (Nib w0) := Lib.hid (by rw [hw0]; exact HN.out.alloc _)
  have HX0 : w0.heap[q]? = some (.cells (bs xs ++ []).toArray 35 (0, 0)) := by rw [hw0, hq, heap_alloc_new, hxs]; rfl
  have HBl : Hid (∀ wx, Below B w0 wx → B ≤ wx.heap.size) := Lib.hid (fun wx h => by rw [hB]; exact h.size)
  have Hup : Hid (∀ wx, Below w0.heap.size w0 wx → Below B w0 wx) := Lib.hid (fun wx h => by rw [hB]; exact h)
  have Hlow : Hid (∀ wx, Below B w0 wx → Below w.heap.size w wx) := Lib.hid (fun wx h => by
    have h1 : Below w.heap.size w w0 := by rw [hw0]; exact (Below.refl _ _).alloc (Nat.le_refl _) _
    exact h1.trans (h.mono (by rw [← hq, hBq]; omega)))
  have K1 : Hid (∀ wx, Below B w0 wx → Bs wx A n l) := Lib.hid (fun wx h => h0.below (by rw [← hB]; exact h))
  have KN : Hid (∀ wx, Below B w0 wx → Nib wx) := Lib.hid (fun wx h => HN0.out.below (by rw [← hB]; exact h))
  have KX : Hid (∀ wx, Below B w0 wx → wx.heap[q]? = some (.cells (bs xs ++ []).toArray 35 (0, 0))) := Lib.hid (fun wx h => by rw [h.block q (by omega)]; exact HX0)
  have Hw0 := Lib.hid hw0
  have Hq := Lib.hid hq
  have HBq := Lib.hid hBq
  obtain ⟨zi, hzi⟩ : ∃ z : Int, z = (number : Int) := ⟨_, rfl⟩
  obtain ⟨kz, hkz⟩ : ∃ z : Int, z = (kind : Int) := ⟨_, rfl⟩
  obtain ⟨P, hP⟩ : ∃ P, P = pageOf number kind l := ⟨_, rfl⟩
  have HPl : Hid (P.length = 4096) := Lib.hid (by rw [hP]; exact pageOf_length _ _ _ (by rw [h.len]; exact h4))
  have CM : Hid (∀ wx, Below B w0 wx → Calls Tryd.prog 10 #[.int .i64 zi, .int .i64 kz, .slice A n c] wx fun e w' => e = .returned (.tuple #[.slice (some ⟨wx.heap.size, 0, none⟩) 4096 4096, .int .i64 0]) ∧ w'.heap[wx.heap.size]? = some (.cells (bs P).toArray 5 (0, 0)) ∧ Below wx.heap.size wx w') := Lib.hid (fun wx hb => by
    rw [hzi, hkz, hP]; exact make_ok number kind n c A l wx (KN.out _ hb) (K1.out _ hb) h1 h2 h3 h4)
  have CL : Hid (∀ wx g, Calls Tryd.prog 14 #[.slice (some ⟨g, 0, none⟩) k 4096, .int .i64 zi] wx fun e w' => e = .returned (.tuple #[.int .i64 0, .slice none 0 0, .int .i64 122]) ∧ wx = w') := Lib.hid (fun wx g => open_len (some ⟨g, 0, none⟩) k 4096 [] zi wx (by omega))
  have CG : Hid (∀ wx A1 c1, Calls Tryd.prog 14 #[.slice A1 4097 c1, .int .i64 zi] wx fun e w' => e = .returned (.tuple #[.int .i64 0, .slice none 0 0, .int .i64 122]) ∧ wx = w') := Lib.hid (fun wx A1 c1 => open_len A1 4097 c1 [] zi wx (by omega))
  have CT : Hid (∀ wx g j, Below B w0 wx → j ≤ 4 → k + j ≤ 4096 → (k < 4 → k + j ≤ 4) → wx.heap[g]? = some (.cells (bs (tw P k xs j)).toArray 5 (0, 0)) → Calls Tryd.prog 14 #[.slice (some ⟨g, 0, none⟩) 4096 4096, .int .i64 zi] wx fun e w' => ∃ v1 v2 z, e = .returned (.tuple #[v1, v2, .int .i64 z]) ∧ (z == 0) = (xs.take j).all (· == 0) ∧ Below wx.heap.size wx w') := Lib.hid (fun wx g j hb hj hkj hs hg => by
    have ht := open_turned number kind l k xs j h1 h2 h3 (by rw [h.len]; exact h4) hkj hj X4.out hs
    rw [← hP, ← hzi] at ht
    have htl : (tw P k xs j).length = 4096 := by rw [tw_length _ _ _ _ (by rw [HPl.out]; omega) (by rw [X4.out]; omega), HPl.out]
    have hbw : Bs wx (some ⟨g, 0, none⟩) 4096 (tw P k xs j) := by
      have := bs_block hg 0 4096 (by rw [htl]; omega) (by omega)
      rw [List.drop_zero, List.take_of_length_le (by rw [htl]; exact Nat.le_refl _)] at this
      exact this
    refine (open_any (some ⟨g, 0, none⟩) 4096 4096 (tw P k xs j) zi wx (KN.out _ hb) hbw (Nat.le_refl _)).mono ?_
    rintro e w' ⟨hbw', hc⟩
    rcases hc with ⟨hc, v, he, _⟩ | ⟨hc, he⟩
    · rw [hc] at ht; exact ⟨_, _, _, he, ht, hbw'⟩
    · exact ⟨_, _, _, he, ht, hbw'⟩)
  have Hr1 : Hid (0 + 4096 ≤ 140737488355328) := Lib.hid (by omega)
  have Hr2 : Hid (4096 + 1 ≤ maxLen) := Lib.hid (by simp only [maxLen]; omega)
  have Hr3 : Hid ((4096 + 1) * 1 ≤ 140737488355328) := Lib.hid (by omega)
  rw [← hzi, ← hkz]
  have Hkn : Hid (k < 4096) := Lib.hid (by omega)
  clear hN h hB hBq h0 HX0 hw0 h1 h2 h3 h4 hzi hkz hP hxs hq
  go_enter Tryd.func5, Tryd.ntmps5
  go_wp2_with (first
    | (go_at_call 8; rw [← Hw0.out]; refine (awake12 _ HN0.out).mono ?_; rintro e w1 ⟨rfl, hb⟩; have G1 := Lib.hid (Hup.out _ hb); clear hb)
    | (go_at_call 10; (with_reducible refine (CM.out w1 G1.out).mono ?_); rintro e w2 ⟨rfl, hg, hb⟩; have G2 : Hid (Below B w0 w2) := Lib.hid (G1.out.trans (hb.mono (HBl.out _ G1.out))); obtain ⟨g, hgd⟩ : ∃ g, g = w1.heap.size := ⟨_, rfl⟩; have Hbg : Hid (B ≤ g) := Lib.hid (by rw [hgd]; exact HBl.out _ G1.out); rw [← hgd] at hg ⊢; have Hg2 := Lib.hid hg; clear hg hb hgd CM)
    | (go_at_call 14; (first | (with_reducible refine (CL.out w2 g).mono ?_) | (with_reducible refine (CG.out _ _ _).mono ?_)); rintro e w' ⟨rfl, rfl⟩)
    | (at_builtin; refine wpList_append_bytes rfl _ _ 22 rfl w2.heap.size 5 (.int .u8 0) Tryd.underlying22 Hinfo.out rfl (.slice (some ⟨w2.heap.size, 0, none⟩) 0 0) 0 (bs []) rfl (owns_empty 5 (Nat.le_refl _)) (some ⟨g, 0, none⟩) 4096 4096 P rfl (bs_row (rest := []) (by rw [List.append_nil, ((Below.refl w2.heap.size w2).alloc (Nat.le_refl _) _).block g (lt_block Hg2.out)]; exact Hg2.out) HPl.out (by omega)) Hr1.out (by simp) ?_; intro va wa ho hg hla; have Ga : Hid (Below w2.heap.size w2 wa) := Lib.hid (((Below.refl w2.heap.size w2).alloc (Nat.le_refl _) (.cells #[] 5)).grown hg (by simp) (fun i hi => by cases hi; exact Nat.le_refl _)); have Oa : Hid (wa.ownsRow w2.heap.size 5 1 va 4096 (bs P)) := Lib.hid (by rw [Nat.zero_add] at ho; exact ho); clear ho hg hla)
    | (at_builtin; refine wpList_append_one rfl _ _ 22 rfl w2.heap.size 5 (.int .u8 0) 1 Tryd.underlying22 Hinfo.out rfl va 4096 (bs P) (.int .u8 0) rfl Oa.out rfl rfl Hr2.out Hr3.out Ga.out.size ?_; intro vb wb ho hg hla; obtain ⟨Ab, cb, hvb, -⟩ := own_slice ho; subst hvb; have Gb0 : Below w2.heap.size w2 wb := Ga.out.grown hg Ga.out.size (fun i hi => (Oa.out.lt i hi).1); have Gb : Hid (Below B w0 wb) := Lib.hid (G2.out.trans (Gb0.mono (HBl.out _ G2.out))); have Hg3 : Hid (wb.heap[g]? = some (.cells (bs P).toArray 5 (0, 0))) := Lib.hid (by rw [Gb0.block g (lt_block Hg2.out)]; exact Hg2.out); clear ho hg hla Gb0))
  clear Hinfo Hr1 Hr2 Hr3 CL CG Oa Ga
  go_loopw [22, 23] (fun same i wr => ∃ j : Nat, j ≤ 4 ∧ k + j ≤ 4096 ∧ (k < 4 → k + j ≤ 4) ∧ i = .int .i64 j ∧ same = .bool ((xs.take j).all (· == 0)) ∧ wr.heap[g]? = some (.cells (bs (tw P k xs j)).toArray 5 (0, 0)) ∧ Below B w0 wr) (fun _ i _ => 4 - (intOf i).toNat)
  case atStart => exact ⟨0, by omega, by have := Hkn.out; omega, by omega, rfl, rfl, by rw [tw_zero]; exact Hg3.out, Gb.out⟩
  case round =>
    obtain ⟨j, hj4, hjn, hjs, rfl, rfl, h1, h2⟩ := hrel
    have H1 := Lib.hid h1
    have H2 := Lib.hid h2
    have Hj4 := Lib.hid hj4
    have Hjn := Lib.hid hjn
    have Hjs := Lib.hid hjs
    clear h1 h2
    by_cases hin : (j < 4 ∧ k + j < 4096) ∧ ¬ (k < 4 ∧ 4 ≤ k + j)
    · obtain ⟨⟨hj, hkj⟩, hnb⟩ := hin
      have Hj := Lib.hid hj
      have Hkj := Lib.hid hkj
      have Hnb := Lib.hid hnb
      obtain ⟨x, hx⟩ : ∃ x, xs[j]? = some x := ⟨_, List.getElem?_eq_getElem (by rw [X4.out]; exact hj)⟩
      obtain ⟨y, hy⟩ : ∃ y, P[k + j]? = some y := ⟨_, List.getElem?_eq_getElem (by rw [HPl.out]; exact hkj)⟩
      have H1b : Hid (wr.heap[g]? = some (.cells (bs (tw P k xs j) ++ []).toArray 5 (0, 0))) := Lib.hid (by rw [List.append_nil]; exact H1.out)
      have hcy := bs_cell H1b.out (tw_get (xs := xs) hy (by rw [X4.out]; omega))
      have hcx := bs_cell (KX.out _ H2.out) hx
      rw [Hq.out] at hcx
      have hfr := free_block H1.out (k + j)
      have hji : (j : Int) < 4 := by omega
      have hj0 : (0 : Int) ≤ (j : Int) := by omega
      have hkji : (k : Int) + (j : Int) < 4096 := by omega
      have hkj0 : (0 : Int) ≤ (k : Int) + (j : Int) := by omega
      have Hset := Lib.hid (set_block H1.out (k + j) (.int .u8 (ub (y ^^^ x))))
      obtain ⟨b, hb⟩ : ∃ b, b = (xs.take j).all (· == 0) := ⟨_, rfl⟩
      have Hb := Lib.hid hb
      rw [← hb]
      have Hx := Lib.hid hx
      have Hy := Lib.hid hy
      have hbr : (k : Int) < 4 → ¬ 4 ≤ (k : Int) + (j : Int) := by omega
      have hcase : ((k : Int) < 4 ∧ (k : Int) + (j : Int) < 4) ∨ 4 ≤ (k : Int) := by omega
      clear hx hy hb hnb hj hkj hjn hjs hj4 hbr
      rcases hcase with ⟨hk4, hkj4⟩ | hk4
      all_goals go_wp2_with fail
      all_goals go_region
      all_goals (
        have R1 : Hid ((wr.setCell ⟨g, k + j, none⟩ (.int .u8 (ub (y ^^^ x)))).drew.heap[g]? = some (.cells (bs (tw P k xs (j + 1))).toArray 5 (0, 0))) := Lib.hid (by
          have := Hset.out
          have e := bs_set (rest := []) (l := tw P k xs j) (j := k + j) (c := y ^^^ x) (by rw [tw_length _ _ _ _ (by rw [HPl.out]; exact Hjn.out) (by rw [X4.out]; exact Hj4.out), HPl.out]; exact Hkj.out)
          rw [List.append_nil, List.append_nil] at e
          rw [e, tw_set Hy.out Hx.out] at this
          exact this)
        have R2 : Hid (Below B w0 (wr.setCell ⟨g, k + j, none⟩ (.int .u8 (ub (y ^^^ x)))).drew) := Lib.hid ((H2.out.setCell Hbg.out _).drew)
        have R3 := bs_cell (KX.out _ R2.out) Hx.out
        rw [Hq.out] at R3
        have R4 : Hid ((xs.take (j + 1)).all (· == 0) = (b && (ub x == 0))) := Lib.hid (by
          rw [take_snoc Hx.out, List.all_append, ← Hb.out]
          congr 1
          simp only [List.all_cons, List.all_nil, Bool.and_true]
          rw [Bool.eq_iff_iff, beq_iff_eq, beq_iff_eq]
          exact ⟨fun h => by rw [h]; rfl, fun h => ub_inj (by rw [h]; rfl)⟩)
        clear hcy hcx hfr Hset Hb H1 H2 H1b
        generalize (wr.setCell ⟨g, k + j, none⟩ (.int .u8 (ub (y ^^^ x)))).drew = w9 at *
        cases b with
        | true =>
          go_wp2
          go_roundw
          case rel => exact ⟨j + 1, by have := Hj.out; omega, by have := Hkj.out; omega, by have := Hnb.out; omega, by go_num, by rw [R4.out]; simp, R1.out, R2.out⟩
          case measure => have := Hj.out; simp [intOf]; omega
        | false =>
          go_wp2
          go_roundw
          case rel => exact ⟨j + 1, by have := Hj.out; omega, by have := Hkj.out; omega, by have := Hnb.out; omega, by go_num, by rw [R4.out]; rfl, R1.out, R2.out⟩
          case measure => have := Hj.out; simp [intOf]; omega)
    · have C9 : Hid (Calls Tryd.prog 14 #[.slice (some ⟨g, 0, none⟩) 4096 4096, .int .i64 zi] wr fun e w' => ∃ v1 v2 z, e = .returned (.tuple #[v1, v2, .int .i64 z]) ∧ (z == 0) = (xs.take j).all (· == 0) ∧ Below wr.heap.size wr w') := Lib.hid (CT.out wr g j H2.out hj4 hjn hjs H1.out)
      obtain ⟨b, hb⟩ : ∃ b, b = (xs.take j).all (· == 0) := ⟨_, rfl⟩
      rw [← hb] at C9 ⊢
      have hj0 : (0 : Int) ≤ (j : Int) := by omega
      have hkjb : (k : Int) + (j : Int) ≤ 5000 := by omega
      have hkj0 : (0 : Int) ≤ (k : Int) + (j : Int) := by omega
      have hcase : ¬ (j : Int) < 4 ∨ ((j : Int) < 4 ∧ ¬ (k : Int) + (j : Int) < 4096) ∨ ((j : Int) < 4 ∧ (k : Int) + (j : Int) < 4096 ∧ (k : Int) < 4 ∧ 4 ≤ (k : Int) + (j : Int)) := by omega
      clear hin hb hj4 hjn hjs CT
      rcases hcase with hji | ⟨hji, hkji⟩ | ⟨hji, hkji, hk4, hkj4⟩
      all_goals (
        go_wp2_with (go_at_call 14; (with_reducible refine C9.out.mono ?_); rintro e w9 ⟨v1, v2, z, rfl, hz, hb⟩; have G9 : Hid (Below B w0 w9) := Lib.hid (H2.out.trans (hb.mono (HBl.out _ H2.out))); have Hz := Lib.hid hz; clear hz hb)
        go_ret
        exact ⟨by rw [Hz.out]; simp, Hlow.out _ G9.out⟩)

set_option maxHeartbeats 1000000 in
theorem pageTells_bad (zi kz : Int) (A : Option Addr) (n c : Nat) (at0 : Int) (x0 x1 x2 x3 : UInt8) (w : World) (hN : Nib w) (hbad : MakeOk zi kz n = false) :
    Calls Tryd.prog 5 #[.int .i64 zi, .int .i64 kz, .slice A n c, .int .i64 at0, .agg #[.int .u8 (ub x0), .int .u8 (ub x1), .int .u8 (ub x2), .int .u8 (ub x3)]] w fun e w' => e = .returned (.bool true) ∧ Below w.heap.size w w' := by
  have HN := Lib.hid hN
  obtain ⟨w0, hw0⟩ : ∃ w0, w0 = w.alloc (Obj.cells #[Value.int IntKind.u8 (ub x0), Value.int IntKind.u8 (ub x1), Value.int IntKind.u8 (ub x2), Value.int IntKind.u8 (ub x3)] 35) := ⟨_, rfl⟩
  have h1 : Hid (Below w.heap.size w w0) := Lib.hid (by rw [hw0]; exact (Below.refl _ _).alloc (Nat.le_refl _) _)
  have HN0 : Hid (Nib w0) := Lib.hid (by rw [hw0]; exact HN.out.alloc _)
  have Hw0 := Lib.hid hw0
  have CM : Hid (∀ wx, Calls Tryd.prog 10 #[.int .i64 zi, .int .i64 kz, .slice A n c] wx fun e w' => e = .returned (.tuple #[.slice none 0 0, .int .i64 1]) ∧ wx = w') := Lib.hid (fun wx => make_bad zi kz n c A wx hbad)
  clear hN hw0 hbad
  go_enter Tryd.func5, Tryd.ntmps5
  go_wp2_with (first
    | (go_at_call 8; rw [← Hw0.out]; refine (awake12 _ HN0.out).mono ?_; rintro e w1 ⟨rfl, hb⟩; have G1 : Hid (Below w.heap.size w w1) := Lib.hid (h1.out.trans (hb.mono h1.out.size)); clear hb)
    | (go_at_call 10; (with_reducible refine (CM.out w1).mono ?_); rintro e w' ⟨rfl, rfl⟩))
  go_ret
  exact ⟨rfl, G1.out⟩

theorem pageTells_any (zi kz : Int) (A : Option Addr) (n c : Nat) (at0 : Int) (x : Value) (l : List UInt8) (w : World) (hN : Nib w) (h : Bs w A n l) (ha0 : -9223372036854775808 ≤ at0) (ha : at0 ≤ 9223372036854775807)
    (hx : ∃ x0 x1 x2 x3 : UInt8, x = .agg #[.int .u8 (ub x0), .int .u8 (ub x1), .int .u8 (ub x2), .int .u8 (ub x3)]) :
    Calls Tryd.prog 5 #[.int .i64 zi, .int .i64 kz, .slice A n c, .int .i64 at0, x] w fun e w' => e = .returned (.bool true) ∧ Below w.heap.size w w' := by
  obtain ⟨x0, x1, x2, x3, rfl⟩ := hx
  cases hk : MakeOk zi kz n with
  | false => exact pageTells_bad zi kz A n c at0 x0 x1 x2 x3 w hN hk
  | true =>
    simp only [MakeOk, decide_eq_true_eq] at hk
    obtain ⟨number, rfl⟩ : ∃ k : Nat, zi = k := ⟨zi.toNat, by omega⟩
    obtain ⟨kind, rfl⟩ : ∃ k : Nat, kz = k := ⟨kz.toNat, by omega⟩
    by_cases hs : 0 ≤ at0
    · exact pageTells_pos number kind A n c at0 x0 x1 x2 x3 l w hN h (by omega) (by omega) (by omega) (by omega) hs ha
    · exact pageTells_neg number kind A n c at0 x0 x1 x2 x3 l w hN h (by omega) (by omega) (by omega) (by omega) (by omega) ha0

end Go.Proofs.YtokoagepbhlkdaaDoor
