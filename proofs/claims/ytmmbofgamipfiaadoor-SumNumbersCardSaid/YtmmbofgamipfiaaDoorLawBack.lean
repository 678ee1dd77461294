/-
  THE WALK of coffretlaw11.SumBack.
-/
import Derived.Test.YtmmbofgamipfiaaDoorLawAffine
import Derived.Laws.BytesArg
import Derived.BigQuiet
namespace Go.Proofs.YtmmbofgamipfiaaDoor
open Go.RowKit
set_option linter.unusedVariables false

/-- The string of these bytes. -/
def strB (l : List UInt8) : ByteArray := ⟨l.toArray⟩
theorem run_convert_bs {w : World} {A : Option Addr} {n : Nat} {l : List UInt8} (h : Bs w A n l) (c : Nat) :
    (convert 22 9 (.slice A n c)).run Tryd.prog w = .ok (.string (strB l)) w := by
  rw [run_convert_bytes_string w 22 9 5 A n c Tryd.underlying22 Tryd.underlying5 Tryd.underlying9]
  cases A with
  | none =>
    have : l = [] := by
      cases l with
      | nil => rfl
      | cons x r => obtain ⟨ad, e, _⟩ := h.2.2 0 x rfl; cases e
    subst this
    simp [Conv.bytesToString, strB]
    rfl
  | some a =>
    have hl : (loadCells a n).run Tryd.prog w = .ok ((l.map fun c => ub c).map (Value.int .u8)).toArray w := by
      have := run_loadCells_list (P := Tryd.prog) w a ((l.map fun c => ub c).map (Value.int .u8)) (fun j v hj => by
        simp only [List.getElem?_map, Option.map_map, Option.map_eq_some_iff] at hj
        obtain ⟨u, hu, rfl⟩ := hj
        obtain ⟨ad, e, hc⟩ := h.2.2 j u hu
        cases e
        exact hc)
      simpa [h.len] using this
    rw [run_bytesToString w a n c _ hl, foldl_push_bytes]
    have : List.map (fun n => UInt8.ofNat n.toNat) (List.map (fun c => ub c) l) = l := by
      rw [List.map_map]
      conv => rhs; rw [← List.map_id l]
      apply List.map_congr_left
      intro u _
      simp [ub]
    rw [this]
    simp [strB, ByteArray.empty, ByteArray.emptyWithCapacity]
    rfl


theorem Bs.drew {w : World} {A : Option Addr} {n : Nat} {l : List UInt8} (h : Bs w A n l) : Bs w.drew A n l := h
theorem Bs.drewN {w : World} {A : Option Addr} {n : Nat} {l : List UInt8} (h : Bs w A n l) (m : Nat) : Bs (w.drewN m) A n l := h
theorem below_drewN {B : Nat} {a w : World} (h : Below B a w) (m : Nat) : Below B a (w.drewN m) := ⟨h.os, h.tape, h.output, h.size, h.block⟩
/-- Bytes that are owned can be read; and their slice's room. -/
theorem own_bytes_cap {w : World} {base : Nat} {e : TypeId} {v : Value} {n : Nat} {l : List UInt8} (h : w.ownsRow base e 1 v n (bs l)) :
    ∃ A c, v = .slice A n c ∧ Bs w A n l ∧ n ≤ c := by
  obtain ⟨A, c, rfl, hb⟩ := own_bytes h
  refine ⟨A, c, rfl, hb, ?_⟩
  rcases h.2 with ⟨h1, h2⟩ | ⟨g, cap, cur, h1, hb, hg, hn, hc, hs, ht⟩
  · cases h1; omega
  · cases h1; exact hn

-- WALKS
set_option maxRecDepth 100000 in
set_option maxHeartbeats 2000000 in
theorem sumBack_yy (A1 A2 : Option Addr) (n1 n2 c1 c2 : Nat) (k : Nat) (N : Nat) (u : Nat) (l1 l2 : List UInt8) (w : World) (hN : Nib w) (h1 : Bs w A1 n1 l1) (h2 : Bs w A2 n2 l2) (hc2 : n2 ≤ c2) (hm : n1 + n2 ≤ 1048576) (hk1 : 1 ≤ k) (hk8 : k ≤ 8) (hNm : N ≤ 9223372036854775807) (hNk : N < 256 ^ k) (hs : k ≤ n2) (hu : unle (l2.take k) = u) (hum : u ≤ 9223372036854775807) :
    Calls Tryd.prog 8 #[.slice A1 n1 c1, .int .i64 N, .int .i64 k, .slice A2 n2 c2] w fun e w' => e = .returned (.bool true) ∧ Below w.heap.size w w' := by
  have Hinfo := Lib.hid info_u8
  have HN := Lib.hid hN
  obtain ⟨B, hB⟩ : ∃ B, B = w.heap.size := ⟨_, rfl⟩
  have HBl : Hid (∀ wx, Below B w wx → B ≤ wx.heap.size) := Lib.hid (fun wx h => by rw [hB]; exact h.size)
  have Hlow : Hid (∀ wx, Below B w wx → Below w.heap.size w wx) := Lib.hid (fun wx h => by rw [← hB]; exact h)
  have Hup : Hid (∀ wx, Below w.heap.size w wx → Below B w wx) := Lib.hid (fun wx h => by rw [hB]; exact h)
  have K1 : Hid (∀ wx, Below B w wx → Bs wx A1 n1 l1) := Lib.hid (fun wx h => h1.below (Hlow.out _ h))
  have K2 : Hid (∀ wx, Below B w wx → Bs wx A2 n2 l2) := Lib.hid (fun wx h => h2.below (Hlow.out _ h))
  have K2k : Hid (∀ wx, Below B w wx → Bs wx A2 k (l2.take k)) := Lib.hid (fun wx h => (h2.below (Hlow.out _ h)).head k hs)
  have hle : le k u = l2.take k := by
    have := le_unle (l2.take k)
    rw [List.length_take, h2.len, Nat.min_eq_left hs, hu] at this
    exact this
  have huk : u < 256 ^ k := by
    have := unle_lt (l2.take k)
    rw [List.length_take, h2.len, Nat.min_eq_left hs, hu] at this
    exact this
  have CY : Hid (∀ wx, Calls Tryd.prog 19 #[.int .i64 u, .int .i64 k] wx fun e w' => ∃ v, e = .returned (.tuple #[v, .int .i64 0]) ∧ w'.ownsRow wx.heap.size 5 1 v k (bs (l2.take k)) ∧ Below wx.heap.size wx w') :=
    Lib.hid (fun wx => by rw [← hle]; exact number_ok u k wx hk1 hk8 hum huk)
  have CR : Hid (∀ wx, Below B w wx → Calls Tryd.prog 21 #[.slice A2 n2 c2, .int .i64 0, .int .i64 k] wx fun e w' => e = .returned (.tuple #[.int .i64 u, .int .i64 0]) ∧ wx = w') := Lib.hid (fun wx h => by
    have := read_ok A2 n2 c2 0 k l2 wx (K2.out _ h) hc2 hk1 hk8 (by omega)
    rw [List.drop_zero, hu, readRes_ok hum] at this
    exact this)
  have hsi : (k : Int) ≤ (n2 : Int) := by omega
  have hsc : (k : Int) ≤ (c2 : Int) := by omega
  have hsn : k ≤ c2 := by omega
  have CN : Hid (∀ wx, Calls Tryd.prog 19 #[.int .i64 N, .int .i64 k] wx fun e w' => ∃ v, e = .returned (.tuple #[v, .int .i64 0]) ∧ w'.ownsRow wx.heap.size 5 1 v k (bs (le k N)) ∧ Below wx.heap.size wx w') :=
    Lib.hid (fun wx => number_ok N k wx hk1 hk8 hNm hNk)
  have CA : Hid (∀ wx A c, Bs wx A (0 + n1 + k + n2) ([] ++ l1 ++ le k N ++ l2) → 0 + n1 + k + n2 ≤ c → Calls Tryd.prog 21 #[.slice A (n1 + k + n2) c, .int .i64 n1, .int .i64 k] wx fun e w' => e = .returned (.tuple #[.int .i64 N, .int .i64 0]) ∧ wx = w') := Lib.hid (fun wx A c hb hc => by
    rw [Nat.zero_add] at hb hc
    have := read_ok A (n1 + k + n2) c n1 k _ wx hb hc hk1 hk8 (by omega)
    have e : List.take k (List.drop n1 ([] ++ l1 ++ le k N ++ l2)) = le k N := by
      rw [List.nil_append, List.append_assoc, List.drop_left' h1.len, List.take_left' (le_length k N)]
    rw [e, unle_le, Nat.mod_eq_of_lt hNk, readRes_ok hNm] at this
    exact this)
  have Hr1 : Hid (0 + n1 ≤ 140737488355328) := Lib.hid (by omega)
  have Hr2 : Hid (0 + n1 + k ≤ 140737488355328) := Lib.hid (by omega)
  have Hr3 : Hid (0 + n1 + k + n2 ≤ 140737488355328) := Lib.hid (by omega)
  have H0 : Hid (∀ wx : World, wx.ownsRow B 5 1 (.slice none 0 0) 0 []) := Lib.hid (fun wx => World.ownsRow_nil _ _ _ _)
  have hs0 : (0 : Int) ≤ (k : Int) := by omega
  clear hN hB h1 h2 hle huk hu hum hNm hNk
  go_enter Tryd.func8, Tryd.ntmps8
  go_wp2_with (first
    | (go_at_call 10; refine (awake11 _ HN.out).mono ?_; rintro e w1 ⟨rfl, hb⟩; have G1 := Lib.hid (Hup.out _ hb); clear hb)
    | (go_at_call 19; with_reducible refine (CN.out _).mono ?_; rintro e w2 ⟨x, rfl, ho, hb⟩; have G2 : Hid (Below B w w2) := Lib.hid (G1.out.trans (hb.mono (HBl.out _ G1.out))); obtain ⟨Ax, cx, rfl, hx⟩ := own_bytes ho; have HX := Lib.hid hx; clear ho hb hx)
    | (go_at_call 21; with_reducible refine (CR.out _ G2.out).mono ?_; rintro e w3 ⟨rfl, rfl⟩)
    | (go_at_call 19; with_reducible refine (CY.out _).mono ?_; rintro e w4 ⟨y, rfl, ho, hb⟩; have G4 : Hid (Below B w w4) := Lib.hid (G2.out.trans (hb.mono (HBl.out _ G2.out))); have HX4 := Lib.hid (HX.out.below hb); obtain ⟨Ay, cy, rfl, hy⟩ := own_bytes ho; have hcy := fun m => run_convert_bs (Bs.drewN hy m) cy; have hcb := fun m => run_convert_bs (Bs.drewN (K2k.out _ G4.out) m) c2; clear ho hb hy))
  go_quiet (fail)
  clear hcy hcb
  have G5 := Lib.hid (below_drewN G4.out nq)
  have HX5 := Lib.hid (Bs.drewN HX4.out nq)
  generalize w4.drewN nq = w5 at *
  go_wp2_with (first
    | (go_at_call 21; with_reducible refine (CA.out _ Aa ca HBa.out Hca.out).mono ?_; rintro e w' ⟨rfl, rfl⟩)
    | (at_builtin; refine wpList_append_bytes rfl _ _ 22 rfl B 5 (.int .u8 0) Tryd.underlying22 Hinfo.out rfl (.slice none 0 0) 0 [] rfl (H0.out _) A1 n1 c1 l1 rfl (K1.out _ G5.out) Hr1.out (HBl.out _ G5.out) ?_; intro va wa ho hg hla; have Oa : Hid (wa.ownsRow B 5 1 va (0 + n1) (bs ([] ++ l1))) := Lib.hid (ho); have Ga : Hid (Below B w wa) := Lib.hid (G5.out.grown hg (HBl.out _ G5.out) (fun i hi => by cases hi)); have HXa := Lib.hid (HX5.out.below ((Below.refl _ _).grown hg (Nat.le_refl _) (fun i hi => by cases hi))); clear hg ho hla)
    | (at_builtin; refine wpList_append_bytes rfl _ _ 22 rfl B 5 (.int .u8 0) Tryd.underlying22 Hinfo.out rfl va (0 + n1) (bs ([] ++ l1)) rfl Oa.out Ax k cx (le k N) rfl HXa.out Hr2.out (HBl.out _ Ga.out) ?_; intro vb wb ho hg hla; have Ob : Hid (wb.ownsRow B 5 1 vb (0 + n1 + k) (bs ([] ++ l1 ++ le k N))) := Lib.hid (by rw [bs_append]; exact ho); have Gb : Hid (Below B w wb) := Lib.hid (Ga.out.grown hg (HBl.out _ Ga.out) (fun i hi => (Oa.out.lt i hi).1)); clear hg ho hla)
    | (at_builtin; refine wpList_append_bytes rfl _ _ 22 rfl B 5 (.int .u8 0) Tryd.underlying22 Hinfo.out rfl vb (0 + n1 + k) (bs ([] ++ l1 ++ le k N)) rfl Ob.out A2 n2 c2 l2 rfl (K2.out _ Gb.out) Hr3.out (HBl.out _ Gb.out) ?_; intro vc wc ho hg hla; have Oc : Hid (wc.ownsRow B 5 1 vc (0 + n1 + k + n2) (bs ([] ++ l1 ++ le k N ++ l2))) := Lib.hid (by rw [bs_append]; exact ho); have Gc : Hid (Below B w wc) := Lib.hid (Gb.out.grown hg (HBl.out _ Gb.out) (fun i hi => (Ob.out.lt i hi).1)); clear hg ho hla; have Hex := own_bytes_cap Oc.out; obtain ⟨Aa, ca, rfl, hba, hca⟩ := Hex; have HBa := Lib.hid hba; have Hca := Lib.hid hca; clear hba hca Oa Ob))
  go_ret
  exact ⟨rfl, Hlow.out _ Gc.out⟩

set_option maxRecDepth 100000 in
set_option maxHeartbeats 2000000 in
theorem sumBack_yn (A1 A2 : Option Addr) (n1 n2 c1 c2 : Nat) (k : Nat) (N : Nat) (m f : Int) (hf : (f == 0) = false) (l1 l2 : List UInt8) (w : World) (hN : Nib w) (h1 : Bs w A1 n1 l1) (h2 : Bs w A2 n2 l2) (hc2 : n2 ≤ c2) (hm : n1 + n2 ≤ 1048576) (hk1 : 1 ≤ k) (hk8 : k ≤ 8) (hNm : N ≤ 9223372036854775807) (hNk : N < 256 ^ k) (hr : ∀ wx, Below w.heap.size w wx → Calls Tryd.prog 21 #[.slice A2 n2 c2, .int .i64 0, .int .i64 k] wx fun e w' => e = .returned (.tuple #[.int .i64 m, .int .i64 f]) ∧ wx = w') :
    Calls Tryd.prog 8 #[.slice A1 n1 c1, .int .i64 N, .int .i64 k, .slice A2 n2 c2] w fun e w' => e = .returned (.bool true) ∧ Below w.heap.size w w' := by
  have Hinfo := Lib.hid info_u8
  have HN := Lib.hid hN
  obtain ⟨B, hB⟩ : ∃ B, B = w.heap.size := ⟨_, rfl⟩
  have HBl : Hid (∀ wx, Below B w wx → B ≤ wx.heap.size) := Lib.hid (fun wx h => by rw [hB]; exact h.size)
  have Hlow : Hid (∀ wx, Below B w wx → Below w.heap.size w wx) := Lib.hid (fun wx h => by rw [← hB]; exact h)
  have Hup : Hid (∀ wx, Below w.heap.size w wx → Below B w wx) := Lib.hid (fun wx h => by rw [hB]; exact h)
  have K1 : Hid (∀ wx, Below B w wx → Bs wx A1 n1 l1) := Lib.hid (fun wx h => h1.below (Hlow.out _ h))
  have K2 : Hid (∀ wx, Below B w wx → Bs wx A2 n2 l2) := Lib.hid (fun wx h => h2.below (Hlow.out _ h))
  have CR : Hid (∀ wx, Below B w wx → Calls Tryd.prog 21 #[.slice A2 n2 c2, .int .i64 0, .int .i64 k] wx fun e w' => e = .returned (.tuple #[.int .i64 m, .int .i64 f]) ∧ wx = w') := Lib.hid (fun wx h => hr wx (Hlow.out _ h))
  have CN : Hid (∀ wx, Calls Tryd.prog 19 #[.int .i64 N, .int .i64 k] wx fun e w' => ∃ v, e = .returned (.tuple #[v, .int .i64 0]) ∧ w'.ownsRow wx.heap.size 5 1 v k (bs (le k N)) ∧ Below wx.heap.size wx w') :=
    Lib.hid (fun wx => number_ok N k wx hk1 hk8 hNm hNk)
  have CA : Hid (∀ wx A c, Bs wx A (0 + n1 + k + n2) ([] ++ l1 ++ le k N ++ l2) → 0 + n1 + k + n2 ≤ c → Calls Tryd.prog 21 #[.slice A (n1 + k + n2) c, .int .i64 n1, .int .i64 k] wx fun e w' => e = .returned (.tuple #[.int .i64 N, .int .i64 0]) ∧ wx = w') := Lib.hid (fun wx A c hb hc => by
    rw [Nat.zero_add] at hb hc
    have := read_ok A (n1 + k + n2) c n1 k _ wx hb hc hk1 hk8 (by omega)
    have e : List.take k (List.drop n1 ([] ++ l1 ++ le k N ++ l2)) = le k N := by
      rw [List.nil_append, List.append_assoc, List.drop_left' h1.len, List.take_left' (le_length k N)]
    rw [e, unle_le, Nat.mod_eq_of_lt hNk, readRes_ok hNm] at this
    exact this)
  have Hr1 : Hid (0 + n1 ≤ 140737488355328) := Lib.hid (by omega)
  have Hr2 : Hid (0 + n1 + k ≤ 140737488355328) := Lib.hid (by omega)
  have Hr3 : Hid (0 + n1 + k + n2 ≤ 140737488355328) := Lib.hid (by omega)
  have H0 : Hid (∀ wx : World, wx.ownsRow B 5 1 (.slice none 0 0) 0 []) := Lib.hid (fun wx => World.ownsRow_nil _ _ _ _)
  have hs0 : (0 : Int) ≤ (k : Int) := by omega
  clear hN hB h1 h2 hr hNm hNk
  go_enter Tryd.func8, Tryd.ntmps8
  go_wp2_with (first
    | (go_at_call 10; refine (awake11 _ HN.out).mono ?_; rintro e w1 ⟨rfl, hb⟩; have G1 := Lib.hid (Hup.out _ hb); clear hb)
    | (go_at_call 19; with_reducible refine (CN.out _).mono ?_; rintro e w2 ⟨x, rfl, ho, hb⟩; have G2 : Hid (Below B w w2) := Lib.hid (G1.out.trans (hb.mono (HBl.out _ G1.out))); obtain ⟨Ax, cx, rfl, hx⟩ := own_bytes ho; have HX := Lib.hid hx; clear ho hb hx)
    | (go_at_call 21; with_reducible refine (CR.out _ G2.out).mono ?_; rintro e w5 ⟨rfl, hw⟩; have G5 : Hid (Below B w w5) := Lib.hid (by rw [← hw]; exact G2.out); have HX5 : Hid (Bs w5 Ax k (le k N)) := Lib.hid (by rw [← hw]; exact HX.out); clear hw)
    | (go_at_call 21; with_reducible refine (CA.out _ Aa ca HBa.out Hca.out).mono ?_; rintro e w' ⟨rfl, rfl⟩)
    | (at_builtin; refine wpList_append_bytes rfl _ _ 22 rfl B 5 (.int .u8 0) Tryd.underlying22 Hinfo.out rfl (.slice none 0 0) 0 [] rfl (H0.out _) A1 n1 c1 l1 rfl (K1.out _ G5.out) Hr1.out (HBl.out _ G5.out) ?_; intro va wa ho hg hla; have Oa : Hid (wa.ownsRow B 5 1 va (0 + n1) (bs ([] ++ l1))) := Lib.hid (ho); have Ga : Hid (Below B w wa) := Lib.hid (G5.out.grown hg (HBl.out _ G5.out) (fun i hi => by cases hi)); have HXa := Lib.hid (HX5.out.below ((Below.refl _ _).grown hg (Nat.le_refl _) (fun i hi => by cases hi))); clear hg ho hla)
    | (at_builtin; refine wpList_append_bytes rfl _ _ 22 rfl B 5 (.int .u8 0) Tryd.underlying22 Hinfo.out rfl va (0 + n1) (bs ([] ++ l1)) rfl Oa.out Ax k cx (le k N) rfl HXa.out Hr2.out (HBl.out _ Ga.out) ?_; intro vb wb ho hg hla; have Ob : Hid (wb.ownsRow B 5 1 vb (0 + n1 + k) (bs ([] ++ l1 ++ le k N))) := Lib.hid (by rw [bs_append]; exact ho); have Gb : Hid (Below B w wb) := Lib.hid (Ga.out.grown hg (HBl.out _ Ga.out) (fun i hi => (Oa.out.lt i hi).1)); clear hg ho hla)
    | (at_builtin; refine wpList_append_bytes rfl _ _ 22 rfl B 5 (.int .u8 0) Tryd.underlying22 Hinfo.out rfl vb (0 + n1 + k) (bs ([] ++ l1 ++ le k N)) rfl Ob.out A2 n2 c2 l2 rfl (K2.out _ Gb.out) Hr3.out (HBl.out _ Gb.out) ?_; intro vc wc ho hg hla; have Oc : Hid (wc.ownsRow B 5 1 vc (0 + n1 + k + n2) (bs ([] ++ l1 ++ le k N ++ l2))) := Lib.hid (by rw [bs_append]; exact ho); have Gc : Hid (Below B w wc) := Lib.hid (Gb.out.grown hg (HBl.out _ Gb.out) (fun i hi => (Ob.out.lt i hi).1)); clear hg ho hla; have Hex := own_bytes_cap Oc.out; obtain ⟨Aa, ca, rfl, hba, hca⟩ := Hex; have HBa := Lib.hid hba; have Hca := Lib.hid hca; clear hba hca Oa Ob))
  go_ret
  exact ⟨rfl, Hlow.out _ Gc.out⟩

set_option maxRecDepth 100000 in
set_option maxHeartbeats 2000000 in
theorem sumBack_ny (A1 A2 : Option Addr) (n1 n2 c1 c2 : Nat) (k : Nat) (n : Int) (u : Nat) (l1 l2 : List UInt8) (w : World) (hN : Nib w) (h1 : Bs w A1 n1 l1) (h2 : Bs w A2 n2 l2) (hc2 : n2 ≤ c2) (hm : n1 + n2 ≤ 1048576) (hk1 : 1 ≤ k) (hk8 : k ≤ 8) (hbad : NumOk n k = false) (hnm : n ≤ 9223372036854775807) (hs : k ≤ n2) (hu : unle (l2.take k) = u) (hum : u ≤ 9223372036854775807) :
    Calls Tryd.prog 8 #[.slice A1 n1 c1, .int .i64 n, .int .i64 k, .slice A2 n2 c2] w fun e w' => e = .returned (.bool true) ∧ Below w.heap.size w w' := by
  have Hinfo := Lib.hid info_u8
  have HN := Lib.hid hN
  obtain ⟨B, hB⟩ : ∃ B, B = w.heap.size := ⟨_, rfl⟩
  have HBl : Hid (∀ wx, Below B w wx → B ≤ wx.heap.size) := Lib.hid (fun wx h => by rw [hB]; exact h.size)
  have Hlow : Hid (∀ wx, Below B w wx → Below w.heap.size w wx) := Lib.hid (fun wx h => by rw [← hB]; exact h)
  have Hup : Hid (∀ wx, Below w.heap.size w wx → Below B w wx) := Lib.hid (fun wx h => by rw [hB]; exact h)
  have K1 : Hid (∀ wx, Below B w wx → Bs wx A1 n1 l1) := Lib.hid (fun wx h => h1.below (Hlow.out _ h))
  have K2 : Hid (∀ wx, Below B w wx → Bs wx A2 n2 l2) := Lib.hid (fun wx h => h2.below (Hlow.out _ h))
  have K2k : Hid (∀ wx, Below B w wx → Bs wx A2 k (l2.take k)) := Lib.hid (fun wx h => (h2.below (Hlow.out _ h)).head k hs)
  have hle : le k u = l2.take k := by
    have := le_unle (l2.take k)
    rw [List.length_take, h2.len, Nat.min_eq_left hs, hu] at this
    exact this
  have huk : u < 256 ^ k := by
    have := unle_lt (l2.take k)
    rw [List.length_take, h2.len, Nat.min_eq_left hs, hu] at this
    exact this
  have CY : Hid (∀ wx, Calls Tryd.prog 19 #[.int .i64 u, .int .i64 k] wx fun e w' => ∃ v, e = .returned (.tuple #[v, .int .i64 0]) ∧ w'.ownsRow wx.heap.size 5 1 v k (bs (l2.take k)) ∧ Below wx.heap.size wx w') :=
    Lib.hid (fun wx => by rw [← hle]; exact number_ok u k wx hk1 hk8 hum huk)
  have CR : Hid (∀ wx, Below B w wx → Calls Tryd.prog 21 #[.slice A2 n2 c2, .int .i64 0, .int .i64 k] wx fun e w' => e = .returned (.tuple #[.int .i64 u, .int .i64 0]) ∧ wx = w') := Lib.hid (fun wx h => by
    have := read_ok A2 n2 c2 0 k l2 wx (K2.out _ h) hc2 hk1 hk8 (by omega)
    rw [List.drop_zero, hu, readRes_ok hum] at this
    exact this)
  have hsi : (k : Int) ≤ (n2 : Int) := by omega
  have hsc : (k : Int) ≤ (c2 : Int) := by omega
  have hsn : k ≤ c2 := by omega
  have CN : Hid (∀ wx, Calls Tryd.prog 19 #[.int .i64 n, .int .i64 k] wx fun e w' => e = .returned (.tuple #[.slice none 0 0, .int .i64 1]) ∧ wx = w') := Lib.hid (fun wx => number_bad _ _ _ hbad hnm)
  have hs0 : (0 : Int) ≤ (k : Int) := by omega
  clear hN hB h1 h2 hle huk hu hum hbad hnm
  go_enter Tryd.func8, Tryd.ntmps8
  go_wp2_with (first
    | (go_at_call 10; refine (awake11 _ HN.out).mono ?_; rintro e w1 ⟨rfl, hb⟩; have G1 := Lib.hid (Hup.out _ hb); clear hb)
    | (go_at_call 19; with_reducible refine (CN.out _).mono ?_; rintro e w2 ⟨rfl, hw⟩; have G2 : Hid (Below B w w2) := Lib.hid (by rw [← hw]; exact G1.out); clear hw)
    | (go_at_call 21; with_reducible refine (CR.out _ G2.out).mono ?_; rintro e w3 ⟨rfl, rfl⟩)
    | (go_at_call 19; with_reducible refine (CY.out _).mono ?_; rintro e w4 ⟨y, rfl, ho, hb⟩; have G4 : Hid (Below B w w4) := Lib.hid (G2.out.trans (hb.mono (HBl.out _ G2.out))); obtain ⟨Ay, cy, rfl, hy⟩ := own_bytes ho; have hcy := fun m => run_convert_bs (Bs.drewN hy m) cy; have hcb := fun m => run_convert_bs (Bs.drewN (K2k.out _ G4.out) m) c2; clear ho hb hy))
  go_quiet (fail)
  clear hcy hcb
  have G5 := Lib.hid (below_drewN G4.out nq)
  generalize w4.drewN nq = w5 at *
  go_wp2
  go_ret
  exact ⟨rfl, Hlow.out _ G5.out⟩

set_option maxRecDepth 100000 in
set_option maxHeartbeats 2000000 in
theorem sumBack_nn (A1 A2 : Option Addr) (n1 n2 c1 c2 : Nat) (z : Int) (n : Int) (m f : Int) (hf : (f == 0) = false) (l1 l2 : List UInt8) (w : World) (hN : Nib w) (h1 : Bs w A1 n1 l1) (h2 : Bs w A2 n2 l2) (hc2 : n2 ≤ c2) (hm : n1 + n2 ≤ 1048576) (hbad : NumOk n z = false) (hnm : n ≤ 9223372036854775807) (hr : ∀ wx, Below w.heap.size w wx → Calls Tryd.prog 21 #[.slice A2 n2 c2, .int .i64 0, .int .i64 z] wx fun e w' => e = .returned (.tuple #[.int .i64 m, .int .i64 f]) ∧ wx = w') :
    Calls Tryd.prog 8 #[.slice A1 n1 c1, .int .i64 n, .int .i64 z, .slice A2 n2 c2] w fun e w' => e = .returned (.bool true) ∧ Below w.heap.size w w' := by
  have Hinfo := Lib.hid info_u8
  have HN := Lib.hid hN
  obtain ⟨B, hB⟩ : ∃ B, B = w.heap.size := ⟨_, rfl⟩
  have HBl : Hid (∀ wx, Below B w wx → B ≤ wx.heap.size) := Lib.hid (fun wx h => by rw [hB]; exact h.size)
  have Hlow : Hid (∀ wx, Below B w wx → Below w.heap.size w wx) := Lib.hid (fun wx h => by rw [← hB]; exact h)
  have Hup : Hid (∀ wx, Below w.heap.size w wx → Below B w wx) := Lib.hid (fun wx h => by rw [hB]; exact h)
  have K1 : Hid (∀ wx, Below B w wx → Bs wx A1 n1 l1) := Lib.hid (fun wx h => h1.below (Hlow.out _ h))
  have K2 : Hid (∀ wx, Below B w wx → Bs wx A2 n2 l2) := Lib.hid (fun wx h => h2.below (Hlow.out _ h))
  have CR : Hid (∀ wx, Below B w wx → Calls Tryd.prog 21 #[.slice A2 n2 c2, .int .i64 0, .int .i64 z] wx fun e w' => e = .returned (.tuple #[.int .i64 m, .int .i64 f]) ∧ wx = w') := Lib.hid (fun wx h => hr wx (Hlow.out _ h))
  have CN : Hid (∀ wx, Calls Tryd.prog 19 #[.int .i64 n, .int .i64 z] wx fun e w' => e = .returned (.tuple #[.slice none 0 0, .int .i64 1]) ∧ wx = w') := Lib.hid (fun wx => number_bad _ _ _ hbad hnm)
  clear hN hB h1 h2 hr hbad hnm
  go_enter Tryd.func8, Tryd.ntmps8
  go_wp2_with (first
    | (go_at_call 10; refine (awake11 _ HN.out).mono ?_; rintro e w1 ⟨rfl, hb⟩; have G1 := Lib.hid (Hup.out _ hb); clear hb)
    | (go_at_call 19; with_reducible refine (CN.out _).mono ?_; rintro e w2 ⟨rfl, hw⟩; have G2 : Hid (Below B w w2) := Lib.hid (by rw [← hw]; exact G1.out); clear hw)
    | (go_at_call 21; with_reducible refine (CR.out _ G2.out).mono ?_; rintro e w5 ⟨rfl, hw⟩; have G5 : Hid (Below B w w5) := Lib.hid (by rw [← hw]; exact G2.out); clear hw)
    )
  go_ret
  exact ⟨rfl, Hlow.out _ G5.out⟩

theorem sumBack_any (A1 A2 : Option Addr) (n1 n2 c1 c2 : Nat) (n z : Int) (l1 l2 : List UInt8) (w : World) (hN : Nib w) (h1 : Bs w A1 n1 l1) (h2 : Bs w A2 n2 l2) (hc2 : n2 ≤ c2) (hm : n1 + n2 ≤ 1048576)
    (hn : n ≤ 9223372036854775807) :
    Calls Tryd.prog 8 #[.slice A1 n1 c1, .int .i64 n, .int .i64 z, .slice A2 n2 c2] w fun e w' => e = .returned (.bool true) ∧ Below w.heap.size w w' := by
  by_cases hz : 1 ≤ z ∧ z ≤ 8
  · obtain ⟨k, rfl⟩ : ∃ k : Nat, z = k := ⟨z.toNat, by omega⟩
    have hk1 : 1 ≤ k := by omega
    have hk8 : k ≤ 8 := by omega
    cases hk : NumOk n k with
    | true =>
      simp only [NumOk, decide_eq_true_eq] at hk
      obtain ⟨N, rfl⟩ : ∃ N : Nat, n = N := ⟨n.toNat, by omega⟩
      have hNk : N < 256 ^ k := by
        have h4 := hk.2.2.2
        rw [Int.toNat_natCast] at h4
        have e : (256 : Int) ^ k = ((256 ^ k : Nat) : Int) := by rw [Int.natCast_pow]; rfl
        rw [e] at h4
        omega
      have hNm : N ≤ 9223372036854775807 := by omega
      by_cases hs : k ≤ n2
      · by_cases hu : unle (l2.take k) ≤ 9223372036854775807
        · exact sumBack_yy A1 A2 n1 n2 c1 c2 k N _ l1 l2 w hN h1 h2 hc2 hm hk1 hk8 hNm hNk hs rfl hu
        · exact sumBack_yn A1 A2 n1 n2 c1 c2 k N 0 111 (by decide) l1 l2 w hN h1 h2 hc2 hm hk1 hk8 hNm hNk (fun wx h => by
          have := read_ok A2 n2 c2 0 k l2 wx (h2.below h) hc2 hk1 hk8 (by omega)
          rw [List.drop_zero, readRes_big hu] at this
          exact this)
      · exact sumBack_yn A1 A2 n1 n2 c1 c2 k N 0 110 (by decide) l1 l2 w hN h1 h2 hc2 hm hk1 hk8 hNm hNk (fun wx _ => read_short A2 n2 c2 0 k wx hk1 hk8 (by omega) (by omega))
    | false =>
      by_cases hs : k ≤ n2
      · by_cases hu : unle (l2.take k) ≤ 9223372036854775807
        · exact sumBack_ny A1 A2 n1 n2 c1 c2 k n _ l1 l2 w hN h1 h2 hc2 hm hk1 hk8 hk hn hs rfl hu
        · exact sumBack_nn A1 A2 n1 n2 c1 c2 k n 0 111 (by decide) l1 l2 w hN h1 h2 hc2 hm hk hn (fun wx h => by
          have := read_ok A2 n2 c2 0 k l2 wx (h2.below h) hc2 hk1 hk8 (by omega)
          rw [List.drop_zero, readRes_big hu] at this
          exact this)
      · exact sumBack_nn A1 A2 n1 n2 c1 c2 k n 0 110 (by decide) l1 l2 w hN h1 h2 hc2 hm hk hn (fun wx _ => read_short A2 n2 c2 0 k wx hk1 hk8 (by omega) (by omega))
  · exact sumBack_nn A1 A2 n1 n2 c1 c2 z n 0 1 (by decide) l1 l2 w hN h1 h2 hc2 hm (by simp only [NumOk, decide_eq_false_iff_not]; omega) hn (fun wx _ => read_bad A2 n2 c2 0 z wx (by simp only [ReadBad, decide_eq_true_eq]; omega))

end Go.Proofs.YtmmbofgamipfiaaDoor
