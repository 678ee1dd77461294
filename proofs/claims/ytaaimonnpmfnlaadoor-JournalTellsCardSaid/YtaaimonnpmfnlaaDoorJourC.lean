/-
  CONTRACTS: journal.Frame, where there is none; the reference's Frame.
-/
import Derived.Test.YtaaimonnpmfnlaaDoorJourB
namespace Go.Proofs.YtaaimonnpmfnlaaDoor
open Go.RowKit
set_option maxRecDepth 100000
set_option linter.unusedVariables false

/-- Why there is no frame. -/
def frCode (e number n : Int) : Int := if FrOk e number = false then 1 else 2

theorem frame_bad (e number : Int) (n c : Nat) (A : Option Addr) (w : World) (h : FrOk e number = false) :
    Calls Tryd.prog 11 #[.int .i64 e, .int .i64 number, .slice A n c] w fun r w' => r = .returned (.tuple #[.slice none 0 0, .int .i64 1]) ∧ w = w' := by
  have C := Lib.hid (epochs_any e w)
  by_cases he : EpOk e = true
  · have C2 : Hid (Calls Tryd.prog 34 #[.int .i64 e] w fun r w' => r = .returned (.bool true) ∧ w = w') := Lib.hid (by have := C.out; rw [he] at this; exact this)
    have hn : number < 0 ∨ 2147483648 ≤ number := by
      simp only [FrOk, decide_eq_false_iff_not] at h
      simp only [EpOk, decide_eq_true_eq] at he
      omega
    clear C h he
    rcases hn with hn | hn
    all_goals (
      go_enter Tryd.func11, Tryd.ntmps11
      go_wp2_with (go_at_call 34; (with_reducible refine C2.out.mono ?_); rintro r w' ⟨rfl, rfl⟩)
      go_ret2
      exact ⟨rfl, rfl⟩)
  · have C2 : Hid (Calls Tryd.prog 34 #[.int .i64 e] w fun r w' => r = .returned (.bool false) ∧ w = w') := Lib.hid (by have := C.out; rw [eq_false_of_ne_true he] at this; exact this)
    clear C h he
    go_enter Tryd.func11, Tryd.ntmps11
    go_wp2_with (go_at_call 34; (with_reducible refine C2.out.mono ?_); rintro r w' ⟨rfl, rfl⟩)
    go_ret2
    exact ⟨rfl, rfl⟩

theorem frame_long (e number : Int) (n c : Nat) (A : Option Addr) (w : World) (h : FrOk e number = true) (hn : 268435456 < n) :
    Calls Tryd.prog 11 #[.int .i64 e, .int .i64 number, .slice A n c] w fun r w' => r = .returned (.tuple #[.slice none 0 0, .int .i64 2]) ∧ w = w' := by
  simp only [FrOk, decide_eq_true_eq] at h
  have C2 : Hid (Calls Tryd.prog 34 #[.int .i64 e] w fun r w' => r = .returned (.bool true) ∧ w = w') := Lib.hid (by
    have := epochs_any e w
    rw [show EpOk e = true by simp only [EpOk, decide_eq_true_eq]; omega] at this
    exact this)
  have h3 : 0 ≤ number := by omega
  have h4 : number < 2147483648 := by omega
  have h5 : (268435456 : Int) < (n : Int) := by omega
  clear h hn
  go_enter Tryd.func11, Tryd.ntmps11
  go_wp2_with (go_at_call 34; (with_reducible refine C2.out.mono ?_); rintro r w' ⟨rfl, rfl⟩)
  go_ret2
  exact ⟨rfl, rfl⟩

theorem repoch_any (e : Int) (w : World) : Calls Tryd.prog 37 #[.int .i64 e] w fun r w' => r = .returned (.bool (EpOk e)) ∧ w = w' := by
  by_cases h1 : 1 ≤ e
  · by_cases h2 : e ≤ 1099511627776
    · have hk : EpOk e = true := by simp [EpOk, h1, h2]
      rw [hk]
      go_enter Tryd.func37, Tryd.ntmps37
      go_wp2
      go_ret
      exact ⟨rfl, rfl⟩
    · have hk : EpOk e = false := by simp [EpOk, h2]
      rw [hk]
      go_enter Tryd.func37, Tryd.ntmps37
      go_wp2
      go_ret
      exact ⟨rfl, rfl⟩
  · have hk : EpOk e = false := by simp [EpOk, h1]
    rw [hk]
    go_enter Tryd.func37, Tryd.ntmps37
    go_wp2
    go_ret
    exact ⟨rfl, rfl⟩

theorem rframe_bad (e number : Int) (n c : Nat) (A : Option Addr) (w : World) (h : FrOk e number = false) :
    Calls Tryd.prog 13 #[.int .i64 e, .int .i64 number, .slice A n c] w fun r w' => r = .returned (.tuple #[.slice none 0 0, .int .i64 1]) ∧ w = w' := by
  have C := Lib.hid (repoch_any e w)
  by_cases he : EpOk e = true
  · have C2 : Hid (Calls Tryd.prog 37 #[.int .i64 e] w fun r w' => r = .returned (.bool true) ∧ w = w') := Lib.hid (by have := C.out; rw [he] at this; exact this)
    have hn : number < 0 ∨ 2147483648 ≤ number := by
      simp only [FrOk, decide_eq_false_iff_not] at h
      simp only [EpOk, decide_eq_true_eq] at he
      omega
    clear C h he
    rcases hn with hn | hn
    all_goals (
      go_enter Tryd.func13, Tryd.ntmps13
      go_wp2_with (go_at_call 37; (with_reducible refine C2.out.mono ?_); rintro r w' ⟨rfl, rfl⟩)
      go_ret2
      exact ⟨rfl, rfl⟩)
  · have C2 : Hid (Calls Tryd.prog 37 #[.int .i64 e] w fun r w' => r = .returned (.bool false) ∧ w = w') := Lib.hid (by have := C.out; rw [eq_false_of_ne_true he] at this; exact this)
    clear C h he
    go_enter Tryd.func13, Tryd.ntmps13
    go_wp2_with (go_at_call 37; (with_reducible refine C2.out.mono ?_); rintro r w' ⟨rfl, rfl⟩)
    go_ret2
    exact ⟨rfl, rfl⟩

theorem rframe_long (e number : Int) (n c : Nat) (A : Option Addr) (w : World) (h : FrOk e number = true) (hn : 268435456 < n) :
    Calls Tryd.prog 13 #[.int .i64 e, .int .i64 number, .slice A n c] w fun r w' => r = .returned (.tuple #[.slice none 0 0, .int .i64 2]) ∧ w = w' := by
  simp only [FrOk, decide_eq_true_eq] at h
  have C2 : Hid (Calls Tryd.prog 37 #[.int .i64 e] w fun r w' => r = .returned (.bool true) ∧ w = w') := Lib.hid (by
    have := repoch_any e w
    rw [show EpOk e = true by simp only [EpOk, decide_eq_true_eq]; omega] at this
    exact this)
  have h3 : 0 ≤ number := by omega
  have h4 : number < 2147483648 := by omega
  have h5 : (268435456 : Int) < (n : Int) := by omega
  clear h hn
  go_enter Tryd.func13, Tryd.ntmps13
  go_wp2_with (go_at_call 37; (with_reducible refine C2.out.mono ?_); rintro r w' ⟨rfl, rfl⟩)
  go_ret2
  exact ⟨rfl, rfl⟩

/-- The reference's put: a number behind bytes that the caller owns. -/
theorem rput_any (base : Nat) (A : Option Addr) (m c n size : Nat) (l : List UInt8) (w : World) (ho : w.ownsRow base 5 1 (.slice A m c) m (bs l)) (hb : base ≤ w.heap.size) (h1 : 1 ≤ size) (h8 : size ≤ 8) (hn : n ≤ 9223372036854775807) (hk : n < 256 ^ size) (hm : m ≤ 1099511627776) :
    Calls Tryd.prog 38 #[.slice A m c, .int .i64 n, .int .i64 size] w fun e w' => ∃ A' c', e = .returned (.slice A' (m + size) c') ∧ w'.ownsRow base 5 1 (.slice A' (m + size) c') (m + size) (bs (l ++ le size n)) ∧ Below base w w' := by
  have Hinfo := Lib.hid info_u8
  have Ho := Lib.hid ho
  have CN : Hid (∀ wx, Calls Tryd.prog 46 #[.int .i64 n, .int .i64 size] wx fun e w' => ∃ v, e = .returned (.tuple #[v, .int .i64 0]) ∧ w'.ownsRow wx.heap.size 5 1 v size (bs (le size n)) ∧ Below wx.heap.size wx w') := Lib.hid (fun wx => rnumber_ok n size wx h1 h8 hn hk)
  have Hr : Hid (m + size ≤ 140737488355328) := Lib.hid (by omega)
  have Hb := Lib.hid hb
  clear ho hn hk hb hm
  go_enter Tryd.func38, Tryd.ntmps38
  go_wp2_with (first
    | (go_at_call 46; with_reducible refine (CN.out _).mono ?_; rintro e w2 ⟨x, rfl, ho, hb⟩; obtain ⟨Ax, cx, hxe, hxb⟩ := own_bytes ho; subst hxe; have HX := Lib.hid hxb; have H2 := Lib.hid hb; have Ho2 := Lib.hid (own_below Ho.out hb); have Hb2 : Hid (base ≤ w2.heap.size) := Lib.hid (Nat.le_trans Hb.out hb.size); clear ho hb hxb)
    | (at_builtin; refine wpList_append_bytes rfl _ _ 22 rfl base 5 (.int .u8 0) Tryd.underlying22 Hinfo.out rfl (.slice A m c) m (bs l) rfl Ho2.out Ax size cx (le size n) rfl HX.out Hr.out Hb2.out ?_; intro va wa ho hg hla; have Oa : Hid (wa.ownsRow base 5 1 va (m + size) (bs (l ++ le size n))) := Lib.hid (by rw [bs_append]; exact ho); have Ga : Hid (Below base w wa) := Lib.hid ((H2.out.mono Hb.out).grown hg Hb2.out (fun i hi => (Ho2.out.lt i hi).1)); clear ho hg hla))
  go_ret
  obtain ⟨A', c', e, _⟩ := own_bytes Oa.out
  subst e
  exact ⟨A', c', rfl, Oa.out, Ga.out⟩

set_option maxHeartbeats 2000000 in
theorem rframe_ok (e number n c : Nat) (A : Option Addr) (b : List UInt8) (w : World) (hb : Bs w A n b) (h1 : 1 ≤ e) (h2 : e ≤ 1099511627776) (h3 : number < 2147483648) (h4 : n ≤ 268435456) :
    Calls Tryd.prog 13 #[.int .i64 e, .int .i64 number, .slice A n c] w fun r w' => ∃ v, r = .returned (.tuple #[v, .int .i64 0]) ∧ w'.ownsRow w.heap.size 5 1 v (20 + n) (bs (frameOf e number b)) ∧ Below w.heap.size w w' := by
  have Hinfo := Lib.hid info_u8
  have hl := hb.len
  obtain ⟨B, hB⟩ : ∃ B, B = w.heap.size := ⟨_, rfl⟩
  have HBl : Hid (∀ wx, Below B w wx → B ≤ wx.heap.size) := Lib.hid (fun wx h => by rw [hB]; exact h.size)
  have Hlow : Hid (∀ wx, Below B w wx → Below w.heap.size w wx) := Lib.hid (fun wx h => by rw [← hB]; exact h)
  have K : Hid (∀ wx, Below B w wx → Bs wx A n b) := Lib.hid (fun wx h => hb.below (Hlow.out _ h))
  obtain ⟨ei, hei⟩ : ∃ z : Int, z = (e : Int) := ⟨_, rfl⟩
  obtain ⟨ni, hni⟩ : ∃ z : Int, z = (number : Int) := ⟨_, rfl⟩
  obtain ⟨ss, hss⟩ : ∃ s : BitVec 32, s = jSum e number b := ⟨_, rfl⟩
  obtain ⟨H, hH⟩ : ∃ H, H = jHead e number n := ⟨_, rfl⟩
  have HHl : Hid (H.length = 16) := Lib.hid (by rw [hH, jHead_length])
  obtain ⟨F, hF⟩ : ∃ F, F = frameOf e number b := ⟨_, rfl⟩
  have HF : Hid (bs (H ++ le 4 ss.toNat) ++ bs b = bs F) := Lib.hid (by rw [hF, frameOf, ← hss, hH, hl, bs_append, bs_append, bs_append])
  have CE : Hid (Calls Tryd.prog 37 #[.int .i64 ei] w fun r w' => r = .returned (.bool true) ∧ w = w') := Lib.hid (by
    have := repoch_any ei w
    rw [show EpOk ei = true by simp only [EpOk, decide_eq_true_eq]; omega] at this; exact this)
  have P1 : Hid (∀ wx, Below B w wx → Calls Tryd.prog 38 #[.slice none 0 0, .int .i64 n, .int .i64 4] wx fun e w' => ∃ A' c', e = .returned (.slice A' 4 c') ∧ w'.ownsRow B 5 1 (.slice A' 4 c') 4 (bs (le 4 n)) ∧ Below B wx w') := Lib.hid (fun wx h =>
    rput_any B none 0 0 n 4 [] wx (World.ownsRow_nil _ _ _ _) (HBl.out _ h) (by omega) (by omega) (by omega) (by omega) (by omega))
  have P2 : Hid (∀ wx A1 c1, Below B w wx → wx.ownsRow B 5 1 (.slice A1 4 c1) 4 (bs (le 4 n)) → Calls Tryd.prog 38 #[.slice A1 4 c1, .int .i64 ei, .int .i64 8] wx fun r w' => ∃ A' c', r = .returned (.slice A' 12 c') ∧ w'.ownsRow B 5 1 (.slice A' 12 c') 12 (bs (le 4 n ++ le 8 e)) ∧ Below B wx w') := Lib.hid (fun wx A1 c1 h ho => by
    rw [hei]; exact rput_any B A1 4 c1 e 8 _ wx ho (HBl.out _ h) (by omega) (by omega) (by omega) (by omega) (by omega))
  have P3 : Hid (∀ wx A1 c1, Below B w wx → wx.ownsRow B 5 1 (.slice A1 12 c1) 12 (bs (le 4 n ++ le 8 e)) → Calls Tryd.prog 38 #[.slice A1 12 c1, .int .i64 ni, .int .i64 4] wx fun r w' => ∃ A' c', r = .returned (.slice A' 16 c') ∧ w'.ownsRow B 5 1 (.slice A' 16 c') 16 (bs H) ∧ Below B wx w') := Lib.hid (fun wx A1 c1 h ho => by
    rw [hni, hH]; exact rput_any B A1 12 c1 number 4 _ wx ho (HBl.out _ h) (by omega) (by omega) (by omega) (by omega) (by omega))
  have P4 : Hid (∀ wx A1 c1, Below B w wx → wx.ownsRow B 5 1 (.slice A1 16 c1) 16 (bs H) → Calls Tryd.prog 38 #[.slice A1 16 c1, .int .i64 (ui ss), .int .i64 4] wx fun r w' => ∃ A' c', r = .returned (.slice A' 20 c') ∧ w'.ownsRow B 5 1 (.slice A' 20 c') 20 (bs (H ++ le 4 ss.toNat)) ∧ Below B wx w') := Lib.hid (fun wx A1 c1 h ho => by
    have hlt : ss.toNat < 4294967296 := ss.isLt
    exact rput_any B A1 16 c1 ss.toNat 4 _ wx ho (HBl.out _ h) (by omega) (by omega) (by omega) (by omega) (by omega))
  have CS : Hid (∀ wx A1 c1, Bs wx A1 (16 + n) (H ++ b) → Calls Tryd.prog 39 #[.slice A1 (16 + n) c1] wx fun e w' => e = .returned (.int .i64 (ui ss)) ∧ wx = w') := Lib.hid (fun wx A1 c1 h => by
    rw [hss, jSum, hl, ← hH]; exact rsum_any _ _ _ _ _ h)
  have Hr1 : Hid (0 + 16 ≤ 140737488355328) := Lib.hid (by omega)
  have Hr2 : Hid (16 + n ≤ 140737488355328) := Lib.hid (by omega)
  have Hr3 : Hid (20 + n ≤ 140737488355328) := Lib.hid (by omega)
  have i3 : 0 ≤ ni := by omega
  have i4 : ni < 2147483648 := by omega
  have i5 : (n : Int) ≤ 268435456 := by omega
  have HBw := Lib.hid hB
  rw [← hei, ← hni, ← hF]
  clear hb hl h1 h2 h3 h4 hei hni hss hB hH hF
  go_enter Tryd.func13, Tryd.ntmps13
  go_wp2_with (first
    | (go_at_call 37; (with_reducible refine CE.out.mono ?_); rintro r w' ⟨rfl, rfl⟩)
    | (go_at_call 38; (with_reducible refine (P1.out w (Below.refl _ _)).mono ?_); rintro e w1 ⟨A1, c1, rfl, ho, hb⟩; have O1 := Lib.hid ho; have B1 := Lib.hid hb; clear ho hb)
    | (go_at_call 38; (with_reducible refine (P2.out w1 A1 c1 B1.out O1.out).mono ?_); rintro e w2 ⟨A2, c2, rfl, ho, hb⟩; have O2 := Lib.hid ho; have B2 := Lib.hid (B1.out.trans hb); clear ho hb)
    | (go_at_call 38; (with_reducible refine (P3.out w2 A2 c2 B2.out O2.out).mono ?_); rintro e w3 ⟨A3, c3, rfl, ho, hb⟩; have O3 := Lib.hid ho; have B3 := Lib.hid (B2.out.trans hb); obtain ⟨A', c', e', hb3⟩ := own_bytes ho; cases e'; have HB3 := Lib.hid hb3; clear ho hb hb3)
    | (at_builtin; refine wpList_append_bytes rfl _ _ 22 rfl w3.heap.size 5 (.int .u8 0) Tryd.underlying22 Hinfo.out rfl (.slice none 0 0) 0 (bs []) rfl (World.ownsRow_nil _ _ _ _) A3 16 c3 H rfl HB3.out Hr1.out (Nat.le_refl _) ?_; intro va w4 ho hg hla; have Oa : Hid (w4.ownsRow w3.heap.size 5 1 va 16 (bs H)) := Lib.hid (by rw [Nat.zero_add] at ho; exact ho); have Ba : Below w3.heap.size w3 w4 := (Below.refl _ _).grown hg (Nat.le_refl _) (fun i hi => by cases hi); have B4 : Hid (Below B w w4) := Lib.hid (B3.out.trans (Ba.mono (HBl.out _ B3.out))); have O4 := Lib.hid (own_below O3.out Ba); have S4 : Hid (w3.heap.size ≤ w4.heap.size) := Lib.hid Ba.size; clear ho hg hla Ba)
    | (at_builtin; refine wpList_append_bytes rfl _ _ 22 rfl w3.heap.size 5 (.int .u8 0) Tryd.underlying22 Hinfo.out rfl va 16 (bs H) rfl Oa.out A n c b rfl (K.out _ B4.out) Hr2.out S4.out ?_; intro vb w5 ho hg hla; rw [← bs_append] at ho; obtain ⟨Ab, cb, hvb, hbb⟩ := own_bytes ho; subst hvb; have HBb := Lib.hid hbb; have B5 : Hid (Below B w w5) := Lib.hid (B4.out.grown hg (HBl.out _ B4.out) (fun i hi => Nat.le_trans (HBl.out _ B3.out) (Oa.out.lt i hi).1)); have O5 := Lib.hid (own_keep O4.out (fun g e => hg.block g (own_lt O4.out e).2 (fun e2 => by have h1 := (own_lt O3.out e).2; have h2 := (Oa.out.lt g e2.symm).1; omega))); clear ho hg hla hbb)
    | (go_at_call 39; (with_reducible refine (CS.out w5 _ _ HBb.out).mono ?_); rintro r w' ⟨rfl, rfl⟩)
    | (go_at_call 38; (with_reducible refine (P4.out w5 A3 c3 B5.out O5.out).mono ?_); rintro e w6 ⟨A6, c6, rfl, ho, hb⟩; have O6 := Lib.hid ho; have B6 := Lib.hid (B5.out.trans hb); clear ho hb)
    | (at_builtin; refine wpList_append_bytes rfl _ _ 22 rfl B 5 (.int .u8 0) Tryd.underlying22 Hinfo.out rfl (.slice A6 20 c6) 20 (bs (H ++ le 4 ss.toNat)) rfl O6.out A n c b rfl (K.out _ B6.out) Hr3.out (HBl.out _ B6.out) ?_; intro vc w7 ho hg hla; rw [HF.out] at ho; have O7 := Lib.hid ho; have B7 : Hid (Below B w w7) := Lib.hid (B6.out.grown hg (HBl.out _ B6.out) (fun i hi => (O6.out.lt i hi).1)); clear ho hg hla))
  go_ret2
  have hB := HBw.out
  subst hB
  exact ⟨vc, rfl, O7.out, B7.out⟩

end Go.Proofs.YtaaimonnpmfnlaaDoor
