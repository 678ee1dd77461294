/-
  CONTRACT: the reference's page.
-/
import Derived.Test.YteljopjaolegaaaDoorPageB
namespace Go.Proofs.YteljopjaolegaaaDoor
open Go.RowKit
set_option maxRecDepth 100000
set_option linter.unusedVariables false

def sliceLen : Value → Nat
  | .slice _ k _ => k
  | _ => 0

set_option maxHeartbeats 1000000 in
theorem rmake_ok (number kind n c : Nat) (A : Option Addr) (body : List UInt8) (w : World) (hb : Bs w A n body) (h1 : number < 65536) (h2 : 1 ≤ kind) (h3 : kind ≤ 255) (h4 : n ≤ 4085) :
    Calls Tryd.prog 42 #[.int .i64 number, .int .i64 kind, .slice A n c] w fun e w' => ∃ v, e = .returned (.tuple #[v, .int .i64 0]) ∧ w'.ownsRow w.heap.size 5 1 v 4096 (bs (pageOf number kind body)) ∧ Below w.heap.size w w' := by
  have Hinfo := Lib.hid info_u8
  have Hb := Lib.hid hb
  have hl := hb.len
  have Hl := Lib.hid hl
  obtain ⟨B, hB⟩ : ∃ B, B = w.heap.size := ⟨_, rfl⟩
  have HB := Lib.hid hB
  have HBl : Hid (∀ wx, Below B w wx → B ≤ wx.heap.size) := Lib.hid (fun wx h => by rw [hB]; exact h.size)
  have K : Hid (∀ wx, Below B w wx → Bs wx A n body) := Lib.hid (fun wx h => hb.below (by rw [← hB]; exact h))
  have hbn : body.length ≤ 4085 := by omega
  obtain ⟨zi, hzi⟩ : ∃ z : Int, z = (number : Int) := ⟨_, rfl⟩
  obtain ⟨kz, hkz⟩ : ∃ z : Int, z = (kind : Int) := ⟨_, rfl⟩
  obtain ⟨ss, hss⟩ : ∃ s : BitVec 32, s = Crc.sum (pageRest number kind body) := ⟨_, rfl⟩
  have P1 : Hid (∀ wx, Below B w wx → Calls Tryd.prog 64 #[.slice none 0 0, .int .i64 zi, .int .i64 4] wx fun e w' => ∃ A' c', e = .returned (.slice A' 4 c') ∧ w'.ownsRow B 5 1 (.slice A' 4 c') 4 (bs (le 4 number)) ∧ Below B wx w') := Lib.hid (fun wx h => by
    rw [hzi]; exact put_any B none 0 0 number 4 [] wx (World.ownsRow_nil _ _ _ _) (HBl.out _ h) (by omega) (by omega) (by omega) (by omega) (by omega))
  have P2 : Hid (∀ wx A1 c1, Below B w wx → wx.ownsRow B 5 1 (.slice A1 4 c1) 4 (bs (le 4 number)) → Calls Tryd.prog 64 #[.slice A1 4 c1, .int .i64 kz, .int .i64 1] wx fun e w' => ∃ A' c', e = .returned (.slice A' 5 c') ∧ w'.ownsRow B 5 1 (.slice A' 5 c') 5 (bs (le 4 number ++ le 1 kind)) ∧ Below B wx w') := Lib.hid (fun wx A1 c1 h ho => by
    rw [hkz]; exact put_any B A1 4 c1 kind 1 _ wx ho (HBl.out _ h) (by omega) (by omega) (by omega) (by omega) (by omega))
  have P3 : Hid (∀ wx A1 c1, Below B w wx → wx.ownsRow B 5 1 (.slice A1 5 c1) 5 (bs (le 4 number ++ le 1 kind)) → Calls Tryd.prog 64 #[.slice A1 5 c1, .int .i64 n, .int .i64 2] wx fun e w' => ∃ A' c', e = .returned (.slice A' 7 c') ∧ w'.ownsRow B 5 1 (.slice A' 7 c') 7 (bs (le 4 number ++ le 1 kind ++ le 2 n)) ∧ Below B wx w') := Lib.hid (fun wx A1 c1 h ho =>
    put_any B A1 5 c1 n 2 _ wx ho (HBl.out _ h) (by omega) (by omega) (by omega) (by omega) (by omega))
  have P5 : Hid (∀ wx, Calls Tryd.prog 64 #[.slice none 0 0, .int .i64 (ui ss), .int .i64 4] wx fun e w' => ∃ A' c', e = .returned (.slice A' 4 c') ∧ w'.ownsRow wx.heap.size 5 1 (.slice A' 4 c') 4 (bs (le 4 (pageSum number kind body))) ∧ Below wx.heap.size wx w') := Lib.hid (fun wx => by
    have hs := pageSum_lt number kind body
    rw [ub4, hss]; exact put_any wx.heap.size none 0 0 (pageSum number kind body) 4 [] wx (World.ownsRow_nil _ _ _ _) (Nat.le_refl _) (by omega) (by omega) (by omega) (by omega) (by omega))
  have CS : Hid (∀ wx A1 c1, Bs wx A1 4092 (pageRest number kind body) → Calls Tryd.prog 65 #[.slice A1 4092 c1] wx fun e w' => e = .returned (.int .i64 (ui ss)) ∧ wx = w') := Lib.hid (fun wx A1 c1 h => by rw [hss]; exact rsum_any _ _ _ _ _ h)
  obtain ⟨pre, hpre⟩ : ∃ pre, pre = le 4 number ++ le 1 kind ++ le 2 n ++ body := ⟨_, rfl⟩
  have Hpre := Lib.hid hpre
  have Hrest : Hid (pageRest number kind body = pre ++ List.replicate (4085 - n) 0) := Lib.hid (by rw [hpre, pageRest, hl])
  have Hr4 : Hid (7 + n ≤ 140737488355328) := Lib.hid (by omega)
  have Hr6 : Hid (4 + 4092 ≤ 140737488355328) := Lib.hid (by omega)
  have Hn4 := Lib.hid h4
  have i1 : zi < 65536 := by omega
  have i0 : 0 ≤ zi := by omega
  have i2 : 1 ≤ kz := by omega
  have i3 : kz ≤ 255 := by omega
  have i4 : (n : Int) ≤ 4085 := by omega
  rw [← hzi, ← hkz]
  clear hb hl h1 h2 h3 h4 hbn hzi hkz hss hB hpre
  go_enter Tryd.func42, Tryd.ntmps42
  go_wp2_with (first
    | (go_at_call 64; with_reducible refine (P1.out w (Below.refl _ _)).mono ?_; rintro e w1 ⟨A1, c1, rfl, ho, hb⟩; have O1 := Lib.hid ho; have B1 := Lib.hid hb; clear ho hb)
    | (go_at_call 64; with_reducible refine (P2.out w1 A1 c1 B1.out O1.out).mono ?_; rintro e w2 ⟨A2, c2, rfl, ho, hb⟩; have O2 := Lib.hid ho; have B2 := Lib.hid (B1.out.trans hb); clear ho hb)
    | (go_at_call 64; with_reducible refine (P3.out w2 A2 c2 B2.out O2.out).mono ?_; rintro e w3 ⟨A3, c3, rfl, ho, hb⟩; have O3 := Lib.hid ho; have B3 := Lib.hid (B2.out.trans hb); clear ho hb)
    | (at_builtin; refine wpList_append_bytes rfl _ _ 31 rfl B 5 (.int .u8 0) Tryd.underlying31 Hinfo.out rfl (.slice A3 7 c3) 7 (bs (le 4 number ++ le 1 kind ++ le 2 n)) rfl O3.out A n c body rfl (K.out _ B3.out) Hr4.out (HBl.out _ B3.out) ?_; intro va w4 ho hg hla; have O4 : Hid (w4.ownsRow B 5 1 va (7 + n) (bs pre)) := Lib.hid (by rw [Hpre.out, bs_append]; exact ho); have B4 : Hid (Below B w w4) := Lib.hid (B3.out.grown hg (HBl.out _ B3.out) (fun i hi => (O3.out.lt i hi).1)); clear ho hg hla; obtain ⟨A4, c4, e4, _⟩ := own_bytes O4.out; subst e4))
  clear P1 P2 P3 O1 O2 O3 B1 B2 B3
  go_loopw [8] (fun v wr => ∃ (q : Nat) (A' : Option Addr) (c' : Nat), 7 + n ≤ q ∧ q ≤ 4092 ∧ v = .slice A' q c' ∧ wr.ownsRow B 5 1 (.slice A' q c') q (bs (pre ++ List.replicate (q - (7 + n)) 0)) ∧ Below B w wr) (fun v _ => 4092 - sliceLen v)
  case atStart => exact ⟨7 + n, A4, c4, Nat.le_refl _, by have := Hn4.out; omega, rfl, by rw [Nat.sub_self, List.replicate_zero, List.append_nil]; exact O4.out, B4.out⟩
  case round =>
    obtain ⟨q, A', c', hq1, hq2, rfl, ho, hb⟩ := hrel
    have O := Lib.hid ho
    have G := Lib.hid hb
    have Hq1 := Lib.hid hq1
    have Hq2 := Lib.hid hq2
    by_cases hlt : q < 4092
    · have hqi : (q : Int) < 4092 := by omega
      have Hc1 : Hid (q + 1 ≤ maxLen) := Lib.hid (by simp only [maxLen]; omega)
      have Hc2 : Hid ((q + 1) * 1 ≤ 140737488355328) := Lib.hid (by omega)
      have Hlt := Lib.hid hlt
      clear ho hb hq1 hq2 hlt
      go_wp2_with (at_builtin; refine wpList_append_one rfl _ _ 31 rfl B 5 (.int .u8 0) 1 Tryd.underlying31 Hinfo.out rfl (.slice A' q c') q (bs (pre ++ List.replicate (q - (7 + n)) 0)) (.int .u8 0) rfl O.out rfl rfl Hc1.out Hc2.out (HBl.out _ G.out) ?_; intro v' w9 ho hg hla; have O9 : Hid (w9.ownsRow B 5 1 v' (q + 1) (bs (pre ++ List.replicate (q + 1 - (7 + n)) 0))) := Lib.hid (by have e : q + 1 - (7 + n) = (q - (7 + n)) + 1 := by { have := Hq1.out; omega }; rw [e, List.replicate_succ', ← List.append_assoc, bs_append]; exact ho); have G9 : Hid (Below B w w9) := Lib.hid (G.out.grown hg (HBl.out _ G.out) (fun i hi => (O.out.lt i hi).1)); clear ho hg hla; obtain ⟨A9, c9, e9, _⟩ := own_bytes O9.out; subst e9)
      go_roundw
      case rel => exact ⟨q + 1, A9, c9, by have := Hq1.out; omega, by have := Hlt.out; omega, rfl, O9.out, G9.out⟩
      case measure => have := Hlt.out; simp only [sliceLen]; omega
    · have hqi : ¬ (q : Int) < 4092 := by omega
      have hq : q = 4092 := by omega
      subst hq
      have hob := ho
      rw [show 4092 - (7 + n) = 4085 - n by omega, ← Hrest.out] at hob
      have O6 := Lib.hid hob
      obtain ⟨A6, c6, e6, hb6⟩ := own_bytes hob
      cases e6
      have HB6 := Lib.hid hb6
      clear ho hb hq1 hq2 hlt hob hb6 O Hq1 Hq2
      go_wp2_with (first
        | (go_at_call 65; with_reducible refine (CS.out wr _ _ HB6.out).mono ?_; rintro e w' ⟨rfl, rfl⟩)
        | (go_at_call 64; with_reducible refine (P5.out wr).mono ?_; rintro e w7 ⟨A7, c7, rfl, ho, hb⟩; have O7 := Lib.hid (own_mono ho (HBl.out _ G.out)); have B7 : Hid (Below B w w7) := Lib.hid (G.out.trans (hb.mono (HBl.out _ G.out))); have HB7 := Lib.hid (HB6.out.below hb); clear ho hb)
        | (at_builtin; refine wpList_append_bytes rfl _ _ 31 rfl B 5 (.int .u8 0) Tryd.underlying31 Hinfo.out rfl (.slice A7 4 c7) 4 (bs (le 4 (pageSum number kind body))) rfl O7.out A' 4092 c' (pageRest number kind body) rfl HB7.out Hr6.out (HBl.out _ B7.out) ?_; intro v8 w8 ho hg hla; have O8 : Hid (w8.ownsRow B 5 1 v8 4096 (bs (pageOf number kind body))) := Lib.hid (by rw [pageOf, bs_append]; exact ho); have B8 : Hid (Below B w w8) := Lib.hid (B7.out.grown hg (HBl.out _ B7.out) (fun i hi => (O7.out.lt i hi).1)); clear ho hg hla))
      go_ret2
      have hB := HB.out
      subst hB
      exact ⟨v8, rfl, O8.out, B8.out⟩

end Go.Proofs.YteljopjaolegaaaDoor
