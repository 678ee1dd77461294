/-
  PAGES ON A DISK, in plain Lean.
-/
import Derived.Test.YtokoagepbhlkdaaDoorPkA
import Derived.Test.YtokoagepbhlkdaaDoorPageH
import Derived.Test.YtokoagepbhlkdaaDoorPkD
import Derived.Test.YtokoagepbhlkdaaDoorPageI

namespace Go.Proofs.YtokoagepbhlkdaaDoor
set_option maxRecDepth 100000
set_option linter.unusedVariables false

/-! ### Pages -/
namespace DiskV
/-- page.Write, page.Read. -/
def pwrite (d : DiskV) (number kind : Int) (body : List UInt8) : DiskV × Int :=
  if ¬ (0 ≤ number ∧ number < 65536 ∧ 1 ≤ kind ∧ kind ≤ 255 ∧ body.length ≤ 4085) then (d, 1)
  else if d.pages ≤ number then (d, 1) else d.wrote (8 * number) (chunk (pageOf number.toNat kind.toNat body)) 8
/-- A page's bytes. -/
def page (d : DiskV) (number : Int) : List UInt8 := got d.now (8 * number) 8
def pread (d : DiskV) (number : Int) : Int × List UInt8 × Int :=
  if ¬ (0 ≤ number ∧ number < d.pages) then (0, [], 1) else if d.down then (0, [], 5)
  else if openCode (d.page number) number = 0 then (ub (openKind (d.page number)), openBody (d.page number), 0) else (0, [], openCode (d.page number) number)
end DiskV

/-- A page of zeros opens under no number. -/
theorem open_kind0 (l : List UInt8) (z : Int) (h : l.getD 8 0 = 0) : openCode l z ≠ 0 := by
  simp only [openCode]
  split
  · decide
  split
  · decide
  split
  · decide
  rw [if_pos (.inl h)]
  decide
theorem open_zeros (n : Nat) (z : Int) : openCode (List.replicate n 0) z ≠ 0 := open_kind0 _ z (by
  rw [List.getD_eq_getElem?_getD, List.getElem?_replicate]
  split <;> rfl)

end Go.Proofs.YtokoagepbhlkdaaDoor

/-
  CONTRACTS: pages on a disk in memory: Write.
-/
namespace Go.Proofs.YtokoagepbhlkdaaDoor
open Go.RowKit
set_option maxRecDepth 100000
set_option linter.unusedVariables false
set_option linter.unusedSimpArgs false

theorem errV_cases (e : Int) : (e = 0 ∧ errV e = .nilIface) ∨ (¬ e = 0 ∧ errV e = .iface 25 (.int .i64 e)) := by
  by_cases h : e = 0
  · exact .inl ⟨h, by rw [h]; rfl⟩
  · exact .inr ⟨h, errV_ne e h⟩

theorem pgwrite_bad (p : Nat) (number kind : Int) (A : Option Addr) (n c : Nat) (w : World) (h : MakeOk number kind n = false) :
    Calls Tryd.prog 17 #[.pointer (some ⟨p, 0, none⟩), .int .i64 number, .int .i64 kind, .slice A n c] w fun r w' => r = .returned (.iface 25 (.int .i64 1)) ∧ w = w' := by
  have CM := Lib.hid (make_bad number kind n c A w h)
  clear h
  go_enter Tryd.func17, Tryd.ntmps17
  go_wp2_with ((go_at_call 10; (with_reducible refine CM.out.mono ?_)); rintro r w' ⟨rfl, rfl⟩)
  go_ret
  exact ⟨rfl, rfl⟩

theorem pgwrite_out {T : Nat → Prop} {w : World} {g : Nat} {d : DiskV} (hd : DiskIs T w g d) (p : Nat) (hp : PtrAt w p g 77) (hN : Nib w) (number kind : Nat) (A : Option Addr) (n c : Nat) (body : List UInt8) (hb : Bs w A n body)
    (h1 : number < 65536) (h2 : 1 ≤ kind) (h3 : kind ≤ 255) (h4 : n ≤ 4085) (hpg : d.pages ≤ number) :
    Calls Tryd.prog 17 #[.pointer (some ⟨p, 0, none⟩), .int .i64 number, .int .i64 kind, .slice A n c] w fun r w' => r = .returned (.iface 25 (.int .i64 1)) ∧ Below w.heap.size w w' := by
  have CM := Lib.hid (make_ok number kind n c A body w hN hb h1 h2 h3 h4)
  obtain ⟨pz, hpz⟩ : ∃ pz, pz = d.pages := ⟨_, rfl⟩
  have CP : Hid (∀ wx, Below w.heap.size w wx → Calls Tryd.prog 26 #[.pointer (some ⟨p, 0, none⟩)] wx fun r w' => r = .returned (.int .i64 pz) ∧ wx = w') := Lib.hid (fun wx hB => by
    rw [hpz]; exact pages_any (hd.below hB) p ((hB.block p (lt_block hp)).trans hp))
  obtain ⟨nz, hnz⟩ : ∃ nz : Int, nz = (number : Int) := ⟨_, rfl⟩
  obtain ⟨kz, hkz⟩ : ∃ kz : Int, kz = (kind : Int) := ⟨_, rfl⟩
  rw [← hpz, ← hnz] at hpg
  rw [← hnz, ← hkz] at CM ⊢
  clear hd hp hb hpz hnz hkz h1 h2 h3 h4
  go_enter Tryd.func17, Tryd.ntmps17
  go_wp2_with (first | ((go_at_call 10; (with_reducible refine CM.out.mono ?_)); rintro r w1 ⟨rfl, h1, hb1⟩; have HB1 := Lib.hid hb1; clear h1 hb1) | ((go_at_call 26; (with_reducible refine (CP.out _ HB1.out).mono ?_)); rintro r w' ⟨rfl, rfl⟩))
  go_ret
  exact ⟨rfl, HB1.out⟩

set_option maxHeartbeats 2000000 in
theorem pgwrite_in {T : Nat → Prop} {w : World} {g : Nat} {d : DiskV} (hd : DiskIs T w g d) (p : Nat) (hp : PtrAt w p g 77) (hpT : ¬ T p) (hN : Nib w) (number kind : Nat) (A : Option Addr) (n c : Nat) (body : List UInt8) (hb : Bs w A n body)
    (h1 : number < 65536) (h2 : 1 ≤ kind) (h3 : kind ≤ 255) (h4 : n ≤ 4085) (hpg : ¬ d.pages ≤ number) (hlen : (d.wait.length + 8) * 32 ≤ 140737488355328) :
    Calls Tryd.prog 17 #[.pointer (some ⟨p, 0, none⟩), .int .i64 number, .int .i64 kind, .slice A n c] w fun r w' => r = .returned (errV (d.wrote (8 * number) (chunk (pageOf number kind body)) 8).2) ∧ DiskGo T w g w' (d.wrote (8 * number) (chunk (pageOf number kind body)) 8).1 := by
  have CM := Lib.hid (make_ok number kind n c A body w hN hb h1 h2 h3 h4)
  have hpl := pageOf_length number kind body (by rw [hb.len]; exact h4)
  obtain ⟨pz, hpz⟩ : ∃ pz, pz = d.pages := ⟨_, rfl⟩
  have CP : Hid (∀ wx, Below w.heap.size w wx → Calls Tryd.prog 26 #[.pointer (some ⟨p, 0, none⟩)] wx fun r w' => r = .returned (.int .i64 pz) ∧ wx = w') := Lib.hid (fun wx hB => by
    rw [hpz]; exact pages_any (hd.below hB) p ((hB.block p (lt_block hp)).trans hp))
  obtain ⟨nz, hnz⟩ : ∃ nz : Int, nz = (number : Int) := ⟨_, rfl⟩
  obtain ⟨kz, hkz⟩ : ∃ kz : Int, kz = (kind : Int) := ⟨_, rfl⟩
  obtain ⟨L, hL⟩ : ∃ L, L = pageOf number kind body := ⟨_, rfl⟩
  rw [← hL] at CM hpl ⊢
  rw [← hpz, ← hnz] at hpg
  rw [← hnz, ← hkz] at CM ⊢
  have hn0 : 0 ≤ nz := by omega
  have hn1 : nz < 65536 := by omega
  -- one sector of the page
  have CW : Hid (∀ (w1 wr : World) (gb i : Nat) (di : DiskV), i < 8 → Below w.heap.size w w1 → gb = w.heap.size → w1.heap[gb]? = some (.cells (bs L).toArray 5 (0, 0)) → DiskGo T w1 g wr di → d.wrote (8 * nz) (chunk L) i = (di, 0) → di.wait.length ≤ d.wait.length + i →
      Calls Tryd.prog 34 #[.pointer (some ⟨p, 0, none⟩), .int .i64 (nz * 8 + i), .slice (some ⟨gb, i * 512, none⟩) 512 (4096 - i * 512)] wr fun r w' => r = .returned (errV (d.wrote (8 * nz) (chunk L) (i + 1)).2) ∧ DiskGo T w1 g w' (d.wrote (8 * nz) (chunk L) (i + 1)).1 ∧ (d.wrote (8 * nz) (chunk L) (i + 1)).1.wait.length ≤ d.wait.length + (i + 1)) := Lib.hid (fun w1 wr gb i di hi hB hgb hrow hgo hw hwl => by
    obtain ⟨T1, k1, k2, k3⟩ := hgo
    have hpt : PtrAt wr p g 77 := (k3.block p (Nat.lt_of_lt_of_le (lt_block hp) hB.size) hpT).trans ((hB.block p (lt_block hp)).trans hp)
    have hgT : ¬ T gb := fun e => by have := hd.inside gb e; omega
    have hrow2 : wr.heap[gb]? = some (.cells (bs L).toArray 5 (0, 0)) := (k3.block gb (lt_block hrow) hgT).trans hrow
    have hbs := bs_block hrow2 (i * 512) 512 (by rw [hpl]; omega) (by omega)
    rw [show i * 512 = 512 * i by omega] at hbs
    rw [show i * 512 = 512 * i by omega]
    refine (bwrite k1 p hpt (nz * 8 + i) _ 512 (4096 - 512 * i) (chunk L i) hbs (by omega)).mono ?_
    rintro r w' ⟨rfl, hg⟩
    have e := DiskV.wrote_next d di (8 * nz) (chunk L) i hw
    rw [e, show 8 * nz + (i : Int) = nz * 8 + i by omega]
    refine ⟨rfl, DiskGo.trans k2 k3 hg, ?_⟩
    have hb : (di.write (nz * 8 + i) (chunk L i)).1.wait.length ≤ di.wait.length + 1 := by
      rw [DiskV.write]
      split
      · simp
      split
      · simp
      split
      · simp
      · rw [DiskV.acted_wait]; simp
    omega)
  have HD := Lib.hid hd
  have Hpl := Lib.hid hpl
  clear hd hp hpT hb hpz hnz hkz h1 h2 h3 h4 hlen hL hpl
  go_enter Tryd.func17, Tryd.ntmps17
  go_wp2_with (first | ((go_at_call 10; (with_reducible refine CM.out.mono ?_)); rintro r w1 ⟨rfl, h1, hb1⟩; have HB1 := Lib.hid hb1; have Hr1 := Lib.hid h1; clear h1 hb1) | ((go_at_call 26; (with_reducible refine (CP.out _ HB1.out).mono ?_)); rintro r w' ⟨rfl, rfl⟩))
  obtain ⟨gb, hgb⟩ : ∃ gb, gb = w.heap.size := ⟨_, rfl⟩
  rw [← hgb] at Hr1 ⊢
  have Hgb := Lib.hid hgb
  clear hgb
  go_loopw [32] (fun i wr => ∃ (k : Nat) (di : DiskV), k ≤ 8 ∧ i = .int .i64 k ∧ d.wrote (8 * nz) (chunk L) k = (di, 0) ∧ DiskGo T w1 g wr di ∧ di.wait.length ≤ d.wait.length + k) (fun i _ => 8 - (intOf i).toNat)
  case atStart => exact ⟨0, d, by omega, rfl, rfl, DiskGo.refl (HD.out.below HB1.out), by omega⟩
  case round =>
    obtain ⟨k, di, hk, rfl, h1, h2, h3⟩ := hrel
    have H1 := Lib.hid h1
    have H2 := Lib.hid h2
    have H3 := Lib.hid h3
    clear h1 h2 h3
    by_cases hlt : k < 8
    · have C := Lib.hid (CW.out w1 wr gb k di hlt HB1.out Hgb.out Hr1.out H2.out H1.out H3.out)
      have hkz : (k : Int) < 8 := by omega
      have hk0 : (0 : Int) ≤ k := by omega
      have hne : ¬ 4096 = k * 512 := by omega
      rcases errV_cases (d.wrote (8 * nz) (chunk L) (k + 1)).2 with ⟨e, ev⟩ | ⟨e, ev⟩
      · have hpair : d.wrote (8 * nz) (chunk L) (k + 1) = ((d.wrote (8 * nz) (chunk L) (k + 1)).1, 0) := Prod.ext rfl e
        have Hpair := Lib.hid hpair
        rw [ev] at C
        clear hpair e ev
        go_wp2_with ((go_at_call 34; (with_reducible refine C.out.mono ?_)); rintro r w9 ⟨rfl, k1, k2⟩; have Hk1 := Lib.hid k1; have Hk2 := Lib.hid k2; clear k1 k2)
        go_roundw
        case rel => exact ⟨k + 1, _, by omega, by go_num, Hpair.out, Hk1.out, Hk2.out⟩
        case measure => simp [intOf]; omega
      · obtain ⟨ez, hez⟩ : ∃ ez, ez = (d.wrote (8 * nz) (chunk L) (k + 1)).2 := ⟨_, rfl⟩
        have hst := DiskV.wrote_stays d (8 * nz) (chunk L) (k + 1) 8 (by omega) e
        have Hst := Lib.hid hst
        have Hez := Lib.hid hez
        have Hev := Lib.hid ev
        rw [ev, ← hez] at C
        clear hst hez e ev
        go_wp2_with ((go_at_call 34; (with_reducible refine C.out.mono ?_)); rintro r w9 ⟨rfl, k1, k2⟩; have Hk1 := Lib.hid k1; clear k1 k2)
        go_ret
        rw [Hst.out, Hev.out, Hez.out]
        exact ⟨rfl, Hk1.out.ahead HB1.out⟩
    · have e8 : k = 8 := by omega
      subst e8
      go_wp2_with fail
      go_ret
      rw [H1.out]
      exact ⟨rfl, H2.out.ahead HB1.out⟩

/-- page.Write. -/
theorem pgwrite {T : Nat → Prop} {w : World} {g : Nat} {d : DiskV} (hd : DiskIs T w g d) (p : Nat) (hp : PtrAt w p g 77) (hpT : ¬ T p) (hN : Nib w) (number kind : Int) (A : Option Addr) (n c : Nat) (body : List UInt8) (hb : Bs w A n body) (hlen : (d.wait.length + 8) * 32 ≤ 140737488355328) :
    Calls Tryd.prog 17 #[.pointer (some ⟨p, 0, none⟩), .int .i64 number, .int .i64 kind, .slice A n c] w fun r w' => r = .returned (errV (d.pwrite number kind body).2) ∧ DiskGo T w g w' (d.pwrite number kind body).1 := by
  have hl := hb.len
  by_cases hm : 0 ≤ number ∧ number < 65536 ∧ 1 ≤ kind ∧ kind ≤ 255 ∧ body.length ≤ 4085
  rotate_left
  · have e : d.pwrite number kind body = (d, 1) := by rw [DiskV.pwrite, if_pos hm]
    rw [e]
    refine (pgwrite_bad p number kind A n c w ?_).mono ?_
    · simp only [MakeOk, decide_eq_false_iff_not]
      intro h
      exact hm ⟨h.1, h.2.1, h.2.2.1, h.2.2.2.1, by omega⟩
    · rintro r w' ⟨rfl, rfl⟩
      exact ⟨rfl, DiskGo.refl hd⟩
  obtain ⟨nn, rfl⟩ : ∃ nn : Nat, number = nn := ⟨number.toNat, by omega⟩
  obtain ⟨kk, rfl⟩ : ∃ kk : Nat, kind = kk := ⟨kind.toNat, by omega⟩
  by_cases hpg : d.pages ≤ (nn : Int)
  · have e : d.pwrite nn kk body = (d, 1) := by rw [DiskV.pwrite, if_neg (not_not_intro hm), if_pos hpg]
    rw [e]
    refine (pgwrite_out hd p hp hN nn kk A n c body hb (by omega) (by omega) (by omega) (by omega) hpg).mono ?_
    rintro r w' ⟨rfl, hB⟩
    exact ⟨rfl, DiskGo.of_below hd hB⟩
  · have e : d.pwrite nn kk body = d.wrote (8 * nn) (chunk (pageOf nn kk body)) 8 := by
      rw [DiskV.pwrite, if_neg (not_not_intro hm), if_neg hpg, Int.toNat_natCast, Int.toNat_natCast]
    rw [e]
    exact pgwrite_in hd p hp hpT hN nn kk A n c body hb (by omega) (by omega) (by omega) (by omega) hpg hlen

end Go.Proofs.YtokoagepbhlkdaaDoor

/-
  CONTRACTS: pages on a disk in memory: Read.
-/
namespace Go.Proofs.YtokoagepbhlkdaaDoor
open Go.RowKit
set_option maxRecDepth 100000
set_option linter.unusedVariables false
set_option linter.unusedSimpArgs false

theorem pgread_bad {T : Nat → Prop} {w : World} {g : Nat} {d : DiskV} (hd : DiskIs T w g d) (p : Nat) (hp : PtrAt w p g 77) (v : Int) (hv : ¬ (0 ≤ v ∧ v < d.pages)) :
    Calls Tryd.prog 19 #[.pointer (some ⟨p, 0, none⟩), .int .i64 v] w fun r w' => r = .returned (.tuple #[.int .i64 0, .slice none 0 0, .iface 25 (.int .i64 1)]) ∧ w = w' := by
  obtain ⟨pz, hpz⟩ : ∃ pz, pz = d.pages := ⟨_, rfl⟩
  have CP : Hid (Calls Tryd.prog 26 #[.pointer (some ⟨p, 0, none⟩)] w fun r w' => r = .returned (.int .i64 pz) ∧ w = w') := Lib.hid (by rw [hpz]; exact pages_any hd p hp)
  rw [← hpz] at hv
  have hc : v < 0 ∨ (¬ v < 0 ∧ pz ≤ v) := by omega
  clear hd hp hv hpz
  rcases hc with hc | ⟨hc, hc2⟩
  all_goals (
    go_enter Tryd.func19, Tryd.ntmps19
    go_wp2_with ((go_at_call 26; (with_reducible refine CP.out.mono ?_)); rintro r w' ⟨rfl, rfl⟩)
    go_ret3
    exact ⟨rfl, rfl⟩)

theorem pread_down {T : Nat → Prop} {w : World} {g : Nat} {d : DiskV} (hd : DiskIs T w g d) (p : Nat) (hp : PtrAt w p g 77) (v : Int) (hv : 0 ≤ v ∧ v < d.pages) (hv2 : v ≤ 1152921504606846975) (hdn : d.down = true) :
    Calls Tryd.prog 19 #[.pointer (some ⟨p, 0, none⟩), .int .i64 v] w fun r w' => r = .returned (.tuple #[.int .i64 0, .slice none 0 0, .iface 25 (.int .i64 5)]) ∧ Below w.heap.size w w' := by
  obtain ⟨pz, hpz⟩ : ∃ pz, pz = d.pages := ⟨_, rfl⟩
  have CP : Hid (Calls Tryd.prog 26 #[.pointer (some ⟨p, 0, none⟩)] w fun r w' => r = .returned (.int .i64 pz) ∧ w = w') := Lib.hid (by rw [hpz]; exact pages_any hd p hp)
  have C : Hid (∀ wx i, Below w.heap.size w wx → Calls Tryd.prog 35 #[.pointer (some ⟨p, 0, none⟩), .int .i64 i] wx fun r w' => r = .returned (.tuple #[.slice none 0 0, .iface 25 (.int .i64 5)]) ∧ Below wx.heap.size wx w') := Lib.hid (fun wx i hB => (bread (hd.below hB) p ((hB.block p (lt_block hp)).trans hp) i).mono fun r w' h => by
    obtain ⟨hB, h⟩ := h
    rw [DiskV.read, if_pos hdn] at h
    rcases h with ⟨_, h⟩ | ⟨h, _⟩
    · exact ⟨h, hB⟩
    · cases h)
  have Hinfo := Lib.hid info_u8
  have Hm1 : Hid (1 * 4096 ≤ 281474976710656) := Lib.hid (by omega)
  have Hm2 : Hid (4096 ≤ maxLen) := Lib.hid (by simp only [maxLen]; omega)
  have HR : Hid (w.heap.size ≤ w.heap.size) := Lib.hid (Nat.le_refl _)
  rw [← hpz] at hv
  obtain ⟨hva, hvb⟩ := hv
  have hz1 : ¬ v < 0 := by omega
  have hz2 : ¬ pz ≤ v := by omega
  clear hd hp hdn hpz hvb
  go_enter Tryd.func19, Tryd.ntmps19
  go_wp2_with (first | ((go_at_call 26; (with_reducible refine CP.out.mono ?_)); rintro r w' ⟨rfl, rfl⟩) | (at_make; refine wpList_make_zeros rfl _ _ 22 rfl w.heap.size 5 (.int .u8 0) 1 Tryd.underlying22 Hinfo.out rfl _ _ 4096 rfl rfl (by omega) (by omega) Hm1.out Hm2.out HR.out ?_; intro w1 Ho1 hb1; have HB1 := Lib.hid hb1; clear hb1))
  go_loopw [24] (fun i wr => i = .int .i64 0 ∧ w1 = wr) (fun i _ => 0)
  case atStart => exact ⟨rfl, rfl⟩
  case round =>
    obtain ⟨rfl, rfl⟩ := hrel
    go_wp2_with ((go_at_call 35; (with_reducible refine (C.out _ _ HB1.out).mono ?_)); rintro r w2 ⟨rfl, hb⟩; have HB2 := Lib.hid hb; clear hb)
    go_ret3
    exact ⟨rfl, HB1.out.trans (HB2.out.mono HB1.out.size)⟩

set_option maxHeartbeats 4000000 in
theorem pread_up {T : Nat → Prop} {w : World} {g : Nat} {d : DiskV} (hd : DiskIs T w g d) (p : Nat) (hp : PtrAt w p g 77) (hN : Nib w) (v : Int) (hv : 0 ≤ v ∧ v < d.pages) (hv2 : v ≤ 1152921504606846975) (hdn : d.down = false) :
    Calls Tryd.prog 19 #[.pointer (some ⟨p, 0, none⟩), .int .i64 v] w fun r w' => Below w.heap.size w w' ∧
      ((openCode (d.page v) v = 0 ∧ ∃ x, r = .returned (.tuple #[.int .i64 (ub (openKind (d.page v))), x, .nilIface]) ∧ w'.ownsRow w.heap.size 5 1 x (openLen (d.page v)) (bs (openBody (d.page v)))) ∨
       (¬ openCode (d.page v) v = 0 ∧ r = .returned (.tuple #[.int .i64 0, .slice none 0 0, .iface 25 (.int .i64 (openCode (d.page v) v))]))) := by
  obtain ⟨pz, hpz⟩ : ∃ pz, pz = d.pages := ⟨_, rfl⟩
  have CP : Hid (Calls Tryd.prog 26 #[.pointer (some ⟨p, 0, none⟩)] w fun r w' => r = .returned (.int .i64 pz) ∧ w = w') := Lib.hid (by rw [hpz]; exact pages_any hd p hp)
  have Hinfo := Lib.hid info_u8
  have Hsz := Lib.hid size_u8
  have Hm1 : Hid (1 * 4096 ≤ 281474976710656) := Lib.hid (by omega)
  have Hm2 : Hid (4096 ≤ maxLen) := Lib.hid (by simp only [maxLen]; omega)
  have HR : Hid (w.heap.size ≤ w.heap.size) := Lib.hid (Nat.le_refl _)
  have hin : 8 * v + 8 ≤ d.many := by have := hv.2; simp only [DiskV.pages] at this; omega
  have hlen : ∀ i, (d.now i).length = 512 := hd.fit.now
  have C : Hid (∀ (wr : World) (k : Nat), k < 8 → Below w.heap.size w wr → Calls Tryd.prog 35 #[.pointer (some ⟨p, 0, none⟩), .int .i64 (v * 8 + k)] wr fun r w' => ∃ gb, r = .returned (.tuple #[.slice (some ⟨gb, 0, none⟩) 512 512, .nilIface]) ∧ Bs w' (some ⟨gb, 0, none⟩) 512 (d.now (8 * v + k)) ∧ Below wr.heap.size wr w') := Lib.hid (fun wr k hk hBr => by
    refine (bread (hd.below hBr) p ((hBr.block p (lt_block hp)).trans hp) (v * 8 + k)).mono ?_
    rintro r w' ⟨hB2, h⟩
    rw [DiskV.read, if_neg (by rw [hdn]; decide), if_neg (not_not_intro ⟨by omega, by omega⟩), show v * 8 + (k : Int) = 8 * v + k by omega] at h
    rcases h with ⟨h, _⟩ | ⟨_, hl, rfl, hrow⟩
    · exact absurd rfl h
    · refine ⟨_, rfl, ?_, hB2⟩
      have := bs_block hrow 0 512 (by rw [hl]; omega) (by omega)
      rw [List.drop_zero, List.take_of_length_le (by rw [hl]; exact Nat.le_refl _)] at this
      exact this)
  have Hgl : Hid (∀ k, (got d.now (8 * v) k).length = 512 * k) := Lib.hid (fun k => got_length _ _ _ (fun i _ => hlen _))
  have KT : Hid (∀ wx wy, Below w.heap.size w wx → Below wx.heap.size wx wy → Below w.heap.size w wy) := Lib.hid (fun wx wy h1 h2 => h1.trans (h2.mono h1.size))
  have KN : Hid (∀ wx, Below w.heap.size w wx → Nib wx) := Lib.hid (fun wx h => hN.below h)
  obtain ⟨l, hl⟩ : ∃ l, l = d.page v := ⟨_, rfl⟩
  have Hl : Hid (got d.now (8 * v) 8 = l) := Lib.hid (by rw [hl]; rfl)
  rw [← hl]
  rw [← hpz] at hv
  obtain ⟨hva, hvb⟩ := hv
  have hz1 : ¬ v < 0 := by omega
  have hz2 : ¬ pz ≤ v := by omega
  clear hd hp hdn hpz hvb hN hlen hin hl
  go_enter Tryd.func19, Tryd.ntmps19
  go_wp2_with (first | ((go_at_call 26; (with_reducible refine CP.out.mono ?_)); rintro r w' ⟨rfl, rfl⟩) | (at_make; refine wpList_make_zeros rfl _ _ 22 rfl w.heap.size 5 (.int .u8 0) 1 Tryd.underlying22 Hinfo.out rfl _ _ 4096 rfl rfl (by omega) (by omega) Hm1.out Hm2.out HR.out ?_; intro w1 Ho1 hb1; have HZ := zero_block Ho1; have HB1 := Lib.hid hb1; clear hb1))
  obtain ⟨gb, hgb⟩ : ∃ gb, gb = w.heap.size := ⟨_, rfl⟩
  rw [← hgb] at HZ ⊢
  have Hgb := Lib.hid hgb
  have Ho1 := True.intro
  clear hgb
  go_loopw [24] (fun i wr => ∃ k : Nat, k ≤ 8 ∧ i = .int .i64 k ∧ wr.heap[gb]? = some (.cells (bs (got d.now (8 * v) k ++ List.replicate (4096 - 512 * k) 0)).toArray 5 (0, 0)) ∧ Below w.heap.size w wr) (fun i _ => 8 - (intOf i).toNat)
  case atStart => exact ⟨0, by omega, rfl, HZ.out, HB1.out⟩
  case round =>
    obtain ⟨k, hk, rfl, hg, hb⟩ := hrel
    have HG := Lib.hid hg
    have HB2 := Lib.hid hb
    clear hg hb
    by_cases hlt : k < 8
    · have hkz : (k : Int) < 8 := by omega
      have hk0 : (0 : Int) ≤ k := by omega
      have hne : ¬ 4096 = k * 512 := by omega
      have CC := Lib.hid (C.out wr k hlt HB2.out)
      have Hk : Hid (512 = Nat.min 512 (4096 - k * 512)) := Lib.hid (by show 512 = min 512 _; omega)
      have Hfit : Hid (k * 512 + 512 ≤ (got d.now (8 * v) k ++ List.replicate (4096 - 512 * k) 0).length) := Lib.hid (by rw [List.length_append, Hgl.out, List.length_replicate]; omega)
      go_wp2_with (first | ((go_at_call 35; (with_reducible refine CC.out.mono ?_)); rintro r w2 ⟨gx, rfl, hbs, hb⟩; have HG2 := Lib.hid ((hb.block gb (lt_block HG.out)).trans HG.out); have HB3 := Lib.hid (KT.out _ _ HB2.out hb); have X1 := Lib.hid hbs; clear hb hbs) | (with_reducible refine wpList_copy_bytes rfl _ _ 22 22 rfl 5 Tryd.underlying22 Hsz.out (some ⟨gb, k * 512, none⟩) (4096 - k * 512) (4096 - k * 512) (some ⟨gx, 0, none⟩) 512 512 rfl rfl gb (k * 512) _ 5 HG2.out _ X1.out 512 Hk.out (fun _ => rfl) Hfit.out ?_; intro w3 hw3 hg3))
      have hgs : splice (got d.now (8 * v) k ++ List.replicate (4096 - 512 * k) 0) (k * 512) ((d.now (8 * v + k)).take 512) = got d.now (8 * v) (k + 1) ++ List.replicate (4096 - 512 * (k + 1)) 0 := by
        have hl5 : (d.now (8 * v + k)).length = 512 := X1.out.len
        rw [List.take_of_length_le (by rw [hl5]; exact Nat.le_refl _)]
        have := splice_end (got d.now (8 * v) k) (d.now (8 * v + k)) (4096 - 512 * k) (by rw [hl5]; omega)
        rw [Hgl.out, hl5, show 512 * k = k * 512 by omega] at this
        rw [show 512 * k = k * 512 by omega, this, got, show 4096 - 512 * (k + 1) = 4096 - k * 512 - 512 by omega]
      have h3 := hw3.out
      rw [hgs] at h3
      have H3 := Lib.hid h3
      have HB4 : Hid (Below w.heap.size w w3) := Lib.hid (HB3.out.grown hg3 HB3.out.size (fun j hj => by cases hj; exact Nat.le_of_eq Hgb.out.symm))
      clear h3 hgs hw3 hg3
      go_wp2_with fail
      go_roundw
      case rel => exact ⟨k + 1, by omega, by go_num, H3.out, HB4.out⟩
      case measure => simp [intOf]; omega
    · have e8 : k = 8 := by omega
      subst e8
      have hg8 := HG.out
      rw [show 4096 - 512 * 8 = 0 from rfl, List.replicate_zero, List.append_nil, Hl.out] at hg8
      have hl8 : l.length = 4096 := by rw [← Hl.out, Hgl.out]
      have X8 : Hid (Bs wr (some ⟨gb, 0, none⟩) 4096 l) := Lib.hid (by
        have := bs_block hg8 0 4096 (by omega) (by omega)
        rw [List.drop_zero, List.take_of_length_le (by rw [hl8]; exact Nat.le_refl _)] at this
        exact this)
      clear hg8 hl8
      have HN8 := Lib.hid (KN.out _ HB2.out)
      by_cases hc : openCode l v = 0
      · have C8 := Lib.hid (open_yes (some ⟨gb, 0, none⟩) 4096 4096 l v wr HN8.out X8.out (Nat.le_refl _) hc)
        obtain ⟨kb, hkb⟩ : ∃ kb, kb = ub (openKind l) := ⟨_, rfl⟩
        rw [← hkb] at C8
        have Hc := Lib.hid hc
        have Hkb := Lib.hid hkb
        clear hc hkb
        go_wp2_with ((go_at_call 14; (with_reducible refine C8.out.mono ?_)); rintro r w2 ⟨x, rfl, ho, hb⟩; have HO := Lib.hid ho; have HB5 := Lib.hid (KT.out _ _ HB2.out hb); clear ho hb)
        go_ret3
        exact ⟨HB5.out, .inl ⟨Hc.out, x, by rw [Hkb.out]; rfl, own_mono HO.out HB2.out.size⟩⟩
      · have C8 := Lib.hid (open_no (some ⟨gb, 0, none⟩) 4096 4096 l v wr HN8.out X8.out (Nat.le_refl _) hc)
        obtain ⟨kc, hkc⟩ : ∃ kc, kc = openCode l v := ⟨_, rfl⟩
        rw [← hkc] at C8 hc
        have Hkc := Lib.hid hkc
        have hne : (kc != 0) = true := by simpa using hc
        have Hc := Lib.hid hc
        clear hc hkc
        go_wp2_with ((go_at_call 14; (with_reducible refine C8.out.mono ?_)); rintro r w2 ⟨rfl, hb⟩; have HB5 := Lib.hid (KT.out _ _ HB2.out hb); clear hb)
        go_ret3
        exact ⟨HB5.out, .inr ⟨by rw [← Hkc.out]; exact Hc.out, by rw [Hkc.out]; rfl⟩⟩

/-- page.Read. -/
theorem pgread {T : Nat → Prop} {w : World} {g : Nat} {d : DiskV} (hd : DiskIs T w g d) (p : Nat) (hp : PtrAt w p g 77) (hN : Nib w) (v : Int) :
    Calls Tryd.prog 19 #[.pointer (some ⟨p, 0, none⟩), .int .i64 v] w fun r w' => Below w.heap.size w w' ∧
      (((d.pread v).2.2 = 0 ∧ ∃ x, r = .returned (.tuple #[.int .i64 (d.pread v).1, x, .nilIface]) ∧ w'.ownsRow w.heap.size 5 1 x (d.pread v).2.1.length (bs (d.pread v).2.1)) ∨
       ((d.pread v).2.2 ≠ 0 ∧ (d.pread v).1 = 0 ∧ (d.pread v).2.1 = [] ∧ r = .returned (.tuple #[.int .i64 0, .slice none 0 0, .iface 25 (.int .i64 (d.pread v).2.2)]))) := by
  have hm := hd.many
  by_cases hv : 0 ≤ v ∧ v < d.pages
  rotate_left
  · have e : d.pread v = (0, [], 1) := by rw [DiskV.pread, if_pos hv]
    rw [e]
    refine (pgread_bad hd p hp v hv).mono ?_
    rintro r w' ⟨rfl, rfl⟩
    exact ⟨Below.refl _ _, .inr ⟨by decide, rfl, rfl, rfl⟩⟩
  have hv2 : v ≤ 1152921504606846975 := by have := hv.2; simp only [DiskV.pages] at this; omega
  by_cases hdn : d.down = true
  · have e : d.pread v = (0, [], 5) := by rw [DiskV.pread, if_neg (not_not_intro hv), if_pos hdn]
    rw [e]
    refine (pread_down hd p hp v hv hv2 hdn).mono ?_
    rintro r w' ⟨rfl, hB⟩
    exact ⟨hB, .inr ⟨by decide, rfl, rfl, rfl⟩⟩
  have hdn : d.down = false := by simpa using hdn
  refine (pread_up hd p hp hN v hv hv2 hdn).mono ?_
  rintro r w' ⟨hB, h⟩
  refine ⟨hB, ?_⟩
  rcases h with ⟨h0, x, rfl, ho⟩ | ⟨h0, rfl⟩
  · have e : d.pread v = (ub (openKind (d.page v)), openBody (d.page v), 0) := by rw [DiskV.pread, if_neg (not_not_intro hv), if_neg (by rw [hdn]; decide), if_pos h0]
    rw [e]
    have hl : (openBody (d.page v)).length = openLen (d.page v) := by have := ho.1; rw [bs_length] at this; omega
    exact .inl ⟨rfl, x, rfl, by rw [hl]; exact ho⟩
  · have e : d.pread v = (0, [], openCode (d.page v) v) := by rw [DiskV.pread, if_neg (not_not_intro hv), if_neg (by rw [hdn]; decide), if_neg h0]
    rw [e]
    exact .inr ⟨h0, rfl, rfl, rfl⟩

end Go.Proofs.YtokoagepbhlkdaaDoor

/-
  PAGES ON A DISK, in plain Lean: each is read as it was written last.
-/
namespace Go.Proofs.YtokoagepbhlkdaaDoor
set_option maxRecDepth 100000
set_option linter.unusedVariables false

namespace DiskV
/-- What stands on a page: nothing, or what was written there last. -/
def KeepAt (d : DiskV) (n : Nat) (x : Int × List UInt8) : Prop :=
  (x.1 = 0 ∧ ∀ i : Nat, i < 8 → d.now (8 * (n : Int) + i) = zeros512) ∨
  (1 ≤ x.1 ∧ x.1 ≤ 255 ∧ x.2.length ≤ 4085 ∧ ∀ i : Nat, i < 8 → d.now (8 * (n : Int) + i) = chunk (pageOf n x.1.toNat x.2) i)
def Keeps (d : DiskV) (f : Nat → Int × List UInt8) : Prop := d.down = false ∧ d.armed = false ∧ d.many = 40 ∧ ∀ n, n < 5 → d.KeepAt n (f n)

theorem keeps_new (f : Nat → Int × List UInt8) (h : ∀ n, n < 5 → (f n).1 = 0) : (DiskV.new 40).Keeps f :=
  ⟨rfl, rfl, rfl, fun n hn => .inl ⟨h n hn, fun i hi => rfl⟩⟩

theorem pages40 (d : DiskV) (h : d.many = 40) : d.pages = 5 := by simp only [pages, h]; decide

theorem keeps_write (d : DiskV) (f : Nat → Int × List UInt8) (h : d.Keeps f) (n : Nat) (kind : Int) (body : List UInt8) :
    ((d.pwrite n kind body).2 = 0 → n < 5 ∧ 1 ≤ kind ∧ (d.pwrite n kind body).1.Keeps (fun m => if m = n then (kind, body) else f m)) ∧ ((d.pwrite n kind body).2 ≠ 0 → (d.pwrite n kind body).1 = d) ∧
    (d.pwrite n kind body).1.wait.length ≤ d.wait.length + 8 := by
  obtain ⟨h1, h2, h3, h4⟩ := h
  by_cases hm : 0 ≤ (n : Int) ∧ (n : Int) < 65536 ∧ 1 ≤ kind ∧ kind ≤ 255 ∧ body.length ≤ 4085
  rotate_left
  · rw [pwrite, if_pos hm]; exact ⟨fun e => (by cases e), fun _ => rfl, by simp⟩
  by_cases hp : d.pages ≤ (n : Int)
  · rw [pwrite, if_neg (not_not_intro hm), if_pos hp]; exact ⟨fun e => (by cases e), fun _ => rfl, by simp⟩
  rw [pages40 d h3] at hp
  rw [pwrite, if_neg (not_not_intro hm), if_neg (by rw [pages40 d h3]; exact hp), Int.toNat_natCast]
  have hlen := pageOf_length n kind.toNat body hm.2.2.2.2
  rcases wrote_cases d (8 * (n : Int)) (chunk (pageOf n kind.toNat body)) 8 h1 (by omega) (by rw [h3]; omega) (fun i hi => chunk_length _ _ (by omega)) with ⟨a1, a2, a3, a4, a5⟩ | ⟨a1, a2, a3, a4, _⟩
  rotate_left
  · rw [h2] at a4; cases a4
  refine ⟨fun _ => ⟨by omega, hm.2.2.1, a2, a5 h2, a3.1.trans h3, fun m hmm => ?_⟩, fun e => absurd a1 e, by rw [a4]; simp [pieces]⟩
  obtain ⟨r, hr⟩ : ∃ r, r = (d.wrote (8 * (n : Int)) (chunk (pageOf n kind.toNat body)) 8).1 := ⟨_, rfl⟩
  rw [← hr] at a3 a4 ⊢
  have en : r.now = lays d.now (pieces (8 * (n : Int)) (chunk (pageOf n kind.toNat body)) 8) := by
    rw [now, a4, a3.2, lays_append]; rfl
  by_cases hmn : m = n
  · subst hmn
    simp only [if_pos]
    exact .inr ⟨hm.2.2.1, hm.2.2.2.1, hm.2.2.2.2, fun i hi => by rw [en]; exact lays_pieces _ _ _ _ i hi⟩
  · have same : ∀ i : Nat, i < 8 → r.now (8 * (m : Int) + i) = d.now (8 * (m : Int) + i) := fun i hi => by
      rw [en]
      exact (lays_part d.now _ _ 8 _ (fun p hp => hp)).1 _ (by omega)
    simp only [if_neg hmn]
    rcases h4 m hmm with ⟨b1, b2⟩ | ⟨b1, b2, b3, b4⟩
    · exact .inl ⟨b1, fun i hi => (same i hi).trans (b2 i hi)⟩
    · exact .inr ⟨b1, b2, b3, fun i hi => (same i hi).trans (b4 i hi)⟩

theorem keeps_read (d : DiskV) (f : Nat → Int × List UInt8) (h : d.Keeps f) (n : Nat) (hn : n < 5) :
    ((f n).1 = 0 ∧ (d.pread n).2.2 ≠ 0) ∨ (1 ≤ (f n).1 ∧ d.pread n = ((f n).1, (f n).2, 0)) := by
  obtain ⟨h1, h2, h3, h4⟩ := h
  have e : d.pread n = if openCode (d.page n) n = 0 then (ub (openKind (d.page n)), openBody (d.page n), 0) else (0, [], openCode (d.page n) n) := by
    rw [pread, if_neg (not_not_intro ⟨by omega, by rw [pages40 d h3]; omega⟩), if_neg (by rw [h1]; decide)]
  rcases h4 n hn with ⟨b1, b2⟩ | ⟨b1, b2, b3, b4⟩
  · left
    refine ⟨b1, ?_⟩
    obtain ⟨z, hz⟩ : ∃ z, z = 512 * 8 := ⟨_, rfl⟩
    have ez : d.page n = List.replicate z 0 := by rw [hz]; exact got_zeros _ _ 8 b2
    have := open_zeros z n
    rw [e, ez, if_neg this]
    exact this
  · right
    refine ⟨b1, ?_⟩
    have hlen := pageOf_length n (f n).1.toNat (f n).2 b3
    have ez : d.page n = pageOf n (f n).1.toNat (f n).2 := chunk_page _ hlen _ _ b4
    have ho := open_page n (f n).1.toNat (f n).2 n (by omega) (by omega) (by omega) b3
    rw [if_pos rfl] at ho
    rw [e, ez, if_pos ho, pageOf_body _ _ _ b3, openKind, pageOf_kind]
    have : ub (UInt8.ofNat ((f n).1.toNat % 256)) = (f n).1 := by
      unfold ub
      rw [UInt8.toNat_ofNat']
      omega
    rw [this]

theorem keeps_sync (d : DiskV) (f : Nat → Int × List UInt8) (h : d.Keeps f) : d.sync.2 = 0 ∧ d.sync.1.Keeps f ∧ d.sync.1.wait = [] := by
  obtain ⟨h1, h2, h3, h4⟩ := h
  have hf : d.falls = false := by rw [falls, h2]; rfl
  rcases sync_cases d h1 with ⟨a1, a2, a3⟩ | ⟨_, a2, _⟩
  · have ea : d.acted = d := by rw [acted, hf, h2]; rfl
    rw [a3, ea]
    exact ⟨a1, ⟨h1, h2, h3, h4⟩, rfl⟩
  · rw [hf] at a2; cases a2
theorem keeps_crash (d : DiskV) (f : Nat → Int × List UInt8) (h : d.Keeps f) (hw : d.wait = []) (keep : List Bool) : (d.crash keep).Keeps f ∧ (d.crash keep).wait = [] := by
  obtain ⟨h1, h2, h3, h4⟩ := h
  have e0 : kept ([] : List (Int × List UInt8)) keep = [] := by cases keep <;> rfl
  have e : d.crash keep = d := by
    rw [crash, hw, e0]
    cases d; simp_all [lays_nil]
  rw [e]
  exact ⟨⟨h1, h2, h3, h4⟩, hw⟩
end DiskV

end Go.Proofs.YtokoagepbhlkdaaDoor

/-
  A HAND AND ITS DISK in a law's own memory, beside other blocks of the law's own (O), which stand while the disk acts.
-/
namespace Go.Proofs.YtokoagepbhlkdaaDoor
open Go.RowKit
set_option maxRecDepth 100000
set_option linter.unusedVariables false
set_option linter.unusedSimpArgs false

def Stays (O : Nat → Prop) (wx wy : World) : Prop := ∀ k, O k → wy.heap[k]? = wx.heap[k]?
theorem Stays.cell {O : Nat → Prop} {wx wy : World} (h : Stays O wx wy) {a : Addr} {v : Value} (hc : wx.cell? a = some v) (ho : O a.block) : wy.cell? a = some v := (World.cell?_of_block (h _ ho)).trans hc
theorem Stays.trans {O : Nat → Prop} {a b c : World} (h : Stays O a b) (k : Stays O b c) : Stays O a c := fun i hi => (k i hi).trans (h i hi)
theorem Stays.mono {O O' : Nat → Prop} {a b : World} (h : Stays O a b) (ho : ∀ k, O' k → O k) : Stays O' a b := fun i hi => h i (ho i hi)

/-- The hand h, its disk d; the law's own blocks O. -/
def DX (w wx : World) (h g : Nat) (d : DiskV) (O : Nat → Prop) : Prop :=
  ∃ T, DiskIs T wx g d ∧ (∀ k, T k → w.heap.size ≤ k) ∧ (∀ k, O k → ¬ T k ∧ k < wx.heap.size) ∧ O h ∧ PtrAt wx h g 74 ∧ Below w.heap.size w wx

section
variable {w wx wy : World} {h g : Nat} {d d' : DiskV} {O O' : Nat → Prop}
theorem DX.base (k : DX w wx h g d O) : Below w.heap.size w wx := by obtain ⟨T, _, _, _, _, _, h⟩ := k; exact h
theorem DX.lt (k : DX w wx h g d O) {i : Nat} (hi : O i) : i < wx.heap.size := by obtain ⟨T, _, _, h3, _⟩ := k; exact (h3 i hi).2
theorem DX.hand (k : DX w wx h g d O) : O h := by obtain ⟨T, _, _, _, h4, _⟩ := k; exact h4
theorem DX.fit (k : DX w wx h g d O) : d.Fit := by obtain ⟨T, h1, _⟩ := k; exact h1.fit
theorem DX.mono (k : DX w wx h g d O) (ho : ∀ i, O' i → O i) (hh : O' h) : DX w wx h g d O' := by
  obtain ⟨T, k1, k2, k3, k4, k5, k6⟩ := k
  exact ⟨T, k1, k2, fun i hi => k3 i (ho i hi), hh, k5, k6⟩
/-- Blocks of the law's own turn, new ones are made. -/
theorem DX.own {S : Nat → Prop} (k : DX w wx h g d O) (hx : Ext S wx wy) (hS : ∀ i, S i → O i ∧ i ≠ h ∧ w.heap.size ≤ i) (hO : ∀ i, O' i → O i ∨ (wx.heap.size ≤ i ∧ i < wy.heap.size)) (hh : O' h) : DX w wy h g d O' := by
  obtain ⟨T, k1, k2, k3, k4, k5, k6⟩ := k
  refine ⟨T, k1.ext hx (fun i hT hs => (k3 i (hS i hs).1).1 hT), k2, fun i hi => ?_, hh, (hx.block h (lt_block k5) (fun hs => (hS h hs).2.1 rfl)).trans k5, k6.trans (hx.below k6.size (fun i hi hs => by have := (hS i hs).2.2; omega))⟩
  rcases hO i hi with e | e
  · exact ⟨(k3 i e).1, Nat.lt_of_lt_of_le (k3 i e).2 hx.size⟩
  · exact ⟨fun hT => by have := k1.inside i hT; omega, e.2⟩
theorem DX.below (k : DX w wx h g d O) (hb : Below wx.heap.size wx wy) : DX w wy h g d O :=
  k.own (S := fun _ => False) (Ext.of_below hb) (fun _ h => h.elim) (fun _ h => .inl h) k.hand
theorem DX.stays (k : DX w wx h g d O) (hb : Below wx.heap.size wx wy) : Stays O wx wy := fun i hi => hb.block i (k.lt hi)
theorem DX.drew (k : DX w wx h g d O) : DX w wx.drew h g d O := k.below ⟨rfl, rfl, rfl, Nat.le_refl _, fun _ _ => rfl⟩
/-- More blocks that were made. -/
theorem DX.more (k : DX w wx h g d O) (hb : Below wx.heap.size wx wy) (hO : ∀ i, O' i → O i ∨ (wx.heap.size ≤ i ∧ i < wy.heap.size)) (hh : O' h) : DX w wy h g d O' :=
  k.own (S := fun _ => False) (Ext.of_below hb) (fun _ h => h.elim) hO hh
/-- The disk acts. -/
theorem DX.go {T : Nat → Prop} (k2 : ∀ i, T i → w.heap.size ≤ i) (k3 : ∀ i, O i → ¬ T i ∧ i < wx.heap.size) (k4 : O h) (k5 : PtrAt wx h g 74) (k6 : Below w.heap.size w wx) (hg : DiskGo T wx g wy d') : DX w wy h g d' O ∧ Stays O wx wy := by
  obtain ⟨T1, j1, j2, j3⟩ := hg
  refine ⟨⟨T1, j1, fun i hi => ?_, fun i hi => ⟨fun hT => ?_, Nat.lt_of_lt_of_le (k3 i hi).2 j3.size⟩, k4, (j3.block h (lt_block k5) (k3 h k4).1).trans k5, k6.trans (j3.below k6.size (fun i hi hT => by have := k2 i hT; omega))⟩, fun i hi => j3.block i (k3 i hi).2 (k3 i hi).1⟩
  · rcases j2 i hi with e | e
    · exact k2 i e
    · exact Nat.le_trans k6.size e
  · rcases j2 i hT with e | e
    · exact (k3 i hi).1 e
    · have := (k3 i hi).2; omega
end

theorem dx_new (n : Int) (w wx : World) (O : Nat → Prop) (hn : n ≤ 9223372036854775807) (hb : Below w.heap.size w wx) (hO : ∀ k, O k → k < wx.heap.size) : Calls Tryd.prog 16 #[.int .i64 n] wx fun x w' => ∃ h g, x = .returned (.pointer (some ⟨h, 0, none⟩)) ∧ DX w w' h g (DiskV.new n) (fun k => O k ∨ k = h) ∧ Below wx.heap.size wx w' ∧ wx.heap.size ≤ h := by
  refine (bnew n wx hn).mono ?_
  rintro x w' ⟨h, g, T, rfl, k1, k2, k3, k4, k5, k6⟩
  refine ⟨h, g, rfl, ⟨T, k2, fun k hk => Nat.le_trans hb.size (k3 k hk), fun k hk => ?_, .inr rfl, k1, hb.trans (k6.mono hb.size)⟩, k6, k5⟩
  rcases hk with hk | rfl
  · exact ⟨fun hT => by have := k3 k hT; have := hO k hk; omega, Nat.lt_of_lt_of_le (hO k hk) k6.size⟩
  · exact ⟨k4, lt_block k1⟩

theorem dx_disk {w wx : World} {h g : Nat} {d : DiskV} {O : Nat → Prop} (k : DX w wx h g d O) : Calls Tryd.prog 18 #[.pointer (some ⟨h, 0, none⟩)] wx fun x w' => ∃ q, x = .returned (.pointer (some ⟨q, 0, none⟩)) ∧ DX w w' h g d (fun k => O k ∨ k = q) ∧ PtrAt w' q g 77 ∧ Below wx.heap.size wx w' ∧ wx.heap.size ≤ q := by
  obtain ⟨T, k1, k2, k3, k4, k5, k6⟩ := id k
  refine (bdisk h _ k5).mono ?_
  rintro x w' ⟨rfl, hq, hb⟩
  refine ⟨_, rfl, k.more hb (fun i hi => hi.imp_right (fun e => ?_)) (.inl k4), hq, hb, Nat.le_refl _⟩
  have := lt_block hq
  exact ⟨by omega, by omega⟩
theorem dx_arm {w wx : World} {h g : Nat} {d : DiskV} {O : Nat → Prop} (k : DX w wx h g d O) (v : Int) (b : Bool) (hv : v ≤ 9223372036854775807) : Calls Tryd.prog 42 #[.pointer (some ⟨h, 0, none⟩), .int .i64 v, .bool b] wx fun x w' => x = .returned (.tuple #[]) ∧ DX w w' h g (d.arm v b) O ∧ Stays O wx w' := by
  obtain ⟨T, k1, k2, k3, k4, k5, k6⟩ := k
  refine (barm k1 h _ k5 (by decide) v b hv).mono ?_
  rintro x w' ⟨rfl, hg⟩
  exact ⟨rfl, DX.go k2 k3 k4 k5 k6 hg⟩
theorem dx_crash {w wx : World} {h g : Nat} {d : DiskV} {O : Nat → Prop} (k : DX w wx h g d O) (B : Option Addr) (kn kc : Nat) (keep : List Bool) (hk : Bls w B kn keep) (hlen : d.wait.length ≤ 140737488355328) : Calls Tryd.prog 21 #[.pointer (some ⟨h, 0, none⟩), .slice B kn kc] wx fun x w' => x = .returned (.tuple #[]) ∧ DX w w' h g (d.crash keep) O ∧ Stays O wx w' := by
  obtain ⟨T, k1, k2, k3, k4, k5, k6⟩ := k
  refine (bcrash k1 h _ k5 B kn kc keep (hk.kept (fun a v hc => cell_below k6 hc)) hlen).mono ?_
  rintro x w' ⟨rfl, hg⟩
  exact ⟨rfl, DX.go k2 k3 k4 k5 k6 hg⟩
theorem dx_sync {w wx : World} {h g q : Nat} {d : DiskV} {O : Nat → Prop} (k : DX w wx h g d O) (hq : PtrAt wx q g 77) (hlen : d.wait.length ≤ 140737488355328) : Calls Tryd.prog 20 #[.pointer (some ⟨q, 0, none⟩)] wx fun x w' => x = .returned (errV d.sync.2) ∧ DX w w' h g d.sync.1 O ∧ Stays O wx w' := by
  obtain ⟨T, k1, k2, k3, k4, k5, k6⟩ := k
  refine (bsync k1 q hq hlen).mono ?_
  rintro x w' ⟨rfl, hg⟩
  exact ⟨rfl, DX.go k2 k3 k4 k5 k6 hg⟩
theorem dx_sector {w wx : World} {h g : Nat} {d : DiskV} {O : Nat → Prop} (k : DX w wx h g d O) (v : Int) (hv : d.has v) : Calls Tryd.prog 24 #[.pointer (some ⟨h, 0, none⟩), .int .i64 v] wx fun x w' => x = .returned (.slice (some ⟨wx.heap.size, 0, none⟩) 512 512) ∧ (d.now v).length = 512 ∧ w'.heap[wx.heap.size]? = some (.cells (bs (d.now v)).toArray 5 (0, 0)) ∧ Below wx.heap.size wx w' := by
  obtain ⟨T, k1, k2, k3, k4, k5, k6⟩ := k
  refine (bsector k1 h _ k5 v hv).mono ?_
  rintro x w' ⟨h1, h2, h3, h4⟩
  exact ⟨h3, h2, h4, h1⟩

end Go.Proofs.YtokoagepbhlkdaaDoor

/-
  A HAND AND ITS DISK in a law's own memory: pages. Numbers' low bits. An operation's six fields.
-/
namespace Go.Proofs.YtokoagepbhlkdaaDoor
open Go.RowKit
set_option maxRecDepth 100000
set_option linter.unusedVariables false
set_option linter.unusedSimpArgs false

theorem dx_pwrite {w wx : World} {h g q : Nat} {d : DiskV} {O : Nat → Prop} (k : DX w wx h g d O) (hO : O q) (hq : PtrAt wx q g 77) (hN : Nib w) (number kind : Int) (A : Option Addr) (n c : Nat) (body : List UInt8) (hb : Bs wx A n body) (hlen : (d.wait.length + 8) * 32 ≤ 140737488355328) :
    Calls Tryd.prog 17 #[.pointer (some ⟨q, 0, none⟩), .int .i64 number, .int .i64 kind, .slice A n c] wx fun x w' => x = .returned (errV (d.pwrite number kind body).2) ∧ DX w w' h g (d.pwrite number kind body).1 O ∧ Stays O wx w' := by
  obtain ⟨T, k1, k2, k3, k4, k5, k6⟩ := k
  refine (pgwrite k1 q hq (k3 q hO).1 (hN.below k6) number kind A n c body hb hlen).mono ?_
  rintro x w' ⟨rfl, hg⟩
  exact ⟨rfl, DX.go k2 k3 k4 k5 k6 hg⟩
theorem dx_pread {w wx : World} {h g q : Nat} {d : DiskV} {O : Nat → Prop} (k : DX w wx h g d O) (hq : PtrAt wx q g 77) (hN : Nib w) (v : Int) :
    Calls Tryd.prog 19 #[.pointer (some ⟨q, 0, none⟩), .int .i64 v] wx fun r w' => Below wx.heap.size wx w' ∧
      (((d.pread v).2.2 = 0 ∧ ∃ x, r = .returned (.tuple #[.int .i64 (d.pread v).1, x, .nilIface]) ∧ w'.ownsRow wx.heap.size 5 1 x (d.pread v).2.1.length (bs (d.pread v).2.1)) ∨
       ((d.pread v).2.2 ≠ 0 ∧ (d.pread v).1 = 0 ∧ (d.pread v).2.1 = [] ∧ r = .returned (.tuple #[.int .i64 0, .slice none 0 0, .iface 25 (.int .i64 (d.pread v).2.2)]))) := by
  obtain ⟨T, k1, k2, k3, k4, k5, k6⟩ := k
  exact pgread k1 q hq (hN.below k6) v

end Go.Proofs.YtokoagepbhlkdaaDoor
