/-
  PAGES ON A DISK, in plain Lean.
-/
import Derived.Test.YteljopjaolegaaaDoorPkA
import Derived.Test.YteljopjaolegaaaDoorPageH
import Derived.Test.YteljopjaolegaaaDoorPkD
import Derived.Test.YteljopjaolegaaaDoorPageI
import Derived.Test.YteljopjaolegaaaDoorSuperK
import Derived.Test.YteljopjaolegaaaDoorSuperC
import Derived.Test.YteljopjaolegaaaDoorStep
import Derived.Test.YteljopjaolegaaaDoorSuperJ

namespace Go.Proofs.YteljopjaolegaaaDoor
set_option maxRecDepth 100000
set_option linter.unusedVariables false

/-! ### Pages -/
namespace DiskV
/-- page.Write, page.Read. -/
def pwrite (d : DiskV) (number kind : Int) (body : List UInt8) : DiskV × Int :=
  if ¬ (0 ≤ number ∧ number < 65536 ∧ 1 ≤ kind ∧ kind ≤ 255 ∧ body.length ≤ 4085) then (d, 1)
  else if d.pages ≤ number then (d, 1) else d.wrote (8 * number) (chunk (pageOf number.toNat kind.toNat body)) 8
/-- A page's bytes. -/
def page (d : DiskV) (number : Int) : List UInt8 := got d.now (8 * number) 8
def pread (d : DiskV) (number : Int) : Int × List UInt8 × Int :=
  if ¬ (0 ≤ number ∧ number < d.pages) then (0, [], 1) else if d.down then (0, [], 5)
  else if openCode (d.page number) number = 0 then (ub (openKind (d.page number)), openBody (d.page number), 0) else (0, [], openCode (d.page number) number)
end DiskV

/-- A page of zeros opens under no number. -/
theorem open_kind0 (l : List UInt8) (z : Int) (h : l.getD 8 0 = 0) : openCode l z ≠ 0 := by
  simp only [openCode]
  split
  · decide
  split
  · decide
  split
  · decide
  rw [if_pos (.inl h)]
  decide
theorem open_zeros (n : Nat) (z : Int) : openCode (List.replicate n 0) z ≠ 0 := open_kind0 _ z (by
  rw [List.getD_eq_getElem?_getD, List.getElem?_replicate]
  split <;> rfl)

end Go.Proofs.YteljopjaolegaaaDoor

/-
  CONTRACTS: pages on a disk in memory: Write.
-/
namespace Go.Proofs.YteljopjaolegaaaDoor
open Go.RowKit
set_option maxRecDepth 100000
set_option linter.unusedVariables false
set_option linter.unusedSimpArgs false

theorem errV_cases (e : Int) : (e = 0 ∧ errV e = .nilIface) ∨ (¬ e = 0 ∧ errV e = .iface 37 (.int .i64 e)) := by
  by_cases h : e = 0
  · exact .inl ⟨h, by rw [h]; rfl⟩
  · exact .inr ⟨h, errV_ne e h⟩

theorem pgwrite_bad (p : Nat) (number kind : Int) (A : Option Addr) (n c : Nat) (w : World) (h : MakeOk number kind n = false) :
    Calls Tryd.prog 51 #[.pointer (some ⟨p, 0, none⟩), .int .i64 number, .int .i64 kind, .slice A n c] w fun r w' => r = .returned (.iface 37 (.int .i64 1)) ∧ w = w' := by
  have CM := Lib.hid (make_bad number kind n c A w h)
  clear h
  go_enter Tryd.func51, Tryd.ntmps51
  go_wp2_with ((go_at_call 38; (with_reducible refine CM.out.mono ?_)); rintro r w' ⟨rfl, rfl⟩)
  go_ret
  exact ⟨rfl, rfl⟩

theorem pgwrite_out {T : Nat → Prop} {w : World} {g : Nat} {d : DiskV} (hd : DiskIs T w g d) (p : Nat) (hp : PtrAt w p g 95) (hN : Nib w) (number kind : Nat) (A : Option Addr) (n c : Nat) (body : List UInt8) (hb : Bs w A n body)
    (h1 : number < 65536) (h2 : 1 ≤ kind) (h3 : kind ≤ 255) (h4 : n ≤ 4085) (hpg : d.pages ≤ number) :
    Calls Tryd.prog 51 #[.pointer (some ⟨p, 0, none⟩), .int .i64 number, .int .i64 kind, .slice A n c] w fun r w' => r = .returned (.iface 37 (.int .i64 1)) ∧ Below w.heap.size w w' := by
  have CM := Lib.hid (make_ok number kind n c A body w hN hb h1 h2 h3 h4)
  obtain ⟨pz, hpz⟩ : ∃ pz, pz = d.pages := ⟨_, rfl⟩
  have CP : Hid (∀ wx, Below w.heap.size w wx → Calls Tryd.prog 50 #[.pointer (some ⟨p, 0, none⟩)] wx fun r w' => r = .returned (.int .i64 pz) ∧ wx = w') := Lib.hid (fun wx hB => by
    rw [hpz]; exact pages_any (hd.below hB) p ((hB.block p (lt_block hp)).trans hp))
  obtain ⟨nz, hnz⟩ : ∃ nz : Int, nz = (number : Int) := ⟨_, rfl⟩
  obtain ⟨kz, hkz⟩ : ∃ kz : Int, kz = (kind : Int) := ⟨_, rfl⟩
  rw [← hpz, ← hnz] at hpg
  rw [← hnz, ← hkz] at CM ⊢
  clear hd hp hb hpz hnz hkz h1 h2 h3 h4
  go_enter Tryd.func51, Tryd.ntmps51
  go_wp2_with (first | ((go_at_call 38; (with_reducible refine CM.out.mono ?_)); rintro r w1 ⟨rfl, h1, hb1⟩; have HB1 := Lib.hid hb1; clear h1 hb1) | ((go_at_call 50; (with_reducible refine (CP.out _ HB1.out).mono ?_)); rintro r w' ⟨rfl, rfl⟩))
  go_ret
  exact ⟨rfl, HB1.out⟩

set_option maxHeartbeats 2000000 in
theorem pgwrite_in {T : Nat → Prop} {w : World} {g : Nat} {d : DiskV} (hd : DiskIs T w g d) (p : Nat) (hp : PtrAt w p g 95) (hpT : ¬ T p) (hN : Nib w) (number kind : Nat) (A : Option Addr) (n c : Nat) (body : List UInt8) (hb : Bs w A n body)
    (h1 : number < 65536) (h2 : 1 ≤ kind) (h3 : kind ≤ 255) (h4 : n ≤ 4085) (hpg : ¬ d.pages ≤ number) (hlen : (d.wait.length + 8) * 32 ≤ 140737488355328) :
    Calls Tryd.prog 51 #[.pointer (some ⟨p, 0, none⟩), .int .i64 number, .int .i64 kind, .slice A n c] w fun r w' => r = .returned (errV (d.wrote (8 * number) (chunk (pageOf number kind body)) 8).2) ∧ DiskGo T w g w' (d.wrote (8 * number) (chunk (pageOf number kind body)) 8).1 := by
  have CM := Lib.hid (make_ok number kind n c A body w hN hb h1 h2 h3 h4)
  have hpl := pageOf_length number kind body (by rw [hb.len]; exact h4)
  obtain ⟨pz, hpz⟩ : ∃ pz, pz = d.pages := ⟨_, rfl⟩
  have CP : Hid (∀ wx, Below w.heap.size w wx → Calls Tryd.prog 50 #[.pointer (some ⟨p, 0, none⟩)] wx fun r w' => r = .returned (.int .i64 pz) ∧ wx = w') := Lib.hid (fun wx hB => by
    rw [hpz]; exact pages_any (hd.below hB) p ((hB.block p (lt_block hp)).trans hp))
  obtain ⟨nz, hnz⟩ : ∃ nz : Int, nz = (number : Int) := ⟨_, rfl⟩
  obtain ⟨kz, hkz⟩ : ∃ kz : Int, kz = (kind : Int) := ⟨_, rfl⟩
  obtain ⟨L, hL⟩ : ∃ L, L = pageOf number kind body := ⟨_, rfl⟩
  rw [← hL] at CM hpl ⊢
  rw [← hpz, ← hnz] at hpg
  rw [← hnz, ← hkz] at CM ⊢
  have hn0 : 0 ≤ nz := by omega
  have hn1 : nz < 65536 := by omega
  -- one sector of the page
  have CW : Hid (∀ (w1 wr : World) (gb i : Nat) (di : DiskV), i < 8 → Below w.heap.size w w1 → gb = w.heap.size → w1.heap[gb]? = some (.cells (bs L).toArray 5 (0, 0)) → DiskGo T w1 g wr di → d.wrote (8 * nz) (chunk L) i = (di, 0) → di.wait.length ≤ d.wait.length + i →
      Calls Tryd.prog 70 #[.pointer (some ⟨p, 0, none⟩), .int .i64 (nz * 8 + i), .slice (some ⟨gb, i * 512, none⟩) 512 (4096 - i * 512)] wr fun r w' => r = .returned (errV (d.wrote (8 * nz) (chunk L) (i + 1)).2) ∧ DiskGo T w1 g w' (d.wrote (8 * nz) (chunk L) (i + 1)).1 ∧ (d.wrote (8 * nz) (chunk L) (i + 1)).1.wait.length ≤ d.wait.length + (i + 1)) := Lib.hid (fun w1 wr gb i di hi hB hgb hrow hgo hw hwl => by
    obtain ⟨T1, k1, k2, k3⟩ := hgo
    have hpt : PtrAt wr p g 95 := (k3.block p (Nat.lt_of_lt_of_le (lt_block hp) hB.size) hpT).trans ((hB.block p (lt_block hp)).trans hp)
    have hgT : ¬ T gb := fun e => by have := hd.inside gb e; omega
    have hrow2 : wr.heap[gb]? = some (.cells (bs L).toArray 5 (0, 0)) := (k3.block gb (lt_block hrow) hgT).trans hrow
    have hbs := bs_block hrow2 (i * 512) 512 (by rw [hpl]; omega) (by omega)
    rw [show i * 512 = 512 * i by omega] at hbs
    rw [show i * 512 = 512 * i by omega]
    refine (bwrite k1 p hpt (nz * 8 + i) _ 512 (4096 - 512 * i) (chunk L i) hbs (by omega)).mono ?_
    rintro r w' ⟨rfl, hg⟩
    have e := DiskV.wrote_next d di (8 * nz) (chunk L) i hw
    rw [e, show 8 * nz + (i : Int) = nz * 8 + i by omega]
    refine ⟨rfl, DiskGo.trans k2 k3 hg, ?_⟩
    have hb : (di.write (nz * 8 + i) (chunk L i)).1.wait.length ≤ di.wait.length + 1 := by
      rw [DiskV.write]
      split
      · simp
      split
      · simp
      split
      · simp
      · rw [DiskV.acted_wait]; simp
    omega)
  have HD := Lib.hid hd
  have Hpl := Lib.hid hpl
  clear hd hp hpT hb hpz hnz hkz h1 h2 h3 h4 hlen hL hpl
  go_enter Tryd.func51, Tryd.ntmps51
  go_wp2_with (first | ((go_at_call 38; (with_reducible refine CM.out.mono ?_)); rintro r w1 ⟨rfl, h1, hb1⟩; have HB1 := Lib.hid hb1; have Hr1 := Lib.hid h1; clear h1 hb1) | ((go_at_call 50; (with_reducible refine (CP.out _ HB1.out).mono ?_)); rintro r w' ⟨rfl, rfl⟩))
  obtain ⟨gb, hgb⟩ : ∃ gb, gb = w.heap.size := ⟨_, rfl⟩
  rw [← hgb] at Hr1 ⊢
  have Hgb := Lib.hid hgb
  clear hgb
  go_loopw [32] (fun i wr => ∃ (k : Nat) (di : DiskV), k ≤ 8 ∧ i = .int .i64 k ∧ d.wrote (8 * nz) (chunk L) k = (di, 0) ∧ DiskGo T w1 g wr di ∧ di.wait.length ≤ d.wait.length + k) (fun i _ => 8 - (intOf i).toNat)
  case atStart => exact ⟨0, d, by omega, rfl, rfl, DiskGo.refl (HD.out.below HB1.out), by omega⟩
  case round =>
    obtain ⟨k, di, hk, rfl, h1, h2, h3⟩ := hrel
    have H1 := Lib.hid h1
    have H2 := Lib.hid h2
    have H3 := Lib.hid h3
    clear h1 h2 h3
    by_cases hlt : k < 8
    · have C := Lib.hid (CW.out w1 wr gb k di hlt HB1.out Hgb.out Hr1.out H2.out H1.out H3.out)
      have hkz : (k : Int) < 8 := by omega
      have hk0 : (0 : Int) ≤ k := by omega
      have hne : ¬ 4096 = k * 512 := by omega
      rcases errV_cases (d.wrote (8 * nz) (chunk L) (k + 1)).2 with ⟨e, ev⟩ | ⟨e, ev⟩
      · have hpair : d.wrote (8 * nz) (chunk L) (k + 1) = ((d.wrote (8 * nz) (chunk L) (k + 1)).1, 0) := Prod.ext rfl e
        have Hpair := Lib.hid hpair
        rw [ev] at C
        clear hpair e ev
        go_wp2_with ((go_at_call 70; (with_reducible refine C.out.mono ?_)); rintro r w9 ⟨rfl, k1, k2⟩; have Hk1 := Lib.hid k1; have Hk2 := Lib.hid k2; clear k1 k2)
        go_roundw
        case rel => exact ⟨k + 1, _, by omega, by go_num, Hpair.out, Hk1.out, Hk2.out⟩
        case measure => simp [intOf]; omega
      · obtain ⟨ez, hez⟩ : ∃ ez, ez = (d.wrote (8 * nz) (chunk L) (k + 1)).2 := ⟨_, rfl⟩
        have hst := DiskV.wrote_stays d (8 * nz) (chunk L) (k + 1) 8 (by omega) e
        have Hst := Lib.hid hst
        have Hez := Lib.hid hez
        have Hev := Lib.hid ev
        rw [ev, ← hez] at C
        clear hst hez e ev
        go_wp2_with ((go_at_call 70; (with_reducible refine C.out.mono ?_)); rintro r w9 ⟨rfl, k1, k2⟩; have Hk1 := Lib.hid k1; clear k1 k2)
        go_ret
        rw [Hst.out, Hev.out, Hez.out]
        exact ⟨rfl, Hk1.out.ahead HB1.out⟩
    · have e8 : k = 8 := by omega
      subst e8
      go_wp2_with fail
      go_ret
      rw [H1.out]
      exact ⟨rfl, H2.out.ahead HB1.out⟩

/-- page.Write. -/
theorem pgwrite {T : Nat → Prop} {w : World} {g : Nat} {d : DiskV} (hd : DiskIs T w g d) (p : Nat) (hp : PtrAt w p g 95) (hpT : ¬ T p) (hN : Nib w) (number kind : Int) (A : Option Addr) (n c : Nat) (body : List UInt8) (hb : Bs w A n body) (hlen : (d.wait.length + 8) * 32 ≤ 140737488355328) :
    Calls Tryd.prog 51 #[.pointer (some ⟨p, 0, none⟩), .int .i64 number, .int .i64 kind, .slice A n c] w fun r w' => r = .returned (errV (d.pwrite number kind body).2) ∧ DiskGo T w g w' (d.pwrite number kind body).1 := by
  have hl := hb.len
  by_cases hm : 0 ≤ number ∧ number < 65536 ∧ 1 ≤ kind ∧ kind ≤ 255 ∧ body.length ≤ 4085
  rotate_left
  · have e : d.pwrite number kind body = (d, 1) := by rw [DiskV.pwrite, if_pos hm]
    rw [e]
    refine (pgwrite_bad p number kind A n c w ?_).mono ?_
    · simp only [MakeOk, decide_eq_false_iff_not]
      intro h
      exact hm ⟨h.1, h.2.1, h.2.2.1, h.2.2.2.1, by omega⟩
    · rintro r w' ⟨rfl, rfl⟩
      exact ⟨rfl, DiskGo.refl hd⟩
  obtain ⟨nn, rfl⟩ : ∃ nn : Nat, number = nn := ⟨number.toNat, by omega⟩
  obtain ⟨kk, rfl⟩ : ∃ kk : Nat, kind = kk := ⟨kind.toNat, by omega⟩
  by_cases hpg : d.pages ≤ (nn : Int)
  · have e : d.pwrite nn kk body = (d, 1) := by rw [DiskV.pwrite, if_neg (not_not_intro hm), if_pos hpg]
    rw [e]
    refine (pgwrite_out hd p hp hN nn kk A n c body hb (by omega) (by omega) (by omega) (by omega) hpg).mono ?_
    rintro r w' ⟨rfl, hB⟩
    exact ⟨rfl, DiskGo.of_below hd hB⟩
  · have e : d.pwrite nn kk body = d.wrote (8 * nn) (chunk (pageOf nn kk body)) 8 := by
      rw [DiskV.pwrite, if_neg (not_not_intro hm), if_neg hpg, Int.toNat_natCast, Int.toNat_natCast]
    rw [e]
    exact pgwrite_in hd p hp hpT hN nn kk A n c body hb (by omega) (by omega) (by omega) (by omega) hpg hlen

end Go.Proofs.YteljopjaolegaaaDoor

/-
  SUPERBLOCKS ON A DISK, in plain Lean: a write that the power cuts; one behind another.
-/
namespace Go.Proofs.YteljopjaolegaaaDoor
set_option maxRecDepth 100000
set_option linter.unusedVariables false

namespace DiskV
/-- super.Write, super.Read. -/
def swrite (d : DiskV) (s : Sup) : DiskV × Int :=
  if ¬ (supMay s = true ∧ s.pages = d.pages) then (d, 1)
  else if (d.pwrite (supPlace s) 1 (supBody s)).2 ≠ 0 then d.pwrite (supPlace s) 1 (supBody s) else (d.pwrite (supPlace s) 1 (supBody s)).1.sync
def sread (d : DiskV) : Sup × Int :=
  if d.pages < 16 then (.zero, 140) else if d.down then (.zero, 5)
  else if (supChoose (d.page 0) (d.page 1)).2 ≠ 0 ∨ (supChoose (d.page 0) (d.page 1)).1.pages ≠ d.pages then (.zero, 140) else ((supChoose (d.page 0) (d.page 1)).1, 0)
end DiskV

theorem supPage_tail (s : Sup) (i : Nat) (h1 : 1 ≤ i) (h2 : i < 8) : chunk (supPage s) i = zeros512 := by
  have e := pageOf_eleven (supPlace s) 1 (supBody s)
  have e2 : (supPage s).drop 47 = List.replicate 4049 0 := by
    have h := congrArg (List.drop 36) e
    rw [List.drop_left' (supBody_length s), List.drop_drop, supBody_length] at h
    exact h
  have e3 : (supPage s).drop (512 * i) = List.replicate (4096 - 512 * i) 0 := by
    have h := congrArg (List.drop (512 * i - 47)) e2
    rw [List.drop_drop, List.drop_replicate, show 47 + (512 * i - 47) = 512 * i by omega, show 4049 - (512 * i - 47) = 4096 - 512 * i by omega] at h
    exact h
  rw [chunk, e3, List.take_replicate, zeros512]
  congr 1
  omega

/-- A page of whose sectors each is empty or the superblock's: it is empty, or the superblock's. -/
theorem sup_mix (s : Sup) (f : Rows512) (a : Int) (h : ∀ i : Nat, i < 8 → f (a + i) = zeros512 ∨ f (a + i) = chunk (supPage s) i) :
    got f a 8 = List.replicate 4096 0 ∨ got f a 8 = supPage s := by
  rcases h 0 (by omega) with h0 | h0
  · left
    have h8 := got_zeros f a 8 (fun i hi => ?_)
    · rw [show 512 * 8 = 4096 from rfl] at h8; exact h8
    by_cases hi0 : i = 0
    · subst hi0; exact h0
    · rcases h i hi with e | e
      · exact e
      · rw [e, supPage_tail s i (by omega) hi]
  · right
    refine chunk_page _ (supPage_length s) f a (fun i hi => ?_)
    by_cases hi0 : i = 0
    · subst hi0; exact h0
    · rcases h i hi with e | e
      · rw [e, supPage_tail s i (by omega) hi]
      · exact e

/-- No superblock's page. -/
def Spoilt (l : List UInt8) : Prop := ∀ z, (z = 0 ∨ z = 1) → supCode l z ≠ 0
theorem spoilt_kind0 (l : List UInt8) (h : l.getD 8 0 = 0) : Spoilt l := by
  intro z hz
  have ho := open_kind0 l z h
  simp only [supCode]
  rw [if_neg (not_not_intro hz), if_pos ho]
  exact ho
theorem spoilt_zeros (n : Nat) : Spoilt (List.replicate n 0) := spoilt_kind0 _ (by
  rw [List.getD_eq_getElem?_getD, List.getElem?_replicate]
  split <;> rfl)

theorem supPlace_cases (s : Sup) : (supPlace s = 0 ∧ s.version % 2 = 0) ∨ (supPlace s = 1 ∧ s.version % 2 = 1) := by
  simp only [supPlace]; omega

/-- One page holds a superblock, the other one none. -/
theorem choose_alone (s : Sup) (h : supMay s = true) (f : Nat → List UInt8) (h1 : f (supPlace s) = supPage s) (h2 : Spoilt (f (1 - supPlace s))) : supChoose (f 0) (f 1) = (s, 0) := by
  rcases supPlace_cases s with ⟨e, ev⟩ | ⟨e, ev⟩
  · rw [e] at h1 h2
    obtain ⟨b1, b2⟩ := sup_back s h 0 (.inl rfl)
    rw [if_pos ev] at b1 b2
    have := h2 1 (.inr rfl)
    rw [supChoose, h1, if_neg (fun h => h.1 b1), if_neg (fun h => h b1), if_neg (fun h => this h.1), b2]
  · rw [e] at h1 h2
    obtain ⟨b1, b2⟩ := sup_back s h 1 (.inr rfl)
    rw [if_pos ev] at b1 b2
    have := h2 0 (.inl rfl)
    rw [supChoose, h1, if_neg (fun h => h.2 b1), if_pos this, b2]

/-- Both hold one: that of the higher version is chosen. -/
theorem choose_newer (s t : Sup) (h : supMay s = true) (k : supMay t = true) (hv : s.version < t.version) (hp : supPlace t = 1 - supPlace s) (f : Nat → List UInt8) (h1 : f (supPlace s) = supPage s) (h2 : f (supPlace t) = supPage t) : supChoose (f 0) (f 1) = (t, 0) := by
  rcases supPlace_cases s with ⟨e, ev⟩ | ⟨e, ev⟩
  · rw [e] at h1 hp
    rw [hp] at h2
    rcases supPlace_cases t with ⟨e', ev'⟩ | ⟨e', ev'⟩
    · omega
    obtain ⟨b1, b2⟩ := sup_back s h 0 (.inl rfl)
    obtain ⟨c1, c2⟩ := sup_back t k 1 (.inr rfl)
    rw [if_pos ev] at b1 b2
    rw [if_pos ev'] at c1 c2
    rw [supChoose, h1, h2, if_neg (fun h => h.1 b1), if_neg (fun h => h b1), if_pos ⟨c1, by rw [b2, c2]; exact hv⟩, c2]
  · rw [e] at h1 hp
    rw [hp] at h2
    rcases supPlace_cases t with ⟨e', ev'⟩ | ⟨e', ev'⟩
    · obtain ⟨b1, b2⟩ := sup_back s h 1 (.inr rfl)
      obtain ⟨c1, c2⟩ := sup_back t k 0 (.inl rfl)
      rw [if_pos ev] at b1 b2
      rw [if_pos ev'] at c1 c2
      rw [supChoose, h1, h2, if_neg (fun h => h.1 c1), if_neg (fun h => h c1), if_neg (fun h => by rw [b2, c2] at h; omega), c2]
    · omega

namespace DiskV
theorem sread_is (d : DiskV) (s : Sup) (hd : d.down = false) (h16 : ¬ d.pages < 16) (hc : supChoose (d.page 0) (d.page 1) = (s, 0)) (hp : s.pages = d.pages) : d.sread = (s, 0) := by
  rw [sread, if_neg h16, if_neg (by rw [hd]; decide), hc, if_neg (by rintro (h | h); exact h rfl; exact h hp)]

/-- What a superblock's write leaves: it is written and safe; or the power is gone, and a part of it may stay. -/
theorem swrite_cases (d : DiskV) (s : Sup) (hs : supMay s = true) (hp : (d.many : Int) = 8 * s.pages) (hd : d.down = false) (hw : d.wait = []) :
    ((d.swrite s).2 = 0 ∧ (d.swrite s).1.down = false ∧ (d.armed = false → (d.swrite s).1.armed = false) ∧ (d.swrite s).1.wait = [] ∧ (d.swrite s).1.many = d.many ∧
      (∀ j, (j < 8 * (supPlace s : Int) ∨ 8 * (supPlace s : Int) + 8 ≤ j) → (d.swrite s).1.safe j = d.safe j) ∧ ∀ i : Nat, i < 8 → (d.swrite s).1.safe (8 * (supPlace s : Int) + i) = chunk (supPage s) i) ∨
    ((d.swrite s).2 = 5 ∧ (d.swrite s).1.many = d.many ∧ d.armed = true ∧ ∀ keep,
      (∀ j, (j < 8 * (supPlace s : Int) ∨ 8 * (supPlace s : Int) + 8 ≤ j) → ((d.swrite s).1.crash keep).safe j = d.safe j) ∧
      ∀ i : Nat, i < 8 → ((d.swrite s).1.crash keep).safe (8 * (supPlace s : Int) + i) = d.safe (8 * (supPlace s : Int) + i) ∨ ((d.swrite s).1.crash keep).safe (8 * (supPlace s : Int) + i) = chunk (supPage s) i) := by
  have hm := of_decide_eq_true (show decide _ = true from hs)
  have hpl := supPlace_lt s
  have hb := supBody_length s
  have hpg : d.pages = s.pages := by simp only [pages]; omega
  have hpw : d.pwrite (supPlace s) 1 (supBody s) = d.wrote (8 * (supPlace s : Int)) (chunk (supPage s)) 8 := by
    rw [pwrite, if_neg (not_not_intro ⟨by omega, by omega, by omega, by omega, by rw [hb]; omega⟩), if_neg (by rw [hpg]; omega)]
    rfl
  have e : d.swrite s = if (d.wrote (8 * (supPlace s : Int)) (chunk (supPage s)) 8).2 ≠ 0 then d.wrote (8 * (supPlace s : Int)) (chunk (supPage s)) 8 else (d.wrote (8 * (supPlace s : Int)) (chunk (supPage s)) 8).1.sync := by
    rw [swrite, if_neg (not_not_intro ⟨hs, hpg.symm⟩), hpw]
  rw [e]
  clear e hpw
  have hpart (m : Nat) (hmn : m ≤ 8) (keep : List Bool) : ∀ p ∈ kept (pieces (8 * (supPlace s : Int)) (chunk (supPage s)) m) keep, p ∈ pieces (8 * (supPlace s : Int)) (chunk (supPage s)) 8 := by
    intro p hp
    have := kept_mem _ _ _ hp
    simp only [pieces, List.mem_map, List.mem_range] at this ⊢
    obtain ⟨k, hk, rfl⟩ := this
    exact ⟨k, by omega, rfl⟩
  rcases wrote_cases d (8 * (supPlace s : Int)) (chunk (supPage s)) 8 hd (by omega) (by omega) (fun i hi => chunk_length _ _ (by rw [supPage_length]; omega)) with ⟨h1, h2, h3, h4, h5⟩ | ⟨h1, h2, h3, h4, m, h5, h6⟩
  · rw [if_neg (not_not_intro h1)]
    rw [hw, List.nil_append] at h4
    obtain ⟨r, hr⟩ : ∃ r, r = (d.wrote (8 * (supPlace s : Int)) (chunk (supPage s)) 8).1 := ⟨_, rfl⟩
    rw [← hr] at h2 h3 h4 h5 ⊢
    rcases sync_cases r h2 with ⟨k1, k2, k3⟩ | ⟨k1, k2, k3, k4, k5⟩
    · left
      rw [k3]
      refine ⟨k1, (acted_down r h2).trans k2, fun ha => ?_, rfl, (acted_many r).trans h3.1, fun j hj => ?_, fun i hi => ?_⟩
      · have := h5 ha
        show r.acted.armed = false
        simp only [acted]; split <;> (try split) <;> simp_all
      · show lays r.safe r.wait j = _
        rw [h4, h3.2]
        exact (lays_part d.safe _ (chunk (supPage s)) 8 _ (fun p hp => hp)).1 j hj
      · show lays r.safe r.wait _ = _
        rw [h4, h3.2]
        exact lays_pieces _ _ _ _ i hi
    · right
      refine ⟨k1, k4.trans h3.1, ?_, fun keep => ?_⟩
      · cases ha : d.armed with
        | true => rfl
        | false => rw [falls, h5 ha] at k2; cases k2
      · rcases k5 with ⟨k5, k6⟩ | ⟨k5, k6⟩
        · simp only [crash, k5, k6, h3.2, h4]
          exact lays_part d.safe _ (chunk (supPage s)) 8 _ (hpart 8 (by omega) keep)
        · have e0 : kept ([] : List (Int × List UInt8)) keep = [] := by cases keep <;> rfl
          simp only [crash, k5, k6, h3.2, h4, e0, lays_nil]
          exact lays_part d.safe _ (chunk (supPage s)) 8 _ (fun p hp => hp)
  · rw [if_pos (by rw [h1]; decide)]
    rw [hw, List.nil_append] at h6
    right
    refine ⟨h1, h3.1, h4, fun keep => ?_⟩
    simp only [crash, h3.2, h6]
    exact lays_part d.safe _ (chunk (supPage s)) 8 _ (hpart m h5 keep)

theorem page_safe (d : DiskV) (hw : d.wait = []) (n : Int) : d.page n = got d.safe (8 * n) 8 := by rw [page, now, hw]; rfl

/-- WHEREVER THE POWER GOES in a write, the old superblock or the new one is read. -/
theorem sup_power (s next : Sup) (hs : supMay s = true) (hn : supMay next = true) (hv : next.version = s.version + 1) (hp : next.pages = s.pages) (acts : Int) (done : Bool) (keep : List Bool) :
    ((DiskV.new (8 * s.pages)).swrite s).2 = 0 ∧
    (((((DiskV.new (8 * s.pages)).swrite s).1.arm acts done).swrite next).1.crash keep).sread.2 = 0 ∧
    (((((DiskV.new (8 * s.pages)).swrite s).1.arm acts done).swrite next).2 = 0 → (((((DiskV.new (8 * s.pages)).swrite s).1.arm acts done).swrite next).1.crash keep).sread.1 = next) ∧
    ((((((DiskV.new (8 * s.pages)).swrite s).1.arm acts done).swrite next).1.crash keep).sread.1 = s ∨ (((((DiskV.new (8 * s.pages)).swrite s).1.arm acts done).swrite next).1.crash keep).sread.1 = next) := by
  have hm := of_decide_eq_true (show decide _ = true from hs)
  have hpl : supPlace next = 1 - supPlace s := by simp only [supPlace, hv]; omega
  have hpl2 := supPlace_lt s
  have hm0 : ((DiskV.new (8 * s.pages)).many : Int) = 8 * s.pages := by simp only [DiskV.new]; omega
  rcases swrite_cases (DiskV.new (8 * s.pages)) s hs hm0 rfl rfl with ⟨a1, a2, a3, a4, a5, a6, a7⟩ | ⟨_, _, a3, _⟩
  rotate_left
  · cases a3
  obtain ⟨d1, hd1⟩ : ∃ d1, d1 = ((DiskV.new (8 * s.pages)).swrite s).1.arm acts done := ⟨_, rfl⟩
  have b2 : d1.down = false := by rw [hd1]; exact a2
  have b4 : d1.wait = [] := by rw [hd1]; exact a4
  have b5 : (d1.many : Int) = 8 * next.pages := by rw [hd1, hp]; show (((DiskV.new (8 * s.pages)).swrite s).1.many : Int) = _; rw [a5]; exact hm0
  have b7 : ∀ i : Nat, i < 8 → d1.safe (8 * (supPlace s : Int) + i) = chunk (supPage s) i := by rw [hd1]; exact a7
  have b6 : ∀ i : Nat, i < 8 → d1.safe (8 * (supPlace next : Int) + i) = zeros512 := fun i hi => by
    rw [hd1]
    show ((DiskV.new (8 * s.pages)).swrite s).1.safe _ = _
    rw [a6 _ (by rw [hpl]; omega)]; rfl
  refine ⟨a1, ?_⟩
  rw [← hd1]
  clear a1 a2 a3 a4 a5 a6 a7 hd1 hm0
  obtain ⟨r, hr⟩ : ∃ r, r = (d1.swrite next).1.crash keep := ⟨_, rfl⟩
  have main (h2 : r.down = false) (h3 : r.wait = []) (h4 : (r.many : Int) = 8 * s.pages) (h5 : ∀ j, (j < 8 * (supPlace next : Int) ∨ 8 * (supPlace next : Int) + 8 ≤ j) → r.safe j = d1.safe j) :
      ((∀ i : Nat, i < 8 → r.safe (8 * (supPlace next : Int) + i) = chunk (supPage next) i) → r.sread = (next, 0)) ∧
      ((∀ i : Nat, i < 8 → r.safe (8 * (supPlace next : Int) + i) = d1.safe (8 * (supPlace next : Int) + i) ∨ r.safe (8 * (supPlace next : Int) + i) = chunk (supPage next) i) → r.sread = (s, 0) ∨ r.sread = (next, 0)) := by
    have hpg : r.pages = s.pages := by simp only [pages]; omega
    have h16 : ¬ r.pages < 16 := by omega
    have o1 : r.page (supPlace s) = supPage s := by
      rw [page_safe r h3]
      refine chunk_page _ (supPage_length s) _ _ (fun i hi => ?_)
      rw [h5 _ (by rw [hpl]; omega), b7 i hi]
    have new (hh : r.page (supPlace next) = supPage next) : r.sread = (next, 0) :=
      sread_is r next h2 h16 (choose_newer s next hs hn (by omega) hpl (fun n => r.page n) o1 hh) (by rw [hp, hpg])
    refine ⟨fun hh => new ?_, fun hh => ?_⟩
    · rw [page_safe r h3]
      exact chunk_page _ (supPage_length next) _ _ hh
    · rcases sup_mix next r.safe (8 * (supPlace next : Int)) (fun i hi => by rcases hh i hi with e | e; exact .inl (e.trans (b6 i hi)); exact .inr e) with e | e
      · left
        refine sread_is r s h2 h16 (choose_alone s hs (fun n => r.page n) o1 ?_) hpg.symm
        have : r.page ((1 - supPlace s : Nat) : Int) = List.replicate 4096 0 := by rw [← hpl, page_safe r h3, e]
        rw [this]; exact spoilt_zeros 4096
      · exact .inr (new (by rw [page_safe r h3, e]))
  rcases swrite_cases d1 next hn b5 b2 b4 with ⟨c1, c2, _, c4, c5, c6, c7⟩ | ⟨c1, c5, _, c8⟩
  · have es : r.safe = (d1.swrite next).1.safe := by
      have e0 : kept ([] : List (Int × List UInt8)) keep = [] := by cases keep <;> rfl
      rw [hr]; simp only [crash, c4, e0, lays_nil]
    obtain ⟨m1, _⟩ := main (by rw [hr]; rfl) (by rw [hr]; rfl) (by rw [hr]; show ((d1.swrite next).1.many : Int) = _; rw [c5, b5, hp]) (fun j hj => by rw [es]; exact c6 j hj)
    have m2 := m1 (fun i hi => by rw [es]; exact c7 i hi)
    rw [← hr, m2]
    exact ⟨rfl, fun _ => rfl, .inr rfl⟩
  · obtain ⟨c6, c7⟩ := c8 keep
    rw [← hr] at c6 c7
    obtain ⟨_, m1⟩ := main (by rw [hr]; rfl) (by rw [hr]; rfl) (by rw [hr]; show ((d1.swrite next).1.many : Int) = _; rw [c5, b5, hp]) c6
    rw [← hr, c1]
    rcases m1 c7 with m2 | m2
    · rw [m2]; exact ⟨rfl, fun h => (by cases h), .inl rfl⟩
    · rw [m2]; exact ⟨rfl, fun h => (by cases h), .inr rfl⟩

/-- A disk on which superblocks were written one behind another, `last` last: what stands on the other page. -/
def Turns (d : DiskV) (last : Sup) : Prop := supMay last = true ∧ d.down = false ∧ d.armed = false ∧ d.wait = [] ∧ (d.many : Int) = 8 * last.pages ∧ d.page (supPlace last) = supPage last
def Ahead (d : DiskV) (last prev : Sup) : Prop := supMay prev = true ∧ prev.pages = last.pages ∧ prev.version < last.version ∧ supPlace last = 1 - supPlace prev ∧ d.page (supPlace prev) = supPage prev

/-- The first one. -/
theorem turns_first (s : Sup) (hs : supMay s = true) : ((DiskV.new (8 * s.pages)).swrite s).2 = 0 ∧ ((DiskV.new (8 * s.pages)).swrite s).1.Turns s ∧ ((DiskV.new (8 * s.pages)).swrite s).1.sread = (s, 0) := by
  have hm := of_decide_eq_true (show decide _ = true from hs)
  have hpl2 := supPlace_lt s
  have hm0 : ((DiskV.new (8 * s.pages)).many : Int) = 8 * s.pages := by simp only [DiskV.new]; omega
  rcases swrite_cases (DiskV.new (8 * s.pages)) s hs hm0 rfl rfl with ⟨a1, a2, a3, a4, a5, a6, a7⟩ | ⟨_, _, a3, _⟩
  rotate_left
  · cases a3
  obtain ⟨r, hr⟩ : ∃ r, r = ((DiskV.new (8 * s.pages)).swrite s).1 := ⟨_, rfl⟩
  rw [← hr] at a2 a3 a4 a5 a6 a7 ⊢
  have hmr : (r.many : Int) = 8 * s.pages := by rw [a5]; exact hm0
  have o1 : r.page (supPlace s) = supPage s := by
    rw [page_safe r a4]
    exact chunk_page _ (supPage_length s) _ _ a7
  refine ⟨a1, ⟨hs, a2, a3 rfl, a4, hmr, o1⟩, ?_⟩
  have hpg : r.pages = s.pages := by simp only [pages]; omega
  refine sread_is r s a2 (by omega) (choose_alone s hs (fun n => r.page n) o1 ?_) hpg.symm
  have : r.page ((1 - supPlace s : Nat) : Int) = List.replicate 4096 0 := by
    rw [page_safe r a4]
    have h8 := got_zeros r.safe (8 * ((1 - supPlace s : Nat) : Int)) 8 (fun i hi => by rw [a6 _ (by omega)]; rfl)
    rw [show 512 * 8 = 4096 from rfl] at h8; exact h8
  rw [this]; exact spoilt_zeros 4096

/-- One more. -/
theorem turns_next (d : DiskV) (s t : Sup) (hd : d.Turns s) (ht : supMay t = true) (hv : t.version = s.version + 1) (hp : t.pages = s.pages) : (d.swrite t).2 = 0 ∧ (d.swrite t).1.Turns t ∧ (d.swrite t).1.sread = (t, 0) ∧ (d.swrite t).1.Ahead t s := by
  obtain ⟨hs, h1, h2, h3, h4, h5⟩ := hd
  have hm := of_decide_eq_true (show decide _ = true from hs)
  have hpl : supPlace t = 1 - supPlace s := by simp only [supPlace, hv]; omega
  have hpl2 := supPlace_lt s
  rcases swrite_cases d t ht (by rw [hp]; exact h4) h1 h3 with ⟨a1, a2, a3, a4, a5, a6, a7⟩ | ⟨_, _, a3, _⟩
  rotate_left
  · rw [h2] at a3; cases a3
  obtain ⟨r, hr⟩ : ∃ r, r = (d.swrite t).1 := ⟨_, rfl⟩
  rw [← hr] at a2 a3 a4 a5 a6 a7 ⊢
  have hmr : (r.many : Int) = 8 * t.pages := by rw [a5, hp]; exact h4
  have o1 : r.page (supPlace t) = supPage t := by
    rw [page_safe r a4]
    exact chunk_page _ (supPage_length t) _ _ a7
  have o2 : r.page (supPlace s) = supPage s := by
    rw [page_safe r a4, ← h5, page_safe d h3]
    exact got_congr _ _ _ 8 (fun i hi => a6 _ (by rw [hpl]; omega))
  have hpg : r.pages = t.pages := by simp only [pages]; omega
  exact ⟨a1, ⟨ht, a2, a3 h2, a4, hmr, o1⟩, sread_is r t a2 (by omega) (choose_newer s t hs ht (by omega) hpl (fun n => r.page n) o2 o1) hpg.symm, hs, hp.symm, by omega, hpl, o2⟩

/-- The last one's page is spoilt: the one ahead of it is read. -/
theorem turns_spoilt (d : DiskV) (s prev : Sup) (hd : d.Turns s) (ha : d.Ahead s prev) : (d.plant (8 * (supPlace s : Int)) []).sread = (prev, 0) := by
  obtain ⟨hs, h1, h2, h3, h4, h5⟩ := hd
  obtain ⟨k1, k2, k3, k4, k5⟩ := ha
  have hm := of_decide_eq_true (show decide _ = true from hs)
  have hpl2 := supPlace_lt s
  have hpl3 := supPlace_lt prev
  have hh : d.has (8 * (supPlace s : Int)) := ⟨by omega, by omega⟩
  have hn := now_plant d (8 * (supPlace s : Int)) [] hh
  obtain ⟨r, hr⟩ : ∃ r, r = d.plant (8 * (supPlace s : Int)) [] := ⟨_, rfl⟩
  rw [← hr] at hn ⊢
  have hdown : r.down = false := by rw [hr, plant, if_pos hh]; exact h1
  have hmany : r.many = d.many := by rw [hr, plant, if_pos hh]
  have hpg : r.pages = s.pages := by simp only [pages]; omega
  have o2 : r.page (supPlace prev) = supPage prev := by
    rw [← k5, page, page, hn]
    exact got_congr _ _ _ 8 (fun i hi => lay1_other _ _ _ _ (by rw [k4]; omega))
  refine sread_is r prev hdown (by omega) (choose_alone prev k1 (fun n => r.page n) o2 ?_) (by omega)
  rw [← k4]
  refine spoilt_kind0 _ ?_
  have e0 : r.now (8 * (supPlace s : Int) + (0 : Nat)) = zeros512 := by
    rw [hn, show (8 * (supPlace s : Int) + ((0 : Nat) : Int)) = 8 * (supPlace s : Int) by omega, lay1_same]
    rfl
  have eg : ∀ n : Nat, ∃ rest, got r.now (8 * (supPlace s : Int)) (n + 1) = zeros512 ++ rest := by
    intro n
    induction n with
    | zero => exact ⟨[], by rw [got, got, e0]; rfl⟩
    | succ n ih =>
      obtain ⟨rest, e⟩ := ih
      exact ⟨_, by rw [got, e, List.append_assoc]⟩
  obtain ⟨rest, e⟩ := eg 7
  rw [page, e, List.getD_eq_getElem?_getD, List.getElem?_append_left (by decide)]
  rfl
end DiskV

end Go.Proofs.YteljopjaolegaaaDoor

/-
  CONTRACTS: superblocks on a disk in memory: Write. (Printed by supwrite.py.)
-/
namespace Go.Proofs.YteljopjaolegaaaDoor
open Go.RowKit
set_option maxRecDepth 100000
set_option linter.unusedVariables false
set_option linter.unusedSimpArgs false

theorem DiskGo.ptr {T : Nat → Prop} {w w' : World} {g p : Nat} {d : DiskV} {t : TypeId} (h : DiskGo T w g w' d) (hp : PtrAt w p g t) (hpT : ¬ T p) : PtrAt w' p g t := by
  obtain ⟨T1, k1, k2, k3⟩ := h
  exact (k3.block p (lt_block hp) hpT).trans hp
theorem wrote_len (d : DiskV) (a : Int) (c : Nat → List UInt8) (n : Nat) : (d.wrote a c n).1.wait.length ≤ d.wait.length + n := by
  induction n with
  | zero => exact Nat.le_refl _
  | succ n ih =>
    rw [DiskV.wrote]
    split
    · have hb : ((d.wrote a c n).1.write (a + n) (c n)).1.wait.length ≤ (d.wrote a c n).1.wait.length + 1 := by
        rw [DiskV.write]
        split
        · simp
        split
        · simp
        split
        · simp
        · rw [DiskV.acted_wait]; simp
      omega
    · omega
theorem pwrite_len (d : DiskV) (number kind : Int) (body : List UInt8) : (d.pwrite number kind body).1.wait.length ≤ d.wait.length + 8 := by
  rw [DiskV.pwrite]
  split
  · simp
  split
  · simp
  · exact wrote_len _ _ _ _


set_option maxHeartbeats 4000000 in
theorem swrite_bad {T : Nat → Prop} {w : World} {g : Nat} {d : DiskV} (hd : DiskIs T w g d) (p : Nat) (hp : PtrAt w p g 95) (hpT : ¬ T p) (hN : Nib w) (s : Sup) (hlen : (d.wait.length + 8) * 32 ≤ 140737488355328) (h : supMay s = false) :
    Calls Tryd.prog 24 #[.pointer (some ⟨p, 0, none⟩), s.val] w fun x w' => x = .returned (.iface 37 (.int .i64 1)) ∧ Below w.heap.size w w' := by
  obtain ⟨v, r, e, q⟩ := s
  have CM : Hid (∀ wx, Calls Tryd.prog 37 #[.agg #[.int .i64 v, .int .i64 r, .int .i64 e, .int .i64 q]] wx fun x w' => x = .returned (.bool false) ∧ Below wx.heap.size wx w') := Lib.hid (fun wx => by have := smay_any ⟨v, r, e, q⟩ wx; rw [h] at this; exact this)
  simp only [Sup.val]
  obtain ⟨B, hB⟩ : ∃ B, B = w.heap.size := ⟨_, rfl⟩
  have HB := Lib.hid hB
  have KA : Hid (∀ o, Below B w (w.alloc o)) := Lib.hid (fun o => by rw [hB]; exact (Below.refl _ _).alloc (Nat.le_refl _) _)
  have KT : Hid (∀ wx wy, Below B w wx → Below wx.heap.size wx wy → Below B w wy) := Lib.hid (fun wx wy h1 h2 => h1.trans (h2.mono (by rw [hB]; exact h1.size)))
  have HR : Hid (Sup4 (w.alloc (.cells #[.int .i64 v, .int .i64 r, .int .i64 e, .int .i64 q] 30)) B v r e q) := Lib.hid (by rw [hB]; exact sup4_new w v r e q _)
  clear h hN hd hp hpT hlen hB
  go_enter Tryd.func24, Tryd.ntmps24
  go_wp2_with fail
  have hB := HB.out
  rw [← hB]
  clear hB
  refine regionE 9 (fun w' => w'.cell? ⟨B, 0, none⟩ = some (.int .i64 v) ∧ w'.cell? ⟨B, 1, none⟩ = some (.int .i64 r) ∧ w'.cell? ⟨B, 2, none⟩ = some (.int .i64 e) ∧ w'.cell? ⟨B, 3, none⟩ = some (.int .i64 q)) (by kernel_rfl) (HR.out) (fun hHeld => ?_)
  refine anyE_take [3, 1, 0] (i := 0) (v := ?_) rfl (by kernel_rfl) (by kernel_rfl) (by kernel_rfl) (by kernel_rfl) (by kernel_rfl) rfl (fun _ _ _ h => h) (by assumption) (Or.inl ⟨by rfl, ?_⟩) ?_
  rotate_left
  · (intro w hSw; (try dsimp only at hSw); go_simp; try (with_reducible rfl))
  try simp only [Act.put, List.setIfInBounds_toArray, List.set_cons_zero, List.set_cons_succ]
  refine anyE_one (i := 1) (by kernel_rfl) (by decide) rfl (fun K hK => ?_)
  go_simp
  (go_at_call 37; (with_reducible refine (CM.out _).mono ?_); rintro x w1 ⟨rfl, hb⟩; (try replace hb := undrew hb); have HR1 := Lib.hid (HR.out.below hb); have G1 : Hid (Below B w w1) := Lib.hid (KT.out _ _ (KA.out _) hb); clear hb)
  refine hK.out _ _ HR1.out (fun hHeld => ?_)
  clear hK K
  try simp only [Act.put, List.setIfInBounds_toArray, List.set_cons_zero, List.set_cons_succ]
  refine anyE_take [3, 2] (i := 2) (v := ?_) rfl (by kernel_rfl) (by kernel_rfl) (by kernel_rfl) (by kernel_rfl) (by kernel_rfl) rfl (fun _ _ _ h => h) (by assumption) (Or.inl ⟨by rfl, ?_⟩) ?_
  rotate_left
  · (intro w hSw; (try dsimp only at hSw); go_simp; try (with_reducible rfl))
  try simp only [Act.put, List.setIfInBounds_toArray, List.set_cons_zero, List.set_cons_succ]
  refine anyE_take [3] (i := 3) (v := ?_) rfl (by kernel_rfl) (by kernel_rfl) (by kernel_rfl) (by kernel_rfl) (by kernel_rfl) rfl (fun _ _ _ h => h) (by assumption) (Or.inl ⟨by rfl, ?_⟩) ?_
  rotate_left
  · (intro w hSw; (try dsimp only at hSw); go_simp; try (with_reducible rfl))
  try simp only [Act.put, List.setIfInBounds_toArray, List.set_cons_zero, List.set_cons_succ]
  refine anyE_take [8, 5, 4] (i := 4) (v := undef) rfl (by kernel_rfl) (by kernel_rfl) (by kernel_rfl) (by kernel_rfl) (by kernel_rfl) rfl (fun _ _ _ h => h) (by assumption) (Or.inr ⟨by rfl, rfl⟩) ?_
  try simp only [Act.put, List.setIfInBounds_toArray, List.set_cons_zero, List.set_cons_succ]
  refine anyE_take [8, 5] (i := 5) (v := undef) rfl (by kernel_rfl) (by kernel_rfl) (by kernel_rfl) (by kernel_rfl) (by kernel_rfl) rfl (fun _ _ _ h => h) (by assumption) (Or.inr ⟨by rfl, rfl⟩) ?_
  try simp only [Act.put, List.setIfInBounds_toArray, List.set_cons_zero, List.set_cons_succ]
  refine anyE_take [8, 7, 6] (i := 6) (v := undef) rfl (by kernel_rfl) (by kernel_rfl) (by kernel_rfl) (by kernel_rfl) (by kernel_rfl) rfl (fun _ _ _ h => h) (by assumption) (Or.inr ⟨by rfl, rfl⟩) ?_
  try simp only [Act.put, List.setIfInBounds_toArray, List.set_cons_zero, List.set_cons_succ]
  refine anyE_take [8, 7] (i := 7) (v := undef) rfl (by kernel_rfl) (by kernel_rfl) (by kernel_rfl) (by kernel_rfl) (by kernel_rfl) rfl (fun _ _ _ h => h) (by assumption) (Or.inr ⟨by rfl, rfl⟩) ?_
  try simp only [Act.put, List.setIfInBounds_toArray, List.set_cons_zero, List.set_cons_succ]
  refine anyE_take [8] (i := 8) (v := undef) rfl (by kernel_rfl) (by kernel_rfl) (by kernel_rfl) (by kernel_rfl) (by kernel_rfl) rfl (fun _ _ _ h => h) (by assumption) (Or.inr ⟨by rfl, rfl⟩) ?_
  try simp only [Act.put, List.setIfInBounds_toArray, List.set_cons_zero, List.set_cons_succ]
  refine anyE_last (by kernel_rfl) (by kernel_rfl) rfl (fun K hK => ?_)
  go_simp
  refine hK.out _ _ ?_
  clear hK K
  go_wp2_with fail
  go_ret
  have hB := HB.out
  subst hB
  exact ⟨rfl, G1.out⟩


set_option maxHeartbeats 4000000 in
theorem swrite_other {T : Nat → Prop} {w : World} {g : Nat} {d : DiskV} (hd : DiskIs T w g d) (p : Nat) (hp : PtrAt w p g 95) (hpT : ¬ T p) (hN : Nib w) (s : Sup) (hlen : (d.wait.length + 8) * 32 ≤ 140737488355328) (h : supMay s = true) (hq : ¬ s.pages = d.pages) :
    Calls Tryd.prog 24 #[.pointer (some ⟨p, 0, none⟩), s.val] w fun x w' => x = .returned (.iface 37 (.int .i64 1)) ∧ Below w.heap.size w w' := by
  obtain ⟨v, r, e, q⟩ := s
  have CM : Hid (∀ wx, Calls Tryd.prog 37 #[.agg #[.int .i64 v, .int .i64 r, .int .i64 e, .int .i64 q]] wx fun x w' => x = .returned (.bool true) ∧ Below wx.heap.size wx w') := Lib.hid (fun wx => by have := smay_any ⟨v, r, e, q⟩ wx; rw [h] at this; exact this)
  simp only [Sup.val]
  obtain ⟨B, hB⟩ : ∃ B, B = w.heap.size := ⟨_, rfl⟩
  have HB := Lib.hid hB
  have KA : Hid (∀ o, Below B w (w.alloc o)) := Lib.hid (fun o => by rw [hB]; exact (Below.refl _ _).alloc (Nat.le_refl _) _)
  have KT : Hid (∀ wx wy, Below B w wx → Below wx.heap.size wx wy → Below B w wy) := Lib.hid (fun wx wy h1 h2 => h1.trans (h2.mono (by rw [hB]; exact h1.size)))
  have HR : Hid (Sup4 (w.alloc (.cells #[.int .i64 v, .int .i64 r, .int .i64 e, .int .i64 q] 30)) B v r e q) := Lib.hid (by rw [hB]; exact sup4_new w v r e q _)
  have hpg : d.pages = d.pages := rfl
  obtain ⟨pz, hpz⟩ : ∃ z, z = d.pages := ⟨_, rfl⟩
  have CP : Hid (∀ wx, Below B w wx → Calls Tryd.prog 50 #[.pointer (some ⟨p, 0, none⟩)] wx fun x w' => x = .returned (.int .i64 pz) ∧ wx = w') := Lib.hid (fun wx hB2 => by
    rw [hB] at hB2
    rw [hpz]; exact pages_any (hd.below hB2) p ((hB2.block p (lt_block hp)).trans hp))
  have hqz : (q != pz) = true := by rw [hpz]; simpa using hq
  clear h hN hd hp hpT hlen hB hpg hpz hq
  go_enter Tryd.func24, Tryd.ntmps24
  go_wp2_with fail
  have hB := HB.out
  rw [← hB]
  clear hB
  go_region_held3 (fun w' => w'.cell? ⟨B, 0, none⟩ = some (.int .i64 v) ∧ w'.cell? ⟨B, 1, none⟩ = some (.int .i64 r) ∧ w'.cell? ⟨B, 2, none⟩ = some (.int .i64 e) ∧ w'.cell? ⟨B, 3, none⟩ = some (.int .i64 q)) (first | exact HR.out | exact HR1.out) (first | (go_at_call 37; (with_reducible refine (CM.out _).mono ?_); rintro x w1 ⟨rfl, hb⟩; (try replace hb := undrew hb); have HR1 := Lib.hid (HR.out.below hb); have G1 : Hid (Below B w w1) := Lib.hid (KT.out _ _ (KA.out _) hb); clear hb) | (go_at_call 50; (with_reducible refine (CP.out _ G1.out).mono ?_); rintro x w' ⟨rfl, rfl⟩))
  go_wp2_with fail
  go_ret
  have hB := HB.out
  subst hB
  exact ⟨rfl, G1.out⟩


set_option maxHeartbeats 4000000 in
theorem swrite_err {T : Nat → Prop} {w : World} {g : Nat} {d : DiskV} (hd : DiskIs T w g d) (p : Nat) (hp : PtrAt w p g 95) (hpT : ¬ T p) (hN : Nib w) (s : Sup) (hlen : (d.wait.length + 8) * 32 ≤ 140737488355328) (h : supMay s = true) (hq : s.pages = d.pages) (he : ¬ (d.pwrite (supPlace s) 1 (supBody s)).2 = 0) :
    Calls Tryd.prog 24 #[.pointer (some ⟨p, 0, none⟩), s.val] w fun x w' => x = .returned (errV (d.pwrite (supPlace s) 1 (supBody s)).2) ∧ DiskGo T w g w' (d.pwrite (supPlace s) 1 (supBody s)).1 := by
  obtain ⟨v, r, e, q⟩ := s
  have CM : Hid (∀ wx, Calls Tryd.prog 37 #[.agg #[.int .i64 v, .int .i64 r, .int .i64 e, .int .i64 q]] wx fun x w' => x = .returned (.bool true) ∧ Below wx.heap.size wx w') := Lib.hid (fun wx => by have := smay_any ⟨v, r, e, q⟩ wx; rw [h] at this; exact this)
  simp only [Sup.val]
  obtain ⟨B, hB⟩ : ∃ B, B = w.heap.size := ⟨_, rfl⟩
  have HB := Lib.hid hB
  have KA : Hid (∀ o, Below B w (w.alloc o)) := Lib.hid (fun o => by rw [hB]; exact (Below.refl _ _).alloc (Nat.le_refl _) _)
  have KT : Hid (∀ wx wy, Below B w wx → Below wx.heap.size wx wy → Below B w wy) := Lib.hid (fun wx wy h1 h2 => h1.trans (h2.mono (by rw [hB]; exact h1.size)))
  have HR : Hid (Sup4 (w.alloc (.cells #[.int .i64 v, .int .i64 r, .int .i64 e, .int .i64 q] 30)) B v r e q) := Lib.hid (by rw [hB]; exact sup4_new w v r e q _)
  have hpg : d.pages = d.pages := rfl
  obtain ⟨pz, hpz⟩ : ∃ z, z = d.pages := ⟨_, rfl⟩
  have CP : Hid (∀ wx, Below B w wx → Calls Tryd.prog 50 #[.pointer (some ⟨p, 0, none⟩)] wx fun x w' => x = .returned (.int .i64 pz) ∧ wx = w') := Lib.hid (fun wx hB2 => by
    rw [hB] at hB2
    rw [hpz]; exact pages_any (hd.below hB2) p ((hB2.block p (lt_block hp)).trans hp))
  obtain ⟨kz, hkz⟩ : ∃ z : Int, z = (supPlace ⟨v, r, e, q⟩ : Nat) := ⟨_, rfl⟩
  obtain ⟨BB, hBB⟩ : ∃ l, l = supBody ⟨v, r, e, q⟩ := ⟨_, rfl⟩
  have CL : Hid (∀ wx, Calls Tryd.prog 39 #[.agg #[.int .i64 v, .int .i64 r, .int .i64 e, .int .i64 q]] wx fun x w' => x = .returned (.int .i64 kz) ∧ Below wx.heap.size wx w') := Lib.hid (fun wx => by rw [hkz]; exact splace_any ⟨v, r, e, q⟩ wx h)
  have CB : Hid (∀ wx, Calls Tryd.prog 40 #[.agg #[.int .i64 v, .int .i64 r, .int .i64 e, .int .i64 q]] wx fun x w' => ∃ A c, x = .returned (.slice A 36 c) ∧ Bs w' A 36 BB ∧ Below wx.heap.size wx w') := Lib.hid (fun wx => (sbody_any ⟨v, r, e, q⟩ wx h).mono fun x w' ⟨y, h1, ho, hb⟩ => by
    obtain ⟨A, c, rfl, hbs⟩ := own_bytes ho
    exact ⟨A, c, h1, by rw [hBB]; exact hbs, hb⟩)
  rw [← hkz, ← hBB] at he ⊢
  have CW : Hid (∀ wx A c, Below B w wx → Sup4 wx B v r e q → Bs wx A 36 BB → Calls Tryd.prog 51 #[.pointer (some ⟨p, 0, none⟩), .int .i64 kz, .int .i64 1, .slice A 36 c] wx fun x w' => x = .returned (.iface 37 (.int .i64 (d.pwrite kz 1 BB).2)) ∧ DiskGo T w g w' (d.pwrite kz 1 BB).1 ∧ Sup4 w' B v r e q) := Lib.hid (fun wx A c hB2 hS hb => by
    have hBT : ¬ T B := fun h => by have := hd.inside B h; omega
    rw [hB] at hB2
    refine (pgwrite (hd.below hB2) p ((hB2.block p (lt_block hp)).trans hp) hpT (hN.below hB2) kz 1 A 36 c BB hb hlen).mono ?_
    rintro x w' ⟨rfl, hg⟩
    refine ⟨by rw [errV_ne _ he], hg.ahead hB2, ?_⟩
    obtain ⟨T1, k1, k2, k3⟩ := hg
    exact ⟨k3.cell hS.1 hBT, k3.cell hS.2.1 hBT, k3.cell hS.2.2.1 hBT, k3.cell hS.2.2.2 hBT⟩)
  have hqz : (q != pz) = false := by rw [hpz]; simpa using hq
  rw [errV_ne _ he]
  obtain ⟨ez, hez⟩ : ∃ z, z = (d.pwrite kz 1 BB).2 := ⟨_, rfl⟩
  rw [← hez] at CW ⊢
  clear h hN hd hp hpT hlen hB hpg hpz hq hkz hBB he hez
  go_enter Tryd.func24, Tryd.ntmps24
  go_wp2_with fail
  have hB := HB.out
  rw [← hB]
  clear hB
  go_region_held3 (fun w' => w'.cell? ⟨B, 0, none⟩ = some (.int .i64 v) ∧ w'.cell? ⟨B, 1, none⟩ = some (.int .i64 r) ∧ w'.cell? ⟨B, 2, none⟩ = some (.int .i64 e) ∧ w'.cell? ⟨B, 3, none⟩ = some (.int .i64 q)) (first | exact HR.out | exact HR1.out) (first | (go_at_call 37; (with_reducible refine (CM.out _).mono ?_); rintro x w1 ⟨rfl, hb⟩; (try replace hb := undrew hb); have HR1 := Lib.hid (HR.out.below hb); have G1 : Hid (Below B w w1) := Lib.hid (KT.out _ _ (KA.out _) hb); clear hb) | (go_at_call 50; (with_reducible refine (CP.out _ G1.out).mono ?_); rintro x w' ⟨rfl, rfl⟩))
  go_wp2_with fail
  go_region_held3 (fun w' => w'.cell? ⟨B, 0, none⟩ = some (.int .i64 v) ∧ w'.cell? ⟨B, 1, none⟩ = some (.int .i64 r) ∧ w'.cell? ⟨B, 2, none⟩ = some (.int .i64 e) ∧ w'.cell? ⟨B, 3, none⟩ = some (.int .i64 q)) (first | exact HR1.out | exact HR2.out | exact HR3.out | exact HR4.out) (first
    | (go_at_call 39; (with_reducible refine (CL.out _).mono ?_); rintro x w2 ⟨rfl, hb⟩; (try replace hb := undrew hb); have HR2 := Lib.hid (HR1.out.below hb); have G2 : Hid (Below B w w2) := Lib.hid (KT.out _ _ G1.out hb); clear hb)
    | (go_at_call 40; (with_reducible refine (CB.out _).mono ?_); rintro x w3 ⟨A, c, rfl, hbs, hb⟩; (try replace hb := undrew hb); have HR3 := Lib.hid (HR2.out.below hb); have G3 : Hid (Below B w w3) := Lib.hid (KT.out _ _ G2.out hb); have X3 := Lib.hid hbs; clear hb hbs)
    | (go_at_call 51; (with_reducible refine (CW.out _ A c G3.out HR3.out X3.out).mono ?_); rintro x w4 ⟨rfl, hg, hS4⟩; have HR4 := Lib.hid hS4; have G4 := Lib.hid hg; clear hg hS4))
  go_wp2_with fail
  go_ret
  exact ⟨rfl, G4.out⟩


set_option maxHeartbeats 4000000 in
theorem swrite_ok {T : Nat → Prop} {w : World} {g : Nat} {d : DiskV} (hd : DiskIs T w g d) (p : Nat) (hp : PtrAt w p g 95) (hpT : ¬ T p) (hN : Nib w) (s : Sup) (hlen : (d.wait.length + 8) * 32 ≤ 140737488355328) (h : supMay s = true) (hq : s.pages = d.pages) (he : (d.pwrite (supPlace s) 1 (supBody s)).2 = 0) :
    Calls Tryd.prog 24 #[.pointer (some ⟨p, 0, none⟩), s.val] w fun x w' => x = .returned (errV (d.pwrite (supPlace s) 1 (supBody s)).1.sync.2) ∧ DiskGo T w g w' (d.pwrite (supPlace s) 1 (supBody s)).1.sync.1 := by
  obtain ⟨v, r, e, q⟩ := s
  have CM : Hid (∀ wx, Calls Tryd.prog 37 #[.agg #[.int .i64 v, .int .i64 r, .int .i64 e, .int .i64 q]] wx fun x w' => x = .returned (.bool true) ∧ Below wx.heap.size wx w') := Lib.hid (fun wx => by have := smay_any ⟨v, r, e, q⟩ wx; rw [h] at this; exact this)
  simp only [Sup.val]
  obtain ⟨B, hB⟩ : ∃ B, B = w.heap.size := ⟨_, rfl⟩
  have HB := Lib.hid hB
  have KA : Hid (∀ o, Below B w (w.alloc o)) := Lib.hid (fun o => by rw [hB]; exact (Below.refl _ _).alloc (Nat.le_refl _) _)
  have KT : Hid (∀ wx wy, Below B w wx → Below wx.heap.size wx wy → Below B w wy) := Lib.hid (fun wx wy h1 h2 => h1.trans (h2.mono (by rw [hB]; exact h1.size)))
  have HR : Hid (Sup4 (w.alloc (.cells #[.int .i64 v, .int .i64 r, .int .i64 e, .int .i64 q] 30)) B v r e q) := Lib.hid (by rw [hB]; exact sup4_new w v r e q _)
  have hpg : d.pages = d.pages := rfl
  obtain ⟨pz, hpz⟩ : ∃ z, z = d.pages := ⟨_, rfl⟩
  have CP : Hid (∀ wx, Below B w wx → Calls Tryd.prog 50 #[.pointer (some ⟨p, 0, none⟩)] wx fun x w' => x = .returned (.int .i64 pz) ∧ wx = w') := Lib.hid (fun wx hB2 => by
    rw [hB] at hB2
    rw [hpz]; exact pages_any (hd.below hB2) p ((hB2.block p (lt_block hp)).trans hp))
  obtain ⟨kz, hkz⟩ : ∃ z : Int, z = (supPlace ⟨v, r, e, q⟩ : Nat) := ⟨_, rfl⟩
  obtain ⟨BB, hBB⟩ : ∃ l, l = supBody ⟨v, r, e, q⟩ := ⟨_, rfl⟩
  have CL : Hid (∀ wx, Calls Tryd.prog 39 #[.agg #[.int .i64 v, .int .i64 r, .int .i64 e, .int .i64 q]] wx fun x w' => x = .returned (.int .i64 kz) ∧ Below wx.heap.size wx w') := Lib.hid (fun wx => by rw [hkz]; exact splace_any ⟨v, r, e, q⟩ wx h)
  have CB : Hid (∀ wx, Calls Tryd.prog 40 #[.agg #[.int .i64 v, .int .i64 r, .int .i64 e, .int .i64 q]] wx fun x w' => ∃ A c, x = .returned (.slice A 36 c) ∧ Bs w' A 36 BB ∧ Below wx.heap.size wx w') := Lib.hid (fun wx => (sbody_any ⟨v, r, e, q⟩ wx h).mono fun x w' ⟨y, h1, ho, hb⟩ => by
    obtain ⟨A, c, rfl, hbs⟩ := own_bytes ho
    exact ⟨A, c, h1, by rw [hBB]; exact hbs, hb⟩)
  rw [← hkz, ← hBB] at he ⊢
  have CW : Hid (∀ wx A c, Below B w wx → Sup4 wx B v r e q → Bs wx A 36 BB → Calls Tryd.prog 51 #[.pointer (some ⟨p, 0, none⟩), .int .i64 kz, .int .i64 1, .slice A 36 c] wx fun x w' => x = .returned (.nilIface) ∧ DiskGo T w g w' (d.pwrite kz 1 BB).1 ∧ Sup4 w' B v r e q) := Lib.hid (fun wx A c hB2 hS hb => by
    have hBT : ¬ T B := fun h => by have := hd.inside B h; omega
    rw [hB] at hB2
    refine (pgwrite (hd.below hB2) p ((hB2.block p (lt_block hp)).trans hp) hpT (hN.below hB2) kz 1 A 36 c BB hb hlen).mono ?_
    rintro x w' ⟨rfl, hg⟩
    refine ⟨by rw [he]; rfl, hg.ahead hB2, ?_⟩
    obtain ⟨T1, k1, k2, k3⟩ := hg
    exact ⟨k3.cell hS.1 hBT, k3.cell hS.2.1 hBT, k3.cell hS.2.2.1 hBT, k3.cell hS.2.2.2 hBT⟩)
  have hqz : (q != pz) = false := by rw [hpz]; simpa using hq
  have CS : Hid (∀ wx, DiskGo T w g wx (d.pwrite kz 1 BB).1 → Calls Tryd.prog 52 #[.pointer (some ⟨p, 0, none⟩)] wx fun x w' => x = .returned (errV (d.pwrite kz 1 BB).1.sync.2) ∧ DiskGo T w g w' (d.pwrite kz 1 BB).1.sync.1) := Lib.hid (fun wx hg => by
    have hpt := hg.ptr hp hpT
    obtain ⟨T1, k1, k2, k3⟩ := hg
    refine (bsync k1 p hpt (by have := pwrite_len d kz 1 BB; omega)).mono ?_
    rintro x w' ⟨rfl, hg2⟩
    exact ⟨rfl, DiskGo.trans k2 k3 hg2⟩)
  clear h hN hd hp hpT hlen hB hpg hpz hq hkz hBB he
  go_enter Tryd.func24, Tryd.ntmps24
  go_wp2_with fail
  have hB := HB.out
  rw [← hB]
  clear hB
  go_region_held3 (fun w' => w'.cell? ⟨B, 0, none⟩ = some (.int .i64 v) ∧ w'.cell? ⟨B, 1, none⟩ = some (.int .i64 r) ∧ w'.cell? ⟨B, 2, none⟩ = some (.int .i64 e) ∧ w'.cell? ⟨B, 3, none⟩ = some (.int .i64 q)) (first | exact HR.out | exact HR1.out) (first | (go_at_call 37; (with_reducible refine (CM.out _).mono ?_); rintro x w1 ⟨rfl, hb⟩; (try replace hb := undrew hb); have HR1 := Lib.hid (HR.out.below hb); have G1 : Hid (Below B w w1) := Lib.hid (KT.out _ _ (KA.out _) hb); clear hb) | (go_at_call 50; (with_reducible refine (CP.out _ G1.out).mono ?_); rintro x w' ⟨rfl, rfl⟩))
  go_wp2_with fail
  go_region_held3 (fun w' => w'.cell? ⟨B, 0, none⟩ = some (.int .i64 v) ∧ w'.cell? ⟨B, 1, none⟩ = some (.int .i64 r) ∧ w'.cell? ⟨B, 2, none⟩ = some (.int .i64 e) ∧ w'.cell? ⟨B, 3, none⟩ = some (.int .i64 q)) (first | exact HR1.out | exact HR2.out | exact HR3.out | exact HR4.out) (first
    | (go_at_call 39; (with_reducible refine (CL.out _).mono ?_); rintro x w2 ⟨rfl, hb⟩; (try replace hb := undrew hb); have HR2 := Lib.hid (HR1.out.below hb); have G2 : Hid (Below B w w2) := Lib.hid (KT.out _ _ G1.out hb); clear hb)
    | (go_at_call 40; (with_reducible refine (CB.out _).mono ?_); rintro x w3 ⟨A, c, rfl, hbs, hb⟩; (try replace hb := undrew hb); have HR3 := Lib.hid (HR2.out.below hb); have G3 : Hid (Below B w w3) := Lib.hid (KT.out _ _ G2.out hb); have X3 := Lib.hid hbs; clear hb hbs)
    | (go_at_call 51; (with_reducible refine (CW.out _ A c G3.out HR3.out X3.out).mono ?_); rintro x w4 ⟨rfl, hg, hS4⟩; have HR4 := Lib.hid hS4; have G4 := Lib.hid hg; clear hg hS4))
  go_wp2_with (go_at_call 52; (with_reducible refine (CS.out _ ?_).mono ?_); (first | exact G4.out | exact G4.out.drew); rintro x w5 ⟨rfl, hg⟩; have G5 := Lib.hid hg; clear hg)
  go_ret
  exact ⟨rfl, G5.out⟩


/-- super.Write. -/
theorem swrite_any {T : Nat → Prop} {w : World} {g : Nat} {d : DiskV} (hd : DiskIs T w g d) (p : Nat) (hp : PtrAt w p g 95) (hpT : ¬ T p) (hN : Nib w) (s : Sup) (hlen : (d.wait.length + 8) * 32 ≤ 140737488355328) :
    Calls Tryd.prog 24 #[.pointer (some ⟨p, 0, none⟩), s.val] w fun x w' => x = .returned (errV (d.swrite s).2) ∧ DiskGo T w g w' (d.swrite s).1 := by
  by_cases hm : supMay s = true
  rotate_left
  · have e : d.swrite s = (d, 1) := by rw [DiskV.swrite, if_pos (fun h => hm h.1)]
    rw [e]
    refine (swrite_bad hd p hp hpT hN s hlen (by simpa using hm)).mono ?_
    rintro x w' ⟨rfl, hB⟩
    exact ⟨rfl, DiskGo.of_below hd hB⟩
  by_cases hq : s.pages = d.pages
  rotate_left
  · have e : d.swrite s = (d, 1) := by rw [DiskV.swrite, if_pos (fun h => hq h.2)]
    rw [e]
    refine (swrite_other hd p hp hpT hN s hlen hm hq).mono ?_
    rintro x w' ⟨rfl, hB⟩
    exact ⟨rfl, DiskGo.of_below hd hB⟩
  by_cases he : (d.pwrite (supPlace s) 1 (supBody s)).2 = 0
  · have e : d.swrite s = (d.pwrite (supPlace s) 1 (supBody s)).1.sync := by rw [DiskV.swrite, if_neg (not_not_intro ⟨hm, hq⟩), if_neg (not_not_intro he)]
    rw [e]
    exact swrite_ok hd p hp hpT hN s hlen hm hq he
  · have e : d.swrite s = d.pwrite (supPlace s) 1 (supBody s) := by rw [DiskV.swrite, if_neg (not_not_intro ⟨hm, hq⟩), if_pos he]
    rw [e]
    exact swrite_err hd p hp hpT hN s hlen hm hq he

end Go.Proofs.YteljopjaolegaaaDoor

/-
  CONTRACTS: superblocks on a disk in memory: a page's bytes.
-/
namespace Go.Proofs.YteljopjaolegaaaDoor
open Go.RowKit
set_option maxRecDepth 100000
set_option linter.unusedVariables false
set_option linter.unusedSimpArgs false

theorem read_down (d : DiskV) (i : Int) (h : d.down = true) : d.read i = ([], 5) := by rw [DiskV.read, if_pos h]
theorem read_up (d : DiskV) (i : Int) (h : d.down = false) (hi : d.has i) : d.read i = (d.now i, 0) := by rw [DiskV.read, if_neg (by rw [h]; decide), if_neg (not_not_intro hi)]

theorem bytes_down {T : Nat → Prop} {w : World} {g : Nat} {d : DiskV} (hd : DiskIs T w g d) (p : Nat) (hp : PtrAt w p g 95) (nb : Int) (h0 : 0 ≤ nb) (h1 : nb ≤ 65536) (hdn : d.down = true) :
    Calls Tryd.prog 53 #[.pointer (some ⟨p, 0, none⟩), .int .i64 nb] w fun r w' => r = .returned (.tuple #[.slice none 0 0, .iface 37 (.int .i64 5)]) ∧ Below w.heap.size w w' := by
  have C : Hid (∀ i, Calls Tryd.prog 73 #[.pointer (some ⟨p, 0, none⟩), .int .i64 i] w fun r w' => r = .returned (.tuple #[.slice none 0 0, .iface 37 (.int .i64 5)]) ∧ Below w.heap.size w w') := Lib.hid (fun i => (bread hd p hp i).mono fun r w' h => by
    obtain ⟨hB, h⟩ := h
    rw [read_down d i hdn] at h
    rcases h with ⟨_, h⟩ | ⟨h, _⟩
    · exact ⟨h, hB⟩
    · cases h)
  clear hd hp hdn
  go_enter Tryd.func53, Tryd.ntmps53
  go_wp2_with fail
  go_loopw [10] (fun i wr => i = .int .i64 0 ∧ w = wr) (fun i _ => 0)
  case atStart => exact ⟨rfl, rfl⟩
  case round =>
    obtain ⟨rfl, rfl⟩ := hrel
    go_wp2_with ((go_at_call 73; (with_reducible refine (C.out _).mono ?_)); rintro r w1 ⟨rfl, hb⟩; have HB1 := Lib.hid hb; clear hb)
    go_ret2
    exact ⟨rfl, HB1.out⟩

set_option maxHeartbeats 1000000 in
theorem bytes_up {T : Nat → Prop} {w : World} {g : Nat} {d : DiskV} (hd : DiskIs T w g d) (p : Nat) (hp : PtrAt w p g 95) (nb : Int) (h0 : 0 ≤ nb) (h1 : nb ≤ 65536) (hdn : d.down = false) (hin : 8 * nb + 8 ≤ d.many) :
    Calls Tryd.prog 53 #[.pointer (some ⟨p, 0, none⟩), .int .i64 nb] w fun r w' => ∃ v, r = .returned (.tuple #[v, .nilIface]) ∧ w'.ownsRow w.heap.size 5 1 v 4096 (bs (got d.now (8 * nb) 8)) ∧ Below w.heap.size w w' := by
  have Hinfo := Lib.hid (show (Tryd.prog.info? 5).map (fun i => (i.zero, i.size, i.bytes)) = some (some (.int .u8 0), 1, 1) from info_u8)
  obtain ⟨B, hB⟩ : ∃ B, B = w.heap.size := ⟨_, rfl⟩
  have HB := Lib.hid hB
  have C : Hid (∀ (wr : World) (k : Nat), k < 8 → Below B w wr → Calls Tryd.prog 73 #[.pointer (some ⟨p, 0, none⟩), .int .i64 (nb * 8 + k)] wr fun r w' => ∃ gb, r = .returned (.tuple #[.slice (some ⟨gb, 0, none⟩) 512 512, .nilIface]) ∧ Bs w' (some ⟨gb, 0, none⟩) 512 (d.now (8 * nb + k)) ∧ Below wr.heap.size wr w') := Lib.hid (fun wr k hk hBr => by
    rw [hB] at hBr
    refine (bread (hd.below hBr) p ((hBr.block p (lt_block hp)).trans hp) (nb * 8 + k)).mono ?_
    rintro r w' ⟨hB2, h⟩
    rw [read_up d _ hdn ⟨by omega, by omega⟩, show nb * 8 + (k : Int) = 8 * nb + k by omega] at h
    rcases h with ⟨h, _⟩ | ⟨_, hl, rfl, hrow⟩
    · exact absurd rfl h
    · refine ⟨_, rfl, ?_, hB2⟩
      have := bs_block hrow 0 512 (by rw [hl]; omega) (by omega)
      rw [List.drop_zero, List.take_of_length_le (by rw [hl]; exact Nat.le_refl _)] at this
      exact this)
  have HBl : Hid (∀ wx, Below B w wx → B ≤ wx.heap.size) := Lib.hid (fun wx h => by rw [hB]; exact h.size)
  have KT : Hid (∀ wx wy, Below B w wx → Below wx.heap.size wx wy → Below B w wy) := Lib.hid (fun wx wy h1 h2 => h1.trans (h2.mono (by rw [hB]; exact h1.size)))
  have KG : Hid (∀ wx wy v n xs, Below B w wx → wx.ownsRow B 5 1 v n xs → wx.grownBy wy v.ownBlock → Below B w wy) := Lib.hid (fun wx wy v n xs h1 h2 h3 => h1.grown h3 (by rw [hB]; exact h1.size) (fun k hk => (h2.lt k hk).1))
  have Hlo : Hid (∀ wx wy v n xs, wx.ownsRow B 5 1 v n xs → Below wx.heap.size wx wy → wy.ownsRow B 5 1 v n xs) := Lib.hid (fun wx wy v n xs h1 h2 => own_keep h1 (fun k hk => h2.block k (own_lt h1 hk).2))
  rw [← hB]
  clear hd hp hdn hin hB
  go_enter Tryd.func53, Tryd.ntmps53
  go_wp2_with fail
  go_loopw [6, 10] (fun v i wr => ∃ k : Nat, k ≤ 8 ∧ i = .int .i64 k ∧ wr.ownsRow B 5 1 v (512 * k) (bs (got d.now (8 * nb) k)) ∧ Below B w wr) (fun _ i _ => 8 - (intOf i).toNat)
  case atStart => exact ⟨0, by omega, rfl, World.ownsRow_nil _ _ _ _, by rw [HB.out]; exact Below.refl _ _⟩
  case round =>
    obtain ⟨k, hk, rfl, ho, hb⟩ := hrel
    obtain ⟨A, c, rfl, _⟩ := own_bytes ho
    have HO := Lib.hid ho
    have HB1 := Lib.hid hb
    clear ho hb
    by_cases hlt : k < 8
    · have hkz : (k : Int) < 8 := by omega
      have hk0 : (0 : Int) ≤ k := by omega
      have Hc1 : Hid (512 * k + 512 ≤ 140737488355328) := Lib.hid (by omega)
      have CC := Lib.hid (C.out wr k hlt HB1.out)
      go_wp2_with (first | ((go_at_call 73; (with_reducible refine CC.out.mono ?_)); rintro r w1 ⟨gb, rfl, hbs, hb⟩; have HO1 := Lib.hid (Hlo.out _ _ _ _ _ HO.out hb); have HB2 := Lib.hid (KT.out _ _ HB1.out hb); have X1 := Lib.hid hbs; clear hb hbs) | ((refine wpList_append_bytes rfl _ _ 31 rfl B 5 (.int .u8 0) Tryd.underlying31 Hinfo.out rfl (.slice A (512 * k) c) (512 * k) (bs (got d.now (8 * nb) k)) rfl HO1.out (some ⟨gb, 0, none⟩) 512 512 (d.now (8 * nb + k)) rfl X1.out Hc1.out (HBl.out _ HB2.out) ?_); intro v2 w2 hown2 hg2 hl2; have HB3 := Lib.hid (KG.out _ _ _ _ _ HB2.out HO1.out hg2); have HO2 : Hid (w2.ownsRow B 5 1 v2 (512 * (k + 1)) (bs (got d.now (8 * nb) (k + 1)))) := Lib.hid (by rw [got, bs_append, show 512 * (k + 1) = 512 * k + 512 by omega]; exact hown2); clear hown2 hg2 hl2))
      go_roundw
      case rel => exact ⟨k + 1, by omega, by go_num, HO2.out, HB3.out⟩
      case measure => simp [intOf]; omega
    · have e8 : k = 8 := by omega
      subst e8
      go_wp2_with fail
      go_ret2
      exact ⟨_, rfl, HO.out, HB1.out⟩

end Go.Proofs.YteljopjaolegaaaDoor

/-
  CONTRACTS: superblocks on a disk in memory: Read. (Printed by supread.py.)
-/
namespace Go.Proofs.YteljopjaolegaaaDoor
open Go.RowKit
set_option maxRecDepth 100000
set_option linter.unusedVariables false
set_option linter.unusedSimpArgs false


set_option maxHeartbeats 1000000 in
theorem sread_few (p : Nat) (pz : Int) (w : World) (hz : pz < 16) (h0 : 0 ≤ pz) (CP : Hid (∀ wx, Below w.heap.size w wx → Calls Tryd.prog 50 #[.pointer (some ⟨p, 0, none⟩)] wx fun x w' => x = .returned (.int .i64 pz) ∧ wx = w')) :
    Calls Tryd.prog 26 #[.pointer (some ⟨p, 0, none⟩)] w fun x w' => x = .returned (.tuple #[Sup.zero.val, .iface 37 (.int .i64 140)]) ∧ Below w.heap.size w w' := by
  have S0 := Lib.hid (SupAt.new w 0 0 0 0)
  have G0 : Hid (Below w.heap.size w (w.alloc (.cells #[.int .i64 0, .int .i64 0, .int .i64 0, .int .i64 0] 30))) := Lib.hid ((Below.refl _ _).alloc (Nat.le_refl _) _)
  have KB : Hid (∀ wx, Below w.heap.size w wx → w.heap.size ≤ wx.heap.size) := Lib.hid (fun wx h => h.size)
  have KA : Hid (∀ wx o, Below w.heap.size w wx → Below w.heap.size w (wx.alloc o)) := Lib.hid (fun wx o h => h.alloc h.size _)
  have KT : Hid (∀ wx wy, Below w.heap.size w wx → Below wx.heap.size wx wy → Below w.heap.size w wy) := Lib.hid (fun wx wy h1 h2 => h1.trans (h2.mono h1.size))
  go_enter Tryd.func26, Tryd.ntmps26
  go_wp2_with ((go_at_call 50; (with_reducible refine (CP.out _ G0.out).mono ?_)); rintro x w' ⟨rfl, rfl⟩)
  refine bodyPost_ret (results_row_tmp rfl _ _ w.heap.size 30 _ (0, 0) _ rfl (heap_alloc_new w _) Tryd.underlying30 rfl (by kernel_rfl)) rfl ⟨rfl, ?_⟩
  exact G0.out


set_option maxHeartbeats 1000000 in
theorem sread_down (p : Nat) (pz : Int) (w : World) (hz : ¬ pz < 16) (CP : Hid (∀ wx, Below w.heap.size w wx → Calls Tryd.prog 50 #[.pointer (some ⟨p, 0, none⟩)] wx fun x w' => x = .returned (.int .i64 pz) ∧ wx = w'))
    (CD : Hid (∀ wx, Below w.heap.size w wx → Calls Tryd.prog 53 #[.pointer (some ⟨p, 0, none⟩), .int .i64 0] wx fun x w' => x = .returned (.tuple #[.slice none 0 0, .iface 37 (.int .i64 5)]) ∧ Below wx.heap.size wx w')) :
    Calls Tryd.prog 26 #[.pointer (some ⟨p, 0, none⟩)] w fun x w' => x = .returned (.tuple #[Sup.zero.val, .iface 37 (.int .i64 5)]) ∧ Below w.heap.size w w' := by
  have S0 := Lib.hid (SupAt.new w 0 0 0 0)
  have G0 : Hid (Below w.heap.size w (w.alloc (.cells #[.int .i64 0, .int .i64 0, .int .i64 0, .int .i64 0] 30))) := Lib.hid ((Below.refl _ _).alloc (Nat.le_refl _) _)
  have KB : Hid (∀ wx, Below w.heap.size w wx → w.heap.size ≤ wx.heap.size) := Lib.hid (fun wx h => h.size)
  have KA : Hid (∀ wx o, Below w.heap.size w wx → Below w.heap.size w (wx.alloc o)) := Lib.hid (fun wx o h => h.alloc h.size _)
  have KT : Hid (∀ wx wy, Below w.heap.size w wx → Below wx.heap.size wx wy → Below w.heap.size w wy) := Lib.hid (fun wx wy h1 h2 => h1.trans (h2.mono h1.size))
  go_enter Tryd.func26, Tryd.ntmps26
  go_wp2_with (first | ((go_at_call 50; (with_reducible refine (CP.out _ G0.out).mono ?_)); rintro x w' ⟨rfl, rfl⟩) | ((go_at_call 53; (with_reducible refine (CD.out _ G0.out).mono ?_)); rintro x w1 ⟨rfl, hb⟩; have G1 := Lib.hid hb; have S1 := Lib.hid (S0.out.below hb); obtain ⟨c0, c1, c2, c3⟩ := S1.out.cells; have f0 := S1.out.free 0; have f1 := S1.out.free 1; have f2 := S1.out.free 2; have f3 := S1.out.free 3; clear hb))
  refine bodyPost_ret (results_row_tmp rfl _ _ w.heap.size 30 _ (0, 0) _ rfl (S1.out.four 0 0 0 0) Tryd.underlying30 rfl (by kernel_rfl)) rfl ⟨rfl, ?_⟩
  exact below_four (KT.out _ _ G0.out G1.out) _ (Nat.le_refl _) _ _ _ _


theorem below_drew {B : Nat} {a w : World} (h : Below B a w) : Below B a w.drew := ⟨h.os, h.tape, h.output, h.size, h.block⟩


set_option maxHeartbeats 4000000 in
theorem sread_none (p : Nat) (pz code t0 t1 t2 t3 : Int) (a b : List UInt8) (w : World) (hz : ¬ pz < 16) (hc : (code != 0) = true) (CP : Hid (∀ wx, Below w.heap.size w wx → Calls Tryd.prog 50 #[.pointer (some ⟨p, 0, none⟩)] wx fun x w' => x = .returned (.int .i64 pz) ∧ wx = w'))
    (C0 : Hid (∀ wx, Below w.heap.size w wx → Calls Tryd.prog 53 #[.pointer (some ⟨p, 0, none⟩), .int .i64 0] wx fun x w' => ∃ A c, x = .returned (.tuple #[.slice A 4096 c, .nilIface]) ∧ Bs w' A 4096 a ∧ 4096 ≤ c ∧ Below wx.heap.size wx w'))
    (C1 : Hid (∀ wx, Below w.heap.size w wx → Calls Tryd.prog 53 #[.pointer (some ⟨p, 0, none⟩), .int .i64 1] wx fun x w' => ∃ A c, x = .returned (.tuple #[.slice A 4096 c, .nilIface]) ∧ Bs w' A 4096 b ∧ 4096 ≤ c ∧ Below wx.heap.size wx w'))
    (CC : Hid (∀ wx A B n m, Below w.heap.size w wx → Bs wx A 4096 a → Bs wx B 4096 b → 4096 ≤ n → 4096 ≤ m → Calls Tryd.prog 22 #[.slice A 4096 n, .slice B 4096 m] wx fun x w' => x = .returned (.tuple #[.agg #[.int .i64 t0, .int .i64 t1, .int .i64 t2, .int .i64 t3], .int .i64 code]) ∧ Below wx.heap.size wx w')) :
    Calls Tryd.prog 26 #[.pointer (some ⟨p, 0, none⟩)] w fun x w' => x = .returned (.tuple #[Sup.zero.val, .iface 37 (.int .i64 140)]) ∧ Below w.heap.size w w' := by
  have S0 := Lib.hid (SupAt.new w 0 0 0 0)
  have G0 : Hid (Below w.heap.size w (w.alloc (.cells #[.int .i64 0, .int .i64 0, .int .i64 0, .int .i64 0] 30))) := Lib.hid ((Below.refl _ _).alloc (Nat.le_refl _) _)
  have KB : Hid (∀ wx, Below w.heap.size w wx → w.heap.size ≤ wx.heap.size) := Lib.hid (fun wx h => h.size)
  have KA : Hid (∀ wx o, Below w.heap.size w wx → Below w.heap.size w (wx.alloc o)) := Lib.hid (fun wx o h => h.alloc h.size _)
  have KT : Hid (∀ wx wy, Below w.heap.size w wx → Below wx.heap.size wx wy → Below w.heap.size w wy) := Lib.hid (fun wx wy h1 h2 => h1.trans (h2.mono h1.size))
  go_enter Tryd.func26, Tryd.ntmps26
  go_wp2_with (first
    | ((go_at_call 50; (with_reducible refine (CP.out _ G0.out).mono ?_)); rintro x w' ⟨rfl, rfl⟩)
    | ((go_at_call 53; (with_reducible refine (C0.out _ G0.out).mono ?_)); rintro x w1 ⟨A, n, rfl, hbs, hn, hb⟩; have G1 := Lib.hid (KT.out _ _ G0.out hb); have S1 := Lib.hid (S0.out.below hb); have X1 := Lib.hid hbs; have N1 := Lib.hid hn; clear hb hbs hn)
    | ((go_at_call 53; (with_reducible refine (C1.out _ G1.out).mono ?_)); rintro x w2 ⟨B, m, rfl, hbs, hn, hb⟩; have G2 := Lib.hid (KT.out _ _ G1.out hb); have S2 := Lib.hid (S1.out.below hb); have X2 := Lib.hid hbs; have X1b := Lib.hid (X1.out.below hb); have N2 := Lib.hid hn; clear hb hbs hn)
    | ((go_at_call 22; (with_reducible refine (CC.out _ A B n m G2.out X1b.out X2.out N1.out N2.out).mono ?_)); rintro x w3 ⟨rfl, hb⟩; have G3 := Lib.hid (KT.out _ _ G2.out hb); have S3 := Lib.hid (S2.out.below hb); have Q3 : Hid (SupAt (w3.alloc (.cells #[.int .i64 t0, .int .i64 t1, .int .i64 t2, .int .i64 t3] 30)) w3.heap.size t0 t1 t2 t3) := Lib.hid (SupAt.new w3 t0 t1 t2 t3); have R3 : Hid (SupAt (w3.alloc (.cells #[.int .i64 t0, .int .i64 t1, .int .i64 t2, .int .i64 t3] 30)) w.heap.size 0 0 0 0) := Lib.hid (S3.out.below ((Below.refl _ _).alloc (Nat.le_refl _) _)); have G4 : Hid (Below w.heap.size w (w3.alloc (.cells #[.int .i64 t0, .int .i64 t1, .int .i64 t2, .int .i64 t3] 30))) := Lib.hid (KA.out _ _ G3.out); obtain ⟨c0, c1, c2, c3⟩ := Q3.out.cells; obtain ⟨d0, d1, d2, d3⟩ := R3.out.cells; have f0 := R3.out.free 0; have f1 := R3.out.free 1; have f2 := R3.out.free 2; have f3 := R3.out.free 3; clear hb))
  refine regionE 8 (fun w' => w'.cell? ⟨w3.heap.size, 3, none⟩ = some (.int .i64 t3)) (by kernel_rfl) (c3) (fun hHeld => ?_)
  refine anyE_take [2, 1, 0] (i := 0) (v := ?_) rfl (by kernel_rfl) (by kernel_rfl) (by kernel_rfl) (by kernel_rfl) (by kernel_rfl) rfl (fun _ _ _ h => h) (by assumption) (Or.inl ⟨by rfl, ?_⟩) ?_
  rotate_left
  · (intro w hSw; (try dsimp only at hSw); go_simp; try (with_reducible rfl))
  try simp only [Act.put, List.setIfInBounds_toArray, List.set_cons_zero, List.set_cons_succ]
  refine anyE_take [2, 1] (i := 1) (v := ?_) rfl (by kernel_rfl) (by kernel_rfl) (by kernel_rfl) (by kernel_rfl) (by kernel_rfl) rfl (fun _ _ _ h => h) (by assumption) (Or.inl ⟨by rfl, ?_⟩) ?_
  rotate_left
  · (intro w hSw; (try dsimp only at hSw); go_simp; try (with_reducible rfl))
  try simp only [Act.put, List.setIfInBounds_toArray, List.set_cons_zero, List.set_cons_succ]
  refine anyE_take [2] (i := 2) (v := ?_) rfl (by kernel_rfl) (by kernel_rfl) (by kernel_rfl) (by kernel_rfl) (by kernel_rfl) rfl (fun _ _ _ h => h) (by assumption) (Or.inl ⟨by rfl, ?_⟩) ?_
  rotate_left
  · (intro w hSw; (try dsimp only at hSw); go_simp; try (with_reducible rfl))
  try simp only [Act.put, List.setIfInBounds_toArray, List.set_cons_zero, List.set_cons_succ]
  refine anyE_take [7, 4, 3] (i := 3) (v := undef) rfl (by kernel_rfl) (by kernel_rfl) (by kernel_rfl) (by kernel_rfl) (by kernel_rfl) rfl (fun _ _ _ h => h) (by assumption) (Or.inr ⟨by rfl, rfl⟩) ?_
  try simp only [Act.put, List.setIfInBounds_toArray, List.set_cons_zero, List.set_cons_succ]
  refine anyE_take [7, 4] (i := 4) (v := undef) rfl (by kernel_rfl) (by kernel_rfl) (by kernel_rfl) (by kernel_rfl) (by kernel_rfl) rfl (fun _ _ _ h => h) (by assumption) (Or.inr ⟨by rfl, rfl⟩) ?_
  try simp only [Act.put, List.setIfInBounds_toArray, List.set_cons_zero, List.set_cons_succ]
  refine anyE_take [7, 6, 5] (i := 5) (v := undef) rfl (by kernel_rfl) (by kernel_rfl) (by kernel_rfl) (by kernel_rfl) (by kernel_rfl) rfl (fun _ _ _ h => h) (by assumption) (Or.inr ⟨by rfl, rfl⟩) ?_
  try simp only [Act.put, List.setIfInBounds_toArray, List.set_cons_zero, List.set_cons_succ]
  refine anyE_take [7, 6] (i := 6) (v := undef) rfl (by kernel_rfl) (by kernel_rfl) (by kernel_rfl) (by kernel_rfl) (by kernel_rfl) rfl (fun _ _ _ h => h) (by assumption) (Or.inr ⟨by rfl, rfl⟩) ?_
  try simp only [Act.put, List.setIfInBounds_toArray, List.set_cons_zero, List.set_cons_succ]
  refine anyE_take [7] (i := 7) (v := undef) rfl (by kernel_rfl) (by kernel_rfl) (by kernel_rfl) (by kernel_rfl) (by kernel_rfl) rfl (fun _ _ _ h => h) (by assumption) (Or.inr ⟨by rfl, rfl⟩) ?_
  try simp only [Act.put, List.setIfInBounds_toArray, List.set_cons_zero, List.set_cons_succ]
  refine anyE_last (by kernel_rfl) (by kernel_rfl) rfl (fun K hK => ?_)
  go_simp
  refine hK.out _ _ ?_
  clear hK K
  go_wp2_with fail
  refine bodyPost_ret (results_row_tmp rfl _ _ w.heap.size 30 _ (0, 0) _ rfl (R3.out.four 0 0 0 0) Tryd.underlying30 rfl (by kernel_rfl)) rfl ⟨rfl, ?_⟩
  exact below_four G4.out.drew _ (Nat.le_refl _) _ _ _ _


set_option maxHeartbeats 4000000 in
theorem sread_other (p : Nat) (pz code t0 t1 t2 t3 : Int) (a b : List UInt8) (w : World) (hz : ¬ pz < 16) (hc : (code != 0) = false) (hq : (t3 != pz) = true) (CP : Hid (∀ wx, Below w.heap.size w wx → Calls Tryd.prog 50 #[.pointer (some ⟨p, 0, none⟩)] wx fun x w' => x = .returned (.int .i64 pz) ∧ wx = w'))
    (C0 : Hid (∀ wx, Below w.heap.size w wx → Calls Tryd.prog 53 #[.pointer (some ⟨p, 0, none⟩), .int .i64 0] wx fun x w' => ∃ A c, x = .returned (.tuple #[.slice A 4096 c, .nilIface]) ∧ Bs w' A 4096 a ∧ 4096 ≤ c ∧ Below wx.heap.size wx w'))
    (C1 : Hid (∀ wx, Below w.heap.size w wx → Calls Tryd.prog 53 #[.pointer (some ⟨p, 0, none⟩), .int .i64 1] wx fun x w' => ∃ A c, x = .returned (.tuple #[.slice A 4096 c, .nilIface]) ∧ Bs w' A 4096 b ∧ 4096 ≤ c ∧ Below wx.heap.size wx w'))
    (CC : Hid (∀ wx A B n m, Below w.heap.size w wx → Bs wx A 4096 a → Bs wx B 4096 b → 4096 ≤ n → 4096 ≤ m → Calls Tryd.prog 22 #[.slice A 4096 n, .slice B 4096 m] wx fun x w' => x = .returned (.tuple #[.agg #[.int .i64 t0, .int .i64 t1, .int .i64 t2, .int .i64 t3], .int .i64 code]) ∧ Below wx.heap.size wx w')) :
    Calls Tryd.prog 26 #[.pointer (some ⟨p, 0, none⟩)] w fun x w' => x = .returned (.tuple #[Sup.zero.val, .iface 37 (.int .i64 140)]) ∧ Below w.heap.size w w' := by
  have S0 := Lib.hid (SupAt.new w 0 0 0 0)
  have G0 : Hid (Below w.heap.size w (w.alloc (.cells #[.int .i64 0, .int .i64 0, .int .i64 0, .int .i64 0] 30))) := Lib.hid ((Below.refl _ _).alloc (Nat.le_refl _) _)
  have KB : Hid (∀ wx, Below w.heap.size w wx → w.heap.size ≤ wx.heap.size) := Lib.hid (fun wx h => h.size)
  have KA : Hid (∀ wx o, Below w.heap.size w wx → Below w.heap.size w (wx.alloc o)) := Lib.hid (fun wx o h => h.alloc h.size _)
  have KT : Hid (∀ wx wy, Below w.heap.size w wx → Below wx.heap.size wx wy → Below w.heap.size w wy) := Lib.hid (fun wx wy h1 h2 => h1.trans (h2.mono h1.size))
  go_enter Tryd.func26, Tryd.ntmps26
  go_wp2_with (first
    | ((go_at_call 50; (with_reducible refine (CP.out _ G0.out).mono ?_)); rintro x w' ⟨rfl, rfl⟩)
    | ((go_at_call 53; (with_reducible refine (C0.out _ G0.out).mono ?_)); rintro x w1 ⟨A, n, rfl, hbs, hn, hb⟩; have G1 := Lib.hid (KT.out _ _ G0.out hb); have S1 := Lib.hid (S0.out.below hb); have X1 := Lib.hid hbs; have N1 := Lib.hid hn; clear hb hbs hn)
    | ((go_at_call 53; (with_reducible refine (C1.out _ G1.out).mono ?_)); rintro x w2 ⟨B, m, rfl, hbs, hn, hb⟩; have G2 := Lib.hid (KT.out _ _ G1.out hb); have S2 := Lib.hid (S1.out.below hb); have X2 := Lib.hid hbs; have X1b := Lib.hid (X1.out.below hb); have N2 := Lib.hid hn; clear hb hbs hn)
    | ((go_at_call 22; (with_reducible refine (CC.out _ A B n m G2.out X1b.out X2.out N1.out N2.out).mono ?_)); rintro x w3 ⟨rfl, hb⟩; have G3 := Lib.hid (KT.out _ _ G2.out hb); have S3 := Lib.hid (S2.out.below hb); have Q3 : Hid (SupAt (w3.alloc (.cells #[.int .i64 t0, .int .i64 t1, .int .i64 t2, .int .i64 t3] 30)) w3.heap.size t0 t1 t2 t3) := Lib.hid (SupAt.new w3 t0 t1 t2 t3); have R3 : Hid (SupAt (w3.alloc (.cells #[.int .i64 t0, .int .i64 t1, .int .i64 t2, .int .i64 t3] 30)) w.heap.size 0 0 0 0) := Lib.hid (S3.out.below ((Below.refl _ _).alloc (Nat.le_refl _) _)); have G4 : Hid (Below w.heap.size w (w3.alloc (.cells #[.int .i64 t0, .int .i64 t1, .int .i64 t2, .int .i64 t3] 30))) := Lib.hid (KA.out _ _ G3.out); obtain ⟨c0, c1, c2, c3⟩ := Q3.out.cells; obtain ⟨d0, d1, d2, d3⟩ := R3.out.cells; have f0 := R3.out.free 0; have f1 := R3.out.free 1; have f2 := R3.out.free 2; have f3 := R3.out.free 3; clear hb))
  go_region_held3 (fun w' => w'.cell? ⟨w3.heap.size, 3, none⟩ = some (.int .i64 t3)) (first | exact c3) (first | ((go_at_call 50; (with_reducible refine (CP.out _ ?_).mono ?_)); (first | exact G4.out | exact below_drew G4.out | exact below_drew (below_drew G4.out)); rintro x w' ⟨rfl, rfl⟩))
  go_wp2_with fail
  refine bodyPost_ret (results_row_tmp rfl _ _ w.heap.size 30 _ (0, 0) _ rfl (R3.out.four 0 0 0 0) Tryd.underlying30 rfl (by kernel_rfl)) rfl ⟨rfl, ?_⟩
  exact below_four G4.out.drew _ (Nat.le_refl _) _ _ _ _


set_option maxHeartbeats 4000000 in
theorem sread_one (p : Nat) (pz code t0 t1 t2 t3 : Int) (a b : List UInt8) (w : World) (hz : ¬ pz < 16) (hc : (code != 0) = false) (hq : (t3 != pz) = false) (CP : Hid (∀ wx, Below w.heap.size w wx → Calls Tryd.prog 50 #[.pointer (some ⟨p, 0, none⟩)] wx fun x w' => x = .returned (.int .i64 pz) ∧ wx = w'))
    (C0 : Hid (∀ wx, Below w.heap.size w wx → Calls Tryd.prog 53 #[.pointer (some ⟨p, 0, none⟩), .int .i64 0] wx fun x w' => ∃ A c, x = .returned (.tuple #[.slice A 4096 c, .nilIface]) ∧ Bs w' A 4096 a ∧ 4096 ≤ c ∧ Below wx.heap.size wx w'))
    (C1 : Hid (∀ wx, Below w.heap.size w wx → Calls Tryd.prog 53 #[.pointer (some ⟨p, 0, none⟩), .int .i64 1] wx fun x w' => ∃ A c, x = .returned (.tuple #[.slice A 4096 c, .nilIface]) ∧ Bs w' A 4096 b ∧ 4096 ≤ c ∧ Below wx.heap.size wx w'))
    (CC : Hid (∀ wx A B n m, Below w.heap.size w wx → Bs wx A 4096 a → Bs wx B 4096 b → 4096 ≤ n → 4096 ≤ m → Calls Tryd.prog 22 #[.slice A 4096 n, .slice B 4096 m] wx fun x w' => x = .returned (.tuple #[.agg #[.int .i64 t0, .int .i64 t1, .int .i64 t2, .int .i64 t3], .int .i64 code]) ∧ Below wx.heap.size wx w')) :
    Calls Tryd.prog 26 #[.pointer (some ⟨p, 0, none⟩)] w fun x w' => x = .returned (.tuple #[.agg #[.int .i64 t0, .int .i64 t1, .int .i64 t2, .int .i64 t3], .nilIface]) ∧ Below w.heap.size w w' := by
  have S0 := Lib.hid (SupAt.new w 0 0 0 0)
  have G0 : Hid (Below w.heap.size w (w.alloc (.cells #[.int .i64 0, .int .i64 0, .int .i64 0, .int .i64 0] 30))) := Lib.hid ((Below.refl _ _).alloc (Nat.le_refl _) _)
  have KB : Hid (∀ wx, Below w.heap.size w wx → w.heap.size ≤ wx.heap.size) := Lib.hid (fun wx h => h.size)
  have KA : Hid (∀ wx o, Below w.heap.size w wx → Below w.heap.size w (wx.alloc o)) := Lib.hid (fun wx o h => h.alloc h.size _)
  have KT : Hid (∀ wx wy, Below w.heap.size w wx → Below wx.heap.size wx wy → Below w.heap.size w wy) := Lib.hid (fun wx wy h1 h2 => h1.trans (h2.mono h1.size))
  go_enter Tryd.func26, Tryd.ntmps26
  go_wp2_with (first
    | ((go_at_call 50; (with_reducible refine (CP.out _ G0.out).mono ?_)); rintro x w' ⟨rfl, rfl⟩)
    | ((go_at_call 53; (with_reducible refine (C0.out _ G0.out).mono ?_)); rintro x w1 ⟨A, n, rfl, hbs, hn, hb⟩; have G1 := Lib.hid (KT.out _ _ G0.out hb); have S1 := Lib.hid (S0.out.below hb); have X1 := Lib.hid hbs; have N1 := Lib.hid hn; clear hb hbs hn)
    | ((go_at_call 53; (with_reducible refine (C1.out _ G1.out).mono ?_)); rintro x w2 ⟨B, m, rfl, hbs, hn, hb⟩; have G2 := Lib.hid (KT.out _ _ G1.out hb); have S2 := Lib.hid (S1.out.below hb); have X2 := Lib.hid hbs; have X1b := Lib.hid (X1.out.below hb); have N2 := Lib.hid hn; clear hb hbs hn)
    | ((go_at_call 22; (with_reducible refine (CC.out _ A B n m G2.out X1b.out X2.out N1.out N2.out).mono ?_)); rintro x w3 ⟨rfl, hb⟩; have G3 := Lib.hid (KT.out _ _ G2.out hb); have S3 := Lib.hid (S2.out.below hb); have Q3 : Hid (SupAt (w3.alloc (.cells #[.int .i64 t0, .int .i64 t1, .int .i64 t2, .int .i64 t3] 30)) w3.heap.size t0 t1 t2 t3) := Lib.hid (SupAt.new w3 t0 t1 t2 t3); have R3 : Hid (SupAt (w3.alloc (.cells #[.int .i64 t0, .int .i64 t1, .int .i64 t2, .int .i64 t3] 30)) w.heap.size 0 0 0 0) := Lib.hid (S3.out.below ((Below.refl _ _).alloc (Nat.le_refl _) _)); have G4 : Hid (Below w.heap.size w (w3.alloc (.cells #[.int .i64 t0, .int .i64 t1, .int .i64 t2, .int .i64 t3] 30))) := Lib.hid (KA.out _ _ G3.out); obtain ⟨c0, c1, c2, c3⟩ := Q3.out.cells; obtain ⟨d0, d1, d2, d3⟩ := R3.out.cells; have f0 := R3.out.free 0; have f1 := R3.out.free 1; have f2 := R3.out.free 2; have f3 := R3.out.free 3; clear hb))
  go_region_held3 (fun w' => w'.cell? ⟨w3.heap.size, 3, none⟩ = some (.int .i64 t3)) (first | exact c3) (first | ((go_at_call 50; (with_reducible refine (CP.out _ ?_).mono ?_)); (first | exact G4.out | exact below_drew G4.out | exact below_drew (below_drew G4.out)); rintro x w' ⟨rfl, rfl⟩))
  go_wp2_with fail
  refine bodyPost_ret (results_row_tmp rfl _ _ w.heap.size 30 _ (0, 0) _ rfl (R3.out.four t0 t1 t2 t3) Tryd.underlying30 rfl (by kernel_rfl)) rfl ⟨rfl, ?_⟩
  exact below_four G4.out.drew _ (Nat.le_refl _) _ _ _ _


/-- super.Read. -/
theorem sread_any {T : Nat → Prop} {w : World} {g : Nat} {d : DiskV} (hd : DiskIs T w g d) (p : Nat) (hp : PtrAt w p g 95) (hN : Nib w) :
    Calls Tryd.prog 26 #[.pointer (some ⟨p, 0, none⟩)] w fun x w' => x = .returned (.tuple #[d.sread.1.val, errV d.sread.2]) ∧ Below w.heap.size w w' := by
  have hpl := lt_block hp
  have pt : ∀ wx, Below w.heap.size w wx → PtrAt wx p g 95 := fun wx hB => (hB.block p hpl).trans hp
  have CP : Hid (∀ wx, Below w.heap.size w wx → Calls Tryd.prog 50 #[.pointer (some ⟨p, 0, none⟩)] wx fun x w' => x = .returned (.int .i64 d.pages) ∧ wx = w') := Lib.hid (fun wx hB => pages_any (hd.below hB) p (pt wx hB))
  have hpg : 0 ≤ d.pages := by simp only [DiskV.pages]; omega
  by_cases h16 : d.pages < 16
  · have e : d.sread = (.zero, 140) := by rw [DiskV.sread, if_pos h16]
    rw [e]
    exact sread_few p d.pages w h16 hpg CP
  have hmany : 128 ≤ (d.many : Int) := by simp only [DiskV.pages] at h16; omega
  by_cases hdn : d.down = true
  · have e : d.sread = (.zero, 5) := by rw [DiskV.sread, if_neg h16, if_pos hdn]
    rw [e]
    exact sread_down p d.pages w h16 CP (Lib.hid fun wx hB => bytes_down (hd.below hB) p (pt wx hB) 0 (by omega) (by omega) hdn)
  have hdn : d.down = false := by simpa using hdn
  have CB : ∀ nb : Int, 0 ≤ nb → nb ≤ 1 → ∀ wx, Below w.heap.size w wx → Calls Tryd.prog 53 #[.pointer (some ⟨p, 0, none⟩), .int .i64 nb] wx fun x w' => ∃ A c, x = .returned (.tuple #[.slice A 4096 c, .nilIface]) ∧ Bs w' A 4096 (d.page nb) ∧ 4096 ≤ c ∧ Below wx.heap.size wx w' := fun nb h0 h1 wx hB => by
    refine (bytes_up (hd.below hB) p (pt wx hB) nb h0 (by omega) hdn (by omega)).mono ?_
    rintro x w' ⟨v, rfl, ho, hb⟩
    obtain ⟨A, c, rfl, hbs, hc⟩ := own_bytes_cap ho
    exact ⟨A, c, rfl, hbs, hc, hb⟩
  obtain ⟨a, ha⟩ : ∃ a, a = d.page 0 := ⟨_, rfl⟩
  obtain ⟨b, hb⟩ : ∃ b, b = d.page 1 := ⟨_, rfl⟩
  obtain ⟨s, hs⟩ : ∃ s, s = (supChoose a b).1 := ⟨_, rfl⟩
  obtain ⟨code, hcode⟩ : ∃ c, c = (supChoose a b).2 := ⟨_, rfl⟩
  obtain ⟨t0, t1, t2, t3⟩ := s
  have C0 := Lib.hid (CB 0 (by omega) (by omega))
  have C1 := Lib.hid (CB 1 (by omega) (by omega))
  rw [← ha] at C0
  rw [← hb] at C1
  have CC : Hid (∀ wx A B n m, Below w.heap.size w wx → Bs wx A 4096 a → Bs wx B 4096 b → 4096 ≤ n → 4096 ≤ m → Calls Tryd.prog 22 #[.slice A 4096 n, .slice B 4096 m] wx fun x w' => x = .returned (.tuple #[.agg #[.int .i64 t0, .int .i64 t1, .int .i64 t2, .int .i64 t3], .int .i64 code]) ∧ Below wx.heap.size wx w') := Lib.hid (fun wx A B n m hB h1 h2 h3 h4 => by
    have := schoose_any A B 4096 n 4096 m a b wx (hN.below hB) h1 h2 h3 h4
    rw [← hs, ← hcode] at this
    exact this)
  by_cases hc : code = 0
  rotate_left
  · have e : d.sread = (.zero, 140) := by rw [DiskV.sread, if_neg h16, if_neg (by rw [hdn]; decide), ← ha, ← hb, if_pos (.inl (by rw [← hcode]; exact hc))]
    rw [e]
    exact sread_none p d.pages code t0 t1 t2 t3 a b w h16 (by simpa using hc) CP C0 C1 CC
  by_cases hq : t3 = d.pages
  · have e : d.sread = (⟨t0, t1, t2, t3⟩, 0) := by rw [DiskV.sread, if_neg h16, if_neg (by rw [hdn]; decide), ← ha, ← hb, ← hs, ← hcode, if_neg (by rintro (h | h); exact h hc; exact h hq)]
    rw [e]
    exact sread_one p d.pages code t0 t1 t2 t3 a b w h16 (by simpa using hc) (by simpa using hq) CP C0 C1 CC
  · have e : d.sread = (.zero, 140) := by rw [DiskV.sread, if_neg h16, if_neg (by rw [hdn]; decide), ← ha, ← hb, ← hs, ← hcode, if_pos (.inr hq)]
    rw [e]
    exact sread_other p d.pages code t0 t1 t2 t3 a b w h16 (by simpa using hc) (by simpa using hq) CP C0 C1 CC

end Go.Proofs.YteljopjaolegaaaDoor

/-
  A HAND AND ITS DISK in a law's own memory: all its blocks are new since a world wN.
-/
namespace Go.Proofs.YteljopjaolegaaaDoor
open Go.RowKit
set_option maxRecDepth 100000
set_option linter.unusedVariables false
set_option linter.unusedSimpArgs false

/-- The hand h, its disk d. -/
def DK (wN wx : World) (h g : Nat) (d : DiskV) : Prop := ∃ T, DiskIs T wx g d ∧ (∀ k, T k → wN.heap.size ≤ k) ∧ ¬ T h ∧ PtrAt wx h g 70 ∧ Below wN.heap.size wN wx
/-- And a pointer q to the disk. -/
def DQ (wN wx : World) (h q g : Nat) (d : DiskV) : Prop := ∃ T, DiskIs T wx g d ∧ (∀ k, T k → wN.heap.size ≤ k) ∧ ¬ T h ∧ PtrAt wx h g 70 ∧ Below wN.heap.size wN wx ∧ ¬ T q ∧ PtrAt wx q g 95

theorem DK.base {wN wx : World} {h g : Nat} {d : DiskV} (k : DK wN wx h g d) : Below wN.heap.size wN wx := by obtain ⟨T, _, _, _, _, h⟩ := k; exact h
theorem DQ.base {wN wx : World} {h q g : Nat} {d : DiskV} (k : DQ wN wx h q g d) : Below wN.heap.size wN wx := by obtain ⟨T, _, _, _, _, h, _⟩ := k; exact h
theorem DQ.hand {wN wx : World} {h q g : Nat} {d : DiskV} (k : DQ wN wx h q g d) : DK wN wx h g d := by obtain ⟨T, k1, k2, k3, k4, k5, _⟩ := k; exact ⟨T, k1, k2, k3, k4, k5⟩
theorem DK.below {wN wx wy : World} {h g : Nat} {d : DiskV} (k : DK wN wx h g d) (hb : Below wx.heap.size wx wy) : DK wN wy h g d := by
  obtain ⟨T, k1, k2, k3, k4, k5⟩ := k
  exact ⟨T, k1.below hb, k2, k3, (hb.block h (lt_block k4)).trans k4, k5.trans (hb.mono k5.size)⟩
theorem DQ.below {wN wx wy : World} {h q g : Nat} {d : DiskV} (k : DQ wN wx h q g d) (hb : Below wx.heap.size wx wy) : DQ wN wy h q g d := by
  obtain ⟨T, k1, k2, k3, k4, k5, k6, k7⟩ := k
  exact ⟨T, k1.below hb, k2, k3, (hb.block h (lt_block k4)).trans k4, k5.trans (hb.mono k5.size), k6, (hb.block q (lt_block k7)).trans k7⟩
theorem DK.drew {wN wx : World} {h g : Nat} {d : DiskV} (k : DK wN wx h g d) : DK wN wx.drew h g d := k.below ⟨rfl, rfl, rfl, Nat.le_refl _, fun _ _ => rfl⟩
theorem DQ.drew {wN wx : World} {h q g : Nat} {d : DiskV} (k : DQ wN wx h q g d) : DQ wN wx.drew h q g d := k.below ⟨rfl, rfl, rfl, Nat.le_refl _, fun _ _ => rfl⟩
theorem DK.alloc {wN wx : World} {h g : Nat} {d : DiskV} (k : DK wN wx h g d) (o : Obj) : DK wN (wx.alloc o) h g d := k.below ((Below.refl _ _).alloc (Nat.le_refl _) _)
/-- A cell that was there when the hand was made. -/
theorem DK.cell {wN wx : World} {h g : Nat} {d : DiskV} (k : DK wN wx h g d) {a : Addr} {v : Value} (hc : wN.cell? a = some v) : wx.cell? a = some v := cell_below k.base hc

/-- An act through the hand. -/
theorem DK.go {wN wx wy : World} {h g : Nat} {d' : DiskV} {T : Nat → Prop} (hN : ∀ k, T k → wN.heap.size ≤ k) (hh : ¬ T h) (hp : PtrAt wx h g 70) (hb : Below wN.heap.size wN wx) (hg : DiskGo T wx g wy d') : DK wN wy h g d' := by
  obtain ⟨T1, k1, k2, k3⟩ := hg
  refine ⟨T1, k1, fun k hk => ?_, fun hk => ?_, (k3.block h (lt_block hp) hh).trans hp, hb.trans (k3.below hb.size (fun k hk hT => by have := hN k hT; omega))⟩
  · rcases k2 k hk with e | e
    · exact hN k e
    · exact Nat.le_trans hb.size e
  · rcases k2 h hk with e | e
    · exact hh e
    · have := lt_block hp; omega
theorem dk_new (n : Int) (wN : World) (hn : n ≤ 9223372036854775807) : Calls Tryd.prog 10 #[.int .i64 n] wN fun x w' => ∃ h g, x = .returned (.pointer (some ⟨h, 0, none⟩)) ∧ DK wN w' h g (DiskV.new n) := by
  refine (bnew n wN hn).mono ?_
  rintro x w' ⟨h, g, T, rfl, k1, k2, k3, k4, k5, k6⟩
  exact ⟨h, g, rfl, T, k2, k3, k4, k1, k6⟩
theorem dk_disk {wN wx : World} {h g : Nat} {d : DiskV} (k : DK wN wx h g d) : Calls Tryd.prog 25 #[.pointer (some ⟨h, 0, none⟩)] wx fun x w' => ∃ q, x = .returned (.pointer (some ⟨q, 0, none⟩)) ∧ DQ wN w' h q g d ∧ Below wx.heap.size wx w' := by
  obtain ⟨T, k1, k2, k3, k4, k5⟩ := k
  refine (bdisk h _ k4).mono ?_
  rintro x w' ⟨rfl, hq, hb⟩
  exact ⟨_, rfl, ⟨T, k1.below hb, k2, k3, (hb.block h (lt_block k4)).trans k4, k5.trans (hb.mono k5.size), fun hT => by have := k1.inside _ hT; omega, hq⟩, hb⟩
theorem dk_arm {wN wx : World} {h g : Nat} {d : DiskV} (k : DK wN wx h g d) (v : Int) (b : Bool) (hv : v ≤ 9223372036854775807) : Calls Tryd.prog 28 #[.pointer (some ⟨h, 0, none⟩), .int .i64 v, .bool b] wx fun x w' => x = .returned (.tuple #[]) ∧ DK wN w' h g (d.arm v b) := by
  obtain ⟨T, k1, k2, k3, k4, k5⟩ := k
  refine (barm k1 h _ k4 (by decide) v b hv).mono ?_
  rintro x w' ⟨rfl, hg⟩
  exact ⟨rfl, DK.go k2 k3 k4 k5 hg⟩
theorem dk_crash {wN wx : World} {h g : Nat} {d : DiskV} (k : DK wN wx h g d) (B : Option Addr) (kn kc : Nat) (keep : List Bool) (hk : Bls wN B kn keep) (hlen : d.wait.length ≤ 140737488355328) : Calls Tryd.prog 29 #[.pointer (some ⟨h, 0, none⟩), .slice B kn kc] wx fun x w' => x = .returned (.tuple #[]) ∧ DK wN w' h g (d.crash keep) := by
  obtain ⟨T, k1, k2, k3, k4, k5⟩ := k
  refine (bcrash k1 h _ k4 B kn kc keep (hk.kept (fun a v hc => cell_below k5 hc)) hlen).mono ?_
  rintro x w' ⟨rfl, hg⟩
  exact ⟨rfl, DK.go k2 k3 k4 k5 hg⟩
/-- An act through the disk's pointer. -/
theorem dq_go {wN wx wy : World} {h q g : Nat} {d' : DiskV} {T : Nat → Prop} (k2 : ∀ k, T k → wN.heap.size ≤ k) (k3 : ¬ T h) (k4 : PtrAt wx h g 70) (k5 : Below wN.heap.size wN wx) (k6 : ¬ T q) (k7 : PtrAt wx q g 95) (hg : DiskGo T wx g wy d') : DQ wN wy h q g d' := by
  obtain ⟨T1, j1, j2, j3⟩ := hg
  refine ⟨T1, j1, fun k hk => ?_, fun hk => ?_, (j3.block h (lt_block k4) k3).trans k4, k5.trans (j3.below k5.size (fun k hk hT => by have := k2 k hT; omega)), fun hk => ?_, (j3.block q (lt_block k7) k6).trans k7⟩
  · rcases j2 k hk with e | e
    · exact k2 k e
    · exact Nat.le_trans k5.size e
  · rcases j2 h hk with e | e
    · exact k3 e
    · have := lt_block k4; omega
  · rcases j2 q hk with e | e
    · exact k6 e
    · have := lt_block k7; omega

theorem dq_sync {wN wx : World} {h q g : Nat} {d : DiskV} (k : DQ wN wx h q g d) (hlen : d.wait.length ≤ 140737488355328) : Calls Tryd.prog 52 #[.pointer (some ⟨q, 0, none⟩)] wx fun x w' => x = .returned (errV d.sync.2) ∧ DQ wN w' h q g d.sync.1 := by
  obtain ⟨T, k1, k2, k3, k4, k5, k6, k7⟩ := id k
  refine (bsync k1 q k7 hlen).mono ?_
  rintro x w' ⟨rfl, hg⟩
  exact ⟨rfl, dq_go k2 k3 k4 k5 k6 k7 hg⟩

end Go.Proofs.YteljopjaolegaaaDoor

/-
  A HAND AND ITS DISK in a law's own memory: superblocks.
-/
namespace Go.Proofs.YteljopjaolegaaaDoor
open Go.RowKit
set_option maxRecDepth 100000
set_option linter.unusedVariables false
set_option linter.unusedSimpArgs false

theorem dq_swrite {wN wx : World} {h q g : Nat} {d : DiskV} (k : DQ wN wx h q g d) (hN : Nib wN) (s : Sup) (hlen : (d.wait.length + 8) * 32 ≤ 140737488355328) : Calls Tryd.prog 24 #[.pointer (some ⟨q, 0, none⟩), s.val] wx fun x w' => x = .returned (errV (d.swrite s).2) ∧ DQ wN w' h q g (d.swrite s).1 := by
  obtain ⟨T, k1, k2, k3, k4, k5, k6, k7⟩ := k
  refine (swrite_any k1 q k7 k6 (hN.below k5) s hlen).mono ?_
  rintro x w' ⟨rfl, hg⟩
  exact ⟨rfl, dq_go k2 k3 k4 k5 k6 k7 hg⟩
theorem dq_sread {wN wx : World} {h q g : Nat} {d : DiskV} (k : DQ wN wx h q g d) (hN : Nib wN) : Calls Tryd.prog 26 #[.pointer (some ⟨q, 0, none⟩)] wx fun x w' => x = .returned (.tuple #[d.sread.1.val, errV d.sread.2]) ∧ Below wx.heap.size wx w' := by
  obtain ⟨T, k1, k2, k3, k4, k5, k6, k7⟩ := k
  exact sread_any k1 q k7 (hN.below k5)
theorem sync_len (d : DiskV) : d.sync.1.wait.length ≤ d.wait.length := by
  by_cases h1 : d.down = true
  · rw [DiskV.sync, if_pos h1]; exact Nat.le_refl _
  rw [DiskV.sync, if_neg h1]
  by_cases h2 : d.carried = true
  · rw [if_pos h2]; exact Nat.zero_le _
  · rw [if_neg h2, DiskV.acted_wait]; exact Nat.le_refl _
theorem swrite_len (d : DiskV) (s : Sup) : (d.swrite s).1.wait.length ≤ d.wait.length + 8 := by
  have h := pwrite_len d (supPlace s) 1 (supBody s)
  by_cases h1 : supMay s = true ∧ s.pages = d.pages
  rotate_left
  · rw [DiskV.swrite, if_pos h1]; exact Nat.le_add_right _ _
  by_cases h2 : (d.pwrite (supPlace s) 1 (supBody s)).2 = 0
  · rw [DiskV.swrite, if_neg (not_not_intro h1), if_neg (not_not_intro h2)]
    exact Nat.le_trans (sync_len _) h
  · rw [DiskV.swrite, if_neg (not_not_intro h1), if_pos h2]; exact h

end Go.Proofs.YteljopjaolegaaaDoor
