/-
  CONTRACTS: package block: the closure of Sync.
-/
import Derived.Test.YteljopjaolegaaaDoorPkC
import Derived.Test.YteljopjaolegaaaDoorPkA

namespace Go.Proofs.YteljopjaolegaaaDoor
open Go.RowKit
set_option maxRecDepth 100000
set_option linter.unusedVariables false
set_option linter.unusedSimpArgs false

/-- A map's entries laid over by writes. -/
def mlays (f : Int → Option Value) (ws : List (Int × Value × List UInt8)) : Int → Option Value := ws.foldl (fun f e i => if i = e.1 then some e.2.1 else f i) f
theorem mlays_snoc (f : Int → Option Value) (ws : List (Int × Value × List UInt8)) (e : Int × Value × List UInt8) : mlays f (ws ++ [e]) = fun i => if i = e.1 then some e.2.1 else mlays f ws i := by simp [mlays]
theorem mlays_take (f : Int → Option Value) (ws : List (Int × Value × List UInt8)) (k : Nat) (e : Int × Value × List UInt8) (h : ws[k]? = some e) : mlays f (ws.take (k + 1)) = fun i => if i = e.1 then some e.2.1 else mlays f (ws.take k) i := by
  rw [take_snoc h, mlays_snoc]
theorem mlays_sec {T : Nat → Prop} {w : World} (f : Int → Option Value) (r : Rows512) (ws : List (Int × Value × List UInt8)) (hf : ∀ i, SecAt T w (f i) (r i)) (hw : ∀ e ∈ ws, RowAt T w e.2.1 e.2.2) : ∀ i, SecAt T w (mlays f ws i) (lays r (ws.map (fun e => (e.1, e.2.2))) i) := by
  induction ws generalizing f r with
  | nil => exact hf
  | cons e ws ih =>
    refine ih _ (lay1 r (e.1, e.2.2)) (fun i => ?_) (fun x hx => hw x (List.mem_cons_of_mem _ hx))
    by_cases hi : i = e.1
    · subst hi
      rw [lay1_same]
      simp only [if_pos]
      exact hw e (List.mem_cons_self ..)
    · rw [lay1_other _ _ _ _ hi]
      simp only [if_neg hi]
      exact hf i

set_option maxHeartbeats 2000000 in
theorem sclosure_any (pd p g wb wc : Nat) (many : Int) (bs' bn : Nat) (armed : Bool) (acts : Int) (done down : Bool) (f : Int → Option Value) (ws : List (Int × Value × List UInt8)) (w : World)
    (hd : w.heap[pd]? = some (.cells #[.pointer (some ⟨p, 0, none⟩)] 54 (0, 0)))
    (hp : w.heap[p]? = some (.cells #[.pointer (some ⟨g, 0, none⟩)] 95 (0, 0))) (h : BoxAt w g many bs' bn (.slice (some ⟨wb, 0, none⟩) ws.length wc) armed acts done down) (hm : SecMap w bs' f) (ho : w.ownsRow 0 99 2 (.slice (some ⟨wb, 0, none⟩) ws.length wc) ws.length (wcells ws))
    (hrows : ∀ e ∈ ws, ∃ xb xc, e.2.1 = .slice (some ⟨xb, 0, none⟩) 512 xc) (hlen : ws.length ≤ 140737488355328) :
    Calls Tryd.prog 72 #[.pointer (some ⟨pd, 0, none⟩)] w fun r w' => r = .returned (.tuple #[]) ∧ BoxAt w' g many bs' bn (.slice none 0 0) armed acts done down ∧ SecMap w' bs' (mlays f ws) ∧ Ext (fun k => k = g ∨ k = bs') w w' := by
  have hd0 : w.cell? ⟨pd, 0, none⟩ = some (.pointer (some ⟨p, 0, none⟩)) := cell_of_row _ _ 0 _ _ _ hd
  have hp0 : w.cell? ⟨p, 0, none⟩ = some (.pointer (some ⟨g, 0, none⟩)) := cell_of_row _ _ 0 _ _ _ hp
  obtain ⟨c0, c1, c2, c3, c4, c5, c6, c7⟩ := h.cells
  obtain ⟨nz, hnz⟩ : ∃ nz : Int, nz = (ws.length : Int) := ⟨_, rfl⟩
  have Hlen := Lib.hid hlen
  have hlz : nz ≤ 140737488355328 := by omega
  have hl0 : 0 ≤ nz := by omega
  have hgs : g ≠ bs' := fun e => by
    obtain ⟨es, cl, h1, _⟩ := hm
    unfold BoxAt at h; rw [e, h1] at h; cases h
  have hpn : p ≠ bs' := fun e => by obtain ⟨es, cl, h1, _⟩ := hm; rw [e, h1] at hp; cases hp
  have hdn : pd ≠ bs' := fun e => by obtain ⟨es, cl, h1, _⟩ := hm; rw [e, h1] at hd; cases hd
  obtain ⟨cur, hwb⟩ := own_obj ho rfl
  have hwn : wb ≠ bs' := fun e => by obtain ⟨es, cl, h1, _⟩ := hm; rw [e, h1] at hwb; cases hwb
  have HX : Hid (∀ wr, Ext (fun j => j = bs') w wr → wr.cell? ⟨pd, 0, none⟩ = some (.pointer (some ⟨p, 0, none⟩)) ∧ wr.cell? ⟨p, 0, none⟩ = some (.pointer (some ⟨g, 0, none⟩)) ∧ wr.cell? ⟨g, 1, none⟩ = some (.map (some bs')) ∧ BoxAt wr g many bs' bn (.slice (some ⟨wb, 0, none⟩) ws.length wc) armed acts done down) := Lib.hid (fun wr hx =>
    ⟨hx.cell hd0 (fun e => hdn e), hx.cell hp0 (fun e => hpn e), hx.cell c1 (fun e => hgs e), (hx.block g (lt_block h) (fun e => hgs e)).trans h⟩)
  have HC : Hid (∀ wr k e, Ext (fun j => j = bs') w wr → ws[k]? = some e → wr.cell? ⟨wb, k * 2, none⟩ = some (.int .i64 e.1) ∧ wr.cell? ⟨wb, k * 2 + 1, none⟩ = some e.2.1) := Lib.hid (fun wr k e hx he => by
    obtain ⟨w1, w2⟩ := wcells_at ws k e he
    have g1 := ho.cells (g := wb) rfl _ _ w1
    have g2 := ho.cells (g := wb) rfl _ _ w2
    have a1 : (⟨wb, 0, none⟩ : Addr).add (2 * k) = ⟨wb, k * 2, none⟩ := by unfold Addr.add; split <;> simp_all; omega
    have a2 : (⟨wb, 0, none⟩ : Addr).add (2 * k + 1) = ⟨wb, k * 2 + 1, none⟩ := by unfold Addr.add; split <;> simp_all; omega
    rw [a1] at g1
    rw [a2] at g2
    exact ⟨hx.cell g1 (fun e => hwn e), hx.cell g2 (fun e => hwn e)⟩)
  have HM := Lib.hid hm
  have HR := Lib.hid hrows
  have Hgs := Lib.hid hgs
  clear hd hp h hm ho hrows hlen hnz c0 c1 c2 c4 c5 c6 c7 hgs hpn hdn hwb hwn
  go_enter Tryd.func72, Tryd.ntmps72
  go_wp2_with fail
  go_loopw [11] (fun i wr => ∃ k : Nat, k ≤ ws.length ∧ i = .int .i64 k ∧ SecMap wr bs' (mlays f (ws.take k)) ∧ Ext (fun j => j = bs') w wr) (fun i _ => ws.length - (intOf i).toNat)
  case atStart => exact ⟨0, by omega, rfl, HM.out, Ext.refl _ _⟩
  case round =>
    obtain ⟨k, hk, rfl, h1, h2⟩ := hrel
    obtain ⟨x1, x2, x3, x4⟩ := HX.out _ h2
    have H1 := Lib.hid h1
    have H2 := Lib.hid h2
    have Hx4 := Lib.hid x4
    clear h1 h2 x4
    have hk1 : (k : Int) ≤ 140737488355328 := by have := Hlen.out; omega
    by_cases hlt : k < ws.length
    · obtain ⟨e, he⟩ : ∃ e, ws[k]? = some e := ⟨_, List.getElem?_eq_getElem hlt⟩
      obtain ⟨xb, xc, hxe⟩ := HR.out e (List.mem_of_getElem? he)
      obtain ⟨y1, y2⟩ := HC.out wr k e H2.out he
      obtain ⟨av, ev, el⟩ := e
      simp only at hxe
      subst hxe
      simp only at y1 y2
      have hkz : (k : Int) < ws.length := by omega
      have He := Lib.hid he
      clear he
      obtain ⟨wz, hwz⟩ : ∃ wz, wz = wr.alloc (.cells #[.int .i64 av, .slice (some ⟨xb, 0, none⟩) 512 xc] 99) := ⟨_, rfl⟩
      have hbz : Below wr.heap.size wr wz := by rw [hwz]; exact (Below.refl _ _).alloc (Nat.le_refl _) _
      have hnew : wz.heap[wr.heap.size]? = some (.cells #[.int .i64 av, .slice (some ⟨xb, 0, none⟩) 512 xc] 99 (0, 0)) := by rw [hwz]; exact heap_alloc_new _ _
      have hmz : SecMap wz bs' (mlays f (ws.take k)) := H1.out.below hbz
      obtain ⟨o, hrun, hs⟩ := hmz.updateAt av (.slice (some ⟨xb, 0, none⟩) 512 xc)
      obtain ⟨wb1, hwb1⟩ : ∃ wb1, wb1 = putObj wz bs' o := ⟨_, rfl⟩
      rw [← hwb1] at hs
      have hxz : Ext (fun j => j = bs') wr wz := Ext.of_below hbz
      have hxb : Ext (fun j => j = bs') w wb1 := (H2.out.trans hxz).trans (by rw [hwb1]; exact Ext.of_grown (putObj_grown wz bs' o) (fun k e => by cases e; rfl))
      have hnb : wr.heap.size ≠ bs' := fun e => by have := H1.out.lt; omega
      obtain ⟨z1, z2, z3, _⟩ := HX.out _ (H2.out.trans hxz)
      obtain ⟨u1, u2, u3, _⟩ := HX.out _ hxb
      have z4 : wz.cell? ⟨wr.heap.size, 0, none⟩ = some (.int .i64 av) := cell_of_row _ _ 0 _ _ _ hnew
      have z5 : wz.cell? ⟨wr.heap.size, 1, none⟩ = some (.slice (some ⟨xb, 0, none⟩) 512 xc) := cell_of_row _ _ 1 _ _ _ hnew
      have u4 : wb1.cell? ⟨wr.heap.size, 0, none⟩ = some (.int .i64 av) := by rw [hwb1, putObj_cell _ _ _ _ hnb]; exact z4
      have u5 : wb1.cell? ⟨wr.heap.size, 1, none⟩ = some (.slice (some ⟨xb, 0, none⟩) 512 xc) := by rw [hwb1, putObj_cell _ _ _ _ hnb]; exact z5
      have hmu : (Instr.mapUpdate 65 (.map (some bs')) (.int .i64 av) (.slice (some ⟨xb, 0, none⟩) 512 xc)).run Tryd.prog wz.drew = .ok () wb1.drew := by rw [hwb1]; exact hrun wz.drew rfl
      have Hs : Hid (SecMap wb1.drew bs' (mlays f (ws.take (k + 1)))) := Lib.hid (by rw [mlays_take f ws k _ He.out]; exact hs)
      have Hxb := Lib.hid hxb
      have Hwz := Lib.hid hwz
      clear hrun hs hwb1 hxz hxb hnb hnew hmz hbz hwz
      go_wp2_with fail
      rw [← Hwz.out]
      go_region_held3 (fun w' => w'.cell? ⟨pd, 0, none⟩ = some (.pointer (some ⟨p, 0, none⟩)) ∧ w'.cell? ⟨p, 0, none⟩ = some (.pointer (some ⟨g, 0, none⟩)) ∧ w'.cell? ⟨g, 1, none⟩ = some (.map (some bs')) ∧ w'.cell? ⟨wr.heap.size, 0, none⟩ = some (.int .i64 av) ∧ w'.cell? ⟨wr.heap.size, 1, none⟩ = some (.slice (some ⟨xb, 0, none⟩) 512 xc)) (first | exact ⟨z1, z2, z3, z4, z5⟩ | exact ⟨u1, u2, u3, u4, u5⟩) (fail)
      go_wp2_with fail
      go_roundw
      case rel => exact ⟨k + 1, by omega, by go_num, Hs.out, Hxb.out.drew⟩
      case measure => simp [intOf]; omega
    · have hge : ¬ (k : Int) < ws.length := by omega
      have x5 := Hx4.out.cells.2.2.2.1
      have f5 := Hx4.out.free 3
      have e : ws.take k = ws := List.take_of_length_le (by omega)
      rw [e] at H1
      clear e
      go_wp2_with fail
      go_end0
      refine ⟨rfl, Hx4.out.set3 _, H1.out.block (heap_setCell_other _ _ _ _ (fun e => Hgs.out e.symm)), (H2.out.mono (fun k _ e => .inr e)).setCell _ (fun _ => .inl rfl) _⟩

theorem sclosure_nil (pd p g : Nat) (many : Int) (bs' bn : Nat) (armed : Bool) (acts : Int) (done down : Bool) (w : World)
    (hd : w.heap[pd]? = some (.cells #[.pointer (some ⟨p, 0, none⟩)] 54 (0, 0)))
    (hp : w.heap[p]? = some (.cells #[.pointer (some ⟨g, 0, none⟩)] 95 (0, 0))) (h : BoxAt w g many bs' bn (.slice none 0 0) armed acts done down) :
    Calls Tryd.prog 72 #[.pointer (some ⟨pd, 0, none⟩)] w fun r w' => r = .returned (.tuple #[]) ∧ w' = w.setCell ⟨g, 3, none⟩ (.slice none 0 0) := by
  have hd0 : w.cell? ⟨pd, 0, none⟩ = some (.pointer (some ⟨p, 0, none⟩)) := cell_of_row _ _ 0 _ _ _ hd
  have hp0 : w.cell? ⟨p, 0, none⟩ = some (.pointer (some ⟨g, 0, none⟩)) := cell_of_row _ _ 0 _ _ _ hp
  obtain ⟨c0, c1, c2, c3, c4, c5, c6, c7⟩ := h.cells
  have f3 := h.free 3
  clear hd hp h
  go_enter Tryd.func72, Tryd.ntmps72
  go_wp2_with fail
  go_loopw [11] (fun i wr => i = .int .i64 0 ∧ w = wr) (fun i _ => 0)
  case atStart => exact ⟨rfl, rfl⟩
  case round =>
    obtain ⟨rfl, rfl⟩ := hrel
    go_wp2_with fail
    go_end0
    exact ⟨rfl, rfl⟩

theorem bsync_down (p g : Nat) (t : TypeId) (many : Int) (bs bn : Nat) (W : Value) (armed : Bool) (acts : Int) (done : Bool) (w : World) (hp : PtrAt w p g t) (h : BoxAt w g many bs bn W armed acts done true) :
    Calls Tryd.prog 52 #[.pointer (some ⟨p, 0, none⟩)] w fun r w' => r = .returned (.iface 37 (.int .i64 5)) ∧ Below w.heap.size w w' := by
  have h0 : w.cell? ⟨p, 0, none⟩ = some (.pointer (some ⟨g, 0, none⟩)) := cell_of_row _ _ 0 _ _ _ hp
  obtain ⟨c0, c1, c2, c3, c4, c5, c6, c7⟩ := h.cells
  have B2 : Below w.heap.size w (w.alloc (.cells #[.pointer (some ⟨p, 0, none⟩)] 54)) := (Below.refl _ _).alloc (Nat.le_refl _) _
  have e0 : (w.alloc (.cells #[.pointer (some ⟨p, 0, none⟩)] 54)).cell? ⟨p, 0, none⟩ = some (.pointer (some ⟨g, 0, none⟩)) := cell_below B2 h0
  have e7 : (w.alloc (.cells #[.pointer (some ⟨p, 0, none⟩)] 54)).cell? ⟨g, 7, none⟩ = some (.bool true) := cell_below B2 c7
  have HB2 := Lib.hid B2
  clear hp h B2 h0 c0 c1 c2 c3 c4 c5 c6 c7
  go_enter Tryd.func52, Tryd.ntmps52
  go_wp2
  go_ret
  exact ⟨rfl, HB2.out⟩

theorem bsync_in (p g : Nat) (t : TypeId) (many : Int) (bs' bn : Nat) (W : Value) (armed : Bool) (acts : Int) (done : Bool) (w : World) (hp : PtrAt w p g t) (h : BoxAt w g many bs' bn W armed acts done false) (R : Value → World → Prop)
    (CA : Hid (∀ (wx : World) (pd : Nat), Below w.heap.size w wx → wx.heap[pd]? = some (.cells #[.pointer (some ⟨p, 0, none⟩)] 54 (0, 0)) →
      Calls Tryd.prog 71 #[.pointer (some ⟨g, 0, none⟩), .func (.func 72) #[] #[.pointer (some ⟨pd, 0, none⟩)]] wx fun r w' => ∃ e, r = .returned e ∧ R e w')) :
    Calls Tryd.prog 52 #[.pointer (some ⟨p, 0, none⟩)] w fun r w' => ∃ e, r = .returned e ∧ R e w' := by
  have h0 : w.cell? ⟨p, 0, none⟩ = some (.pointer (some ⟨g, 0, none⟩)) := cell_of_row _ _ 0 _ _ _ hp
  obtain ⟨c0, c1, c2, c3, c4, c5, c6, c7⟩ := h.cells
  have hmf : ∀ (fn : Fn) (first cap : Array Value) (w : World), (Instr.makeFunc fn first cap).run Tryd.prog w = .ok (.func fn first cap) w := fun _ _ _ _ => rfl
  have B2 : Below w.heap.size w (w.alloc (.cells #[.pointer (some ⟨p, 0, none⟩)] 54)) := (Below.refl _ _).alloc (Nat.le_refl _) _
  have e0 : (w.alloc (.cells #[.pointer (some ⟨p, 0, none⟩)] 54)).cell? ⟨p, 0, none⟩ = some (.pointer (some ⟨g, 0, none⟩)) := cell_below B2 h0
  have e7 : (w.alloc (.cells #[.pointer (some ⟨p, 0, none⟩)] 54)).cell? ⟨g, 7, none⟩ = some (.bool false) := cell_below B2 c7
  have HB2 := Lib.hid B2
  clear hp h B2 h0 c0 c1 c2 c3 c4 c5 c6 c7
  go_enter Tryd.func52, Tryd.ntmps52
  go_wp2_with (go_at_call 71; (refine (CA.out _ w.heap.size HB2.out (heap_alloc_new w _)).mono ?_); rintro r w9 ⟨e, rfl, hr⟩; have HR := Lib.hid hr; clear hr)
  go_ret
  exact ⟨e, rfl, HR.out⟩

end Go.Proofs.YteljopjaolegaaaDoor

/-
  CONTRACTS: package block: Sync, of a disk in memory; Arm, Down, Read, Sector, Disk, New.
-/
namespace Go.Proofs.YteljopjaolegaaaDoor
open Go.RowKit
set_option maxRecDepth 100000
set_option linter.unusedVariables false
set_option linter.unusedSimpArgs false

theorem sync_falls (d : DiskV) (hd : d.down = false) (ha : d.armed = true) (hz : d.acts = 0) (hdn : d.done = false) : d.sync = ({ d with down := true }, 5) := by
  rw [DiskV.sync, if_neg (by rw [hd]; decide)]
  simp [DiskV.carried, DiskV.told, DiskV.acted, DiskV.falls, ha, hz, hdn]
theorem sync_last (d : DiskV) (hd : d.down = false) (ha : d.armed = true) (hz : d.acts = 0) (hdn : d.done = true) : d.sync = ({ d with down := true, safe := lays d.safe d.wait, wait := [] }, 5) := by
  rw [DiskV.sync, if_neg (by rw [hd]; decide)]
  simp [DiskV.carried, DiskV.told, DiskV.acted, DiskV.falls, ha, hz, hdn]
theorem sync_counts (d : DiskV) (hd : d.down = false) (ha : d.armed = true) (hz : ¬ d.acts = 0) : d.sync = ({ d with acts := d.acts - 1, safe := lays d.safe d.wait, wait := [] }, 0) := by
  rw [DiskV.sync, if_neg (by rw [hd]; decide)]
  simp [DiskV.carried, DiskV.told, DiskV.acted, DiskV.falls, ha, hz]
theorem sync_free (d : DiskV) (hd : d.down = false) (ha : d.armed = false) : d.sync = ({ d with safe := lays d.safe d.wait, wait := [] }, 0) := by
  rw [DiskV.sync, if_neg (by rw [hd]; decide)]
  simp [DiskV.carried, DiskV.told, DiskV.acted, DiskV.falls, ha]

/-- What the closure of Sync leaves. -/
def Synced (g : Nat) (many : Int) (bs' bn : Nat) (armed : Bool) (acts : Int) (done down : Bool) (f : Int → Option Value) (w w' : World) : Prop :=
  BoxAt w' g many bs' bn (.slice none 0 0) armed acts done down ∧ SecMap w' bs' f ∧ Ext (fun k => k = g ∨ k = bs') w w'

theorem sclosure (pd p g : Nat) (W : Value) (many : Int) (bs' bn : Nat) (armed : Bool) (acts : Int) (done down : Bool) (f : Int → Option Value) (ws : List (Int × Value × List UInt8)) (w : World)
    (hd : w.heap[pd]? = some (.cells #[.pointer (some ⟨p, 0, none⟩)] 54 (0, 0))) (hp : PtrAt w p g 95) (h : BoxAt w g many bs' bn W armed acts done down) (hm : SecMap w bs' f)
    (ho : w.ownsRow 0 99 2 W ws.length (wcells ws)) (hrows : ∀ e ∈ ws, ∃ xb xc, e.2.1 = .slice (some ⟨xb, 0, none⟩) 512 xc) (hlen : ws.length ≤ 140737488355328) :
    Calls Tryd.prog 72 #[.pointer (some ⟨pd, 0, none⟩)] w fun r w' => r = .returned (.tuple #[]) ∧ Synced g many bs' bn armed acts done down (mlays f ws) w w' := by
  rcases ho.2 with ⟨hW, h0⟩ | ⟨wb, cap, cur, hW, _⟩
  · subst hW
    have : ws = [] := List.eq_nil_of_length_eq_zero h0
    subst this
    refine (sclosure_nil pd p g many bs' bn armed acts done down w hd hp h).mono ?_
    rintro r w' ⟨rfl, rfl⟩
    have hgs : g ≠ bs' := fun e => by
      obtain ⟨es, cl, h1, _⟩ := hm
      unfold BoxAt at h; rw [e, h1] at h; cases h
    exact ⟨rfl, h.set3 _, hm.block (heap_setCell_other _ _ _ _ (fun e => hgs e.symm)), (Ext.refl _ _).setCell _ (fun _ => .inl rfl) _⟩
  · subst hW
    exact sclosure_any pd p g wb cap many bs' bn armed acts done down f ws w hd hp h hm ho hrows hlen

theorem DiskIn.synced {T : Nat → Prop} {w wy w1 w2 : World} {g : Nat} {d d' : DiskV} {bs' bn : Nat} {W : Value} {fs fn : Int → Option Value} {ws : List (Int × Value × List UInt8)} (h : DiskIn T w g d bs' bn W fs fn ws)
    {many : Int} {armed : Bool} {acts : Int} {done down : Bool} (hy : Ext (fun k => k = g) w wy) (hw : Synced g many bs' bn armed acts done down (mlays fs ws) wy w1) (h2 : w1.grownBy w2 (some g))
    (box : BoxAt w1 g many bs' bn (.slice none 0 0) armed acts done down → BoxAt w2 g d'.many bs' bn (.slice none 0 0) d'.armed d'.acts d'.done d'.down)
    (e1 : d'.safe = lays d.safe d.wait) (e2 : d'.wait = []) (e3 : d'.many = d.many) (e4 : (d'.acts : Int) ≤ 9223372036854775807) : DiskGo T w g w2 d' := by
  obtain ⟨k1, k2, k3⟩ := hw
  have hgs := h.gs
  have hx : Ext (fun k => k = g ∨ k = bs' ∨ k = bn ∨ W.ownBlock = some k) w w2 :=
    ((hy.mono (T := fun k => k = g ∨ k = bs' ∨ k = bn ∨ W.ownBlock = some k) (fun k _ e => .inl e)).trans (k3.mono (fun k _ e => by rcases e with e | e; exact .inl e; exact .inr (.inl e)))).trans (Ext.of_grown h2 (fun k e => by cases e; exact .inl rfl))
  have hbn : w2.heap[bn]? = w.heap[bn]? := by
    have hb := h.inside bn h.tn
    have hb2 : bn < wy.heap.size := Nat.lt_of_lt_of_le hb hy.size
    rw [h2.block bn (Nat.lt_of_lt_of_le hb2 k3.size) (fun e => by cases e; exact hgs.2 rfl), k3.block bn hb2 (fun e => by
      rcases e with e | e
      · exact hgs.2 e.symm
      · exact h.ne e.symm), hy.block bn hb (fun e => hgs.2 e.symm)]
  refine h.after hx ⟨by rw [e1]; exact lays_length _ h.fit.1 _ (fun p hp => (h.fit.2 p hp).1), by rw [e2]; intro p hp; cases hp⟩ e4 e3 (.inl h.tn) h.ne (W' := .slice none 0 0) (ws' := []) (fun k hk => by cases hk) (box k1) (k2.block (h2.block bs' k2.lt (fun e => by cases e; exact hgs.1 rfl))) (h.now.block hbn) (World.ownsRow_nil _ _ _ _)
    (by rw [e2]; rfl) (fun e he => by cases he) (fun i => ?_) (fun i => ?_)
  · rw [e1, h.wait]
    exact SecIn.of (mlays_sec fs d.safe ws h.safes h.rows i)
  · have : d'.now = d.now := by rw [DiskV.now, e1, e2]; rfl
    rw [this]
    exact SecIn.of (h.nows i)

set_option maxHeartbeats 1000000 in
/-- Sync. -/
theorem bsync {T : Nat → Prop} {w : World} {g : Nat} {d : DiskV} (hd : DiskIs T w g d) (p : Nat) (hp : PtrAt w p g 95) (hlen : d.wait.length ≤ 140737488355328) :
    Calls Tryd.prog 52 #[.pointer (some ⟨p, 0, none⟩)] w fun r w' => r = .returned (errV d.sync.2) ∧ DiskGo T w g w' d.sync.1 := by
  obtain ⟨bs', bn, W, fs, fn, ws, h⟩ := id hd
  have hbx := h.box
  by_cases hdown : d.down = true
  · have e : d.sync = (d, 5) := by rw [DiskV.sync, if_pos hdown]
    rw [hdown] at hbx
    rw [e]
    refine (bsync_down p g _ _ _ _ _ _ _ _ w hp hbx).mono ?_
    rintro r w' ⟨rfl, hB⟩
    exact ⟨rfl, DiskGo.of_below hd hB⟩
  have hdown : d.down = false := by simpa using hdown
  rw [hdown] at hbx
  have hwl : ws.length ≤ 140737488355328 := by rw [h.wait, List.length_map] at hlen; exact hlen
  have hgl : g < w.heap.size := h.inside g h.tg
  have hforms : ∀ e ∈ ws, ∃ xb xc, e.2.1 = .slice (some ⟨xb, 0, none⟩) 512 xc := fun e he => by
    obtain ⟨b, rest, c, h1, _⟩ := h.rows e he
    exact ⟨b, c, h1⟩
  have clo : ∀ (wx wy : World) (pd : Nat) (acts' : Int), Below w.heap.size w wx → wx.heap[pd]? = some (.cells #[.pointer (some ⟨p, 0, none⟩)] 54 (0, 0)) →
      (∀ k, k < wx.heap.size → k ≠ g → wy.heap[k]? = wx.heap[k]?) → BoxAt wy g d.many bs' bn W d.armed acts' d.done false →
      Calls Tryd.prog 72 #[.pointer (some ⟨pd, 0, none⟩)] wy fun r w' => r = .returned (.tuple #[]) ∧ Synced g d.many bs' bn d.armed acts' d.done false (mlays fs ws) wy w' := by
    intro wx wy pd acts' hB hx2 hy hbY
    have hbX : BoxAt wx g d.many bs' bn W d.armed d.acts d.done false := (hB.block g hgl).trans hbx
    have nd := ne_box hbX hx2 (by decide)
    have np := ne_box hbx hp (by decide)
    have hgs := h.gs
    have hpl := lt_block hp
    have hsl := h.safe.lt
    refine sclosure pd p g W d.many bs' bn d.armed acts' d.done false fs ws wy ((hy pd (lt_block hx2) nd).trans hx2) ?_ hbY ?_ ?_ hforms hwl
    · show wy.heap[p]? = _
      rw [hy p (Nat.lt_of_lt_of_le hpl hB.size) np, hB.block p hpl]; exact hp
    · exact h.safe.block (by rw [hy bs' (Nat.lt_of_lt_of_le hsl hB.size) (Ne.symm hgs.1), hB.block bs' hsl])
    · refine own_keep h.row (fun k hk => ?_)
      have hkl := h.inside k (h.tw k hk)
      rw [hy k (Nat.lt_of_lt_of_le hkl hB.size) (fun e => h.wne.1 (by rw [← e]; exact hk)), hB.block k hkl]
  have ext0 : ∀ wx : World, Below w.heap.size w wx → Ext (fun k => k = g) w wx := fun wx hB => Ext.of_below hB
  have setE : ∀ (wx : World) (j : Nat) (u : Value), Ext (fun k => k = g) w wx → Ext (fun k => k = g) w (wx.setCell ⟨g, j, none⟩ u) := fun wx j u hE => hE.trans (Ext.of_grown (grown_set wx g j u) (fun k e => by cases e; rfl))
  by_cases ha : d.armed = true
  · by_cases hz : d.acts = 0
    · by_cases hdn : d.done = true
      · rw [sync_last d hdown ha hz hdn]
        refine (bsync_in p g _ _ _ _ _ _ _ _ w hp hbx (fun e w' => e = errV 5 ∧ DiskGo T w g w' { d with down := true, safe := lays d.safe d.wait, wait := [] }) (Lib.hid fun wx pd hB k2 => ?_)).mono ?_
        · have hbX : BoxAt wx g d.many bs' bn W d.armed d.acts d.done false := (hB.block g hgl).trans hbx
          refine (act_sync_last pd g _ _ _ _ _ _ _ _ wx hbX (Synced g d.many bs' bn d.armed d.acts d.done false (mlays fs ws) wx) ha (by rw [hz]; rfl) hdn (Lib.hid (clo wx wx pd _ hB k2 (fun _ _ _ => rfl) hbX)) (Lib.hid fun wy hw => ?_)).mono ?_
          · obtain ⟨q1, _⟩ := hw
            obtain ⟨_, _, _, _, _, _, _, q8⟩ := q1.cells
            exact ⟨by rw [q8]; rfl, q1.free 7⟩
          · rintro r w' ⟨rfl, w1, hw, rfl⟩
            exact ⟨_, rfl, rfl, h.synced (ext0 wx hB) hw (grown_set w1 g 7 _) (fun q => q.set7 true) rfl rfl rfl h.acts⟩
        · rintro r w' ⟨e, rfl, rfl, hg⟩
          exact ⟨rfl, hg⟩
      · have hdn : d.done = false := by simpa using hdn
        rw [sync_falls d hdown ha hz hdn]
        refine (bsync_in p g _ _ _ _ _ _ _ _ w hp hbx (fun e w' => e = errV 5 ∧ DiskGo T w g w' { d with down := true }) (Lib.hid fun wx pd hB k2 => ?_)).mono ?_
        · have hbX : BoxAt wx g d.many bs' bn W d.armed d.acts d.done false := (hB.block g hgl).trans hbx
          refine (act_sync_lost pd g _ _ _ _ _ _ _ _ wx hbX ha (by rw [hz]; rfl) hdn).mono ?_
          rintro r w' ⟨rfl, rfl⟩
          exact ⟨_, rfl, rfl, h.boxed (setE wx 7 _ (ext0 wx hB)) (hbX.set7 true) rfl rfl rfl h.acts⟩
        · rintro r w' ⟨e, rfl, rfl, hg⟩
          exact ⟨rfl, hg⟩
    · rw [sync_counts d hdown ha hz]
      refine (bsync_in p g _ _ _ _ _ _ _ _ w hp hbx (fun e w' => e = errV 0 ∧ DiskGo T w g w' { d with acts := d.acts - 1, safe := lays d.safe d.wait, wait := [] }) (Lib.hid fun wx pd hB k2 => ?_)).mono ?_
      · have hbX : BoxAt wx g d.many bs' bn W d.armed d.acts d.done false := (hB.block g hgl).trans hbx
        have hac := h.acts
        refine (act_sync_counts pd g _ _ _ _ _ _ _ _ wx hbX (Synced g d.many bs' bn d.armed ((d.acts : Int) - 1) d.done false (mlays fs ws) (wx.setCell ⟨g, 5, none⟩ (.int .i64 ((d.acts : Int) - 1)))) ha (by omega) (by omega) (by omega)
          (Lib.hid (clo wx _ pd _ hB k2 (fun k _ hk => heap_setCell_other _ _ _ _ (fun e => hk e)) (hbX.set5 _)))).mono ?_
        rintro r w' ⟨rfl, hw⟩
        refine ⟨_, rfl, rfl, h.synced (setE wx 5 _ (ext0 wx hB)) hw (World.grownBy.refl _ _) (fun q => ?_) rfl rfl rfl ?_⟩
        · have e : ((d.acts - 1 : Nat) : Int) = (d.acts : Int) - 1 := by omega
          show BoxAt w' g d.many bs' bn _ d.armed ((d.acts - 1 : Nat) : Int) d.done d.down
          rw [e, hdown]; exact q
        · show ((d.acts - 1 : Nat) : Int) ≤ _
          omega
      · rintro r w' ⟨e, rfl, rfl, hg⟩
        exact ⟨rfl, hg⟩
  · have ha : d.armed = false := by simpa using ha
    rw [sync_free d hdown ha]
    refine (bsync_in p g _ _ _ _ _ _ _ _ w hp hbx (fun e w' => e = errV 0 ∧ DiskGo T w g w' { d with safe := lays d.safe d.wait, wait := [] }) (Lib.hid fun wx pd hB k2 => ?_)).mono ?_
    · have hbX : BoxAt wx g d.many bs' bn W d.armed d.acts d.done false := (hB.block g hgl).trans hbx
      refine (act_sync_free pd g _ _ _ _ _ _ _ _ wx hbX (Synced g d.many bs' bn d.armed d.acts d.done false (mlays fs ws) wx) ha (Lib.hid (clo wx wx pd _ hB k2 (fun _ _ _ => rfl) hbX))).mono ?_
      rintro r w' ⟨rfl, hw⟩
      exact ⟨_, rfl, rfl, h.synced (ext0 wx hB) hw (World.grownBy.refl _ _) (fun q => by show BoxAt w' g d.many bs' bn _ d.armed d.acts d.done d.down; rw [hdown]; exact q) rfl rfl rfl h.acts⟩
    · rintro r w' ⟨e, rfl, rfl, hg⟩
      exact ⟨rfl, hg⟩

/-! ### What reads, and the switch -/
theorem bread {T : Nat → Prop} {w : World} {g : Nat} {d : DiskV} (hd : DiskIs T w g d) (p : Nat) (hp : PtrAt w p g 95) (v : Int) :
    Calls Tryd.prog 73 #[.pointer (some ⟨p, 0, none⟩), .int .i64 v] w fun r w' => Below w.heap.size w w' ∧
      (((d.read v).2 ≠ 0 ∧ r = .returned (.tuple #[.slice none 0 0, errV (d.read v).2])) ∨ ((d.read v).2 = 0 ∧ (d.read v).1.length = 512 ∧ r = .returned (.tuple #[.slice (some ⟨w.heap.size, 0, none⟩) 512 512, .nilIface]) ∧ w'.heap[w.heap.size]? = some (.cells (bs (d.read v).1).toArray 5 (0, 0)))) := by
  obtain ⟨bs', bn, W, fs, fn, ws, h⟩ := id hd
  have hbx := h.box
  by_cases hdown : d.down = true
  · have e : d.read v = ([], 5) := by rw [DiskV.read, if_pos hdown]
    rw [hdown] at hbx
    rw [e]
    refine (bread_down p g _ v _ _ _ _ _ _ _ w hp hbx).mono ?_
    rintro r w' ⟨rfl, rfl⟩
    exact ⟨Below.refl _ _, .inl ⟨by decide, rfl⟩⟩
  have hdown : d.down = false := by simpa using hdown
  rw [hdown] at hbx
  by_cases hv : d.has v
  · have e : d.read v = (d.now v, 0) := by rw [DiskV.read, if_neg (by rw [hdown]; decide), if_neg (not_not_intro hv)]
    rw [e]
    have hl := h.fit.now v
    obtain ⟨A, n, c, x, k1, k2, k3, k4⟩ := (h.nows v).look hl
    refine (bread_in p g _ v _ _ _ _ _ _ _ fn A n c x w hp hbx hv h.now k1 k2 k3).mono ?_
    rintro r w' ⟨rfl, h2, h3⟩
    rw [k4] at h2
    exact ⟨h3, .inr ⟨rfl, hl, rfl, h2⟩⟩
  · have e : d.read v = ([], 1) := by rw [DiskV.read, if_neg (by rw [hdown]; decide), if_pos hv]
    rw [e]
    refine (bread_out p g _ v _ _ _ _ _ _ _ w hp hbx hv).mono ?_
    rintro r w' ⟨rfl, rfl⟩
    exact ⟨Below.refl _ _, .inl ⟨by decide, rfl⟩⟩

theorem bsector {T : Nat → Prop} {w : World} {g : Nat} {d : DiskV} (hd : DiskIs T w g d) (p : Nat) (t : TypeId) (hp : PtrAt w p g t) (v : Int) (hv : d.has v) :
    Calls Tryd.prog 13 #[.pointer (some ⟨p, 0, none⟩), .int .i64 v] w fun r w' => Below w.heap.size w w' ∧ (d.now v).length = 512 ∧ r = .returned (.slice (some ⟨w.heap.size, 0, none⟩) 512 512) ∧ w'.heap[w.heap.size]? = some (.cells (bs (d.now v)).toArray 5 (0, 0)) := by
  obtain ⟨bs', bn, W, fs, fn, ws, h⟩ := id hd
  have hl := h.fit.now v
  obtain ⟨A, n, c, x, k1, k2, k3, k4⟩ := (h.nows v).look hl
  refine (bsector_in p g _ v _ _ _ _ _ _ _ _ fn A n c x w hp h.box hv h.now k1 k2 k3).mono ?_
  rintro r w' ⟨rfl, h2, h3⟩
  rw [k4] at h2
  exact ⟨h3, hl, rfl, h2⟩

theorem bsectors {T : Nat → Prop} {w : World} {g : Nat} {d : DiskV} (hd : DiskIs T w g d) (p : Nat) (t : TypeId) (hp : PtrAt w p g t) :
    Calls Tryd.prog 69 #[.pointer (some ⟨p, 0, none⟩)] w fun r w' => r = .returned (.int .i64 d.many) ∧ w = w' := by
  obtain ⟨bs', bn, W, fs, fn, ws, h⟩ := id hd
  exact sectors_any p g _ _ _ _ _ _ _ _ _ w hp h.box

theorem barm {T : Nat → Prop} {w : World} {g : Nat} {d : DiskV} (hd : DiskIs T w g d) (p : Nat) (t : TypeId) (hp : PtrAt w p g t) (ht : t ≠ 68) (v : Int) (b : Bool) (hv : v ≤ 9223372036854775807) :
    Calls Tryd.prog 28 #[.pointer (some ⟨p, 0, none⟩), .int .i64 v, .bool b] w fun r w' => r = .returned (.tuple #[]) ∧ DiskGo T w g w' (d.arm v b) := by
  obtain ⟨bs', bn, W, fs, fn, ws, h⟩ := id hd
  refine (arm_any p g _ v b _ _ _ _ _ _ _ _ w hp h.box (ne_box h.box hp ht)).mono ?_
  rintro r w' ⟨h0, h1, h2, h3⟩
  have e : ((v.toNat : Nat) : Int) = max v 0 := by omega
  refine ⟨h0, h.boxed (d' := d.arm v b) (Ext.of_grown h2 (fun k e => by cases e; rfl)) ?_ rfl rfl rfl ?_⟩
  · show BoxAt w' g d.many bs' bn W true ((v.toNat : Nat) : Int) b d.down
    rw [e]; exact h1
  · show ((v.toNat : Nat) : Int) ≤ _
    omega

theorem bnew (n : Int) (w : World) (hn : n ≤ 9223372036854775807) : Calls Tryd.prog 10 #[.int .i64 n] w fun r w' => ∃ h g T, r = .returned (.pointer (some ⟨h, 0, none⟩)) ∧ PtrAt w' h g 70 ∧ DiskIs T w' g (DiskV.new n) ∧ (∀ k, T k → w.heap.size ≤ k) ∧ ¬ T h ∧ w.heap.size ≤ h ∧ Below w.heap.size w w' := by
  refine (new_any n w).mono ?_
  rintro r w' ⟨rfl, hw⟩
  have hB : Below w.heap.size w w' := by rw [hw]; exact ((((Below.refl _ _).alloc (Nat.le_refl _) _).alloc (by simp) _).alloc (by simp; omega) _).alloc (by simp; omega) _
  have s1 : (w.alloc (.map #[] 0)).heap.size = w.heap.size + 1 := by simp
  have s2 : ((w.alloc (.map #[] 0)).alloc (.map #[] 0)).heap.size = w.heap.size + 2 := by simp
  have hsz : w'.heap.size = w.heap.size + 4 := by rw [hw]; simp
  have b3 : w'.heap[w.heap.size + 3]? = some (.cells #[.pointer (some ⟨w.heap.size + 1 + 1, 0, none⟩)] 70 (0, 0)) := by
    rw [hw]
    have := heap_alloc_new (((w.alloc (.map #[] 0)).alloc (.map #[] 0)).alloc (.cells #[.int .i64 (max n 0), .map (some w.heap.size), .map (some (w.heap.size + 1)), .slice none 0 0, .bool false, .int .i64 0, .bool false, .bool false] 68)) (.cells #[.pointer (some ⟨w.heap.size + 1 + 1, 0, none⟩)] 70)
    simp only [World.size_alloc] at this
    exact this
  have b2 : w'.heap[w.heap.size + 1 + 1]? = some (.cells #[.int .i64 (max n 0), .map (some w.heap.size), .map (some (w.heap.size + 1)), .slice none 0 0, .bool false, .int .i64 0, .bool false, .bool false] 68 (0, 0)) := by
    rw [hw, heap_alloc_old _ _ (by simp)]
    have := heap_alloc_new ((w.alloc (.map #[] 0)).alloc (.map #[] 0)) (.cells #[.int .i64 (max n 0), .map (some w.heap.size), .map (some (w.heap.size + 1)), .slice none 0 0, .bool false, .int .i64 0, .bool false, .bool false] 68)
    simp only [World.size_alloc] at this
    exact this
  have b0 : w'.heap[w.heap.size]? = some (.map #[] 0) := by
    rw [hw, heap_alloc_old _ _ (by simp; omega), heap_alloc_old _ _ (by simp; omega), heap_alloc_old _ _ (by simp)]
    exact heap_alloc_new w _
  have b1 : w'.heap[w.heap.size + 1]? = some (.map #[] 0) := by
    rw [hw, heap_alloc_old _ _ (by simp), heap_alloc_old _ _ (by simp)]
    have := heap_alloc_new (w.alloc (.map #[] 0)) (.map #[] 0)
    simp only [World.size_alloc] at this
    exact this
  have em (b : Nat) (hb : w'.heap[b]? = some (.map #[] 0)) : SecMap w' b (fun _ => none) := ⟨#[], 0, hb, fun e h => by simp at h, fun k => rfl, MapKept.stamped_empty 0⟩
  refine ⟨w.heap.size + 3, w.heap.size + 1 + 1, fun k => w.heap.size ≤ k ∧ k < w.heap.size + 3, rfl, b3, ⟨w.heap.size, w.heap.size + 1, .slice none 0 0, fun _ => none, fun _ => none, [], ?_⟩, fun k hk => hk.1, fun hk => by omega, by omega, hB⟩
  refine ⟨fun k hk => by omega, DiskV.Fit.new n, by show ((0 : Nat) : Int) ≤ _; decide, ?_, ⟨by omega, by omega⟩, ⟨by omega, by omega⟩, ⟨by omega, by omega⟩, fun k hk => (by cases hk), by omega, ?_, em _ b0, em _ b1, World.ownsRow_nil _ _ _ _, rfl, fun e he => (by cases he), fun i => rfl, fun i => rfl⟩
  · show ((n.toNat : Nat) : Int) ≤ _
    omega
  · have e : ((n.toNat : Nat) : Int) = max n 0 := by omega
    show BoxAt w' _ ((n.toNat : Nat) : Int) _ _ _ false 0 false false
    rw [e]; exact b2

theorem bdisk {w : World} {g : Nat} (h : Nat) (t : TypeId) (hp : PtrAt w h g t) : Calls Tryd.prog 25 #[.pointer (some ⟨h, 0, none⟩)] w fun r w' => r = .returned (.pointer (some ⟨w.heap.size, 0, none⟩)) ∧ PtrAt w' w.heap.size g 95 ∧ Below w.heap.size w w' := by
  refine (disk_any h g t w hp).mono ?_
  rintro r w' ⟨rfl, rfl⟩
  exact ⟨rfl, heap_alloc_new w _, (Below.refl _ _).alloc (Nat.le_refl _) _⟩

end Go.Proofs.YteljopjaolegaaaDoor

/-
  CONTRACTS: package block: Crash.
-/
namespace Go.Proofs.YteljopjaolegaaaDoor
open Go.RowKit
set_option maxRecDepth 100000
set_option linter.unusedVariables false
set_option linter.unusedSimpArgs false

/-- Bools that are read. -/
def Bls (w : World) (A : Option Addr) (n : Nat) (l : List Bool) : Prop :=
  l.length = n ∧ n ≤ 9223372036854775807 ∧ ∀ (j : Nat) (b : Bool), l[j]? = some b → ∃ ad, A = some ad ∧ w.cell? (ad.add j) = some (.bool b)
theorem Bls.kept {w w1 : World} {A : Option Addr} {n : Nat} {l : List Bool} (h : Bls w A n l) (hk : ∀ (a : Addr) v, w.cell? a = some v → w1.cell? a = some v) : Bls w1 A n l :=
  ⟨h.1, h.2.1, fun j c hj => by
    obtain ⟨ad, e, hc⟩ := h.2.2 j c hj
    exact ⟨ad, e, hk _ _ hc⟩⟩
theorem SecMap.off {w : World} {b : Nat} {f : Int → Option Value} (h : SecMap w b f) {a : Addr} {v : Value} (hc : w.cell? a = some v) : a.block ≠ b := by
  obtain ⟨es, cl, h1, _⟩ := h
  intro e
  simp [World.cell?, e, h1] at hc

/-- The writes that stay, with their rows. -/
def keptW : List (Int × Value × List UInt8) → List Bool → List (Int × Value × List UInt8)
  | p :: ws, b :: keep => if b then p :: keptW ws keep else keptW ws keep
  | _, _ => []
theorem keptW_map : ∀ (ws : List (Int × Value × List UInt8)) (keep : List Bool), DiskV.kept (ws.map (fun e => (e.1, e.2.2))) keep = (keptW ws keep).map (fun e => (e.1, e.2.2))
  | [], _ => by simp [keptW, DiskV.kept]
  | p :: ws, [] => by simp [keptW, DiskV.kept]
  | p :: ws, b :: keep => by
    simp only [List.map_cons, DiskV.kept, keptW, keptW_map ws keep]
    split <;> rfl
theorem keptW_mem : ∀ (ws : List (Int × Value × List UInt8)) (keep : List Bool) e, e ∈ keptW ws keep → e ∈ ws
  | [], _, e, h => by simp [keptW] at h
  | p :: ws, [], e, h => by simp [keptW] at h
  | p :: ws, b :: keep, e, h => by
    simp only [keptW] at h
    split at h
    · rcases List.mem_cons.mp h with rfl | h
      · exact List.mem_cons_self ..
      · exact List.mem_cons_of_mem _ (keptW_mem ws keep e h)
    · exact List.mem_cons_of_mem _ (keptW_mem ws keep e h)
theorem keptW_take : ∀ (ws : List (Int × Value × List UInt8)) (keep : List Bool) (k : Nat) (e : Int × Value × List UInt8), ws[k]? = some e →
    keptW (ws.take (k + 1)) keep = keptW (ws.take k) keep ++ (if keep[k]? = some true then [e] else [])
  | [], _, k, e, h => by simp at h
  | p :: ws, [], k, e, h => by cases k <;> simp [keptW]
  | p :: ws, b :: keep, 0, e, h => by
    simp only [List.getElem?_cons_zero, Option.some.injEq] at h
    subst h
    cases b <;> simp [keptW]
  | p :: ws, b :: keep, k + 1, e, h => by
    simp only [List.getElem?_cons_succ] at h
    rw [List.take_succ_cons, List.take_succ_cons, List.getElem?_cons_succ]
    simp only [keptW, keptW_take ws keep k e h]
    split <;> simp

section
variable {w : World} {ops : Array Oper} {rest : List Oper} {o : Oper} {a : Act} {Q : Exit → Act → World → Prop}
theorem wpList_range_sec (hg : o.guard = none) (m : Operand) (hop : o.op = Op.range 65 m) (b : Nat) (f : Int → Option Value) (hm : a.eval m = .map (some b)) (h : SecMap w b f)
    (hK : ∀ w' cnt, SecRange w' b w.heap.size f (fun i => (f i).isSome) cnt → w.grownBy w' none → w'.heap.size = w.heap.size + 1 → wpList Tryd.prog ops Q rest (a.put o.dst (.pointer (some ⟨w.heap.size, 0, none⟩))) w') :
    wpList Tryd.prog ops Q (o :: rest) a w := by
  refine wpList_plain hg fun K' hK' => ?_
  obtain ⟨since, cnt, hrun, r1⟩ := h.range
  unfold Oper.wp
  simp [execOp, hop, hm, hrun, Result.andThen]
  exact hK' _ _ (hK _ cnt r1 (World.grownBy_alloc w _ none) (by simp))
theorem wpList_next_sec (hg : o.guard = none) (it : Operand) (hop : o.op = Op.next it false) (b r : Nat) (f : Int → Option Value) (left : Int → Bool) (cnt : Nat) (hit : a.eval it = .pointer (some ⟨r, 0, none⟩)) (h : SecRange w b r f left cnt)
    (hDone : cnt = 0 → (∀ i, left i = false) → wpList Tryd.prog ops Q rest (a.put o.dst (.tuple #[.bool false])) w)
    (hMore : ∀ (i : Int) (v : Value) (w' : World) (cnt' : Nat), left i = true → f i = some v → SecRange w' b r f (fun x => left x && !decide (x = i)) cnt' → cnt' < cnt → w.grownBy w' (some r) → w'.heap.size = w.heap.size →
      (Instr.entry (.pointer (some ⟨r, 0, none⟩))).run Tryd.prog w' = .ok (.tuple #[.int .i64 i, v]) w' → wpList Tryd.prog ops Q rest (a.put o.dst (.tuple #[.bool true, .int .i64 i, v])) w') :
    wpList Tryd.prog ops Q (o :: rest) a w := by
  refine wpList_plain hg fun K' hK' => ?_
  unfold Oper.wp
  rcases h.next o.type with ⟨h0, hl, hrun⟩ | ⟨i, v, w', cnt', hli, hfi, hrun, hrg, hlt, hgr, hsz, hen⟩
  · simp [execOp, hop, hit, hrun, Result.andThen]
    exact hK' _ _ (hDone h0 hl)
  · simp [execOp, hop, hit, hrun, Result.andThen]
    exact hK' _ _ (hMore i v w' cnt' hli hfi hrg hlt hgr hsz hen)
end

set_option maxHeartbeats 4000000 in
theorem crash_any (p g : Nat) (t : TypeId) (A B : Option Addr) (wc kn kc : Nat) (many : Int) (bs' bn : Nat) (armed : Bool) (acts : Int) (done down : Bool) (f : Int → Option Value) (ws : List (Int × Value × List UInt8)) (keep : List Bool) (w : World)
    (hp : PtrAt w p g t) (h : BoxAt w g many bs' bn (.slice A ws.length wc) armed acts done down) (hm : SecMap w bs' f)
    (hA : ∀ k e, ws[k]? = some e → ∃ wb xb xc, A = some ⟨wb, 0, none⟩ ∧ e.2.1 = .slice (some ⟨xb, 0, none⟩) 512 xc ∧ w.cell? ⟨wb, k * 2, none⟩ = some (.int .i64 e.1) ∧ w.cell? ⟨wb, k * 2 + 1, none⟩ = some e.2.1)
    (hk : Bls w B kn keep) (hlen : ws.length ≤ 140737488355328) :
    Calls Tryd.prog 29 #[.pointer (some ⟨p, 0, none⟩), .slice B kn kc] w fun r w' => r = .returned (.tuple #[]) ∧ ∃ bn2, w.heap.size ≤ bn2 ∧ BoxAt w' g many bs' bn2 (.slice none 0 0) false acts done false ∧ SecMap w' bs' (mlays f (keptW ws keep)) ∧ SecMap w' bn2 (mlays f (keptW ws keep)) ∧ Ext (fun k => k = g ∨ k = bs') w w' := by
  have hp0 : w.cell? ⟨p, 0, none⟩ = some (.pointer (some ⟨g, 0, none⟩)) := cell_of_row _ _ 0 _ _ _ hp
  obtain ⟨c0, c1, c2, c3, c4, c5, c6, c7⟩ := h.cells
  have hmm := @run_makeMap Tryd.prog
  have Hlen := Lib.hid hlen
  have HX : Hid (∀ wr, Ext (fun j => j = bs') w wr → wr.cell? ⟨g, 1, none⟩ = some (.map (some bs')) ∧ BoxAt wr g many bs' bn (.slice A ws.length wc) armed acts done down) := Lib.hid (fun wr hx =>
    ⟨hx.cell c1 (hm.off c1), (hx.block g (lt_block h) (fun e => hm.off (a := ⟨g, 1, none⟩) c1 e)).trans h⟩)
  have HC : Hid (∀ wr k e, Ext (fun j => j = bs') w wr → ws[k]? = some e → ∃ wb xb xc, A = some ⟨wb, 0, none⟩ ∧ e.2.1 = .slice (some ⟨xb, 0, none⟩) 512 xc ∧ wr.cell? ⟨wb, k * 2, none⟩ = some (.int .i64 e.1) ∧ wr.cell? ⟨wb, k * 2 + 1, none⟩ = some e.2.1) := Lib.hid (fun wr k e hx he => by
    obtain ⟨wb, xb, xc, e1, e2, g1, g2⟩ := hA k e he
    exact ⟨wb, xb, xc, e1, e2, hx.cell g1 (hm.off g1), hx.cell g2 (hm.off g2)⟩)
  have HK : Hid (∀ wr, Ext (fun j => j = bs') w wr → Bls wr B kn keep) := Lib.hid (fun wr hx => hk.kept (fun a v hc => hx.cell hc (hm.off hc)))
  have HM := Lib.hid hm
  have Hkl := Lib.hid hk.1
  have hkm : (kn : Int) ≤ 9223372036854775807 := by have := hk.2.1; omega
  have Hgl := Lib.hid (lt_block h)
  clear hp h hm hA hk hlen c0 c1 c2 c4 c5 c6 c7
  go_enter Tryd.func29, Tryd.ntmps29
  go_wp2_with fail
  go_loopw [18] (fun i wr => ∃ k : Nat, k ≤ ws.length ∧ i = .int .i64 k ∧ SecMap wr bs' (mlays f (keptW (ws.take k) keep)) ∧ Ext (fun j => j = bs') w wr) (fun i _ => ws.length - (intOf i).toNat)
  case atStart => exact ⟨0, by omega, rfl, by rw [List.take_zero]; simpa [keptW, mlays] using HM.out, Ext.refl _ _⟩
  case round =>
    obtain ⟨k, hk, rfl, h1, h2⟩ := hrel
    obtain ⟨x3, x4⟩ := HX.out _ h2
    have H1 := Lib.hid h1
    have H2 := Lib.hid h2
    have Hx4 := Lib.hid x4
    clear h1 h2 x4
    have hk1 : (k : Int) ≤ 140737488355328 := by have := Hlen.out; omega
    by_cases hlt : k < ws.length
    · obtain ⟨e, he⟩ : ∃ e, ws[k]? = some e := ⟨_, List.getElem?_eq_getElem hlt⟩
      obtain ⟨wb, xb, xc, hwb, hxe, y1, y2⟩ := HC.out wr k e H2.out he
      subst hwb
      obtain ⟨av, ev, el⟩ := e
      simp only at hxe
      subst hxe
      simp only at y1 y2
      have hkz : (k : Int) < ws.length := by omega
      have Hstep := Lib.hid (keptW_take ws keep k _ he)
      clear he
      by_cases hin : k < kn ∧ keep[k]? = some true
      · obtain ⟨hin, hkt⟩ := hin
        obtain ⟨ad, rfl, hkc⟩ := (HK.out wr H2.out).2.2 k true hkt
        have hinz : (k : Int) < kn := by omega
        rw [if_pos hkt] at Hstep
        obtain ⟨wz, hwz⟩ : ∃ wz, wz = (wr.alloc (.cells #[.int .i64 av, .slice (some ⟨xb, 0, none⟩) 512 xc] 99)) := ⟨_, rfl⟩
        have hbz : Below wr.heap.size wr wz := by rw [hwz]; exact (Below.refl _ _).alloc (Nat.le_refl _) _
        have z6 : (wr.alloc (.cells #[.int .i64 av, .slice (some ⟨xb, 0, none⟩) 512 xc] 99)).cell? (ad.add k) = some (.bool true) := by rw [← hwz]; exact cell_below hbz hkc
        have hnew : wz.heap[wr.heap.size]? = some (.cells #[.int .i64 av, .slice (some ⟨xb, 0, none⟩) 512 xc] 99 (0, 0)) := by rw [hwz]; exact heap_alloc_new _ _
        have hmz : SecMap wz bs' (mlays f (keptW (ws.take k) keep)) := H1.out.below hbz
        obtain ⟨o, hrun, hs⟩ := hmz.updateAt av (.slice (some ⟨xb, 0, none⟩) 512 xc)
        obtain ⟨wb1, hwb1⟩ : ∃ wb1, wb1 = putObj wz bs' o := ⟨_, rfl⟩
        rw [← hwb1] at hs
        have hxz : Ext (fun j => j = bs') wr wz := Ext.of_below hbz
        have hxb : Ext (fun j => j = bs') w wb1 := (H2.out.trans hxz).trans (by rw [hwb1]; exact Ext.of_grown (putObj_grown wz bs' o) (fun k e => by cases e; rfl))
        have hnb : wr.heap.size ≠ bs' := fun e => by have := H1.out.lt; omega
        have z3 := (HX.out _ (H2.out.trans hxz)).1
        have u3 := (HX.out _ hxb).1
        have z4 : wz.cell? ⟨wr.heap.size, 0, none⟩ = some (.int .i64 av) := cell_of_row _ _ 0 _ _ _ hnew
        have z5 : wz.cell? ⟨wr.heap.size, 1, none⟩ = some (.slice (some ⟨xb, 0, none⟩) 512 xc) := cell_of_row _ _ 1 _ _ _ hnew
        have u4 : wb1.cell? ⟨wr.heap.size, 0, none⟩ = some (.int .i64 av) := by rw [hwb1, putObj_cell _ _ _ _ hnb]; exact z4
        have u5 : wb1.cell? ⟨wr.heap.size, 1, none⟩ = some (.slice (some ⟨xb, 0, none⟩) 512 xc) := by rw [hwb1, putObj_cell _ _ _ _ hnb]; exact z5
        have hmu : (Instr.mapUpdate 65 (.map (some bs')) (.int .i64 av) (.slice (some ⟨xb, 0, none⟩) 512 xc)).run Tryd.prog wz.drew = .ok () wb1.drew := by rw [hwb1]; exact hrun wz.drew rfl
        have Hs : Hid (SecMap wb1.drew bs' (mlays f (keptW (ws.take (k + 1)) keep))) := Lib.hid (by rw [Hstep.out, mlays_snoc]; exact hs)
        have Hxb := Lib.hid hxb
        have Hwz := Lib.hid hwz
        clear hrun hs hwb1 hxz hxb hnb hnew hmz hbz hwz hkc hkt hin
        go_wp2_with fail
        rw [← Hwz.out]
        go_region_held3 (fun w' => w'.cell? ⟨g, 1, none⟩ = some (.map (some bs')) ∧ w'.cell? ⟨wr.heap.size, 0, none⟩ = some (.int .i64 av) ∧ w'.cell? ⟨wr.heap.size, 1, none⟩ = some (.slice (some ⟨xb, 0, none⟩) 512 xc)) (first | exact ⟨z3, z4, z5⟩ | exact ⟨u3, u4, u5⟩) (fail)
        go_wp2_with fail
        go_roundw
        case rel => exact ⟨k + 1, by omega, by go_num, Hs.out, Hxb.out.drew⟩
        case measure => simp [intOf]; omega
      · have hne : ¬ keep[k]? = some true := fun e => hin ⟨by have := (List.getElem?_eq_some_iff.1 e).1; rw [Hkl.out] at this; exact this, e⟩
        rw [if_neg hne, List.append_nil] at Hstep
        obtain ⟨wz, hwz⟩ : ∃ wz, wz = (wr.alloc (.cells #[.int .i64 av, .slice (some ⟨xb, 0, none⟩) 512 xc] 99)) := ⟨_, rfl⟩
        have hbz : Below wr.heap.size wr wz := by rw [hwz]; exact (Below.refl _ _).alloc (Nat.le_refl _) _
        have Hs : Hid (SecMap (wr.alloc (.cells #[.int .i64 av, .slice (some ⟨xb, 0, none⟩) 512 xc] 99)) bs' (mlays f (keptW (ws.take (k + 1)) keep))) := Lib.hid (by rw [Hstep.out, ← hwz]; exact H1.out.below hbz)
        have Hxb : Hid (Ext (fun j => j = bs') w (wr.alloc (.cells #[.int .i64 av, .slice (some ⟨xb, 0, none⟩) 512 xc] 99))) := Lib.hid (H2.out.alloc _)
        by_cases hkk : k < kn
        · obtain ⟨b, hb⟩ : ∃ b, keep[k]? = some b := ⟨_, List.getElem?_eq_getElem (by rw [Hkl.out]; exact hkk)⟩
          obtain ⟨ad, rfl, hkc⟩ := (HK.out wr H2.out).2.2 k b hb
          have hbf : b = false := by cases b with | true => exact absurd hb hne | false => rfl
          subst hbf
          have hinz : (k : Int) < kn := by omega
          have z6 : (wr.alloc (.cells #[.int .i64 av, .slice (some ⟨xb, 0, none⟩) 512 xc] 99)).cell? (ad.add k) = some (.bool false) := by rw [← hwz]; exact cell_below hbz hkc
          clear hkc hb hne hin hbz hwz hkk
          go_wp2_with fail
          go_roundw
          case rel => exact ⟨k + 1, by omega, by go_num, Hs.out, Hxb.out⟩
          case measure => simp [intOf]; omega
        · have hinz : ¬ (k : Int) < kn := by omega
          clear hne hin hbz hwz hkk
          go_wp2_with fail
          go_roundw
          case rel => exact ⟨k + 1, by omega, by go_num, Hs.out, Hxb.out⟩
          case measure => simp [intOf]; omega
    · have hge : ¬ (k : Int) < ws.length := by omega
      have x5 := Hx4.out.cells.2.2.2.1
      have f3 := Hx4.out.free 3
      have hgs : bs' ≠ g := fun e => H1.out.off (a := ⟨g, 1, none⟩) x3 e.symm
      have b3 : BoxAt ((wr.setCell ⟨g, 3, none⟩ (.slice none 0 0)).alloc (.map #[] 0)) g many bs' bn (.slice none 0 0) armed acts done down := (heap_alloc_old _ _ (by simp; exact lt_block Hx4.out)).trans (Hx4.out.set3 _)
      have b4 : BoxAt (((wr.setCell ⟨g, 3, none⟩ (.slice none 0 0)).alloc (.map #[] 0)).setCell ⟨g, 2, none⟩ (.map (some wr.heap.size))) g many bs' wr.heap.size (.slice none 0 0) armed acts done down := b3.set2 _
      have q2 := b3.cells.2.2.1
      have qf := b3.free 2
      have q1 := b4.cells.2.1
      have e4 : (((wr.setCell ⟨g, 3, none⟩ (.slice none 0 0)).alloc (.map #[] 0)).setCell ⟨g, 2, none⟩ (.map (some wr.heap.size))).heap.size = wr.heap.size + 1 := by simp
      have hbl : bs' < wr.heap.size := H1.out.lt
      have hgl : g < wr.heap.size := lt_block Hx4.out
      have hgne : wr.heap.size ≠ g := by omega
      have Hgl2 := Lib.hid hgl
      have e : ws.take k = ws := List.take_of_length_le (by omega)
      rw [e] at H1
      clear e
      have Hm4 : Hid (SecMap (((wr.setCell ⟨g, 3, none⟩ (.slice none 0 0)).alloc (.map #[] 0)).setCell ⟨g, 2, none⟩ (.map (some wr.heap.size))) bs' (mlays f (keptW ws keep))) := Lib.hid (H1.out.block (by rw [heap_setCell_other _ _ _ _ (fun e => hgs e), heap_alloc_old _ _ (by simp; exact hbl), heap_setCell_other _ _ _ _ (fun e => hgs e)]))
      have Hn4 : Hid (SecMap (((wr.setCell ⟨g, 3, none⟩ (.slice none 0 0)).alloc (.map #[] 0)).setCell ⟨g, 2, none⟩ (.map (some wr.heap.size))) wr.heap.size (fun _ => none)) := Lib.hid ⟨#[], 0, by
        rw [heap_setCell_other _ _ _ _ (fun e => hgne e)]
        have := heap_alloc_new (wr.setCell ⟨g, 3, none⟩ (.slice none 0 0)) (.map #[] 0)
        rwa [show (wr.setCell ⟨g, 3, none⟩ (.slice none 0 0)).heap.size = wr.heap.size by simp] at this, fun e h => by simp at h, fun k => rfl, MapKept.stamped_empty 0⟩
      have Hb4 := Lib.hid b4
      have Hbl := Lib.hid hbl
      have He4 := Lib.hid e4
      have Hx : Hid (Ext (fun k => k = g ∨ k = bs') w (((wr.setCell ⟨g, 3, none⟩ (.slice none 0 0)).alloc (.map #[] 0)).setCell ⟨g, 2, none⟩ (.map (some wr.heap.size)))) := Lib.hid ((((H2.out.mono (T := fun k => k = g ∨ k = bs') (fun k _ e => .inr e)).setCell _ (fun _ => .inl rfl) _).alloc _).setCell _ (fun _ => .inl rfl) _)
      clear b3 b4 hgs hbl e4 hgl hgne
      go_wp2_with (first | (at_range; refine wpList_range_sec rfl _ rfl bs' (mlays f (keptW ws keep)) rfl Hm4.out ?_; intro w5 cnt hrg hg5 hs5))
      rw [He4.out] at hrg hs5
      obtain ⟨F, hF⟩ : ∃ F, F = mlays f (keptW ws keep) := ⟨_, rfl⟩
      rw [← hF] at hrg
      have HF := Lib.hid hF
      have Hrg := Lib.hid hrg
      have Hg5 := Lib.hid hg5
      have Hs5 := Lib.hid hs5
      clear hF hrg hg5 hs5
      obtain ⟨wo, rfl⟩ : ∃ wo : World, wo = wr := ⟨_, rfl⟩
      go_loopw [7] (fun _ wq => ∃ (left : Int → Bool) (cnt : Nat) (fd : Int → Option Value), SecRange wq bs' (wo.heap.size + 1) F left cnt ∧ SecMap wq wo.heap.size fd ∧ (∀ i, fd i = if left i = true then none else F i) ∧ Ext (fun k => k = g ∨ k = bs') w wq ∧ BoxAt wq g many bs' wo.heap.size (.slice none 0 0) armed acts done down) (fun _ wq => wq.rangeLeft bs' (wo.heap.size + 1))
      case atStart =>
        refine ⟨_, cnt, fun _ => none, Hrg.out, Hn4.out.block (Hg5.out.block _ Hn4.out.lt (by simp)), fun i => ?_, Hx.out.trans (Ext.of_grown Hg5.out (fun k e => by cases e)), (Hg5.out.block _ (lt_block Hb4.out) (by simp)).trans Hb4.out⟩
        cases F i <;> simp
      case round =>
        obtain ⟨left, cnt, fd, hrg, hmd, hfd, hxq, hbq⟩ := hrel
        have Hmd := Lib.hid hmd
        have Hfd := Lib.hid hfd
        have Hxq := Lib.hid hxq
        have Hbq := Lib.hid hbq
        have Hrq := Lib.hid hrg
        clear hmd hfd hxq hbq hrg
        go_wp2_with (first | (at_next; refine wpList_next_sec rfl _ rfl bs' (wo.heap.size + 1) F left cnt rfl Hrq.out ?_ ?_))
        · intro hc0 hl0
          have q4 := Hbq.out.cells.2.2.2.2.1
          have q7 := Hbq.out.cells.2.2.2.2.2.2.2
          have f4 := Hbq.out.free 4
          have f7 := Hbq.out.free 7
          have Hl0 := Lib.hid hl0
          clear hl0 hc0
          go_wp2_with fail
          go_end0
          have hms := Hrq.out.map
          have hgs : bs' ≠ g := fun e => hms.off (a := ⟨g, 0, none⟩) Hbq.out.cells.1 e.symm
          have hgn : wo.heap.size ≠ g := fun e => Hmd.out.off (a := ⟨g, 0, none⟩) Hbq.out.cells.1 e.symm
          have hfe : fd = F := by
            funext i
            rw [Hfd.out i, Hl0.out i]; rfl
          have hmn := Hmd.out
          rw [hfe] at hmn
          refine ⟨rfl, wo.heap.size, H2.out.size, (Hbq.out.set4 _).set7 _, ?_, ?_, (Hxq.out.setCell _ (fun _ => .inl rfl) _).setCell _ (fun _ => .inl rfl) _⟩
          · rw [← HF.out]
            exact hms.block (by rw [heap_setCell_other _ _ _ _ (fun e => hgs e), heap_setCell_other _ _ _ _ (fun e => hgs e)])
          · rw [← HF.out]
            exact hmn.block (by rw [heap_setCell_other _ _ _ _ (fun e => hgn e), heap_setCell_other _ _ _ _ (fun e => hgn e)])
        · intro i v w1 cnt1 hli hfi hrg1 hlt1 hg1 hs1 hen
          have hne1 : wo.heap.size ≠ wo.heap.size + 1 := by omega
          have hm1 : SecMap w1 wo.heap.size fd := Hmd.out.block (hg1.block _ Hmd.out.lt (fun e => hne1 (Option.some.inj e)))
          have hgr : g ≠ wo.heap.size + 1 := fun e => by have := Hgl2.out; omega
          have hb1 : BoxAt w1 g many bs' wo.heap.size (.slice none 0 0) armed acts done down := (hg1.block _ (lt_block Hbq.out) (fun e => hgr (Option.some.inj e))).trans Hbq.out
          obtain ⟨o, hrun, hs⟩ := hm1.updateAt i v
          have hmu := hrun w1 rfl
          have hgo : wo.heap.size ≠ g := by have := Hgl2.out; omega
          have q2 := hb1.cells.2.2.1
          have hrb : bs' ≠ wo.heap.size := by have := Hbl.out; omega
          have Hr2 : Hid (SecRange (putObj w1 wo.heap.size o) bs' (wo.heap.size + 1) F (fun x => left x && !decide (x = i)) cnt1) := Lib.hid (hrg1.kept (putObj_other _ _ _ _ hrb) (putObj_other _ _ _ _ (by omega)))
          have Hs2 := Lib.hid hs
          have Hb2 : Hid (BoxAt (putObj w1 wo.heap.size o) g many bs' wo.heap.size (.slice none 0 0) armed acts done down) := Lib.hid ((putObj_other _ _ _ _ (fun e => hgo e.symm)).trans hb1)
          have Hx2 : Hid (Ext (fun k => k = g ∨ k = bs') w (putObj w1 wo.heap.size o)) := Lib.hid (by
            have e1 : Ext (fun k => k = wo.heap.size ∨ k = wo.heap.size + 1) wr (putObj w1 wo.heap.size o) := (Ext.of_grown (S := fun k => k = wo.heap.size ∨ k = wo.heap.size + 1) hg1 (fun k e => .inr (Option.some.inj e).symm)).trans (Ext.of_grown (putObj_grown _ _ _) (fun k e => .inl (Option.some.inj e).symm))
            exact Hxq.out.step e1 (fun k hk e => by have := H2.out.size; rcases e with e | e <;> omega))
          have Hfd2 : Hid (∀ x, (fun x => if x = i then some v else fd x) x = if (left x && !decide (x = i)) = true then none else F x) := Lib.hid (fun x => by
            show (if x = i then some v else fd x) = _
            by_cases hx : x = i
            · subst hx; simp [hfi]
            · rw [if_neg hx, Hfd.out x]; simp [hx])
          have Hlt1 := Lib.hid hlt1
          clear hm1 hgr hb1 hrun hs hgo hrb hrg1 hlt1 hg1 hs1 hfi hli hne1
          go_wp2_with fail
          go_roundw
          case rel => exact ⟨_, cnt1, _, Hr2.out, Hs2.out, Hfd2.out, Hx2.out, Hb2.out⟩
          case measure => rw [Hr2.out.left_eq, Hrq.out.left_eq]; exact Hlt1.out
end Go.Proofs.YteljopjaolegaaaDoor

/-
  CONTRACTS: package block: Crash, of a disk in memory.
-/
namespace Go.Proofs.YteljopjaolegaaaDoor
open Go.RowKit
set_option maxRecDepth 100000
set_option linter.unusedVariables false
set_option linter.unusedSimpArgs false

theorem bcrash {T : Nat → Prop} {w : World} {g : Nat} {d : DiskV} (hd : DiskIs T w g d) (p : Nat) (t : TypeId) (hp : PtrAt w p g t) (B : Option Addr) (kn kc : Nat) (keep : List Bool) (hk : Bls w B kn keep) (hlen : d.wait.length ≤ 140737488355328) :
    Calls Tryd.prog 29 #[.pointer (some ⟨p, 0, none⟩), .slice B kn kc] w fun r w' => r = .returned (.tuple #[]) ∧ DiskGo T w g w' (d.crash keep) := by
  obtain ⟨bs', bn, W, fs, fn, ws, h⟩ := id hd
  have hwl : ws.length ≤ 140737488355328 := by rw [h.wait, List.length_map] at hlen; exact hlen
  obtain ⟨A, wc, hW, hA⟩ : ∃ A wc, W = .slice A ws.length wc ∧ ∀ k e, ws[k]? = some e → ∃ wb xb xc, A = some ⟨wb, 0, none⟩ ∧ e.2.1 = .slice (some ⟨xb, 0, none⟩) 512 xc ∧ w.cell? ⟨wb, k * 2, none⟩ = some (.int .i64 e.1) ∧ w.cell? ⟨wb, k * 2 + 1, none⟩ = some e.2.1 := by
    rcases h.row.2 with ⟨hW, h0⟩ | ⟨wb, cap, cur, hW, _⟩
    · refine ⟨none, 0, by rw [hW, h0], fun k e he => ?_⟩
      have := (List.getElem?_eq_some_iff.1 he).1
      omega
    · refine ⟨some ⟨wb, 0, none⟩, cap, hW, fun k e he => ?_⟩
      obtain ⟨b, rest, c, h1, _⟩ := h.rows e (List.mem_of_getElem? he)
      obtain ⟨w1, w2⟩ := wcells_at ws k e he
      have g1 := h.row.cells (g := wb) (by rw [hW]; rfl) _ _ w1
      have g2 := h.row.cells (g := wb) (by rw [hW]; rfl) _ _ w2
      have a1 : (⟨wb, 0, none⟩ : Addr).add (2 * k) = ⟨wb, k * 2, none⟩ := by unfold Addr.add; split <;> simp_all; omega
      have a2 : (⟨wb, 0, none⟩ : Addr).add (2 * k + 1) = ⟨wb, k * 2 + 1, none⟩ := by unfold Addr.add; split <;> simp_all; omega
      rw [a1] at g1
      rw [a2] at g2
      exact ⟨wb, b, c, rfl, h1, g1, g2⟩
  have hbx := h.box
  rw [hW] at hbx
  refine (crash_any p g t A B wc kn kc _ bs' bn _ _ _ _ fs ws keep w hp hbx h.safe hA hk hwl).mono ?_
  rintro r w' ⟨rfl, bn2, k1, k2, k3, k4, k5⟩
  refine ⟨rfl, ?_⟩
  have hmem : ∀ e ∈ keptW ws keep, RowAt T w e.2.1 e.2.2 := fun e he => h.rows e (keptW_mem ws keep e he)
  have hsec : ∀ i, SecIn T w w' (mlays fs (keptW ws keep) i) ((d.crash keep).safe i) := fun i => by
    show SecIn T w w' _ (lays d.safe (DiskV.kept d.wait keep) i)
    rw [h.wait, keptW_map]
    exact SecIn.of (mlays_sec fs d.safe _ h.safes hmem i)
  refine h.after (d' := d.crash keep) (k5.mono (fun k _ e => by rcases e with e | e; exact .inl e; exact .inr (.inl e))) (h.fit.crash keep) h.acts rfl (.inr k1) (fun e => by have := h.safe.lt; omega) (W' := .slice none 0 0) (ws' := []) (fun k hk => by cases hk) k2 k3 k4 (World.ownsRow_nil _ _ _ _) rfl (fun e he => by cases he) hsec hsec

end Go.Proofs.YteljopjaolegaaaDoor

/-
  CONTRACTS: pages on a disk in memory: Pages.
-/
namespace Go.Proofs.YteljopjaolegaaaDoor
open Go.RowKit
set_option maxRecDepth 100000
set_option linter.unusedVariables false
set_option linter.unusedSimpArgs false

theorem pages_any {T : Nat → Prop} {w : World} {g : Nat} {d : DiskV} (hd : DiskIs T w g d) (p : Nat) (hp : PtrAt w p g 95) :
    Calls Tryd.prog 50 #[.pointer (some ⟨p, 0, none⟩)] w fun r w' => r = .returned (.int .i64 d.pages) ∧ w = w' := by
  have CS := Lib.hid (bsectors hd p _ hp)
  have hm := hd.many
  have h0 : (0 : Int) ≤ d.many := Int.natCast_nonneg _
  obtain ⟨mz, hmz⟩ : ∃ mz : Int, mz = d.many := ⟨_, rfl⟩
  have e : d.pages = mz / 8 := by rw [hmz]; rfl
  rw [← hmz] at CS hm h0
  rw [e]
  clear hmz e hd hp
  go_enter Tryd.func50, Tryd.ntmps50
  go_wp2_with ((go_at_call 69; (with_reducible refine CS.out.mono ?_)); rintro r w' ⟨rfl, rfl⟩)
  go_ret
  exact ⟨rfl, rfl⟩

end Go.Proofs.YteljopjaolegaaaDoor
