/-
  CONTRACTS: rows of 32 words; joining.
-/
import Derived.Test.YtmmbofgamipfiaaDoorSumA
import Derived.Laws.Rows
import Derived.Deep.RegionHeld3
namespace Go.Proofs.YtmmbofgamipfiaaDoor
open Go.RowKit

/-- A row of words as cells. -/
def mc (m : List (BitVec 32)) : Array Value := (m.map fun x => Value.int .u32 (ui x)).toArray
theorem mc_size (m : List (BitVec 32)) : (mc m).size = m.length := by simp [mc]
theorem mc_get {m : List (BitVec 32)} {k : Nat} (h : k < m.length) : (mc m)[k]? = some (.int .u32 (ui (m.getD k 0#32))) := by
  simp [mc, List.getElem?_eq_getElem h, List.getD_eq_getElem?_getD]

theorem mc_one (m : List (BitVec 32)) : ∀ v ∈ (mc m).toList, v.oneCell' = true := by
  intro v hv
  simp [mc] at hv
  obtain ⟨x, _, rfl⟩ := hv
  rfl

theorem ofFrom_zero (m : List (BitVec 32)) (n : BitVec 32) (j k : Nat) (h : n >>> k = 0#32) : Crc.ofFrom m n j k = 0#32 := by
  induction j generalizing k with
  | zero => rfl
  | succ j ih =>
    have hb : n.getLsbD k = false := by
      have := congrArg (fun x : BitVec 32 => x.getLsbD 0) h
      simpa [BitVec.getLsbD_ushiftRight] using this
    rw [Crc.ofFrom, hb, ih (k + 1) (by rw [BitVec.shiftRight_add, h]; simp)]
    simp

theorem low_odd (b : BitVec 32) : (bits .and .u32 (ui b) 1 == 1) = b.getLsbD 0 := by
  have e : (1 : Int) = ui 1#32 := by decide
  conv => lhs; rw [e, ui_and]
  unfold ui
  rw [BitVec.toNat_and, BitVec.getLsbD, Nat.testBit_zero]
  rw [show (1#32).toNat = 1 from rfl, Nat.and_one_is_mod]
  rcases Nat.mod_two_eq_zero_or_one b.toNat with h | h <;> rw [h] <;> rfl

theorem shr_lt (n : BitVec 32) (k : Nat) (h : ¬ n >>> k = 0#32) : k < 32 := by
  rcases Nat.lt_or_ge k 32 with h1 | h1
  · exact h1
  · exact absurd (by
      apply BitVec.eq_of_getLsbD_eq
      intro i hi
      rw [BitVec.getLsbD_ushiftRight, BitVec.getLsbD_of_ge _ _ (by omega)]; simp) h

theorem of_any (m : List (BitVec 32)) (hm : m.length = 32) (n : BitVec 32) (w : World) :
    Calls Tryd.prog 28 #[.agg (mc m), .int .u32 (ui n)] w fun e w' => e = .returned (.int .u32 (ui (Crc.of m n))) ∧ Below w.heap.size w w' := by
  have hc : ∀ k, k < 32 → (w.alloc (.cells (mc m) 49)).cell? ⟨w.heap.size, k, none⟩ = some (.int .u32 (ui (m.getD k 0#32))) := fun k hk => by
    rw [World.cell?_alloc_at _ _ _ _ rfl]
    exact mc_get (by omega)
  have Hc := Lib.hid hc
  clear hc
  go_enter Tryd.func28, Tryd.ntmps28
  go_wp2
  go_loop [5, 6, 1] (fun o i r => ∃ k : Nat, ∃ x : BitVec 32, k ≤ 32 ∧ i = .int .i64 k ∧ r = .int .u32 (ui (n >>> k)) ∧ o = .int .u32 (ui x) ∧ x ^^^ Crc.ofFrom m n (32 - k) k = Crc.of m n) (fun _ i _ => 32 - (intOf i).toNat)
  case atStart => exact ⟨0, 0#32, by omega, rfl, by simp, rfl, by simp [Crc.of]⟩
  case round =>
    obtain ⟨k, x, hk, rfl, hr, rfl, hx⟩ := hrel
    have Hx := Lib.hid hx
    clear hx
    obtain ⟨b, hb⟩ : ∃ b, b = n >>> k := ⟨_, rfl⟩
    rw [← hb] at hr
    subst hr
    have Hb := Lib.hid hb
    clear hb
    have hb0 := ui_lo b
    have hb1 := ui_hi b
    by_cases hz : b = 0#32
    · have Hf : Hid (x = Crc.of m n) := by
        have := Hx.out
        rw [ofFrom_zero _ _ _ _ (Hb.out ▸ hz)] at this
        exact Lib.hid (by simpa using this)
      have hz' : (ui b == 0) = true := by rw [hz]; rfl
      clear hz
      go_wp2
      go_ret
      exact ⟨by rw [← Hf.out]; rfl, (Below.refl _ _).alloc (Nat.le_refl _) _⟩
    · have hk32 : k < 32 := shr_lt n k (fun e => hz (Hb.out.trans e))
      have hz' : (ui b == 0) = false := by
        have : ui b ≠ ui 0#32 := fun e => hz (ui_inj e)
        have e0 : ui 0#32 = 0 := rfl
        rw [e0] at this
        simpa using this
      have hstep : Crc.ofFrom m n (32 - k) k = (if n.getLsbD k then m.getD k 0#32 else 0#32) ^^^ Crc.ofFrom m n (32 - (k + 1)) (k + 1) := by
        rw [show 32 - k = (32 - (k + 1)) + 1 from by omega]; rfl
      have hbit : b.getLsbD 0 = n.getLsbD k := by rw [Hb.out, BitVec.getLsbD_ushiftRight]; rfl
      have hnext : b >>> 1 = n >>> (k + 1) := by rw [Hb.out, BitVec.shiftRight_add]
      have Hn := Lib.hid hnext
      have hcell := Hc.out k hk32
      have hlo := low_odd b
      clear hnext hz
      cases hg : n.getLsbD k with
      | true =>
        rw [hbit, hg] at hlo
        have Hs : Hid ((x ^^^ m.getD k 0#32) ^^^ Crc.ofFrom m n (32 - (k + 1)) (k + 1) = Crc.of m n) := by
          have := Hx.out
          rw [hstep, hg, if_pos rfl, ← BitVec.xor_assoc] at this
          exact this
        clear hstep hbit hg Hx
        obtain ⟨y, hy⟩ : ∃ y, y = m.getD k 0#32 := ⟨_, rfl⟩
        rw [← hy] at hcell Hs
        have Hy := Lib.hid hy
        clear hy
        go_wp2
        go_round
        case rel => exact ⟨k + 1, x ^^^ y, by omega, by go_num, by first | rw [← Hn.out] | rw [← Hn.out, ← ui_shr1], rfl, Hs.out⟩
        case measure => simp [intOf]; omega
      | false =>
        rw [hbit, hg] at hlo
        have Hs : Hid (x ^^^ Crc.ofFrom m n (32 - (k + 1)) (k + 1) = Crc.of m n) := by
          have := Hx.out
          rw [hstep, hg] at this
          exact Lib.hid (by simpa using this)
        clear hstep hbit hg Hx
        go_wp2
        go_round
        case rel => exact ⟨k + 1, x, by omega, by go_num, by first | rw [← Hn.out] | rw [← Hn.out, ← ui_shr1], rfl, Hs.out⟩
        case measure => simp [intOf]; omega

/-- A row that stands whole in a block. -/
def Row (w : World) (g : Nat) (m : List (BitVec 32)) : Prop := w.heap[g]? = some (.cells (mc m) 49 (0, 0))
theorem Row.below {w w1 : World} {B g : Nat} {m : List (BitVec 32)} (h : Row w g m) (hb : Below B w w1) (hg : g < B) : Row w1 g m :=
  (hb.block g hg).trans h
theorem Row.lt {w : World} {g : Nat} {m : List (BitVec 32)} (h : Row w g m) : g < w.heap.size := (Array.getElem?_eq_some_iff.1 h).1
theorem Row.cell {w : World} {g : Nat} {m : List (BitVec 32)} (h : Row w g m) {k : Nat} (hk : k < m.length) : w.cell? ⟨g, k, none⟩ = some (.int .u32 (ui (m.getD k 0#32))) := by
  unfold Row at h
  simp only [World.cell?, h]
  exact mc_get hk
theorem Row.free {w : World} {g : Nat} {m : List (BitVec 32)} (h : Row w g m) (k : Nat) : w.frozen? ⟨g, k, none⟩ = false := by
  unfold Row at h
  simp only [World.frozen?, h]
  simp
theorem Row.range {w : World} {g : Nat} {m : List (BitVec 32)} (h : Row w g m) : w.rangeAt g 0 (mc m).toList := fun j v hv => by
  unfold Row at h
  simp only [World.cell?, h, Nat.zero_add]
  simpa using hv
theorem mc_set (m : List (BitVec 32)) (k : Nat) (x : BitVec 32) : (mc m).setIfInBounds k (.int .u32 (ui x)) = mc (m.set k x) := by
  simp [mc, List.map_set]
theorem Row.set {w : World} {g : Nat} {m : List (BitVec 32)} (h : Row w g m) (k : Nat) (x : BitVec 32) : Row (w.setCell ⟨g, k, none⟩ (.int .u32 (ui x))) g (m.set k x) := by
  unfold Row at h ⊢
  simp only [World.setCell, Array.getElem?_modify, if_pos]
  rw [h]
  simp [mc_set]

theorem zeros32 : (#[Value.int IntKind.u32 0, Value.int IntKind.u32 0, Value.int IntKind.u32 0, Value.int IntKind.u32 0,
          Value.int IntKind.u32 0, Value.int IntKind.u32 0, Value.int IntKind.u32 0, Value.int IntKind.u32 0,
          Value.int IntKind.u32 0, Value.int IntKind.u32 0, Value.int IntKind.u32 0, Value.int IntKind.u32 0,
          Value.int IntKind.u32 0, Value.int IntKind.u32 0, Value.int IntKind.u32 0, Value.int IntKind.u32 0,
          Value.int IntKind.u32 0, Value.int IntKind.u32 0, Value.int IntKind.u32 0, Value.int IntKind.u32 0,
          Value.int IntKind.u32 0, Value.int IntKind.u32 0, Value.int IntKind.u32 0, Value.int IntKind.u32 0,
          Value.int IntKind.u32 0, Value.int IntKind.u32 0, Value.int IntKind.u32 0, Value.int IntKind.u32 0,
          Value.int IntKind.u32 0, Value.int IntKind.u32 0, Value.int IntKind.u32 0, Value.int IntKind.u32 0] : Array Value) = mc (List.replicate 32 0#32) := rfl

theorem keepS {w w1 : World} {B k : Nat} {L : List Value} {x : Value} (hb : Below w.heap.size w w1) (h : w.rangeAt B 0 L ∧ w.cell? ⟨B, k, none⟩ = some x) :
    w1.rangeAt B 0 L ∧ w1.cell? ⟨B, k, none⟩ = some x :=
  ⟨fun j v hv => cell_below hb (h.1 j v hv), cell_below hb h.2⟩
theorem keepT {w : World} {B C j k : Nat} {L : List Value} {x u : Value} (hne : B ≠ C) (h : w.rangeAt B 0 L ∧ w.cell? ⟨B, k, none⟩ = some x) :
    (w.setCell ⟨C, j, none⟩ u).rangeAt B 0 L ∧ (w.setCell ⟨C, j, none⟩ u).cell? ⟨B, k, none⟩ = some x :=
  ⟨fun i v hv => (World.cell?_setCell_other _ _ _ _ (fun e => hne (congrArg Addr.block e).symm)).trans (h.1 i v hv), (World.cell?_setCell_other _ _ _ _ (fun e => hne (congrArg Addr.block e).symm)).trans h.2⟩

set_option maxRecDepth 100000 in
theorem twice_any (m : List (BitVec 32)) (hm : m.length = 32) (w : World) :
    Calls Tryd.prog 29 #[.agg (mc m)] w fun e w' => e = .returned (.agg (mc (Crc.twice m))) ∧ Below w.heap.size w w' := by
  have hu := Tryd.underlying49
  have hi : (Tryd.prog.info? 49).map (·.size) = some (mc m).toList.length := by
    rw [Array.length_toList, mc_size, hm]; kernel_rfl
  go_enter Tryd.func29, Tryd.ntmps29
  go_wp2_with fail
  obtain ⟨B, hB⟩ : ∃ B, B = w.heap.size := ⟨_, rfl⟩
  rw [← hB, zeros32]
  obtain ⟨W0, hW0⟩ : ∃ W0, W0 = ((w.alloc (Obj.cells (mc m) 49)).alloc (Obj.cells (mc (List.replicate 32 0#32)) 49)).alloc (Obj.cells (mc (List.replicate 32 0#32)) 49) := ⟨_, rfl⟩
  rw [← hW0]
  have h0 : Row W0 B m ∧ Row W0 (B + 1) (List.replicate 32 0#32) ∧ Row W0 (B + 1 + 1) (List.replicate 32 0#32) ∧ Below B w W0 := by
    subst hB
    rw [hW0]
    refine ⟨?_, ?_, ?_, (((Below.refl _ _).alloc (Nat.le_refl _) _).alloc (by simp) _).alloc (by simp; omega) _⟩
    · unfold Row; rw [heap_alloc_old _ _ (by simp; omega), heap_alloc_old _ _ (by simp), heap_alloc_new]
    · unfold Row
      have := heap_alloc_new (w.alloc (Obj.cells (mc m) 49)) (Obj.cells (mc (List.replicate 32 0#32)) 49)
      rw [heap_alloc_old _ _ (by simp)]; simpa using this
    · unfold Row
      have := heap_alloc_new ((w.alloc (Obj.cells (mc m) 49)).alloc (Obj.cells (mc (List.replicate 32 0#32)) 49)) (Obj.cells (mc (List.replicate 32 0#32)) 49)
      simpa using this
  have H0 := Lib.hid h0
  have Hm := Lib.hid hm
  have HB := Lib.hid hB
  clear h0 hW0 hm hB
  go_loopw [5] (fun i wr => ∃ k : Nat, k ≤ 32 ∧ i = .int .i64 k ∧ Row wr B m ∧ Row wr (B + 1) (List.replicate 32 0#32) ∧ Row wr (B + 1 + 1) ((Crc.twice m).take k ++ List.replicate (32 - k) 0#32) ∧ Below B w wr) (fun i _ => 32 - (intOf i).toNat)
  case atStart => exact ⟨0, by omega, rfl, H0.out.1, H0.out.2.1, by simpa using H0.out.2.2.1, H0.out.2.2.2⟩
  case round =>
    obtain ⟨k, hk, rfl, h1, h2, h3, h4⟩ := hrel
    have H1 := Lib.hid h1
    have H2 := Lib.hid h2
    have H3 := Lib.hid h3
    have H4 := Lib.hid h4
    clear h1 h2 h3 h4
    by_cases hlt : k < 32
    · have hk0 : (0 : Int) ≤ (k : Int) := Int.natCast_nonneg _
      have hk32 : (k : Int) < 32 := by omega
      have hr := H1.out.range
      have hc := H1.out.cell (k := k) (by rw [Hm.out]; exact hlt)
      have hd := H3.out.cell (k := k) (by simp [Crc.twice, Hm.out]; omega)
      have hf := H3.out.free k
      obtain ⟨x, hx⟩ : ∃ x, x = m.getD k 0#32 := ⟨_, rfl⟩
      obtain ⟨y, hy⟩ : ∃ y, y = ((Crc.twice m).take k ++ List.replicate (32 - k) 0#32).getD k 0#32 := ⟨_, rfl⟩
      rw [← hx] at hc
      rw [← hy] at hd
      have Hx := Lib.hid hx
      clear hx hy
      go_wp2_with fail
      have hne : B ≠ B + 1 + 1 := by omega
      go_region_held3 (fun w' => w'.rangeAt B 0 (mc m).toList ∧ w'.cell? ⟨B, k, none⟩ = some (.int .u32 (ui x))) (first | exact ⟨hr, hc⟩ | exact keepS (by assumption) ⟨hr, hc⟩ | exact keepT hne (keepS (by assumption) ⟨hr, hc⟩)) (first | (go_at_call 28; refine (of_any m Hm.out x _).mono ?_; rintro e w1 ⟨rfl, hb1⟩; replace hb1 := undrew hb1; have hd1 := cell_below hb1 hd; have hf1 := (hb1.frozen (World.block_lt_of_cell? wr _ hd)).trans hf))
      go_wp2
      go_roundw
      case rel =>
        have hk1 : k < (Crc.twice m).length := by simp [Crc.twice, Hm.out]; omega
        have e3 : ((Crc.twice m).take k ++ List.replicate (32 - k) 0#32).set k (Crc.of m x) = (Crc.twice m).take (k + 1) ++ List.replicate (32 - (k + 1)) 0#32 := by
          have e1 : (Crc.twice m)[k]? = some (Crc.of m x) := by
            rw [Crc.twice, List.getElem?_map, List.getElem?_eq_getElem (by rw [Hm.out]; exact hlt), Hx.out, List.getD_eq_getElem?_getD, List.getElem?_eq_getElem (by rw [Hm.out]; exact hlt)]
            rfl
          rw [take_snoc e1, show 32 - k = (32 - (k + 1)) + 1 from by omega, List.replicate_succ, List.set_append_right _ _ (by rw [List.length_take]; omega), List.append_assoc]
          congr 1
          simp [Nat.min_eq_left (Nat.le_of_lt hk1)]
        have hB1 := H1.out.lt
        have hB2 := H2.out.lt
        have hB3 := H3.out.lt
        have g1 := (H1.out.below hb1 hB1)
        have g2 := (H2.out.below hb1 hB2)
        have g3 := (H3.out.below hb1 hB3)
        have hs : w.heap.size ≤ wr.heap.size := H4.out.size
        have hBw := HB.out
        refine ⟨k + 1, by omega, by go_num, ?_, ?_, ?_, ?_⟩
        · exact (Below.heap_setCell _ _ _ _ (by show B ≠ B + 1 + 1; omega)).trans g1
        · exact (Below.heap_setCell _ _ _ _ (by show B + 1 ≠ B + 1 + 1; omega)).trans g2
        · rw [← e3]; exact g3.set k (Crc.of m x)
        · exact (H4.out.trans (hb1.mono (by show B ≤ wr.heap.size; omega))).setCell (by show B ≤ B + 1 + 1; omega) _
      case measure => simp [intOf]; omega
    · have e : k = 32 := by omega
      subst e
      have hl : (Crc.twice m).length = 32 := by simp [Crc.twice, Hm.out]
      have h3 : Row wr (B + 1 + 1) (Crc.twice m) := by
        have := H3.out
        rw [List.take_of_length_le (by omega)] at this
        simpa using this
      have H5 : Hid (wr.heap[B + 1 + 1]? = some (.cells (mc (Crc.twice m)) 49 (0, 0))) := Lib.hid h3
      have H7 : Hid (wr.heap[B + 1]? = some (.cells (mc (List.replicate 32 0#32)) 49 (0, 0))) := Lib.hid H2.out
      have hr3 := h3.range
      clear h3
      have hi2 : (Tryd.prog.info? 49).map (·.size) = some (mc (Crc.twice m)).size := by
        rw [mc_size, hl]; kernel_rfl
      have hm1 : ∀ v ∈ (mc (Crc.twice m)).toList, v.oneCell' = true := mc_one _
      have hm2 : (mc (List.replicate 32 0#32)).size = (mc (Crc.twice m)).size := by rw [mc_size, mc_size, hl]; rfl
      go_wp2_with (first | (with_reducible refine wpList_load_row rfl 49 _ rfl (B + 1 + 1) rfl 49 (mc (Crc.twice m)) (0, 0) _ H5.out hu rfl hi2 ?_) | (with_reducible refine wpList_store_row rfl 49 _ _ rfl (B + 1) (mc (Crc.twice m)) (mc (List.replicate 32 0#32)) 49 rfl rfl H7.out hm2 hi2 hm1 ?_; intro w4 H6 hg4))
      refine bodyPost_ret (results_cell_row rfl _ _ (B + 1) 49 (mc (Crc.twice m)) (0, 0) _ rfl H6.out hu rfl hi2) rfl ⟨rfl, ?_⟩
      have hBw := HB.out
      have := H4.out.grown hg4 (by have := H4.out.size; omega) (fun k hk => by cases hk; omega)
      rwa [hBw] at this

theorem one_get {k : Nat} (h1 : 1 ≤ k) (h2 : k < 32) : Crc.one[k]? = some (1#32 <<< (k - 1)) := by
  have : ∀ j : Fin 32, 1 ≤ j.val → Crc.one[j.val]? = some (1#32 <<< (j.val - 1)) := by decide
  exact this ⟨k, h2⟩ h1

theorem build_first (w : World) : (Instr.build 49 #[(0, .int .u32 3988292384)]).run Tryd.prog w = .ok (.agg (mc (Crc.poly :: List.replicate 31 0#32))) w := by kernel_rfl
theorem matrix_size : (Tryd.prog.info? 49).map (·.size) = some 32 := by kernel_rfl
theorem zeros_row (w : World) : Row (w.alloc (Obj.cells (mc (List.replicate 32 0#32)) 49)) w.heap.size (List.replicate 32 0#32) := heap_alloc_new _ _

theorem shl_bit {k : Nat} (h2 : k < 32) : ((2 : Int) ^ k) % 4294967296 = ui (1#32 <<< k) := by
  have : ∀ j : Fin 32, ((2 : Int) ^ j.val) % 4294967296 = ui (1#32 <<< j.val) := by decide
  exact this ⟨k, h2⟩
theorem one_length : Crc.one.length = 32 := by simp [Crc.one]
theorem row_snoc {L : List (BitVec 32)} {k : Nat} {x : BitVec 32} (hx : L[k]? = some x) (hk : k < 32) :
    (L.take k ++ List.replicate (32 - k) 0#32).set k x = L.take (k + 1) ++ List.replicate (32 - (k + 1)) 0#32 := by
  have hl : k < L.length := (List.getElem?_eq_some_iff.1 hx).1
  rw [take_snoc hx, show 32 - k = (32 - (k + 1)) + 1 from by omega, List.replicate_succ, List.set_append_right _ _ (by rw [List.length_take]; omega), List.append_assoc]
  congr 1
  simp [Nat.min_eq_left (Nat.le_of_lt hl)]

set_option maxRecDepth 100000 in
theorem byteful_any (w : World) :
    Calls Tryd.prog 27 #[] w fun e w' => e = .returned (.agg (mc (Crc.twice (Crc.twice (Crc.twice Crc.one))))) ∧ Below w.heap.size w w' := by
  have hu := Tryd.underlying49
  have HZ : Hid (((w.alloc (Obj.cells (mc (List.replicate 32 0#32)) 49)).alloc (Obj.cells (mc (List.replicate 32 0#32)) 49)).heap[w.heap.size + 1]? = some (.cells (mc (List.replicate 32 0#32)) 49 (0, 0))) := Lib.hid (heap_alloc2_new _ _ _)
  have e0 := Lib.hid zeros32
  go_enter Tryd.func27, Tryd.ntmps27
  have hm1 : ∀ v ∈ (mc (Crc.poly :: List.replicate 31 0#32)).toList, v.oneCell' = true := mc_one _
  have hi2 : (Tryd.prog.info? 49).map (·.size) = some (mc (Crc.poly :: List.replicate 31 0#32)).size := by
    rw [mc_size, matrix_size]; rfl
  have hm2 : (mc (List.replicate 32 0#32)).size = (mc (Crc.poly :: List.replicate 31 0#32)).size := by rw [mc_size, mc_size]; rfl
  have Hm1 := Lib.hid hm1
  have Hm2 := Lib.hid hm2
  have Hi2 := Lib.hid hi2
  clear hm1 hm2 hi2
  go_wp2_with (first | (with_reducible refine wpList_build_known rfl 49 _ rfl _ rfl _ (build_first _) ?_) | (with_reducible refine wpList_store_row rfl 49 _ _ rfl (w.heap.size + 1) (mc (Crc.poly :: List.replicate 31 0#32)) (mc (List.replicate 32 0#32)) 49 rfl rfl (by rw [zeros32]; exact HZ.out) Hm2.out Hi2.out Hm1.out ?_; intro w4 H6 hg4))
  have H0 : Hid (Row w4 w.heap.size (List.replicate 32 0#32) ∧ Row w4 (w.heap.size + 1) (Crc.one.take 1 ++ List.replicate (32 - 1) 0#32) ∧ Below w.heap.size w w4) := by
    rw [zeros32] at hg4
    refine Lib.hid ⟨?_, H6.out, ?_⟩
    · exact (hg4.block _ (by simp; omega) (by simp)).trans (heap_alloc2_old _ _ _)
    · exact (((Below.refl _ _).alloc (Nat.le_refl _) _).alloc (by simp) _).grown hg4 (by simp; omega) (fun k hk => by cases hk; omega)
  clear H6 hg4
  obtain ⟨B, hB⟩ : ∃ B, B = w.heap.size := ⟨_, rfl⟩
  rw [← hB] at H0
  rw [← hB]
  have HB := Lib.hid hB
  clear hB HZ
  go_loopw [2] (fun i wr => ∃ k : Nat, 1 ≤ k ∧ k ≤ 32 ∧ i = .int .i64 k ∧ Row wr B (List.replicate 32 0#32) ∧ Row wr (B + 1) (Crc.one.take k ++ List.replicate (32 - k) 0#32) ∧ Below B w wr) (fun i _ => 32 - (intOf i).toNat)
  case atStart => exact ⟨1, by omega, by omega, rfl, H0.out.1, H0.out.2.1, H0.out.2.2⟩
  case round =>
    obtain ⟨k, hk1, hk, rfl, h1, h2, h3⟩ := hrel
    have H1 := Lib.hid h1
    have H2 := Lib.hid h2
    have H3 := Lib.hid h3
    clear h1 h2 h3 H0
    by_cases hlt : k < 32
    · have hk0 : (0 : Int) ≤ (k : Int) := Int.natCast_nonneg _
      have hk32 : (k : Int) < 32 := by omega
      have hd := H2.out.cell (k := k) (by simp [one_length]; omega)
      have hf := H2.out.free k
      obtain ⟨y, hy⟩ : ∃ y, y = (Crc.one.take k ++ List.replicate (32 - k) 0#32).getD k 0#32 := ⟨_, rfl⟩
      rw [← hy] at hd
      clear hy
      go_wp2
      go_roundw
      case rel =>
        rw [shl_bit (show k - 1 < 32 by omega)]
        refine ⟨k + 1, by omega, by omega, by go_num, ?_, ?_, ?_⟩
        · exact (Below.heap_setCell _ _ _ _ (by show B ≠ B + 1; omega)).trans H1.out
        · rw [← row_snoc (one_get hk1 hlt) hlt]; exact H2.out.set k _
        · exact H3.out.setCell (by show B ≤ B + 1; omega) _
      case measure => simp [intOf]; omega
    · have e : k = 32 := by omega
      subst e
      have h2 : Row wr (B + 1) Crc.one := by
        have := H2.out
        rw [List.take_of_length_le (by rw [one_length]; omega)] at this
        simpa using this
      have H5 : Hid (wr.heap[B + 1]? = some (.cells (mc Crc.one) 49 (0, 0))) := Lib.hid h2
      have Hi1 : Hid ((Tryd.prog.info? 49).map (·.size) = some (mc Crc.one).size) := Lib.hid (by rw [mc_size, matrix_size, one_length])
      clear h2
      go_wp2_with (first | (with_reducible refine wpList_load_row rfl 49 _ rfl (B + 1) rfl 49 (mc Crc.one) (0, 0) _ H5.out hu rfl Hi1.out ?_))
      refine (twice_any Crc.one one_length _).mono ?_
      rintro e w1 ⟨rfl, hb1⟩
      go_wp2_with fail
      refine (twice_any _ (by simp [Crc.twice, one_length]) _).mono ?_
      rintro e w2 ⟨rfl, hb2⟩
      go_wp2_with fail
      refine (twice_any _ (by simp [Crc.twice, one_length]) _).mono ?_
      rintro e w3 ⟨rfl, hb3⟩
      have hbw := ((Below.refl wr.heap.size wr).trans hb1).trans ((hb2.mono hb1.size).trans (hb3.mono (Nat.le_trans hb1.size hb2.size)))
      have H6 : Hid (w3.heap[B]? = some (.cells (mc (List.replicate 32 0#32)) 49 (0, 0))) := Lib.hid (H1.out.below hbw H1.out.lt)
      have H7 := Lib.hid (H3.out.trans (hbw.mono (Nat.le_of_lt H1.out.lt)))
      have Hi3 : Hid ((Tryd.prog.info? 49).map (·.size) = some (mc (Crc.twice (Crc.twice (Crc.twice Crc.one)))).size) := Lib.hid (by rw [mc_size, matrix_size]; simp [Crc.twice, one_length])
      have Hm3 : Hid ((mc (List.replicate 32 0#32)).size = (mc (Crc.twice (Crc.twice (Crc.twice Crc.one)))).size) := Lib.hid (by rw [mc_size, mc_size]; simp [Crc.twice, one_length])
      have Hm4 := Lib.hid (mc_one (Crc.twice (Crc.twice (Crc.twice Crc.one))))
      clear hb1 hb2 hb3 hbw
      go_wp2_with (first | (with_reducible refine wpList_store_row rfl 49 _ _ rfl B (mc (Crc.twice (Crc.twice (Crc.twice Crc.one)))) (mc (List.replicate 32 0#32)) 49 rfl rfl H6.out Hm3.out Hi3.out Hm4.out ?_; intro w4 H8 hg4))
      refine bodyPost_ret (results_cell_row rfl _ _ B 49 (mc (Crc.twice (Crc.twice (Crc.twice Crc.one)))) (0, 0) _ rfl H8.out hu rfl Hi3.out) rfl ⟨rfl, ?_⟩
      have hBw := HB.out
      have := H7.out.grown hg4 (by have := H7.out.size; omega) (fun k hk => by cases hk; omega)
      rwa [hBw] at this

end Go.Proofs.YtmmbofgamipfiaaDoor
