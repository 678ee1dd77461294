/-
  WORDS FOR THE WALKS: numbers of 32 and 8 bits as the walk spells them; bytes that are read; what a call leaves of the world.
-/
import Derived.Test.YteljopjaolegaaaDoorCrc
import Derived.WalkKit
import Derived.Lib.Hide
import Derived.Laws.BitsAllLaws
import Derived.Laws.CopyOwn
import Derived.Laws.AppendOwnNone
import Derived.Laws.BytesArg
import Derived.Deep.AppendLies
import Derived.Maps.AppendAt
namespace Go.Proofs.YteljopjaolegaaaDoor
open Go.RowKit
set_option maxRecDepth 100000

/-! ### 1. Numbers -/
/-- A number of 32 bits as an integer. -/
def ui (b : BitVec 32) : Int := (b.toNat : Int)
/-- A byte as an integer. -/
def ub (c : UInt8) : Int := (c.toNat : Int)

theorem ui_lo (b : BitVec 32) : 0 ≤ ui b := by unfold ui; omega
theorem ui_hi (b : BitVec 32) : ui b ≤ 4294967295 := by unfold ui; have := b.isLt; omega
theorem ub_lo (c : UInt8) : 0 ≤ ub c := by unfold ub; omega
theorem ub_hi (c : UInt8) : ub c ≤ 255 := by unfold ub; have := c.toNat_lt; omega

theorem ui_of (s : Int) (h0 : 0 ≤ s) (h1 : s ≤ 4294967295) : ∃ b, s = ui b :=
  ⟨BitVec.ofNat 32 s.toNat, by unfold ui; rw [BitVec.toNat_ofNat]; omega⟩
theorem ub_of (s : Int) (h0 : 0 ≤ s) (h1 : s ≤ 255) : ∃ c, s = ub c :=
  ⟨UInt8.ofNat s.toNat, by unfold ub; rw [UInt8.toNat_ofNat']; omega⟩
theorem ui_inj {a b : BitVec 32} (h : ui a = ui b) : a = b := by unfold ui at h; apply BitVec.eq_of_toNat_eq; omega
theorem ub_inj {a b : UInt8} (h : ub a = ub b) : a = b := by unfold ub at h; apply UInt8.toNat_inj.1; omega

theorem ui_xor (a b : BitVec 32) : bits .xor .u32 (ui a) (ui b) = ui (a ^^^ b) := by
  unfold ui; rw [u32_xor_nat _ _ (by have := a.isLt; omega) (by have := b.isLt; omega), BitVec.toNat_xor]
theorem ui_and (a b : BitVec 32) : bits .and .u32 (ui a) (ui b) = ui (a &&& b) := by
  unfold ui; rw [u32_and_nat _ _ (by have := a.isLt; omega) (by have := b.isLt; omega), BitVec.toNat_and]
theorem ub_wide (c : UInt8) : ub c = ui (Crc.wide c) := by
  unfold ub ui Crc.wide
  have := c.toNat_lt
  simp
theorem ui_xor_ub (a : BitVec 32) (c : UInt8) : bits .xor .u32 (ui a) (ub c) = ui (a ^^^ Crc.wide c) := by rw [ub_wide, ui_xor]
theorem ui_full : (IntKind.u32.max : Int) = ui (~~~ 0#32) := by decide
theorem xor_not (a : BitVec 32) : (~~~ 0#32) ^^^ a = ~~~ a := by rw [Crc.not_eq_xor a, BitVec.xor_comm]
theorem ui_not (a : BitVec 32) : bits .xor .u32 IntKind.u32.max (ui a) = ui (~~~ a) := by
  rw [ui_full, ui_xor, xor_not]
theorem ui_xor_full (a : BitVec 32) : bits .xor .u32 (ui a) 4294967295 = ui (~~~ a) := by
  have : (4294967295 : Int) = ui (~~~ 0#32) := by decide
  rw [this, ui_xor, BitVec.xor_comm, xor_not]
theorem ui_shr4 (a : BitVec 32) : ui a / (16 : Int) = ui (a >>> 4) := by
  unfold ui; rw [BitVec.toNat_ushiftRight, Nat.shiftRight_eq_div_pow]; omega
theorem ui_shr1 (a : BitVec 32) : ui a / (2 : Int) = ui (a >>> 1) := by
  unfold ui; rw [BitVec.toNat_ushiftRight, Nat.shiftRight_eq_div_pow]; omega
theorem ui_and15 (a : BitVec 32) : bits .and .u32 (ui a) 15 = ui (a &&& 15#32) := by
  have : (15 : Int) = ui 15#32 := by decide
  rw [this, ui_and]
theorem ui_and15_hi (a : BitVec 32) : ui (a &&& 15#32) < (16 : Int) := by unfold ui; have := Crc.and15_lt a; omega

/-- The table's word for a number's last four bits. -/
def nib (a : BitVec 32) : BitVec 32 := Crc.tab.getD (a &&& 15#32).toNat 0#32
theorem nib_step (a : BitVec 32) : (a >>> 4) ^^^ nib a = Crc.turns 4 a := Crc.nibble_turns a

theorem u8_xor_ub (a b : UInt8) : bits .xor .u8 (ub a) (ub b) = ub (a ^^^ b) := by
  unfold ub; rw [u8_xor_nat _ _ (by have := a.toNat_lt; omega) (by have := b.toNat_lt; omega), UInt8.toNat_xor]

theorem wrap64_ui (a : BitVec 32) : wrap64 (ui a) = ui a := by
  have h0 := ui_lo a
  have h1 := ui_hi a
  unfold wrap64
  omega
theorem wrap64_ub (a : UInt8) : wrap64 (ub a) = ub a := by
  have h0 := ub_lo a
  have h1 := ub_hi a
  unfold wrap64
  omega
theorem wrapu32_ui (a : BitVec 32) : IntKind.u32.wrap (ui a) = ui a := by
  rw [IntKind.wrap_u32']
  have h0 := ui_lo a
  have h1 := ui_hi a
  omega
theorem wrapu32_ub (a : UInt8) : IntKind.u32.wrap (ub a) = ub a := by
  rw [IntKind.wrap_u32']
  have h0 := ub_lo a
  have h1 := ub_hi a
  omega
theorem wrapu8_ub (a : UInt8) : IntKind.u8.wrap (ub a) = ub a := by
  rw [IntKind.wrap_u8']
  have h0 := ub_lo a
  have h1 := ub_hi a
  omega

attribute [go_sem] wrap64_ui wrap64_ub wrapu32_ui wrapu32_ub wrapu8_ub ui_lo ui_hi ub_lo ub_hi ui_xor ui_xor_ub ui_not ui_xor_full ui_shr4 ui_shr1 ui_and15 ui_and15_hi nib_step u8_xor_ub

/-! ### 2. Bytes that are read -/
/-- From address A on stand n bytes: the list l. -/
def Bs (w : World) (A : Option Addr) (n : Nat) (l : List UInt8) : Prop :=
  l.length = n ∧ n ≤ 9223372036854775807 ∧ ∀ (j : Nat) (c : UInt8), l[j]? = some c → ∃ ad, A = some ad ∧ w.cell? (ad.add j) = some (.int .u8 (ub c))

theorem Bs.len {w : World} {A : Option Addr} {n : Nat} {l : List UInt8} (h : Bs w A n l) : l.length = n := h.1
theorem Bs.max {w : World} {A : Option Addr} {n : Nat} {l : List UInt8} (h : Bs w A n l) : n ≤ 9223372036854775807 := h.2.1
/-- The byte at k. -/
theorem Bs.get {w : World} {A : Option Addr} {n : Nat} {l : List UInt8} (h : Bs w A n l) {k : Nat} (hk : k < n) :
    ∃ ad c, A = some ad ∧ l[k]? = some c ∧ w.cell? (ad.add k) = some (.int .u8 (ub c)) := by
  have hl : k < l.length := by rw [h.1]; exact hk
  obtain ⟨ad, e, hc⟩ := h.2.2 k l[k] (List.getElem?_eq_getElem hl)
  exact ⟨ad, l[k], e, List.getElem?_eq_getElem hl, hc⟩
theorem Bs.nil (w : World) (A : Option Addr) : Bs w A 0 [] := ⟨rfl, by omega, fun j c h => by simp at h⟩
theorem Bs.kept {w w1 : World} {A : Option Addr} {n : Nat} {l : List UInt8} (h : Bs w A n l)
    (hk : ∀ ad : Addr, A = some ad → ∀ a : Addr, a.block = ad.block → ∀ v, w.cell? a = some v → w1.cell? a = some v) : Bs w1 A n l :=
  ⟨h.1, h.2.1, fun j c hj => by
    obtain ⟨ad, e, hc⟩ := h.2.2 j c hj
    exact ⟨ad, e, hk ad e (ad.add j) (by unfold Addr.add; split <;> rfl) _ hc⟩⟩
theorem cell_below {w w1 : World} (h : Below w.heap.size w w1) {a : Addr} {v : Value} (hc : w.cell? a = some v) : w1.cell? a = some v :=
  (h.cell (World.block_lt_of_cell? w a hc)).trans hc
theorem undrew {B : Nat} {w w1 : World} (h : Below B w.drew w1) : Below B w w1 := ⟨h.os, h.tape, h.output, h.size, h.block⟩
theorem Bs.below {w w1 : World} {A : Option Addr} {n : Nat} {l : List UInt8} (h : Bs w A n l) (hb : Below w.heap.size w w1) : Bs w1 A n l :=
  h.kept fun _ _ _ _ _ hc => cell_below hb hc

theorem take_snoc {α : Type} {l : List α} {k : Nat} {c : α} (h : l[k]? = some c) : l.take (k + 1) = l.take k ++ [c] := by
  rw [List.take_add_one, h]; rfl
theorem crc_snoc {r : BitVec 32} {l : List UInt8} {k : Nat} {c : UInt8} (h : l[k]? = some c) :
    Crc.crc r (l.take (k + 1)) = Crc.turns 4 (Crc.turns 4 (Crc.crc r (l.take k) ^^^ Crc.wide c)) := by
  rw [take_snoc h, Crc.crc_append, Crc.byte_turns]; rfl

/-- The package's table of sixteen stands in memory. -/
def Nib (w : World) : Prop := ∀ i, i < 16 → w.cell? ⟨1, i, none⟩ = some (.int .u32 (ui (Crc.tab.getD i 0#32)))
theorem Nib.at {w : World} (h : Nib w) (a : BitVec 32) :
    w.cell? ⟨1, (ui (a &&& 15#32)).toNat, none⟩ = some (.int .u32 (ui (nib a))) := h _ (Crc.and15_lt a)
theorem Nib.lt {w : World} (h : Nib w) : 1 < w.heap.size := World.block_lt_of_cell? w _ (h 0 (by omega))
theorem Nib.below {w w1 : World} (h : Nib w) (hb : Below w.heap.size w w1) : Nib w1 := fun i hi => cell_below hb (h i hi)

/-! ### 3. A whole block that is written over -/
theorem grown_setRow (w : World) (g : Nat) (cs : Array Value) : w.grownBy (w.setRow g cs) (some g) :=
  ⟨rfl, rfl, rfl, by simp, fun k _ hk => setRow_other w g k cs (fun e => hk (by rw [e]))⟩

/-- A store of as many cells as the block has. -/
theorem wpList_store_row {P : Program} {ops : Array Oper} {rest : List Oper} {op : Oper} {a : Act} {w : World} {Q : Exit → Act → World → Prop} (hgd : op.guard = none) (ty : TypeId) (x y : Operand) (ho : op.op = .store ty x y)
    (g : Nat) (cells old : Array Value) (t : TypeId) (hx : a.eval x = .pointer (some ⟨g, 0, none⟩)) (hy : a.eval y = .agg cells)
    (hg : w.heap[g]? = some (.cells old t (0, 0))) (hs : old.size = cells.size) (hi : (P.info? ty).map (·.size) = some cells.size) (h1 : ∀ v ∈ cells.toList, v.oneCell' = true)
    (h : ∀ w', Hid (w'.heap[g]? = some (.cells cells t (0, 0))) → w.grownBy w' (some g) → wpList P ops Q rest (a.put op.dst undef) w') : wpList P ops Q (op :: rest) a w := by
  refine wpList_plain hgd fun K hK => ?_
  have hst := run_storeCells_at P g 0 t cells.toList 0 old w hg (by simp; omega) h1
  have e : (old.toList.take (0 + 0) ++ cells.toList ++ old.toList.drop (0 + 0 + cells.toList.length)).toArray = cells := by
    have h2 : old.toList.drop (0 + 0 + cells.toList.length) = [] := List.drop_eq_nil_of_le (by simp; omega)
    rw [h2]
    simp
  rw [e] at hst
  have hrun : (storeVar ty ⟨g, 0, none⟩ (.agg cells)).run P w = .ok () (w.setRow g cells) := by
    cases hq : P.info? ty with
    | none => simp [hq] at hi
    | some i =>
      have hs : cells.size = i.size := by simp [hq] at hi; omega
      simp [storeVar, sizeOf, typeInfo, hq, Value.cells, hs, hst]
  unfold Oper.wp execOp
  simp only [ho, hx, hy, Instr.storeAt, Instr.sureAddr, Sem.run_bind, Sem.run_pure, Result.andThen_ok, hrun]
  exact hK _ _ (h _ (setRow_heap w g old cells t _ hg) (grown_setRow w g cells))

/-- A literal of constants whose value is known. -/
theorem wpList_build_known {P : Program} {ops : Array Oper} {rest : List Oper} {op : Oper} {a : Act} {w : World} {Q : Exit → Act → World → Prop} (hgd : op.guard = none) (ty : TypeId) (ps : Array (Nat × Operand)) (ho : op.op = .build ty ps)
    (vs : Array (Nat × Value)) (hv : ps.map (fun p => (p.1, a.eval p.2)) = vs) (v : Value) (hrun : (Instr.build ty vs).run P w = .ok v w)
    (h : wpList P ops Q rest (a.put op.dst v) w) : wpList P ops Q (op :: rest) a w := by
  refine wpList_plain hgd fun K hK => ?_
  subst hv
  unfold Oper.wp execOp
  simp only [ho, Sem.run_bind, hrun, Result.andThen_ok, Sem.run_pure]
  exact hK _ _ h

/-- A store into the whole of a block that was just made. -/
theorem wpList_store_new {P : Program} {ops : Array Oper} {rest : List Oper} {op : Oper} {a : Act} {w : World} {Q : Exit → Act → World → Prop} (hgd : op.guard = none) (ty : TypeId) (x y : Operand) (ho : op.op = .store ty x y)
    (cells old : Array Value) (t : TypeId) (hx : a.eval x = .pointer (some ⟨w.heap.size, 0, none⟩)) (hy : a.eval y = .agg cells)
    (n : Nat) (hs : old.size = n) (hn : cells.size = n) (hi : (P.info? ty).map (·.size) = some n) (h1 : ∀ v ∈ cells.toList, v.oneCell' = true)
    (h : ∀ w', Hid (w'.heap[w.heap.size]? = some (.cells cells t (0, 0))) → Below w.heap.size w w' → wpList P ops Q rest (a.put op.dst undef) w') : wpList P ops Q (op :: rest) a (w.alloc (.cells old t)) := by
  refine wpList_store_row hgd ty x y ho w.heap.size cells old t hx hy (heap_alloc_new _ _) (by omega) (by rw [hn]; exact hi) h1 fun w' h2 h3 => h w' h2 ?_
  exact ((Below.refl _ _).alloc (Nat.le_refl _) _).grown h3 (by simp) (fun k hk => by cases hk; omega)

/-! ### 4. append on a slice of the call's own -/
/-- Where the new slice lies: in the old one's block, or in a new one; then no block that was there has turned. -/
def Lies (w w' : World) (v v' : Value) : Prop := v'.ownBlock = v.ownBlock ∨ ∃ g, v'.ownBlock = some g ∧ w.heap.size ≤ g ∧ w.grownBy w' none
theorem Lies.refl (w w' : World) (v : Value) : Lies w w' v v := .inl rfl
/-- A block that was there and is not the old one's is not the new one's. -/
theorem Lies.ne {w w' : World} {v v' : Value} (h : Lies w w' v v') {k : Nat} (hk : k < w.heap.size) (hne : some k ≠ v.ownBlock) : some k ≠ v'.ownBlock := by
  rcases h with h | ⟨g, h, hg, _⟩
  · rw [h]; exact hne
  · rw [h]; intro e; cases e; omega

/-- append, and where the new slice lies. -/
theorem run_append_lie {P : Program} (w : World) (base : Nat) (t ty e : TypeId) (i : TypeInfo) (z : Value) (size bytes : Nat) (ht : P.underlying t = some (.slice e)) (hi : P.info? e = some i) (hz : i.zero = some z)
    (hsize : i.size = size) (hby : i.bytes = bytes) (hzs : z.cells.size = size) (hsz : 0 < size)
    (v : Value) (n : Nat) (xs : List Value) (hown : w.ownsRow base e size v n xs)
    (a : Addr) (m c : Nat) (news : List Value) (hl : news.length = m * size) (hnews : ∀ j u, news[j]? = some u → w.cell? (a.add j) = some u) (h1 : ∀ u ∈ news, u.oneCell' = true)
    (h63 : n + m ≤ maxLen) (hbytes : (n + m) * bytes ≤ 140737488355328) (hbase : base ≤ w.heap.size) :
    ∃ v' w', (Builtin.append_ #[t, t] ty #[v, .slice (some a) m c]).run P w = .ok v' w' ∧ w'.ownsRow base e size v' (n + m) (xs ++ news) ∧ w.grownBy w' v.ownBlock ∧ Lies w w' v v' := by
  obtain ⟨v', w', hr, h2, h3, h4, _⟩ := run_append_own_at (P := P) w base t ty e i z size bytes ht hi hz hsize hby hzs hsz v n xs hown a m c news hl hnews h1 h63 hbytes hbase
  refine ⟨v', w', hr, h2, h3, ?_⟩
  subst hsize
  subst hby
  have hmax : n + m ≤ 9223372036854775807 := by simp only [maxLen] at h63; omega
  have moved : ∀ C : Array Value, w.grownBy (w.drew.alloc (.cells C e)) none := fun C => ⟨rfl, rfl, rfl, by simp, fun k hk _ => heap_alloc_old w.drew _ hk⟩
  rcases hown.2 with ⟨rfl, rfl⟩ | ⟨g, cap, cur, rfl, hbg, hg, hnc, hcm, hcs, htake⟩
  · by_cases hm : m = 0
    · have := h4.2 ⟨rfl, hm⟩
      subst this
      exact .inl rfl
    · have hr2 := run_append_nil (P := P) w t ty e i z ht hi hz a m c news hl hnews (by omega) (by omega) (by have hb := hbytes; simp only [Nat.zero_add] at hb; omega)
      rw [hr2] at hr
      cases hr
      exact .inr ⟨_, rfl, Nat.le_refl _, moved _⟩
  · by_cases hroom : n + m ≤ cap
    · obtain ⟨w2, hr2, _⟩ := run_append_fits (P := P) (w := w) base t ty e i i.size ht hi rfl g n cap xs hown a m c news hl hnews h1 hroom
      rw [hr2] at hr
      cases hr
      exact .inl rfl
    · have holds : ∀ j u, xs[j]? = some u → w.cell? ((⟨g, 0, none⟩ : Addr).add j) = some u := hown.cells (g := g) rfl
      have hr2 := run_append_grow (P := P) w t ty e i z ht hi hz ⟨g, 0, none⟩ n cap xs hown.1 holds a m c news hl hnews (by omega) (by omega) (growslice_fits (by omega) hbytes)
      rw [hr2] at hr
      cases hr
      exact .inr ⟨_, rfl, Nat.le_refl _, moved _⟩

theorem wpList_append_lie {P : Program} {w : World} {ops : Array Oper} {rest : List Oper} {o : Oper} {a : Act} {Q : Exit → Act → World → Prop} (hgd : o.guard = none) (s x : Operand) (t : TypeId)
    (ho : o.op = .call { callee := .builtin .append, args := #[s, x], argTypes := #[t, t] })
    (base : Nat) (e : TypeId) (z : Value) (size bytes : Nat) (ht : P.underlying t = some (.slice e)) (hinfo : (P.info? e).map (fun i => (i.zero, i.size, i.bytes)) = some (some z, size, bytes)) (hzs : z.cells.size = size) (hsz : 0 < size)
    (v : Value) (n : Nat) (xs : List Value) (hs : a.eval s = v) (hown : w.ownsRow base e size v n xs)
    (ad : Addr) (m c : Nat) (news : List Value) (hx : a.eval x = .slice (some ad) m c) (hl : news.length = m * size) (hnews : ∀ j u, news[j]? = some u → w.cell? (ad.add j) = some u) (h1 : ∀ u ∈ news, u.oneCell' = true)
    (h63 : n + m ≤ maxLen) (hbytes : (n + m) * bytes ≤ 140737488355328) (hbase : base ≤ w.heap.size)
    (h : ∀ v' w', w'.ownsRow base e size v' (n + m) (xs ++ news) → w.grownBy w' v.ownBlock → Lies w w' v v' → wpList P ops Q rest (a.put o.dst v') w') : wpList P ops Q (o :: rest) a w := by
  obtain ⟨i, hi, hz, hsize, hby⟩ := info_parts hinfo
  refine wpList_plain hgd fun K hK => ?_
  obtain ⟨v', w', hr, h2, h3, h4⟩ := run_append_lie (P := P) w base t o.type e i z size bytes ht hi hz hsize hby hzs hsz v n xs hown ad m c news hl hnews h1 h63 hbytes hbase
  unfold Oper.wp execOp
  simp only [ho, resolve, invoke, builtin, Sem.run_bind, Sem.run_pure, Result.andThen_ok, List.map_toArray, List.map_cons, List.map_nil, hs, hx, hr]
  exact hK _ _ (h v' w' h2 h3 h4)

theorem grownBy_trans {a b c : World} {row : Option Nat} (h : a.grownBy b none) (k : b.grownBy c row) : a.grownBy c row :=
  ⟨k.os.trans h.os, k.tape.trans h.tape, k.output.trans h.output, Nat.le_trans h.size k.size, fun i hi hne => (k.block i (Nat.lt_of_lt_of_le hi h.size) hne).trans (h.block i hi (by simp))⟩

/-- Elements of one cell, laid into a block of their own ahead. -/
theorem wpList_append_lit {P : Program} {w : World} {ops : Array Oper} {rest : List Oper} {o : Oper} {a : Act} {Q : Exit → Act → World → Prop} (hgd : o.guard = none) (s x : Operand) (t : TypeId)
    (ho : o.op = .call { callee := .builtin .append, args := #[s, x], argTypes := #[t, t] })
    (base : Nat) (e : TypeId) (z : Value) (bytes : Nat) (ht : P.underlying t = some (.slice e)) (hinfo : (P.info? e).map (fun i => (i.zero, i.size, i.bytes)) = some (some z, 1, bytes)) (hzs : z.cells.size = 1)
    (v : Value) (n : Nat) (xs : List Value) (us : Array Value) (m : Nat) (hm : us.size = m) (hs : a.eval s = v) (hown : w.ownsRow base e 1 v n xs)
    (hx : a.eval x = .slice (some ⟨w.heap.size, 0, none⟩) m m) (h1 : ∀ u ∈ us.toList, u.oneCell' = true)
    (h63 : n + m ≤ maxLen) (hbytes : (n + m) * bytes ≤ 140737488355328) (hbase : base ≤ w.heap.size)
    (h : ∀ v' w', w'.ownsRow base e 1 v' (n + m) (xs ++ us.toList) → w.grownBy w' v.ownBlock → Lies w w' v v' → wpList P ops Q rest (a.put o.dst v') w') : wpList P ops Q (o :: rest) a (w.alloc (.cells us e)) := by
  refine wpList_append_lie (w := w.alloc (.cells us e)) hgd s x t ho base e z 1 bytes ht hinfo hzs (by decide) v n xs hs (hown.alloc _) ⟨w.heap.size, 0, none⟩ m m us.toList hx (by simp [hm]) ?_ h1 h63 hbytes (by simp; omega) ?_
  · intro j y hj
    exact World.news_of_block (heap_alloc_new w (.cells us e)) j y hj
  · intro v' w' h2 h3 h5
    refine h v' w' h2 (grownBy_trans (World.grownBy_alloc w _ none) h3) ?_
    rcases h5 with h5 | ⟨g, h5, h6, h7⟩
    · exact .inl h5
    · exact .inr ⟨g, h5, by simp at h6; omega, grownBy_trans (World.grownBy_alloc w _ none) h7⟩

theorem one_mem {u : Value} (h1 : u.oneCell' = true) : ∀ y ∈ (#[u] : Array Value).toList, y.oneCell' = true := by
  intro y hy
  simp at hy
  rw [hy]; exact h1

/-- One element. -/
theorem wpList_append_one {P : Program} {w : World} {ops : Array Oper} {rest : List Oper} {o : Oper} {a : Act} {Q : Exit → Act → World → Prop} (hgd : o.guard = none) (s x : Operand) (t : TypeId)
    (ho : o.op = .call { callee := .builtin .append, args := #[s, x], argTypes := #[t, t] })
    (base : Nat) (e : TypeId) (z : Value) (bytes : Nat) (ht : P.underlying t = some (.slice e)) (hinfo : (P.info? e).map (fun i => (i.zero, i.size, i.bytes)) = some (some z, 1, bytes)) (hzs : z.cells.size = 1)
    (v : Value) (n : Nat) (xs : List Value) (u : Value) (hs : a.eval s = v) (hown : w.ownsRow base e 1 v n xs)
    (hx : a.eval x = .slice (some ⟨w.heap.size, 0, none⟩) 1 1) (h1 : u.oneCell' = true)
    (h63 : n + 1 ≤ maxLen) (hbytes : (n + 1) * bytes ≤ 140737488355328) (hbase : base ≤ w.heap.size)
    (h : ∀ v' w', w'.ownsRow base e 1 v' (n + 1) (xs ++ [u]) → w.grownBy w' v.ownBlock → Lies w w' v v' → wpList P ops Q rest (a.put o.dst v') w') : wpList P ops Q (o :: rest) a (w.alloc (.cells #[u] e)) :=
  wpList_append_lit hgd s x t ho base e z bytes ht hinfo hzs v n xs #[u] 1 rfl hs hown hx (one_mem h1) h63 hbytes hbase h

/-- Bytes as cells. -/
def bs (l : List UInt8) : List Value := l.map fun c => .int .u8 (ub c)
theorem bs_length (l : List UInt8) : (bs l).length = l.length := by simp [bs]
theorem bs_append (l m : List UInt8) : bs (l ++ m) = bs l ++ bs m := by simp [bs]
theorem bs_one (l : List UInt8) : ∀ v ∈ bs l, v.oneCell' = true := by
  intro v hv
  simp [bs] at hv
  obtain ⟨x, _, rfl⟩ := hv
  rfl
theorem bs_get {l : List UInt8} {j : Nat} {v : Value} (h : (bs l)[j]? = some v) : ∃ c, l[j]? = some c ∧ v = .int .u8 (ub c) := by
  simp [bs] at h
  obtain ⟨c, hc, rfl⟩ := h
  exact ⟨c, hc, rfl⟩

/-- A row of bytes, behind a slice of bytes. -/
theorem wpList_append_bytes {P : Program} {w : World} {ops : Array Oper} {rest : List Oper} {o : Oper} {a : Act} {Q : Exit → Act → World → Prop} (hgd : o.guard = none) (s x : Operand) (t : TypeId)
    (ho : o.op = .call { callee := .builtin .append, args := #[s, x], argTypes := #[t, t] })
    (base : Nat) (e : TypeId) (z : Value) (ht : P.underlying t = some (.slice e)) (hinfo : (P.info? e).map (fun i => (i.zero, i.size, i.bytes)) = some (some z, 1, 1)) (hzs : z.cells.size = 1)
    (v : Value) (n : Nat) (xs : List Value) (hs : a.eval s = v) (hown : w.ownsRow base e 1 v n xs)
    (A : Option Addr) (m c : Nat) (l : List UInt8) (hx : a.eval x = .slice A m c) (hb : Bs w A m l)
    (hbytes : n + m ≤ 140737488355328) (hbase : base ≤ w.heap.size)
    (h : ∀ v' w', w'.ownsRow base e 1 v' (n + m) (xs ++ bs l) → w.grownBy w' v.ownBlock → Lies w w' v v' → wpList P ops Q rest (a.put o.dst v') w') : wpList P ops Q (o :: rest) a w := by
  obtain ⟨i, hi, _, hsize, _⟩ := info_parts hinfo
  by_cases h0 : m = 0
  · subst h0
    have hl : l = [] := List.eq_nil_of_length_eq_zero hb.len
    subst hl
    have hrun : (Builtin.append_ #[t, t] o.type #[v, .slice A 0 c]).run P w = .ok v w := by
      cases A <;> rcases hown.2 with ⟨rfl, rfl⟩ | ⟨g, cap, cur, rfl, _, _, hnc, _⟩
      · simp [Builtin.append_, run_underlying ht, sizeOf, typeInfo, hi, Builtin.lenOf, Builtin.firstCells]
      · simp [Builtin.append_, run_underlying ht, sizeOf, typeInfo, hi, Builtin.lenOf, Builtin.firstCells, hnc, storeCells]
      · simp [Builtin.append_, run_underlying ht, sizeOf, typeInfo, hi, Builtin.lenOf, Builtin.firstCells, loadCells, loadCellsFrom]
      · simp [Builtin.append_, run_underlying ht, sizeOf, typeInfo, hi, Builtin.lenOf, Builtin.firstCells, hnc, storeCells, loadCells, loadCellsFrom]
    refine wpList_plain hgd fun K hK => ?_
    unfold Oper.wp
    simp [execOp, ho, resolve, invoke, builtin, hs, hx, hrun, Result.andThen]
    exact hK _ _ (h v w (by simpa [bs] using hown) (World.grownBy.refl _ _) (Lies.refl _ _ _))
  · obtain ⟨ad, c0, rfl, _, _⟩ := hb.get (k := 0) (by omega)
    refine wpList_append_lie hgd s x t ho base e z 1 1 ht hinfo hzs (by decide) v n xs hs hown ad m c (bs l) hx (by rw [bs_length, hb.len, Nat.mul_one]) ?_ (bs_one l) (by simp only [maxLen]; omega) (by omega) hbase h
    intro j u hu
    obtain ⟨d, hd, rfl⟩ := bs_get hu
    obtain ⟨ad', e', hc⟩ := hb.2.2 j d hd
    cases e'
    exact hc

/-- Bytes that are owned can be read. -/
theorem own_bytes {w : World} {base : Nat} {e : TypeId} {v : Value} {n : Nat} {l : List UInt8} (h : w.ownsRow base e 1 v n (bs l)) :
    ∃ A c, v = .slice A n c ∧ Bs w A n l := by
  have hl : l.length = n := by have := h.1; rw [bs_length] at this; omega
  rcases h.2 with ⟨rfl, rfl⟩ | ⟨g, cap, cur, rfl, hb, hg, hn, hc, hs, ht⟩
  · exact ⟨none, 0, rfl, hl, by omega, fun j c hj => by
      have := (List.getElem?_eq_some_iff.1 hj).1
      omega⟩
  · refine ⟨_, cap, rfl, hl, by simp only [maxLen] at hc; omega, fun j c hj => ⟨_, rfl, ?_⟩⟩
    exact h.cells (g := g) rfl j _ (by simp [bs, hj])

/-! ### 5. make -/
/-- 'make([]T, n)', elements of one cell. -/
theorem wpList_make_zeros {P : Program} {w : World} {ops : Array Oper} {rest : List Oper} {o : Oper} {a : Act} {Q : Exit → Act → World → Prop}
    (hg : o.guard = none) (l c : Operand) (t : TypeId) (hop : o.op = Op.makeSlice t l c)
    (base : Nat) (e : TypeId) (z : Value) (bytes : Nat) (h1 : P.underlying t = some (.slice e)) (hinfo : (P.info? e).map (fun i => (i.zero, i.size, i.bytes)) = some (some z, 1, bytes)) (hz1 : z.cells = #[z])
    (L C : Int) (n : Nat) (hl : a.eval l = .int .i64 L) (hc : a.eval c = .int .i64 C) (hL : L = (n : Int)) (hC : C = (n : Int)) (b2 : bytes * n ≤ 281474976710656) (b3 : n ≤ maxLen) (b4 : base ≤ w.heap.size)
    (hK : ∀ w', Hid (w'.ownsRow base e 1 (.slice (some ⟨w.heap.size, 0, none⟩) n n) n (List.replicate n z)) → Below w.heap.size w w' → wpList P ops Q rest (a.put o.dst (.slice (some ⟨w.heap.size, 0, none⟩) n n)) w') :
    wpList P ops Q (o :: rest) a w := by
  obtain ⟨i, hi, hz, hsize, hby⟩ := info_parts hinfo
  refine wpList_make_full w hg l c t hop base e i z 1 h1 hi hz hsize .i64 .i64 L C n hl hc hL hC (by rw [hby]; exact b2) b3 b4 fun w' h2 h3 => hK w' ?_ ⟨h3.os, h3.tape, h3.output, h3.size, fun k hk => h3.block k hk (by simp)⟩
  rw [hz1, Nat.mul_one, toList_madeCells_one] at h2
  exact h2

/-! ### 6. What a call leaves of the world: the blocks of S may have turned, and no others -/
structure Ext (S : Nat → Prop) (w w' : World) : Prop where
  os : w'.os = w.os
  tape : w'.tape = w.tape
  output : w'.output = w.output
  size : w.heap.size ≤ w'.heap.size
  block : ∀ k, k < w.heap.size → ¬ S k → w'.heap[k]? = w.heap[k]?

theorem Ext.refl (S : Nat → Prop) (w : World) : Ext S w w := ⟨rfl, rfl, rfl, Nat.le_refl _, fun _ _ _ => rfl⟩
theorem Ext.trans {S : Nat → Prop} {a b c : World} (h : Ext S a b) (k : Ext S b c) : Ext S a c :=
  ⟨k.os.trans h.os, k.tape.trans h.tape, k.output.trans h.output, Nat.le_trans h.size k.size, fun i hi hs => (k.block i (Nat.lt_of_lt_of_le hi h.size) hs).trans (h.block i hi hs)⟩
theorem Ext.mono {S T : Nat → Prop} {w w' : World} (h : Ext S w w') (hst : ∀ k, k < w.heap.size → S k → T k) : Ext T w w' :=
  ⟨h.os, h.tape, h.output, h.size, fun k hk hn => h.block k hk (fun hs => hn (hst k hk hs))⟩
/-- Two steps; the second may turn blocks that the first one made. -/
theorem Ext.step {S T : Nat → Prop} {a b c : World} (h : Ext S a b) (k : Ext T b c) (hst : ∀ i, i < a.heap.size → T i → S i) : Ext S a c :=
  ⟨k.os.trans h.os, k.tape.trans h.tape, k.output.trans h.output, Nat.le_trans h.size k.size, fun i hi hs => (k.block i (Nat.lt_of_lt_of_le hi h.size) (fun ht => hs (hst i hi ht))).trans (h.block i hi hs)⟩
theorem Ext.of_below {S : Nat → Prop} {w w' : World} (h : Below w.heap.size w w') : Ext S w w' := ⟨h.os, h.tape, h.output, h.size, fun k hk _ => h.block k hk⟩
theorem Ext.of_grown {S : Nat → Prop} {w w' : World} {row : Option Nat} (h : w.grownBy w' row) (hr : ∀ k, row = some k → S k) : Ext S w w' :=
  ⟨h.os, h.tape, h.output, h.size, fun k hk hs => h.block k hk (fun e => hs (hr k e.symm))⟩
theorem Ext.below {S : Nat → Prop} {w w' : World} (h : Ext S w w') {B : Nat} (hB : B ≤ w.heap.size) (hS : ∀ k, k < B → ¬ S k) : Below B w w' :=
  ⟨h.os, h.tape, h.output, h.size, fun k hk => h.block k (Nat.lt_of_lt_of_le hk hB) (hS k hk)⟩
theorem Ext.drew {S : Nat → Prop} {a w : World} (h : Ext S a w) : Ext S a w.drew := ⟨h.os, h.tape, h.output, h.size, h.block⟩
theorem Ext.alloc {S : Nat → Prop} {a w : World} (h : Ext S a w) (o : Obj) : Ext S a (w.alloc o) :=
  h.step (T := fun _ => False) (Ext.of_below ((Below.refl _ _).alloc (Nat.le_refl _) _)) (fun _ _ h => h.elim)
theorem Ext.setCell {S : Nat → Prop} {a w : World} (h : Ext S a w) (p : Addr) (hp : p.block < a.heap.size → S p.block) (u : Value) : Ext S a (w.setCell p u) :=
  ⟨h.os, h.tape, h.output, by have := h.size; simp [World.setCell]; omega, fun k hk hs => by
    rw [Below.heap_setCell _ _ _ _ (fun e => hs (by rw [e]; exact hp (by rw [← e]; exact hk)))]
    exact h.block k hk hs⟩
theorem Ext.cell {S : Nat → Prop} {w w' : World} (h : Ext S w w') {a : Addr} {v : Value} (hc : w.cell? a = some v) (hs : ¬ S a.block) : w'.cell? a = some v :=
  (World.cell?_of_block (h.block a.block (World.block_lt_of_cell? w a hc) hs)).trans hc
theorem Bs.ext {S : Nat → Prop} {w w1 : World} {A : Option Addr} {n : Nat} {l : List UInt8} (h : Bs w A n l) (hb : Ext S w w1) (hs : ∀ ad, A = some ad → ¬ S ad.block) : Bs w1 A n l :=
  h.kept fun ad e a ha _ hc => hb.cell hc (by rw [ha]; exact hs ad e)

theorem _root_.Go.World.grownBy.setCell_row {w w1 : World} {g j : Nat} {u : Value} (h : w.grownBy w1 (some g)) : w.grownBy (w1.setCell ⟨g, j, none⟩ u) (some g) :=
  ⟨h.os, h.tape, h.output, by have := h.size; simp [World.setCell]; omega, fun k hk hn => (Below.heap_setCell _ _ _ _ (fun e => hn (by rw [e]))).trans (h.block k hk hn)⟩

/-- A row that fills its block. -/
theorem own_block {w : World} {base g n : Nat} {e : TypeId} {xs : List Value} (h : w.ownsRow base e 1 (.slice (some ⟨g, 0, none⟩) n n) n xs) : w.heap[g]? = some (.cells xs.toArray e (0, 0)) := by
  rcases h.2 with ⟨h0, _⟩ | ⟨g', cap, cur, hv, hb, hg, hn, hc, hs, ht⟩
  · cases h0
  · cases hv
    rw [List.take_of_length_le (by rw [Array.length_toList, hs]; exact Nat.le_refl _)] at ht
    rw [hg, ← ht]
theorem cell_block {w : World} {g j : Nat} {xs : List Value} {e : TypeId} {u : Value} (h : w.heap[g]? = some (.cells xs.toArray e (0, 0))) (hj : xs[j]? = some u) : w.cell? ⟨g, j, none⟩ = some u := by
  rw [cell_of_row w g j _ e (0, 0) h]; simpa using hj
theorem free_block {w : World} {g : Nat} {xs : List Value} {e : TypeId} (h : w.heap[g]? = some (.cells xs.toArray e (0, 0))) (j : Nat) : w.frozen? ⟨g, j, none⟩ = false := frozen_of_row w g j _ e h
theorem set_block {w : World} {g : Nat} {xs : List Value} {e : TypeId} (h : w.heap[g]? = some (.cells xs.toArray e (0, 0))) (j : Nat) (u : Value) : (w.setCell ⟨g, j, none⟩ u).heap[g]? = some (.cells (xs.set j u).toArray e (0, 0)) := by
  rw [heap_setCell_same w g j _ e u h]; simp
theorem lt_block {w : World} {g : Nat} {o : Obj} (h : w.heap[g]? = some o) : g < w.heap.size := (Array.getElem?_eq_some_iff.1 h).1
/-- A block of bytes is read. -/
theorem bs_block {w : World} {g : Nat} {xs : List UInt8} {e : TypeId} (h : w.heap[g]? = some (.cells (bs xs).toArray e (0, 0))) (off n : Nat) (hn : off + n ≤ xs.length) (hm : n ≤ 9223372036854775807) :
    Bs w (some ⟨g, off, none⟩) n ((xs.drop off).take n) :=
  ⟨by simp; omega, hm, fun j c hj => by
    rw [List.getElem?_take] at hj
    split at hj
    · rw [List.getElem?_drop] at hj
      refine ⟨_, rfl, ?_⟩
      have ha : (⟨g, off, none⟩ : Addr).add j = ⟨g, off + j, none⟩ := by unfold Addr.add; split <;> simp_all
      rw [ha]
      exact cell_block h (by simp [bs, hj])
    · cases hj⟩

/-! ### 7. copy -/
theorem bs_splice (cur cs : List UInt8) (off : Nat) : bs (splice cur off cs) = splice (bs cur) off (bs cs) := by simp [splice, bs]
/-- Bytes copied into a block of bytes. -/
theorem wpList_copy_bytes {P : Program} {w : World} {ops : Array Oper} {rest : List Oper} {o : Oper} {a : Act} {Q : Exit → Act → World → Prop} (hgd : o.guard = none) (d s : Operand) (dT sT : TypeId)
    (ho : o.op = .call { callee := .builtin .copy, args := #[d, s], argTypes := #[dT, sT] }) (elem : TypeId) (hu : P.underlying dT = some (.slice elem)) (hsz : (P.info? elem).map (·.size) = some 1)
    (dp : Option Addr) (dLen dCap : Nat) (A : Option Addr) (m c : Nat) (hd : a.eval d = .slice dp dLen dCap) (hs : a.eval s = .slice A m c)
    (g off : Nat) (cur : List UInt8) (t : TypeId) (hg : w.heap[g]? = some (.cells (bs cur).toArray t (0, 0))) (l : List UInt8) (hb : Bs w A m l) (k : Nat) (hk : k = Nat.min m dLen)
    (hdp : 0 < k → dp = some ⟨g, off, none⟩) (hfit : off + k ≤ cur.length)
    (h : ∀ w', Hid (w'.heap[g]? = some (.cells (bs (splice cur off (l.take k))).toArray t (0, 0))) → w.grownBy w' (some g) → wpList P ops Q rest (a.put o.dst (goInt k)) w') : wpList P ops Q (o :: rest) a w := by
  have hkm : k ≤ m := by rw [hk]; exact Nat.min_le_left _ _
  have hl : (l.take k).length = k := by rw [List.length_take, hb.len]; omega
  by_cases h0 : k = 0
  · refine wpList_copy_nothing hgd d s dT sT ho elem hu hsz dp A dLen dCap m c hd hs (by omega) ?_
    have := h w (show _ = _ by rw [h0]; simpa [splice] using hg) (World.grownBy.refl _ _)
    rwa [h0] at this
  · obtain ⟨ad, c0, rfl, _, _⟩ := hb.get (k := 0) (by omega)
    obtain rfl := hdp (by omega)
    refine wpList_copy_own hgd d s dT sT ho elem hu hsz g off dLen dCap ad m c hd hs (bs cur).toArray t hg (bs (l.take k)) (by rw [bs_length, hl, hk]) ?_ (by rw [bs_length, hl]; simpa [bs_length] using hfit) (bs_one _) ?_
    · intro j v hv
      obtain ⟨x, hx, rfl⟩ := bs_get hv
      rw [List.getElem?_take] at hx
      split at hx
      · obtain ⟨ad', e', hc⟩ := hb.2.2 j x hx
        cases e'
        exact hc
      · cases hx
    · have e : ((bs cur).toArray.toList.take off ++ (bs (l.take k) ++ (bs cur).toArray.toList.drop (off + (bs (l.take k)).length))).toArray = (bs (splice cur off (l.take k))).toArray := by
        rw [bs_splice]; rfl
      rw [e, bs_length, hl]
      exact h _ (setRow_heap w g _ _ t _ hg) (grown_setRow w g _)

end Go.Proofs.YteljopjaolegaaaDoor
