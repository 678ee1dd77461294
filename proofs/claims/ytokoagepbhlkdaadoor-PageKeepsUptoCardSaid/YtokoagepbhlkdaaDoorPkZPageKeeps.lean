/-
  PROVED HERE: coffretlaw12.PageKeeps answers true for every slice of operations and slice of bools, of together at most 1048576 values, where the table of sixteen words reads as its initialiser lays it.
-/
import Derived.Test.YtokoagepbhlkdaaDoorRow
import Derived.Test.YtokoagepbhlkdaaDoorPkD
import Derived.Deep.Grids
import Derived.Test.YtokoagepbhlkdaaDoorPkE
import Derived.Test.YtokoagepbhlkdaaDoorAwakeP
import Derived.Test.YtokoagepbhlkdaaDoorOwnedB

namespace Go.Proofs.YtokoagepbhlkdaaDoor
open Go.ChangeShapes Go.WideShapes Go.ChangeAt Go.RowKit Go.Deep
set_option maxRecDepth 100000

theorem boolCells : Tryd.prog.cellsOf 4 = 1 := by kernel_rfl
theorem arg_bool {H : Type} {enc : TypeId × Value → H} {W : World} {base b0 : Nat} {sp : Nat → Bool} {held : Bool} {v : Value} {d : DataW H} {p : List MemPlace}
    (hval : Value.okWide Tryd.prog W .any b0 4 v) (h : DataW.Trod enc Tryd.prog W base sp held 4 v d p) : ∃ b, v = .bool b := by
  obtain ⟨b, rfl, _⟩ := open_bool Tryd.underlying4 hval h
  exact ⟨b, rfl⟩
theorem arg_bools {H : Type} {enc : TypeId × Value → H} {W : World} {base b0 : Nat} {held : Bool} {v : Value} {d : DataW H} {p : List MemPlace}
    (hval : Value.okWide Tryd.prog W .any b0 38 v) (h : DataW.Trod enc Tryd.prog W base (fun _ => true) held 38 v d p) : ∃ A n c l, v = .slice A n c ∧ Bls W A n l := by
  obtain ⟨A, n, c, rfl⟩ := okWide_slice Tryd.underlying38 hval
  obtain ⟨fuel, hf⟩ := h
  rcases open_bools Tryd.underlying38 Tryd.underlying4 boolCells hf with ⟨hcs, _⟩ | ⟨a, len, cap, B, hcs, _, hl, hm, _, hcell⟩
  · simp [Value.cells] at hcs
    obtain ⟨rfl, rfl, rfl⟩ := hcs
    exact ⟨none, 0, 0, [], rfl, rfl, by omega, fun j b h => by simp at h⟩
  · simp [Value.cells] at hcs
    obtain ⟨rfl, rfl, rfl⟩ := hcs
    refine ⟨some a, n, c, (List.range n).map B, rfl, by simp, by simp only [maxLen] at hm; omega, fun j b hj => ⟨a, rfl, ?_⟩⟩
    simp only [List.getElem?_map, Option.map_eq_some_iff] at hj
    obtain ⟨i, hi, rfl⟩ := hj
    have hij := (List.getElem?_eq_some_iff.1 hi)
    obtain ⟨hlt, hi2⟩ := hij
    rw [List.getElem_range] at hi2
    subst hi2
    rw [List.length_range] at hlt
    exact hcell j (by omega)

end Go.Proofs.YtokoagepbhlkdaaDoor

/-
  A SLICE OF STRUCTS, opened at every index. Bytes, bools and numbers inside it.
-/
namespace Go.Proofs.YtokoagepbhlkdaaDoor
open Go.ChangeShapes Go.WideShapes Go.ChangeAt Go.RowKit Go.Deep
set_option maxRecDepth 100000

theorem bulk_pos {H : Type} (x : DataW H) : 1 ≤ Rows.uptoBulk x := by
  cases x with
  | lit l => cases l <;> simp [Rows.uptoBulk]
  | nil => simp [Rows.uptoBulk]
  | ptr d => simp [Rows.uptoBulk]
  | slice elems spare => simp [Rows.uptoBulk]
  | agg parts => simp [Rows.uptoBulk]
  | iface t d => simp [Rows.uptoBulk]
  | map entries => simp [Rows.uptoBulk]
  | held h => simp [Rows.uptoBulk]
theorem bulkAll_len {H : Type} : ∀ (l : List (DataW H)), l.length ≤ Rows.uptoBulkAll l
  | [] => by simp [Rows.uptoBulkAll]
  | x :: r => by have h1 := bulk_pos x; have h2 := bulkAll_len r; simp only [Rows.uptoBulkAll, List.length_cons]; omega
theorem bulkAll_mem {H : Type} {x : DataW H} : ∀ {l : List (DataW H)}, x ∈ l → Rows.uptoBulk x ≤ Rows.uptoBulkAll l
  | y :: r, h => by
    rcases List.mem_cons.1 h with rfl | h
    · simp only [Rows.uptoBulkAll]; omega
    · have := bulkAll_mem h; simp only [Rows.uptoBulkAll]; omega

section
variable {H : Type} {enc : TypeId × Value → H} {w : World} {base : Nat} {held : Bool}
theorem open_structs {t e : TypeId} {fs : Array Field} {fuel : Nat} {cs : List Value} {x : DataW H × List MemPlace} (ht : Tryd.prog.underlying t = some (.slice e)) (hs : Tryd.prog.underlying e = some (.struct fs)) (hpos : 0 < Tryd.prog.cellsOf e)
    (h : DataW.trod enc Tryd.prog w base (fun _ => true) held fuel t cs = some x) :
    (cs = [.slice none 0 0] ∧ x = (.nil, [])) ∨
    ∃ (a : Addr) (len cap : Nat) (D : Nat → DataW H) (R : List (DataW H)), cs = [.slice (some a) len cap] ∧ len ≤ cap ∧ cap ≤ maxLen ∧ x.1 = .slice ((List.range len).map D) R ∧
      ∀ i, i < len → ∃ (b off n : Nat) (cs' : List Value) (xs : List (DataW H × List MemPlace)), a = ⟨b, off, none⟩ ∧ cs'.length = Tryd.prog.cellsOf e ∧ D i = .agg (xs.map (·.1)) ∧ xs.length = fs.size ∧
        (∀ k, k < Tryd.prog.cellsOf e → w.cell? ⟨b, off + i * Tryd.prog.cellsOf e + k, none⟩ = cs'[k]?) ∧ ∀ (k : Nat) (f : Field), fs[k]? = some f → DataW.trod enc Tryd.prog w base (fun _ => true) held n f.type ((cs'.drop f.offset).take (Tryd.prog.cellsOf f.type)) = xs[k]? := by
  rcases open_slice ht h with h0 | ⟨a, len, cap, m, n, D, Pl, rfl, hb, hl, hm, hmm, rfl, hx⟩
  · exact .inl h0
  right
  refine ⟨a, len, cap, D, _, rfl, hl, hm, rfl, fun i hi => ?_⟩
  obtain ⟨cs', hcells, hy⟩ := hx i (by rw [hmm]; simp only [if_true]; omega)
  obtain ⟨hb', hlen, hcell⟩ := World.cells?_some hcells
  obtain ⟨xs, n', _, hD, _, hxl, hf⟩ := DataW.trod_struct hs hy
  have hsp : a.spot = none := by
    obtain ⟨c0, hc0, _⟩ := hx 0 (by rw [hmm]; simp only [if_true]; omega)
    obtain ⟨_, hl0, hcell0⟩ := World.cells?_some hc0
    have h0 := hcell0 0 hpos
    rw [List.getElem?_eq_getElem (by omega), Nat.zero_mul, show ∀ x : Addr, x.add 0 = x from fun x => by simp [Addr.add]] at h0
    exact World.cell?_spot h0
  obtain ⟨b, o, spot⟩ := a
  have hspot : spot = none := hsp
  subst hspot
  have e1 : D i = .agg (xs.map (·.1)) := (Prod.ext_iff.1 hD).1
  refine ⟨b, o, n', cs', xs, rfl, hlen, e1, hxl, fun k hk => ?_, hf⟩
  have := hcell k hk
  rw [add_plain, add_plain] at this
  exact this

theorem open_byterow {fuel : Nat} {v : Value} {x : DataW H × List MemPlace} (h : DataW.trod enc Tryd.prog w base (fun _ => true) held fuel 22 [v] = some x) :
    ∃ A n c l, v = .slice A n c ∧ n ≤ c ∧ n + 1 ≤ Rows.uptoBulk x.1 ∧ c ≤ maxLen ∧ Bs w A n l := by
  rcases open_ints Tryd.underlying22 Tryd.underlying5 byteCells h with ⟨hcs, rfl⟩ | ⟨a, len, cap, zs, hcs, _, hl, hm, hzl, rfl, hcell, hwz⟩
  · cases hcs
    exact ⟨none, 0, 0, [], rfl, Nat.le_refl _, by simp [Rows.uptoBulk], by simp [maxLen], Bs.nil _ _⟩
  · cases hcs
    simp only [if_true] at hzl
    refine ⟨some a, len, cap, (zs.take len).map (fun z => UInt8.ofNat z.toNat), rfl, hl, ?_, hm, ⟨by simp; omega, by simp only [maxLen] at hm; omega, fun k u hk => ⟨a, rfl, ?_⟩⟩⟩
    · have h1 := bulkAll_len (lits (H := H) .u8 (zs.take len))
      have e1 : (lits (H := H) .u8 (zs.take len)).length = len := by simp [lits]; omega
      simp only [Rows.uptoBulk]
      omega
    · simp only [List.getElem?_map, Option.map_eq_some_iff] at hk
      obtain ⟨z, hz1, rfl⟩ := hk
      have hkn : k < len := by
        have := (List.getElem?_eq_some_iff.1 hz1).1
        simp at this; omega
      have hz2 : zs[k]? = some z := by rw [List.getElem?_take_of_lt hkn] at hz1; exact hz1
      rw [hcell k (by omega)]
      have hw := hwz z (List.mem_of_getElem? hz2)
      have hzz : zs.getD k 0 = z := by simp [List.getD, hz2]
      rw [hzz]
      have hw' : 0 ≤ z ∧ z ≤ 255 := by simpa [Lit.wf, IntKind.min, IntKind.max, IntKind.signed, IntKind.bits] using hw
      have : ub (UInt8.ofNat z.toNat) = z := by
        unfold ub
        rw [UInt8.toNat_ofNat']
        omega
      rw [this]
theorem open_boolrow {fuel : Nat} {v : Value} {x : DataW H × List MemPlace} (h : DataW.trod enc Tryd.prog w base (fun _ => true) held fuel 38 [v] = some x) : ∃ A n c l, v = .slice A n c ∧ Bls w A n l := by
  rcases open_bools Tryd.underlying38 Tryd.underlying4 boolCells h with ⟨hcs, _⟩ | ⟨a, len, cap, B, hcs, _, hl, hm, _, hcell⟩
  · cases hcs
    exact ⟨none, 0, 0, [], rfl, rfl, by omega, fun j b h => by simp at h⟩
  · cases hcs
    refine ⟨some a, len, cap, (List.range len).map B, rfl, by simp, by simp only [maxLen] at hm; omega, fun j b hj => ⟨a, rfl, ?_⟩⟩
    simp only [List.getElem?_map, Option.map_eq_some_iff] at hj
    obtain ⟨i, hi, rfl⟩ := hj
    obtain ⟨hlt, hi2⟩ := List.getElem?_eq_some_iff.1 hi
    rw [List.getElem_range] at hi2
    subst hi2
    rw [List.length_range] at hlt
    exact hcell j (by omega)
theorem open_intcell {fuel : Nat} {v : Value} {x : DataW H × List MemPlace} (h : DataW.trod enc Tryd.prog w base (fun _ => true) held fuel 3 [v] = some x) : ∃ n, v = .int .i64 n ∧ -9223372036854775808 ≤ n ∧ n ≤ 9223372036854775807 := by
  obtain ⟨n, h1, _, hw⟩ := DataW.trod_int Tryd.underlying3 h
  cases h1
  exact ⟨n, rfl, by simpa [Lit.wf, IntKind.min, IntKind.max, IntKind.signed, IntKind.bits] using hw⟩
theorem open_boolcell {fuel : Nat} {v : Value} {x : DataW H × List MemPlace} (h : DataW.trod enc Tryd.prog w base (fun _ => true) held fuel 4 [v] = some x) : ∃ b, v = .bool b := by
  obtain ⟨n, h1, _⟩ := DataW.trod_bool Tryd.underlying4 h
  cases h1
  exact ⟨n, rfl⟩
end

end Go.Proofs.YtokoagepbhlkdaaDoor

/-
  PageKeeps: what the law keeps, and how it turns.
-/
namespace Go.Proofs.YtokoagepbhlkdaaDoor
open Go.RowKit
set_option maxRecDepth 100000
set_option linter.unusedVariables false
set_option linter.unusedSimpArgs false

theorem i64_and7 (n : Int) : bits .and .i64 n 7 = n % 8 := by
  have h7 : (BitVec.ofInt 64 7).toNat = 2 ^ 3 - 1 := by decide
  have key : (BitVec.ofInt 64 n &&& BitVec.ofInt 64 7).toNat = (n % ((2 ^ 64 : Nat) : Int)).toNat % 2 ^ 3 := by
    rw [BitVec.toNat_and, BitVec.toNat_ofInt, h7, Nat.and_two_pow_sub_one_eq_mod]
  show IntKind.i64.wrap ((BitVec.ofInt 64 n &&& BitVec.ofInt 64 7).toNat : Nat) = n % 8
  rw [key, IntKind.wrap_i64]
  omega

/-- An operation of a script: its six fields. -/
structure OpP where
  act : Int
  n : Int
  kind : Int
  A : Option Addr
  bn : Nat
  bc : Nat
  B : List UInt8
  more : Bool
  K : Option Addr
  kn : Nat
  kc : Nat
  keep : List Bool
def OpAt (w : World) (b off : Nat) (o : OpP) : Prop :=
  w.cell? ⟨b, off, none⟩ = some (.int .i64 o.act) ∧ w.cell? ⟨b, off + 1, none⟩ = some (.int .i64 o.n) ∧ w.cell? ⟨b, off + 2, none⟩ = some (.int .i64 o.kind) ∧ w.cell? ⟨b, off + 3, none⟩ = some (.slice o.A o.bn o.bc) ∧
    w.cell? ⟨b, off + 4, none⟩ = some (.bool o.more) ∧ w.cell? ⟨b, off + 5, none⟩ = some (.slice o.K o.kn o.kc) ∧ Bs w o.A o.bn o.B ∧ Bls w o.K o.kn o.keep ∧ o.n ≤ 9223372036854775807 ∧ o.bn ≤ 140737488351232
def OpsAt (w : World) (A : Option Addr) (n : Nat) (L : List OpP) : Prop := L.length = n ∧ ∀ (j : Nat) (o : OpP), L[j]? = some o → ∃ b off, A = some ⟨b, off, none⟩ ∧ OpAt w b (off + j * 6) o
theorem OpAt.below {w w1 : World} {b off : Nat} {o : OpP} (h : OpAt w b off o) (hb : Below w.heap.size w w1) : OpAt w1 b off o := by
  obtain ⟨h1, h2, h3, h4, h5, h6, h7, h8, h9⟩ := h
  exact ⟨cell_below hb h1, cell_below hb h2, cell_below hb h3, cell_below hb h4, cell_below hb h5, cell_below hb h6, h7.below hb, h8.kept (fun a v hc => cell_below hb hc), h9⟩

def KO (h lb kb : Nat) (vs : List Value) (k : Nat) : Prop := k = h ∨ k = lb ∨ k = kb ∨ ∃ (m : Nat) (v : Value), vs[m]? = some v ∧ v.ownBlock = some k
structure KeepsW (w wr : World) (h g lb kb : Nat) (d : DiskV) (ks : List Int) (ls : List (List UInt8)) (vs : List Value) : Prop where
  disk : DX w wr h g d (KO h lb kb vs)
  keeps : d.Keeps (fun m => (ks.getD m 0, ls.getD m []))
  last : wr.heap[lb]? = some (.cells vs.toArray 41 (0, 0))
  kinds : wr.heap[kb]? = some (.cells (ks.map (Value.int .i64)).toArray 42 (0, 0))
  lv : vs.length = 5
  lk : ks.length = 5
  ll : ls.length = 5
  rows : ∀ (m : Nat) (v : Value) (l : List UInt8), vs[m]? = some v → ls[m]? = some l → wr.ownsRow w.heap.size 5 1 v l.length (bs l)
  wl : w.heap.size ≤ lb
  wk : w.heap.size ≤ kb
  ne : lb ≠ kb
  hl : h ≠ lb
  hk : h ≠ kb

theorem KeepsW.same {w wr wy : World} {h g lb kb : Nat} {d d' : DiskV} {ks : List Int} {ls : List (List UInt8)} {vs : List Value} (k : KeepsW w wr h g lb kb d ks ls vs) (hx : DX w wy h g d' (KO h lb kb vs)) (st : Stays (KO h lb kb vs) wr wy) (hK : d'.Keeps (fun m => (ks.getD m 0, ls.getD m []))) : KeepsW w wy h g lb kb d' ks ls vs :=
  ⟨hx, hK, (st lb (.inr (.inl rfl))).trans k.last, (st kb (.inr (.inr (.inl rfl)))).trans k.kinds, k.lv, k.lk, k.ll, fun m v l hv hl => own_keep (k.rows m v l hv hl) (fun i hi => st i (.inr (.inr (.inr ⟨m, v, hv, hi⟩)))), k.wl, k.wk, k.ne, k.hl, k.hk⟩
theorem KeepsW.below {w wr wy : World} {h g lb kb : Nat} {d : DiskV} {ks : List Int} {ls : List (List UInt8)} {vs : List Value} (k : KeepsW w wr h g lb kb d ks ls vs) (hb : Below wr.heap.size wr wy) : KeepsW w wy h g lb kb d ks ls vs :=
  k.same (k.disk.below hb) (k.disk.stays hb) k.keeps
theorem KeepsW.kind {w wr : World} {h g lb kb : Nat} {d : DiskV} {ks : List Int} {ls : List (List UInt8)} {vs : List Value} (k : KeepsW w wr h g lb kb d ks ls vs) (m : Nat) (hm : m < 5) : wr.cell? ⟨kb, m, none⟩ = some (.int .i64 (ks.getD m 0)) ∧ wr.frozen? ⟨kb, m, none⟩ = false := by
  have hlt : m < ks.length := by rw [k.lk]; exact hm
  refine ⟨cell_block k.kinds ?_, free_block k.kinds m⟩
  rw [List.getElem?_map, List.getElem?_eq_getElem hlt, List.getD_eq_getElem?_getD, List.getElem?_eq_getElem hlt]; rfl
theorem KeepsW.row {w wr : World} {h g lb kb : Nat} {d : DiskV} {ks : List Int} {ls : List (List UInt8)} {vs : List Value} (k : KeepsW w wr h g lb kb d ks ls vs) (m : Nat) (hm : m < 5) :
    ∃ A c, wr.cell? ⟨lb, m, none⟩ = some (.slice A (ls.getD m []).length c) ∧ wr.frozen? ⟨lb, m, none⟩ = false ∧ Bs wr A (ls.getD m []).length (ls.getD m []) := by
  have hlt : m < vs.length := by rw [k.lv]; exact hm
  have hlt2 : m < ls.length := by rw [k.ll]; exact hm
  have hv : vs[m]? = some vs[m] := List.getElem?_eq_getElem hlt
  have hl : ls[m]? = some (ls.getD m []) := by rw [List.getD_eq_getElem?_getD, List.getElem?_eq_getElem hlt2]; rfl
  obtain ⟨A, c, e, hb⟩ := own_bytes (k.rows m _ _ hv hl)
  exact ⟨A, c, by rw [← e]; exact cell_block k.last hv, free_block k.last m, hb⟩

theorem KeepsW.put {w wr wx wy : World} {h g lb kb : Nat} {d d' : DiskV} {ks : List Int} {ls : List (List UInt8)} {vs : List Value} {O : Nat → Prop} (k : KeepsW w wr h g lb kb d ks ls vs) (m : Nat) (hm : m < 5) (kind : Int) (body : List UInt8) (u : Value)
    (hx : DX w wx h g d' O) (hO : ∀ i, KO h lb kb vs i → O i) (st : Stays O wr wx) (hK : d'.Keeps (fun i => if i = m then (kind, body) else (ks.getD i 0, ls.getD i [])))
    (hb : Below wx.heap.size wx wy) (ho : wy.ownsRow wx.heap.size 5 1 u body.length (bs body)) :
    KeepsW w ((wy.setCell ⟨lb, m, none⟩ u).setCell ⟨kb, m, none⟩ (.int .i64 kind)) h g lb kb d' (ks.set m kind) (ls.set m body) (vs.set m u) := by
  have hx1 := hx.mono hO (.inl rfl)
  have st1 := st.mono hO
  have hlb : wy.heap[lb]? = some (.cells vs.toArray 41 (0, 0)) := ((hb.block lb (hx1.lt (.inr (.inl rfl)))).trans (st1 lb (.inr (.inl rfl)))).trans k.last
  have hkb : wy.heap[kb]? = some (.cells (ks.map (Value.int .i64)).toArray 42 (0, 0)) := ((hb.block kb (hx1.lt (.inr (.inr (.inl rfl))))).trans (st1 kb (.inr (.inr (.inl rfl))))).trans k.kinds
  have ub : ∀ i, u.ownBlock = some i → wx.heap.size ≤ i ∧ i < wy.heap.size := fun i hi => own_lt ho hi
  have un : ∀ i, KO h lb kb vs i → u.ownBlock ≠ some i := fun i hi e => by have := hx1.lt hi; have := (ub i e).1; omega
  have ext : Ext (fun i => i = lb ∨ i = kb) wx ((wy.setCell ⟨lb, m, none⟩ u).setCell ⟨kb, m, none⟩ (.int .i64 kind)) :=
    ((Ext.of_below hb).setCell _ (fun _ => .inl rfl) _).setCell _ (fun _ => .inr rfl) _
  have sz : ((wy.setCell ⟨lb, m, none⟩ u).setCell ⟨kb, m, none⟩ (.int .i64 kind)).heap.size = wy.heap.size := by simp
  refine ⟨hx1.own ext (fun i hi => ?_) (fun i hi => ?_) (.inl rfl), ?_, ?_, ?_, by rw [List.length_set]; exact k.lv, by rw [List.length_set]; exact k.lk, by rw [List.length_set]; exact k.ll, fun i v l hv hl => ?_, k.wl, k.wk, k.ne, k.hl, k.hk⟩
  · rcases hi with rfl | rfl
    · exact ⟨.inr (.inl rfl), Ne.symm k.hl, k.wl⟩
    · exact ⟨.inr (.inr (.inl rfl)), Ne.symm k.hk, k.wk⟩
  · rcases hi with e | e | e | ⟨j, v, hv, hvi⟩
    · exact .inl (.inl e)
    · exact .inl (.inr (.inl e))
    · exact .inl (.inr (.inr (.inl e)))
    · rw [List.getElem?_set] at hv
      split at hv
      · split at hv
        · cases hv
          exact .inr ⟨(ub i hvi).1, by rw [sz]; exact (ub i hvi).2⟩
        · cases hv
      · exact .inl (.inr (.inr (.inr ⟨j, v, hv, hvi⟩)))
  · refine ⟨hK.1, hK.2.1, hK.2.2.1, fun i hi => ?_⟩
    have h0 := hK.2.2.2 i hi
    by_cases him : i = m
    · subst him
      simp only [if_pos] at h0
      have e1 : (ks.set i kind).getD i 0 = kind := by rw [List.getD_eq_getElem?_getD, List.getElem?_set_self (by rw [k.lk]; exact hi)]; rfl
      have e2 : (ls.set i body).getD i [] = body := by rw [List.getD_eq_getElem?_getD, List.getElem?_set_self (by rw [k.ll]; exact hi)]; rfl
      simp only [e1, e2]
      exact h0
    · simp only [if_neg him] at h0
      have e1 : (ks.set m kind).getD i 0 = ks.getD i 0 := by rw [List.getD_eq_getElem?_getD, List.getElem?_set_ne (Ne.symm him), ← List.getD_eq_getElem?_getD]
      have e2 : (ls.set m body).getD i [] = ls.getD i [] := by rw [List.getD_eq_getElem?_getD, List.getElem?_set_ne (Ne.symm him), ← List.getD_eq_getElem?_getD]
      simp only [e1, e2]
      exact h0
  · rw [heap_setCell_other _ _ _ _ (fun e => k.ne e)]
    exact set_block hlb m u
  · rw [List.map_set]
    exact set_block ((heap_setCell_other _ _ _ _ (fun e => k.ne e.symm)).trans hkb) m _
  · rw [List.getElem?_set] at hv hl
    have far : ∀ (x : Value) (n : Nat) (xs : List Value), wy.ownsRow w.heap.size 5 1 x n xs → x.ownBlock ≠ some lb → x.ownBlock ≠ some kb → ((wy.setCell ⟨lb, m, none⟩ u).setCell ⟨kb, m, none⟩ (.int .i64 kind)).ownsRow w.heap.size 5 1 x n xs := fun x n xs hr h1 h2 =>
      own_keep hr (fun i hi => by
        rw [heap_setCell_other _ _ _ _ (fun e => h2 (hi.trans (congrArg some e))), heap_setCell_other _ _ _ _ (fun e => h1 (hi.trans (congrArg some e)))])
    by_cases him : m = i
    · rw [if_pos him] at hv hl
      split at hv
      · split at hl
        · cases hv; cases hl
          exact far _ _ _ (own_mono ho hx.base.size) (un lb (.inr (.inl rfl))) (un kb (.inr (.inr (.inl rfl))))
        · cases hl
      · cases hv
    · rw [if_neg him] at hv hl
      have hr := k.rows i v l hv hl
      have hi : ∀ j, v.ownBlock = some j → wy.heap[j]? = wr.heap[j]? := fun j hj => (hb.block j (hx1.lt (.inr (.inr (.inr ⟨i, v, hv, hj⟩))))).trans (st1 j (.inr (.inr (.inr ⟨i, v, hv, hj⟩))))
      obtain ⟨x, hxx⟩ : ∃ x, v = x := ⟨_, rfl⟩
      refine far v _ _ (own_keep hr hi) (fun e => ?_) (fun e => ?_)
      · obtain ⟨cur, hc⟩ : ∃ cur, wr.heap[lb]? = some (.cells cur 5 (0, 0)) := by
          rcases hr.2 with ⟨rfl, _⟩ | ⟨g', cap, cur, rfl, _, hg', _⟩
          · cases e
          · cases e; exact ⟨cur, hg'⟩
        rw [k.last] at hc; cases hc
      · obtain ⟨cur, hc⟩ : ∃ cur, wr.heap[kb]? = some (.cells cur 5 (0, 0)) := by
          rcases hr.2 with ⟨rfl, _⟩ | ⟨g', cap, cur, rfl, _, hg', _⟩
          · cases e
          · cases e; exact ⟨cur, hg'⟩
        rw [k.kinds] at hc; cases hc

theorem KeepsW.new {w wx : World} {h g : Nat} (k : DX w wx h g (DiskV.new 40) (fun k => False ∨ k = h)) :
    KeepsW w ((wx.alloc (.cells #[.slice none 0 0, .slice none 0 0, .slice none 0 0, .slice none 0 0, .slice none 0 0] 41)).alloc (.cells #[.int .i64 0, .int .i64 0, .int .i64 0, .int .i64 0, .int .i64 0] 42)) h g wx.heap.size (wx.heap.size + 1) (DiskV.new 40) [0, 0, 0, 0, 0] [[], [], [], [], []] [.slice none 0 0, .slice none 0 0, .slice none 0 0, .slice none 0 0, .slice none 0 0] := by
  have hh := k.lt (.inr rfl)
  have hb : Below wx.heap.size wx ((wx.alloc (.cells #[.slice none 0 0, .slice none 0 0, .slice none 0 0, .slice none 0 0, .slice none 0 0] 41)).alloc (.cells #[.int .i64 0, .int .i64 0, .int .i64 0, .int .i64 0, .int .i64 0] 42)) := ((Below.refl wx.heap.size wx).alloc (Nat.le_refl _) _).alloc (by rw [World.size_alloc]; omega) _
  have none5 : ∀ (m : Nat) (v : Value), ([.slice none 0 0, .slice none 0 0, .slice none 0 0, .slice none 0 0, .slice none 0 0] : List Value)[m]? = some v → v = .slice none 0 0 := fun m v hv => by
    have := List.mem_of_getElem? hv
    simpa using this
  have nil5 : ∀ (m : Nat) (l : List UInt8), ([[], [], [], [], []] : List (List UInt8))[m]? = some l → l = [] := fun m v hv => by
    have := List.mem_of_getElem? hv
    simpa using this
  refine ⟨k.more hb (fun i hi => ?_) (.inl rfl), DiskV.keeps_new _ (fun n hn => ?_), ?_, ?_, rfl, rfl, rfl, fun m v l hv hl => ?_, k.base.size, by have := k.base.size; omega, by omega, by omega, by omega⟩
  · rcases hi with e | e | e | ⟨m, v, hv, e⟩
    · exact .inl (.inr e)
    · exact .inr ⟨by omega, by rw [e]; simp only [World.size_alloc]; omega⟩
    · exact .inr ⟨by omega, by rw [e]; simp only [World.size_alloc]; omega⟩
    · rw [none5 m v hv] at e; cases e
  · rcases n with _ | _ | _ | _ | _ | n
    all_goals first | rfl | omega
  · exact (((Below.refl _ _).alloc (Nat.le_refl _) _).block wx.heap.size (by simp only [World.size_alloc]; omega)).trans (heap_alloc_new _ _)
  · have := heap_alloc_new (wx.alloc (.cells #[.slice none 0 0, .slice none 0 0, .slice none 0 0, .slice none 0 0, .slice none 0 0] 41)) (.cells #[.int .i64 0, .int .i64 0, .int .i64 0, .int .i64 0, .int .i64 0] 42)
    rw [World.size_alloc] at this
    exact this
  · rw [none5 m v hv, nil5 m l hl]
    exact World.ownsRow_nil _ _ _ _

end Go.Proofs.YtokoagepbhlkdaaDoor

/-
  An argument of type []coffretlaw12.Op, opened.
-/
namespace Go.Proofs.YtokoagepbhlkdaaDoor
open Go.ChangeShapes Go.WideShapes Go.ChangeAt Go.RowKit Go.Deep
set_option maxRecDepth 100000
set_option linter.unusedSimpArgs false

theorem opCells : Tryd.prog.cellsOf 44 = 6 := by kernel_rfl
theorem intCells1 : Tryd.prog.cellsOf 3 = 1 := by kernel_rfl
theorem bytesCells1 : Tryd.prog.cellsOf 22 = 1 := by kernel_rfl
theorem boolsCells1 : Tryd.prog.cellsOf 38 = 1 := by kernel_rfl
instance : Inhabited OpP := ⟨⟨0, 0, 0, none, 0, 0, [], false, none, 0, 0, []⟩⟩

theorem arg_ops {H : Type} {enc : TypeId × Value → H} {W : World} {base b0 : Nat} {held : Bool} {v : Value} {d : DataW H} {p : List MemPlace}
    (hval : Value.okWide Tryd.prog W .any b0 37 v) (h : DataW.Trod enc Tryd.prog W base (fun _ => true) held 37 v d p) (hu : Rows.uptoBulk d ≤ 1048576) :
    ∃ A n c L, v = .slice A n c ∧ OpsAt W A n L ∧ n ≤ 1048576 := by
  obtain ⟨A, n, c, rfl⟩ := okWide_slice Tryd.underlying37 hval
  obtain ⟨fuel, hf⟩ := h
  rcases open_structs Tryd.underlying37 Tryd.underlying44 (by rw [opCells]; decide) hf with ⟨hcs, _⟩ | ⟨a, len, cap, D, R, hcs, hl, hm, hx, hall⟩
  · simp [Value.cells] at hcs
    obtain ⟨rfl, rfl, rfl⟩ := hcs
    exact ⟨none, 0, 0, [], rfl, ⟨rfl, fun j o h => by simp at h⟩, by omega⟩
  · simp [Value.cells] at hcs
    obtain ⟨rfl, rfl, rfl⟩ := hcs
    have hd : d = .slice ((List.range n).map D) R := hx
    rw [hd] at hu
    simp only [Rows.uptoBulk] at hu
    have hn : n ≤ 1048576 := by
      have := bulkAll_len ((List.range n).map D)
      rw [List.length_map, List.length_range] at this
      omega
    have key : ∀ i, i < n → ∃ o : OpP, ∃ b off, some a = some ⟨b, off, none⟩ ∧ OpAt W b (off + i * 6) o := by
      intro i hi
      obtain ⟨b, off, n', cs', xs, rfl, hlen, hD, hxl, hcell, hfld⟩ := hall i hi
      rw [opCells] at hlen hcell
      obtain ⟨c0, c1, c2, c3, c4, c5, rfl⟩ : ∃ c0 c1 c2 c3 c4 c5, cs' = [c0, c1, c2, c3, c4, c5] := by
        match cs', hlen with
        | [c0, c1, c2, c3, c4, c5], _ => exact ⟨_, _, _, _, _, _, rfl⟩
      obtain ⟨x0, x1, x2, x3, x4, x5, rfl⟩ : ∃ c0 c1 c2 c3 c4 c5, xs = [c0, c1, c2, c3, c4, c5] := by
        match xs, hxl with
        | [c0, c1, c2, c3, c4, c5], _ => exact ⟨_, _, _, _, _, _, rfl⟩
      have f0 := hfld 0 _ rfl
      have f1 := hfld 1 _ rfl
      have f2 := hfld 2 _ rfl
      have f3 := hfld 3 _ rfl
      have f4 := hfld 4 _ rfl
      have f5 := hfld 5 _ rfl
      simp only [intCells1, bytesCells1, boolsCells1, boolCells, List.drop_zero, List.drop_succ_cons, List.take_succ_cons, List.take_zero, List.getElem?_cons_zero, List.getElem?_cons_succ] at f0 f1 f2 f3 f4 f5
      obtain ⟨z0, rfl, _, _⟩ := open_intcell f0
      obtain ⟨z1, rfl, _, h1⟩ := open_intcell f1
      obtain ⟨z2, rfl, _, _⟩ := open_intcell f2
      obtain ⟨A3, n3, c3', l3, rfl, _, h3, _, hb3⟩ := open_byterow f3
      obtain ⟨b4, rfl⟩ := open_boolcell f4
      obtain ⟨A5, n5, c5', l5, rfl, hb5⟩ := open_boolrow f5
      have hbd : n3 + 1 ≤ 1048576 := by
        have m1 : D i ∈ (List.range n).map D := List.mem_map.2 ⟨i, List.mem_range.2 hi, rfl⟩
        have m2 := bulkAll_mem m1
        rw [hD] at m2
        simp only [Rows.uptoBulk] at m2
        have m3 : x3.1 ∈ ([x0, x1, x2, x3, x4, x5] : List (DataW H × List MemPlace)).map (·.1) := by simp
        have m4 := bulkAll_mem m3
        omega
      exact ⟨⟨z0, z1, z2, A3, n3, c3', l3, b4, A5, n5, c5', l5⟩, b, off, rfl, hcell 0 (by omega), hcell 1 (by omega), hcell 2 (by omega), hcell 3 (by omega), hcell 4 (by omega), hcell 5 (by omega), hb3, hb5, h1, by show n3 ≤ _; omega⟩
    obtain ⟨f, hf'⟩ := choose_lt key
    refine ⟨some a, n, c, (List.range n).map f, rfl, ⟨by simp, fun j o hj => ?_⟩, hn⟩
    simp only [List.getElem?_map, Option.map_eq_some_iff] at hj
    obtain ⟨i, hi, rfl⟩ := hj
    obtain ⟨hlt, hi2⟩ := List.getElem?_eq_some_iff.1 hi
    rw [List.getElem_range] at hi2
    subst hi2
    rw [List.length_range] at hlt
    exact hf' j hlt

end Go.Proofs.YtokoagepbhlkdaaDoor

/-
  THE WALK of coffretlaw12.PageKeeps.
-/
namespace Go.Proofs.YtokoagepbhlkdaaDoor
open Go.RowKit
set_option maxRecDepth 100000
set_option linter.unusedVariables false
set_option linter.unusedSimpArgs false

theorem strB_same (a : List UInt8) : ((strB a).toList == (strB a).toList) = true := by simp

set_option maxHeartbeats 8000000 in
theorem pageKeeps_any (A : Option Addr) (n c : Nat) (L : List OpP) (B : Option Addr) (m kc : Nat) (keep : List Bool) (w : World) (hN : Nib w) (hL : OpsAt w A n L) (hk : Bls w B m keep) (hn : n ≤ 1048576) :
    Calls Tryd.prog 6 #[.slice A n c, .slice B m kc] w fun r w' => r = .returned (.bool true) ∧ Below w.heap.size w w' := by
  obtain ⟨B0, hB⟩ : ∃ B, B = w.heap.size := ⟨_, rfl⟩
  have HB := Lib.hid hB
  have Hlow : Hid (∀ wx, Below B0 w wx → Below w.heap.size w wx) := Lib.hid (fun wx h => by rw [← hB]; exact h)
  have KN : Hid (∀ wx, Below B0 w wx → Nib wx) := Lib.hid (fun wx hx => hN.below (Hlow.out _ hx))
  have HN := Lib.hid hN
  have G0 : Hid (Below B0 w w) := Lib.hid (Below.refl _ _)
  have Ha : Hid (∀ wx, Below B0 w wx → Calls Tryd.prog 8 #[] wx fun q w' => q = .returned (.bool true) ∧ Below wx.heap.size wx w') := Lib.hid (fun wx hx => awake12 wx (KN.out _ hx))
  have KT : Hid (∀ wx wy, Below B0 w wx → Below wx.heap.size wx wy → Below B0 w wy) := Lib.hid (fun wx wy h1 h2 => h1.trans (h2.mono (by rw [hB]; exact h1.size)))
  have CN : Hid (∀ wx, Below B0 w wx → Calls Tryd.prog 16 #[.int .i64 40] wx fun x w' => ∃ h g, x = .returned (.pointer (some ⟨h, 0, none⟩)) ∧ DX w w' h g (DiskV.new 40) (fun k => False ∨ k = h) ∧ Below wx.heap.size wx w' ∧ wx.heap.size ≤ h) := Lib.hid (fun wx hx => dx_new 40 w wx (fun _ => False) (by omega) (Hlow.out _ hx) (fun _ h => h.elim))
  have HL := Lib.hid hL
  have Hk := Lib.hid hk
  clear hB hN hL hk
  go_enter Tryd.func6, Tryd.ntmps6
  go_wp2_with (first
    | ((go_at_call 8; (with_reducible refine (Ha.out _ G0.out).mono ?_)); rintro q w1 ⟨rfl, hb⟩; have G1 := Lib.hid (KT.out _ _ G0.out hb); clear hb)
    | ((go_at_call 16; (with_reducible refine (CN.out _ G1.out).mono ?_)); rintro x w2 ⟨h, g, rfl, hd, hb, hh⟩; have K2 := Lib.hid hd; have S2 := Lib.hid hh; clear hd hb hh))
  have hw0 : (DiskV.new 40).wait.length = 0 := rfl
  have KW0 := Lib.hid (KeepsW.new K2.out)
  obtain ⟨D0, hD0⟩ : ∃ D, D = DiskV.new 40 := ⟨_, rfl⟩
  rw [← hD0] at KW0 hw0
  obtain ⟨lb, hlb⟩ : ∃ lb, lb = w2.heap.size := ⟨_, rfl⟩
  obtain ⟨kb, hkb⟩ : ∃ kb, kb = w2.heap.size + 1 := ⟨_, rfl⟩
  rw [← hkb, ← hlb] at KW0
  rw [← hkb, ← hlb]
  obtain ⟨w3, hw3⟩ : ∃ w3, w3 = ((w2.alloc (.cells #[.slice none 0 0, .slice none 0 0, .slice none 0 0, .slice none 0 0, .slice none 0 0] 41)).alloc (.cells #[.int .i64 0, .int .i64 0, .int .i64 0, .int .i64 0, .int .i64 0] 42)) := ⟨_, rfl⟩
  rw [← hw3] at KW0
  rw [← hw3]
  clear hw3 hlb hkb K2 S2 hD0 CN Ha
  have hnz : (n : Int) ≤ 9223372036854775807 := by omega
  go_loopw [9] (fun i wr => ∃ (k : Nat) (d : DiskV) (ks : List Int) (ls : List (List UInt8)) (vs : List Value), k ≤ n ∧ i = .int .i64 k ∧ KeepsW w wr h g lb kb d ks ls vs ∧ d.wait.length ≤ 8 * k) (fun i _ => n - (intOf i).toNat)
  case atStart => exact ⟨0, D0, _, _, _, by omega, rfl, KW0.out, by omega⟩
  case round =>
    obtain ⟨k, d, ks, ls, vs, hkn, rfl, hkw, hwl⟩ := hrel
    have KW := Lib.hid hkw
    clear hkw KW0 hw0
    by_cases hlt : k < n
    · obtain ⟨o, ho⟩ : ∃ o, L[k]? = some o := ⟨_, List.getElem?_eq_getElem (by rw [HL.out.1]; exact hlt)⟩
      obtain ⟨b, off, hA, hop⟩ := HL.out.2 k o ho
      have HO := Lib.hid hop
      obtain ⟨act, on, okind, oA, obn, obc, oB, omore, oK, okn, okc, okeep⟩ := o
      have hbw : b < w.heap.size := World.block_lt_of_cell? _ _ hop.1
      have Hbb : Hid (∀ wx, Below w.heap.size w wx → Bs wx oA obn oB) := Lib.hid (fun wx hx => hop.2.2.2.2.2.2.1.below hx)
      have CX : Hid (∀ wx, Below w.heap.size w wx → wx.cell? ⟨b, off + k * 6 + 1, none⟩ = some (.int .i64 on) ∧ wx.cell? ⟨b, off + k * 6 + 2, none⟩ = some (.int .i64 okind) ∧ wx.cell? ⟨b, off + k * 6 + 3, none⟩ = some (.slice oA obn obc)) := Lib.hid (fun wx hx => ⟨cell_below hx hop.2.1, cell_below hx hop.2.2.1, cell_below hx hop.2.2.2.1⟩)
      obtain ⟨nz, hnz7⟩ : ∃ nz : Nat, on % 8 = nz := ⟨(on % 8).toNat, by omega⟩
      have h7 : bits .and .i64 on 7 = (nz : Int) := by rw [i64_and7]; exact hnz7
      have hobn := hop.2.2.2.2.2.2.2.2.2
      subst hA
      clear ho hop
      obtain ⟨x1, x2, x3⟩ := CX.out _ KW.out.disk.base
      have hki : (k : Int) < (n : Int) := by omega
      have hk0 : (0 : Int) ≤ (k : Int) := by omega
      go_wp2_with fail
      have WB : Hid ((d.wait.length + 8) * 32 ≤ 140737488355328) := Lib.hid (by omega)
      obtain ⟨y1, y2⟩ := DiskV.keeps_write d _ KW.out.keeps nz okind oB
      obtain ⟨y2, y3⟩ := y2
      obtain ⟨D5, hD5⟩ : ∃ D, D = (d.pwrite nz okind oB).1 := ⟨_, rfl⟩
      obtain ⟨E5, hE5⟩ : ∃ E, E = (d.pwrite nz okind oB).2 := ⟨_, rfl⟩
      rw [← hD5, ← hE5] at y1
      rw [← hD5, ← hE5] at y2
      rw [← hD5] at y3
      have CD : Hid (∀ wx, DX w wx h g d (KO h lb kb vs) → Calls Tryd.prog 18 #[.pointer (some ⟨h, 0, none⟩)] wx fun x w' => ∃ q, x = .returned (.pointer (some ⟨q, 0, none⟩)) ∧ DX w w' h g d (fun k => KO h lb kb vs k ∨ k = q) ∧ PtrAt w' q g 77 ∧ Below wx.heap.size wx w' ∧ wx.heap.size ≤ q) := Lib.hid (fun wx k => dx_disk k)
      have CW : Hid (∀ wx q, DX w wx h g d (fun k => KO h lb kb vs k ∨ k = q) → PtrAt wx q g 77 → Calls Tryd.prog 17 #[.pointer (some ⟨q, 0, none⟩), .int .i64 nz, .int .i64 okind, .slice oA obn obc] wx fun x w' => x = .returned (errV E5) ∧ DX w w' h g D5 (fun k => KO h lb kb vs k ∨ k = q) ∧ Stays (fun k => KO h lb kb vs k ∨ k = q) wx w') := Lib.hid (fun wx q k hq => by
        rw [hD5, hE5]
        exact dx_pwrite k (.inr rfl) hq HN.out nz okind oA obn obc oB (Hbb.out _ k.base) WB.out)
      have Y := Lib.hid y3
      have Yk := Lib.hid hkn
      have Yn := Lib.hid hn
      have Ywl := Lib.hid hwl
      have Yb := Lib.hid hbw
      have Ylt := Lib.hid hlt
      have Y1 := Lib.hid y1
      have Y2 := Lib.hid y2
      clear y1 y2 y3 hD5 hE5 x1 hn hwl hbw hlt hkn hnz7 h7
      have X0 := Lib.hid (And.intro x2 x3)
      clear x2 x3
      go_region_held3 (fun w' => w'.cell? ⟨b, off + k * 6 + 2, none⟩ = some (.int .i64 okind) ∧ w'.cell? ⟨b, off + k * 6 + 3, none⟩ = some (.slice oA obn obc)) (first | exact X0.out | exact X1.out | exact X2.out) (first
        | ((go_at_call 18; (with_reducible refine (CD.out _ ?_).mono ?_)); (first | exact KW.out.disk | exact KW.out.disk.drew | exact KW.out.disk.drew.drew); rintro x w5 ⟨q, rfl, hk5, hq5, hb5, -⟩; have K5 := Lib.hid hk5; have P5 := Lib.hid hq5; have B5 := Lib.hid hb5; have X1 := Lib.hid (CX.out _ hk5.base).2; clear hk5 hq5 hb5)
        | ((go_at_call 17; (with_reducible refine (CW.out _ q ?_ ?_).mono ?_)); (first | exact K5.out | exact K5.out.drew | exact K5.out.drew.drew); (first | exact P5.out); rintro x w6 ⟨rfl, hk6, hs6⟩; have K6 := Lib.hid hk6; have S6 := Lib.hid hs6; have X2 := Lib.hid (CX.out _ hk6.base).2; clear hk6 hs6))
      have ST : Hid (Stays (KO h lb kb vs) wr w6) := Lib.hid (fun i hi => (S6.out i (.inl hi)).trans (B5.out.block i (KW.out.disk.lt hi)))
      have K7 : Hid (DX w w6 h g D5 (KO h lb kb vs)) := Lib.hid (K6.out.mono (fun _ hi => .inl hi) (.inl rfl))
      clear S6 K6 P5 K5 B5 X1 X0 CD CW WB
      rcases errV_cases E5 with ⟨e, ev⟩ | ⟨e, ev⟩
      · rw [ev]
        obtain ⟨n5, k1, hkp⟩ := Y1.out e
        have HKP := Lib.hid hkp
        have Hn5 := Lib.hid n5
        obtain ⟨x2, x3⟩ := X2.out
        obtain ⟨A1, c1, r1, r2, -⟩ := KW.out.row nz n5
        obtain ⟨q1, q2⟩ := KW.out.kind nz n5
        clear e ev hkp
        have x3a : (w6.alloc (.cells #[] 5)).cell? ⟨b, off + k * 6 + 3, none⟩ = some (.slice oA obn obc) := cell_below ((Below.refl w6.heap.size w6).alloc (Nat.le_refl _) _) x3
        have Hinfo := Lib.hid info_u8
        have Hxb : Hid (Bs (w6.alloc (.cells #[] 5)) oA obn oB) := Lib.hid ((Hbb.out _ K7.out.base).below ((Below.refl w6.heap.size w6).alloc (Nat.le_refl _) _))
        have Hc1 : Hid (0 + obn ≤ 140737488355328) := Lib.hid (by omega)
        have Hs6 : Hid (w6.heap.size ≤ (w6.alloc (.cells #[] 5)).heap.size) := Lib.hid (by simp only [World.size_alloc]; omega)
        have CY : Hid (∀ w7 va, Below w6.heap.size w6 w7 → (w7.cell? ⟨lb, nz, none⟩ = some (.slice A1 (ls.getD nz []).length c1) ∧ w7.frozen? ⟨lb, nz, none⟩ = false ∧ (w7.setCell ⟨lb, nz, none⟩ va).cell? ⟨kb, nz, none⟩ = some (.int .i64 (ks.getD nz 0)) ∧ (w7.setCell ⟨lb, nz, none⟩ va).frozen? ⟨kb, nz, none⟩ = false ∧ (w7.setCell ⟨lb, nz, none⟩ va).cell? ⟨b, off + k * 6 + 2, none⟩ = some (.int .i64 okind))) := Lib.hid (fun w7 va hb => by
          have hl7 := ((hb.block lb (K7.out.lt (.inr (.inl rfl)))).trans (ST.out lb (.inr (.inl rfl)))).trans KW.out.last
          have hk7 := ((hb.block kb (K7.out.lt (.inr (.inr (.inl rfl))))).trans (ST.out kb (.inr (.inr (.inl rfl))))).trans KW.out.kinds
          have hk8 := (heap_setCell_other w7 ⟨lb, nz, none⟩ kb va (fun e => KW.out.ne e.symm)).trans hk7
          refine ⟨cell_below hb (ST.out.cell r1 (.inr (.inl rfl))), free_block hl7 nz, (World.cell?_of_block (heap_setCell_other w7 ⟨lb, nz, none⟩ kb va (fun e => KW.out.ne e.symm))).trans (cell_below hb (ST.out.cell q1 (.inr (.inr (.inl rfl))))), free_block hk8 nz, (World.cell?_of_block (heap_setCell_other w7 ⟨lb, nz, none⟩ b va (fun e => by have := KW.out.wl; have := Yb.out; have e' : b = lb := e; omega))).trans (cell_below hb x2)⟩)
        have hrem : Int.tmod (nz : Int) 5 = (nz : Int) := by rw [Int.tmod_eq_emod_of_nonneg (by omega)]; omega
        have hz5 : ¬ (5 : Int) ≤ (nz : Int) := by omega
        have hz5b : (nz : Int) < 5 := by omega
        have hz0 : (0 : Int) ≤ (nz : Int) := by omega
        clear x2 x3 r1 r2 q1 q2 n5
        go_wp2_with (refine wpList_append_bytes rfl _ _ 22 rfl w6.heap.size 5 (.int .u8 0) Tryd.underlying22 Hinfo.out rfl (.slice (some ⟨w6.heap.size, 0, none⟩) 0 0) 0 [] rfl (owns_empty 5 (Nat.le_refl _)) oA obn obc oB rfl Hxb.out Hc1.out Hs6.out ?_; intro va w7 ho hg hla; rw [Nat.zero_add] at ho; obtain ⟨Av, cv, hva, -⟩ := own_bytes (l := oB) ho; subst hva; have B7 : Hid (Below w6.heap.size w6 w7) := Lib.hid (((Below.refl w6.heap.size w6).alloc (Nat.le_refl _) _).grown hg Hs6.out (fun i hi => by cases hi; exact Nat.le_refl _)); have O7 := Lib.hid ho; obtain ⟨z1, z2, z3, z4, z5⟩ := CY.out w7 (.slice Av obn cv) B7.out; clear ho hg hla)
        go_roundw
        case rel =>
          have ho := O7.out
          have hbl := (Hbb.out _ K7.out.base).len
          rw [List.nil_append] at ho
          exact ⟨k + 1, D5, _, _, _, by have := Ylt.out; omega, by go_num, KW.out.put nz Hn5.out okind oB _ K7.out (fun _ hi => hi) ST.out HKP.out B7.out (by rw [hbl]; exact ho), by have := Ywl.out; have := Y.out; omega⟩
        case measure => have := Ylt.out; simp [intOf]; omega
      · rw [ev]
        have HD : Hid (D5 = d) := Lib.hid (Y2.out e)
        obtain ⟨ez, hez⟩ : ∃ ez, ez = E5 := ⟨_, rfl⟩
        rw [← hez]
        clear e ev hez
        go_wp2_with fail
        go_roundw
        case rel =>
          have h1 := K7.out
          rw [HD.out] at h1
          exact ⟨k + 1, d, ks, ls, vs, by have := Ylt.out; omega, by go_num, KW.out.same h1 ST.out KW.out.keeps, by have := Ywl.out; omega⟩
        case measure => have := Ylt.out; simp [intOf]; omega
    · have e8 : k = n := by omega
      subst e8
      have hki : ¬ (k : Int) < (k : Int) := by omega
      have W1 : Hid (d.wait.length ≤ 8388608) := Lib.hid (by omega)
      clear hwl hkn hlt
      go_wp2_with fail
      go_loopw [12] (fun i wr => ∃ (t : Nat) (d : DiskV), t ≤ 3 ∧ i = .int .i64 t ∧ KeepsW w wr h g lb kb d ks ls vs ∧ d.wait.length ≤ 8388608 ∧ (1 ≤ t → d.wait = [])) (fun i _ => 3 - (intOf i).toNat)
      case atStart => exact ⟨0, d, by omega, rfl, KW.out, W1.out, fun h => by omega⟩
      case round =>
        obtain ⟨t, dt, ht, rfl, kt, wt, zt⟩ := hrel
        have KT2 := Lib.hid kt
        have WT := Lib.hid wt
        have ZT := Lib.hid zt
        have HT := Lib.hid ht
        clear kt wt zt KW W1
        obtain ⟨wo, rfl⟩ : ∃ wo : World, wo = wr := ⟨_, rfl⟩
        by_cases hlt : t < 3
        · have hti : (t : Int) < 3 := by omega
          have HT3 := Lib.hid hlt
          clear hlt ht
          go_wp2_with fail
          go_loopw [13] (fun i wr => ∃ (k : Nat), k ≤ 5 ∧ i = .int .i64 k ∧ KeepsW w wr h g lb kb dt ks ls vs) (fun i _ => 5 - (intOf i).toNat)
          case atStart => exact ⟨0, by omega, rfl, KT2.out⟩
          case round =>
            obtain ⟨j, hj, rfl, kj⟩ := hrel
            have KJ := Lib.hid kj
            clear kj
            by_cases hlt : j < 5
            · have hji : (j : Int) < 5 := by omega
              have hj0 : (0 : Int) ≤ (j : Int) := by omega
              have HJ := Lib.hid hlt
              have CD : Hid (∀ wx, DX w wx h g dt (KO h lb kb vs) → Calls Tryd.prog 18 #[.pointer (some ⟨h, 0, none⟩)] wx fun x w' => ∃ q, x = .returned (.pointer (some ⟨q, 0, none⟩)) ∧ DX w w' h g dt (fun k => KO h lb kb vs k ∨ k = q) ∧ PtrAt w' q g 77 ∧ Below wx.heap.size wx w' ∧ wx.heap.size ≤ q) := Lib.hid (fun wx k => dx_disk k)
              rcases DiskV.keeps_read dt _ KJ.out.keeps j hlt with ⟨hk0, hr0⟩ | ⟨hk1, hr1⟩
              · obtain ⟨ec, hec⟩ : ∃ ec, ec = (dt.pread j).2.2 := ⟨_, rfl⟩
                have CR : Hid (∀ wx q, DX w wx h g dt (fun k => KO h lb kb vs k ∨ k = q) → PtrAt wx q g 77 → Calls Tryd.prog 19 #[.pointer (some ⟨q, 0, none⟩), .int .i64 j] wx fun x w' => x = .returned (.tuple #[.int .i64 0, .slice none 0 0, .iface 25 (.int .i64 ec)]) ∧ Below wx.heap.size wx w') := Lib.hid (fun wx q k hq => by
                  refine (dx_pread k hq HN.out j).mono ?_
                  rintro x w' ⟨hb, ⟨h1, _⟩ | ⟨h1, h2, h3, h4⟩⟩
                  · exact absurd h1 hr0
                  · rw [hec]; exact ⟨h4, hb⟩)
                have Hk0 := Lib.hid hk0
                clear hk0 hr0 hec hlt hj
                go_wp2_with (first
                  | ((go_at_call 18; (with_reducible refine (CD.out _ KJ.out.disk).mono ?_)); rintro x w5 ⟨q, rfl, hk5, hq5, hb5, -⟩; have K5 := Lib.hid hk5; have P5 := Lib.hid hq5; have B5 := Lib.hid hb5; clear hk5 hq5 hb5)
                  | ((go_at_call 19; (with_reducible refine (CR.out _ q K5.out P5.out).mono ?_)); rintro x w6 ⟨rfl, hb6⟩; have KK := Lib.hid (KJ.out.below (B5.out.trans (hb6.mono B5.out.size))); clear hb6))
                obtain ⟨q1, q2⟩ := KK.out.kind j HJ.out
                rw [Hk0.out] at q1
                have q3 : ∀ t, (w6.drewN t).cell? ⟨kb, j, none⟩ = some (.int .i64 0) := fun t => q1
                go_quiet (fail)
                have KQ := Lib.hid (KK.out.below (⟨rfl, rfl, rfl, Nat.le_refl _, fun _ _ => rfl⟩ : Below w6.heap.size w6 (w6.drewN nq)))
                go_wp2_with fail
                go_roundw
                case rel => exact ⟨j + 1, by have := HJ.out; omega, by go_num, KQ.out⟩
                case measure => have := HJ.out; simp [intOf]; omega
              · obtain ⟨kd, hkd⟩ : ∃ kd, kd = ks.getD j 0 := ⟨_, rfl⟩
                obtain ⟨bd, hbd⟩ : ∃ bd, bd = ls.getD j [] := ⟨_, rfl⟩
                have hr2 : dt.pread j = (kd, bd, 0) := by rw [hkd, hbd]; exact hr1
                have hkd1 : 1 ≤ kd := by rw [hkd]; exact hk1
                have CR : Hid (∀ wx q, DX w wx h g dt (fun k => KO h lb kb vs k ∨ k = q) → PtrAt wx q g 77 → Calls Tryd.prog 19 #[.pointer (some ⟨q, 0, none⟩), .int .i64 j] wx fun x w' => ∃ Ax cx, x = .returned (.tuple #[.int .i64 kd, .slice Ax bd.length cx, .nilIface]) ∧ Bs w' Ax bd.length bd ∧ Below wx.heap.size wx w') := Lib.hid (fun wx q k hq => by
                  refine (dx_pread k hq HN.out j).mono ?_
                  rintro x w' ⟨hb, ⟨h1, y, h2, h3⟩ | ⟨h1, h2, h3, h4⟩⟩
                  · rw [hr2] at h2 h3
                    obtain ⟨Ax, cx, e, hbs⟩ := own_bytes h3
                    exact ⟨Ax, cx, by rw [← e]; exact h2, hbs, hb⟩
                  · rw [hr2] at h1; exact absurd rfl h1)
                have Hkd := Lib.hid hkd
                have Hbd := Lib.hid hbd
                have hg0 : ¬ kd = 0 := by omega
                have hg1 : 0 < kd := by omega
                have hs := strB_same bd
                clear hk1 hr1 hr2 hlt hj hkd hbd hkd1
                go_wp2_with (first
                  | ((go_at_call 18; (with_reducible refine (CD.out _ KJ.out.disk).mono ?_)); rintro x w5 ⟨q, rfl, hk5, hq5, hb5, -⟩; have K5 := Lib.hid hk5; have P5 := Lib.hid hq5; have B5 := Lib.hid hb5; clear hk5 hq5 hb5)
                  | ((go_at_call 19; (with_reducible refine (CR.out _ q K5.out P5.out).mono ?_)); rintro x w6 ⟨Ax, cx, rfl, hbs, hb6⟩; have KK := Lib.hid (KJ.out.below (B5.out.trans (hb6.mono B5.out.size))); have HX := Lib.hid hbs; clear hb6 hbs))
                obtain ⟨q1, q2⟩ := KK.out.kind j HJ.out
                obtain ⟨A1, c1, r1, r2, r3⟩ := KK.out.row j HJ.out
                rw [← Hkd.out] at q1
                rw [← Hbd.out] at r1 r3
                have q3 : ∀ t, (w6.drewN t).cell? ⟨kb, j, none⟩ = some (.int .i64 kd) := fun t => q1
                have r4 : ∀ t, (w6.drewN t).cell? ⟨lb, j, none⟩ = some (.slice A1 bd.length c1) := fun t => r1
                have h1 := fun (t : Nat) => run_convert_bs (HX.out.drewN t) cx
                have h2 := fun (t : Nat) => run_convert_bs (r3.drewN t) c1
                clear q2 r2 r3
                go_quiet (fail)
                have KQ := Lib.hid (KK.out.below (⟨rfl, rfl, rfl, Nat.le_refl _, fun _ _ => rfl⟩ : Below w6.heap.size w6 (w6.drewN nq)))
                go_wp2_with fail
                go_roundw
                case rel => exact ⟨j + 1, by have := HJ.out; omega, by go_num, KQ.out⟩
                case measure => have := HJ.out; simp [intOf]; omega
            · have e5 : j = 5 := by omega
              subst e5
              have hji : ¬ ((5 : Nat) : Int) < 5 := by omega
              clear hlt hj
              have CD : Hid (∀ wx, DX w wx h g dt (KO h lb kb vs) → Calls Tryd.prog 18 #[.pointer (some ⟨h, 0, none⟩)] wx fun x w' => ∃ q, x = .returned (.pointer (some ⟨q, 0, none⟩)) ∧ DX w w' h g dt (fun k => KO h lb kb vs k ∨ k = q) ∧ PtrAt w' q g 77 ∧ Below wx.heap.size wx w' ∧ wx.heap.size ≤ q) := Lib.hid (fun wx k => dx_disk k)
              by_cases ht0 : t = 0
              · subst ht0
                obtain ⟨s1, s2, s3⟩ := DiskV.keeps_sync dt _ KJ.out.keeps
                have CS : Hid (∀ wx q, DX w wx h g dt (fun k => KO h lb kb vs k ∨ k = q) → PtrAt wx q g 77 → Calls Tryd.prog 20 #[.pointer (some ⟨q, 0, none⟩)] wx fun x w' => x = .returned .nilIface ∧ DX w w' h g dt.sync.1 (fun k => KO h lb kb vs k ∨ k = q) ∧ Stays (fun k => KO h lb kb vs k ∨ k = q) wx w') := Lib.hid (fun wx q k hq => by
                  refine (dx_sync k hq (by have := WT.out; omega)).mono ?_
                  rintro x w' ⟨h1, h2, h3⟩
                  rw [s1] at h1
                  exact ⟨h1, h2, h3⟩)
                have Hs2 := Lib.hid s2
                have Hs3 := Lib.hid s3
                clear s1 s2 s3
                go_wp2_with (first
                  | ((go_at_call 18; (with_reducible refine (CD.out _ KJ.out.disk).mono ?_)); rintro x w5 ⟨q, rfl, hk5, hq5, hb5, -⟩; have K5 := Lib.hid hk5; have P5 := Lib.hid hq5; have B5 := Lib.hid hb5; clear hk5 hq5 hb5)
                  | ((go_at_call 20; (with_reducible refine (CS.out _ q K5.out P5.out).mono ?_)); rintro x w6 ⟨rfl, hk6, hs6⟩; have KK := Lib.hid (KJ.out.same (hk6.mono (fun _ hi => .inl hi) (.inl rfl)) (fun i hi => (hs6 i (.inl hi)).trans (B5.out.block i (KJ.out.disk.lt hi))) Hs2.out); clear hk6 hs6))
                go_roundw
                case rel => exact ⟨1, _, by omega, by go_num, KK.out, by rw [Hs3.out]; simp, fun _ => Hs3.out⟩
                case measure => simp [intOf]
              · have hti0 : ¬ (t : Int) = 0 := by omega
                obtain ⟨s1, s2⟩ := DiskV.keeps_crash dt _ KJ.out.keeps (ZT.out (by omega)) keep
                have CC : Hid (∀ wx, DX w wx h g dt (KO h lb kb vs) → Calls Tryd.prog 21 #[.pointer (some ⟨h, 0, none⟩), .slice B m kc] wx fun x w' => x = .returned (.tuple #[]) ∧ DX w w' h g (dt.crash keep) (KO h lb kb vs) ∧ Stays (KO h lb kb vs) wx w') := Lib.hid (fun wx k => dx_crash k B m _ keep Hk.out (by have := WT.out; omega))
                have Hs2 := Lib.hid s2
                have Hs1 := Lib.hid s1
                clear s1 s2
                go_wp2_with ((go_at_call 21; (with_reducible refine (CC.out _ KJ.out.disk).mono ?_)); rintro x w6 ⟨rfl, hk6, hs6⟩; have KK := Lib.hid (KJ.out.same hk6 hs6 Hs1.out); clear hk6 hs6)
                go_roundw
                case rel => exact ⟨t + 1, _, by have := HT3.out; omega, by go_num, KK.out, by rw [Hs2.out]; simp, fun _ => Hs2.out⟩
                case measure => have := HT3.out; simp [intOf]; omega
        · have e3 : t = 3 := by omega
          subst e3
          go_wp2_with fail
          go_ret
          exact ⟨rfl, KT2.out.disk.base⟩

end Go.Proofs.YtokoagepbhlkdaaDoor

/-
  PROVED HERE: coffretlaw12.PageKeeps answers true for every slice of operations and slice of bools, of together at most 1048576 values, where the table of sixteen words reads as its initialiser lays it.
-/
namespace Go.Proofs.YtokoagepbhlkdaaDoor.pageKeeps
open Go.ChangeShapes Go.WideShapes Go.ChangeAt Go.RowKit
set_option maxRecDepth 100000

/-- The law's answer, for every argument and every world that holds the table. -/
theorem contract (H : Type) (enc : TypeId × Value → H) (W : World) (base : Nat) (args : Array Value) (ds gs : List (DataW H)) (before : List MemPlace)
    (hval : ∀ (j : Nat) t v, Tryd.f6.params[j]? = some t → args[j]? = some v → Value.okWide Tryd.prog W .any base t v)
    (hW : DataW.Whole enc Tryd.prog Tryd.f6.params.toList Rows.pageKeepsSpec.vars false W args.toList ds gs before)
    (hz : (DataW.weightsEach Tryd.prog Tryd.f6.params.toList ds).all (· ≤ reachBytes) = true)
    (hk : Rows.uptoBulkAll ds ≤ 1048576) (hL : laidMet Tryd.prog Rows.pageKeepsUptoRow.laid W) :
    Calls Tryd.prog 6 args W fun e W' => ∃ v, e = .returned v ∧ Rows.pageKeepsSpec.post enc Tryd.prog Tryd.f6 false true false false W args v W' := by
  have hN : Nib W := nib_of hL
  have hW' := hW
  obtain ⟨p, q, hA0, hV, rfl, _, _⟩ := hW
  have hA : DataW.TrodAll enc Tryd.prog W 0 (fun _ => true) true Tryd.f6.params.toList args.toList ds p := hA0
  rw [Tryd.params6] at hA hval hz
  clear hA0
  obtain ⟨v0, vs0, d0, ds0, p0, q0, hargs, rfl, rfl, h0, r0⟩ := trodAll_cons hA
  obtain ⟨v1, vs1, d1, ds1, p1, q1, rfl, rfl, rfl, h1, r1⟩ := trodAll_cons r0
  obtain ⟨rfl, rfl, rfl⟩ := trodAll_nil r1
  obtain rfl : args = #[v0, v1] := by cases args; simp_all
  obtain ⟨A0, n0, c0, l0, rfl, ho0, hn0⟩ := arg_ops (hval 0 37 v0 rfl rfl) h0 (by simp only [Rows.uptoBulkAll] at hk; omega)
  obtain ⟨A1, n1, c1, l1, rfl, hb1⟩ := arg_bools (hval 1 38 v1 rfl rfl) h1
  simp only [Rows.uptoBulkAll] at hk
  refine (pageKeeps_any A0 n0 c0 l0 A1 n1 c1 l1 W hN ho0 hb1 hn0).mono fun e W' ⟨he, hb⟩ => ?_
  subst he
  exact post_true rfl (by kernel_rfl) rfl hW' rfl hb

theorem laid_met (os : Os) : laidMet Tryd.prog Rows.pageKeepsUptoRow.laid ((laidWorld os).forCall (fun _ _ => 0) ⟨#[], #[.slice none 0 0, .slice none 0 0], []⟩).memory :=
  laidMet_of_run' 8 (by kernel_rfl) (by kernel_rfl)
theorem reads (os : Os) {H : Type} (enc : TypeId × Value → H) : ∃ places, DataW.whole enc Tryd.prog ((laidWorld os).forCall (fun _ _ => 0) ⟨#[], #[.slice none 0 0, .slice none 0 0], []⟩).memory Tryd.f6.params.toList Rows.pageKeepsSpec.vars false #[.slice none 0 0, .slice none 0 0].toList 8 = some ([.nil, .nil], [], places) :=
  ⟨[], by kernel_rfl⟩

set_option maxRecDepth 100000 in
theorem lifted (os : Os) (started : os.Started) (H : Type) (enc : TypeId × Value → H) (F : Stop.Interp) :
    ReturnsInHanded {} Tryd.checked os 6 .any ((Rows.OpenSpec.upto Rows.pageKeepsSpec).preRow enc Tryd.prog Tryd.f6 Rows.pageKeepsUptoRow.domain false Rows.pageKeepsUptoRow.laid) (((Rows.OpenSpec.upto Rows.pageKeepsSpec).at F).post enc Tryd.prog Tryd.f6 false true false false) := by
  obtain ⟨places, hx⟩ := reads os enc
  refine returnsInHanded_of_row (C := Tryd.checked) (s := Rows.OpenSpec.upto Rows.pageKeepsSpec) ownK started (by kernel_rfl) Tryd.func6
    (witness_row_at (enc := enc) (C := Tryd.checked) false (laidWorld os) #[.slice none 0 0, .slice none 0 0] rfl (by kernel_rfl) (by kernel_rfl) (by kernel_rfl)
      (OpenSpec.preRow_of_cond 8 hx (by kernel_rfl) (fun k hk => by cases hk; kernel_rfl) (by kernel_rfl) (laid_met os))) ?_
  intro W base args ds gs before hval hW _ hcond hz hL _ _
  have hgs : gs = [] := by
    obtain ⟨_, _, _, hV, _⟩ := hW
    exact (trodVars_none hV).1
  subst hgs
  have hz' : (DataW.weightsEach Tryd.prog Tryd.f6.params.toList ds).all (· ≤ reachBytes) = true := by
    have e : (Rows.OpenSpec.upto Rows.pageKeepsSpec).bare.plain.varTypes Tryd.checked.prog = [] := rfl
    rw [e, List.append_nil, List.append_nil] at hz
    exact hz
  have hk : Rows.uptoBulkAll ds ≤ 1048576 := by
    have := hcond _ rfl
    rw [List.append_nil] at this
    exact of_decide_eq_true this
  exact contract H enc W base args ds [] before hval hW hz' hk hL

theorem said : Rows.PageKeepsUptoSaid :=
  OpenClaim.holds_of_cond 6 Tryd.f6 rfl rfl rfl rfl rfl rfl rfl ⟨rfl, rfl, rfl, rfl, rfl⟩ rfl rfl rfl rfl rfl (by kernel_rfl) Tryd.func6 (by kernel_rfl)
    (of_decide_eq_true (by kernel_rfl)) (by unfold Func.isWrapper; first | (rw [if_pos (by decide +kernel)]; kernel_rfl) | (rw [if_neg (by decide +kernel)]; exact ⟨rfl, rfl⟩))
    (fun os started H enc _ F => by rw [OpenClaim.pre_eq_preRow]; exact lifted os started H enc F)

theorem plain (f : FuncId) (fn : Func) (hf : Tryd.pinned.checked.prog.funcNamed "coffret/coffretlaw12.PageKeeps" = some f) (hfn : Tryd.pinned.checked.prog.funcs[f]? = some fn) :
    true = Tryd.pinned.checked.prog.looks [] ∧ ∀ (j : Nat) t, fn.params[j]? = some t → Tryd.pinned.checked.prog.wantsStandIn t = false := by
  obtain rfl : f = 6 := Option.some.inj ((show Tryd.prog.funcNamed "coffret/coffretlaw12.PageKeeps" = some 6 by kernel_rfl).symm.trans hf) |>.symm
  obtain rfl : fn = Tryd.f6 := (Option.some.inj (Tryd.func6.symm.trans hfn)).symm
  refine ⟨by kernel_rfl, fun j t ht => ?_⟩
  rw [Tryd.params6] at ht
  have hall : ∀ t ∈ (#[37, 38] : Array TypeId), Tryd.prog.wantsStandIn t = false := by
    intro t ht
    simp only [List.mem_toArray, List.mem_cons, List.not_mem_nil, or_false] at ht
    rcases ht with rfl | rfl <;> kernel_rfl
  exact hall t (Array.mem_of_getElem? ht)

/-- THE CARD. -/
theorem card : Rows.PageKeepsUptoCardSaid :=
  Claim7.holds_tied_plain_at .later [] _ _ _ _ said (fun _ h => by cases h) (by kernel_rfl) (fun _ h => by cases h) pageKeepsUpto_row_tie rfl ⟨rfl, rfl⟩ (by kernel_rfl) rfl plain (by kernel_rfl)
end Go.Proofs.YtokoagepbhlkdaaDoor.pageKeeps
