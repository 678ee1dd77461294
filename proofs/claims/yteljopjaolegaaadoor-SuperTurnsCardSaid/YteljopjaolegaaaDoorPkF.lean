/-
  MAPS FROM int TO []byte: 'm[k], n[k] = x, x': an entry, then what is stored there; append of one element of a struct's type.
-/
import Derived.Test.YteljopjaolegaaaDoorPkA
import Derived.WideKeyEntry
import Derived.Test.YteljopjaolegaaaDoorPkD
import Derived.Test.YteljopjaolegaaaDoorPkE

namespace Go.Proofs.YteljopjaolegaaaDoor
open Go.RowKit Go.MapKept Go.WideElems Go.ChangeMaps
set_option maxRecDepth 100000
set_option linter.unusedVariables false
set_option linter.unusedSimpArgs false

theorem SecMap.entryAt {w : World} {b : Nat} {f : Int → Option Value} (h : SecMap w b f) (k : Int) (v : Value) :
    ∃ v0 st o1 o2, (∀ wx : World, wx.heap[b]? = w.heap[b]? → (Instr.mapEntry 65 (.map (some b)) (.int .i64 k)).run Tryd.prog wx = .ok (.tuple #[v0, .int .i64 st]) (putObj wx b o1)) ∧
      (∀ wx : World, wx.heap[b]? = some o1 → (Instr.entryStore 65 (.map (some b)) (.int .i64 st) v).run Tryd.prog wx = .ok () (putObj wx b o2)) ∧
      ∀ wx : World, wx.heap[b]? = some o2 → SecMap wx b (fun i => if i = k then some v else f i) := by
  have hlt := h.lt
  have hup := h.updateAt k v
  obtain ⟨es, clock, hb, h2, h3, h9⟩ := h
  have hm := Tryd.underlying65
  have hd := Tryd.underlying3
  have hk : IsKey (.int .i64) (.int .i64 k) := by simp [IsKey]
  have hz : ∀ u : World, (zeroValue 31).run Tryd.prog u = .ok (.slice none 0 0) u := fun u => by kernel_rfl
  obtain ⟨o, hrun, hs⟩ := hup
  have hr := hrun w rfl
  have fin : ∀ (o2 : Obj), (Instr.mapUpdate 65 (.map (some b)) (.int .i64 k) v).run Tryd.prog w = .ok () (putObj w b o2) → ∀ wx : World, wx.heap[b]? = some o2 → SecMap wx b (fun i => if i = k then some v else f i) := by
    intro o2 h2 wx hx
    rw [hr] at h2
    injection h2 with _ h2
    refine hs.block ?_
    rw [h2, hx, putObj_same _ _ _ hlt]
  obtain ⟨s1, s2, _⟩ := h9
  rcases mlook_findNow k es.toList 0 h2 with ⟨h1, h4, h5⟩ | ⟨j, e0, h1, hj, hke, h4, h5⟩
  · refine ⟨.slice none 0 0, clock, .map (es.push ⟨.int .i64 k, .slice none 0 0, clock⟩) (clock + 1), .map (es.push ⟨.int .i64 k, v, clock⟩) (clock + 1), fun wx hx => ?_, fun wx hx => ?_, fin _ ?_⟩
    · have hbx : wx.heap[b]? = some (.map es clock) := hx.trans hb
      simp [Instr.mapEntry, run_underlying hm, MapKept.run_getObj_map hbx, MapKept.run_checkKey hd hk, MapKept.run_findKey hd h1, hz, MapKept.run_setObj_map _ hbx, Result.andThen, putObj, goInt]
    · have hidx : (es.push ⟨.int .i64 k, .slice none 0 0, clock⟩).findIdx? (fun e => ((e.born : Nat) : Int) == ((clock : Nat) : Int)) = some es.size := by
        rw [findIdx_arr]
        have := findIdx_born (l := (es.push ⟨.int .i64 k, .slice none 0 0, clock⟩).toList) (j := es.size) (e0 := ⟨.int .i64 k, .slice none 0 0, clock⟩) (by
          simp only [Array.toList_push, List.map_append, List.map_cons, List.map_nil]
          refine List.nodup_append.2 ⟨s2, by simp, fun a ha c hc e1 => ?_⟩
          simp only [List.mem_singleton] at hc
          obtain ⟨x, hx, rfl⟩ := List.mem_map.1 ha
          have := s1 x hx
          omega) (by simp)
        exact this
      have hmod : (es.push ⟨.int .i64 k, .slice none 0 0, clock⟩).modify es.size (fun e => { e with val := v }) = es.push ⟨.int .i64 k, v, clock⟩ := by
        apply Array.ext'
        rw [Array.toList_modify, Array.toList_push, Array.toList_push, ← Array.length_toList, modify_last]
      simp [Instr.entryStore, MapKept.run_getObj_map hx, asInt, asIntOf, hidx, hmod, MapKept.run_setObj_map _ hx, Result.andThen, putObj]
    · simp [Instr.mapUpdate, run_underlying hm, MapKept.run_getObj_map hb, MapKept.run_checkKey hd hk, MapKept.run_findKey hd h1, MapKept.run_setObj_map _ hb, Result.andThen, putObj]
  · have hj2 : es[j]? = some e0 := by rw [← Array.getElem?_toList]; exact hj
    have hj3 : es.toList[j]? = some e0 := by rw [Array.getElem?_toList]; exact hj2
    refine ⟨e0.val, e0.born, .map (es.modify j (fun e => { e with key := .int .i64 k })) clock, .map (es.modify j (fun e' => { e' with key := .int .i64 k, val := v })) clock, fun wx hx => ?_, fun wx hx => ?_, fin _ ?_⟩
    · have hbx : wx.heap[b]? = some (.map es clock) := hx.trans hb
      simp [Instr.mapEntry, run_underlying hm, MapKept.run_getObj_map hbx, MapKept.run_checkKey hd hk, MapKept.run_findKey hd h1, hj2, hke, run_keyThatStays hk, MapKept.run_setObj_map _ hbx, Result.andThen, putObj, goInt]
    · have hsame : es.modify j (fun e => { e with key := .int .i64 k }) = es := by
        apply Array.ext'
        rw [Array.toList_modify, modify_eq_set _ _ _ _ hj3]
        have : ({ e0 with key := .int .i64 k } : MapEntry) = e0 := by rw [← hke]
        rw [this]
        exact set_self _ _ _ hj3
      rw [hsame] at hx
      have hidx : es.findIdx? (fun e => ((e.born : Nat) : Int) == ((e0.born : Nat) : Int)) = some j := by
        rw [findIdx_arr]
        exact findIdx_born s2 hj3
      have hmod : es.modify j (fun e => { e with val := v }) = es.modify j (fun e' => { e' with key := .int .i64 k, val := v }) := by
        apply Array.ext'
        rw [Array.toList_modify, Array.toList_modify, modify_eq_set _ _ _ _ hj3, modify_eq_set _ _ _ _ hj3, ← hke]
      simp [Instr.entryStore, MapKept.run_getObj_map hx, asInt, asIntOf, hidx, hmod, MapKept.run_setObj_map _ hx, Result.andThen, putObj]
    · simp [Instr.mapUpdate, run_underlying hm, MapKept.run_getObj_map hb, MapKept.run_checkKey hd hk, MapKept.run_findKey hd h1, hj2, hke, run_keyThatStays hk, MapKept.run_setObj_map _ hb, Result.andThen, putObj]

/-- One element of a struct's type is appended. -/
theorem wpList_append_elem {P : Program} {w : World} {ops : Array Oper} {rest : List Oper} {o : Oper} {a : Act} {Q : Exit → Act → World → Prop} (hgd : o.guard = none) (s x : Operand) (t : TypeId)
    (ho : o.op = .call { callee := .builtin .append, args := #[s, x], argTypes := #[t, t] })
    (base : Nat) (e : TypeId) (z : Value) (size bytes : Nat) (ht : P.underlying t = some (.slice e)) (hinfo : (P.info? e).map (fun i => (i.zero, i.size, i.bytes)) = some (some z, size, bytes)) (hzs : z.cells.size = size) (hsz : 0 < size)
    (v : Value) (n : Nat) (xs : List Value) (us : Array Value) (hus : us.size = size) (hs : a.eval s = v) (hown : w.ownsRow base e size v n xs)
    (hx : a.eval x = .slice (some ⟨w.heap.size, 0, none⟩) 1 1) (h1 : ∀ u ∈ us.toList, u.oneCell' = true)
    (h63 : n + 1 ≤ maxLen) (hbytes : (n + 1) * bytes ≤ 140737488355328) (hbase : base ≤ w.heap.size)
    (h : ∀ v' w', w'.ownsRow base e size v' (n + 1) (xs ++ us.toList) → w.grownBy w' v.ownBlock → Lies w w' v v' → wpList P ops Q rest (a.put o.dst v') w') : wpList P ops Q (o :: rest) a (w.alloc (.cells us e)) := by
  refine wpList_append_lie (w := w.alloc (.cells us e)) hgd s x t ho base e z size bytes ht hinfo hzs hsz v n xs hs (hown.alloc _) ⟨w.heap.size, 0, none⟩ 1 1 us.toList hx (by simp [hus]) (fun j y hj => World.news_of_block (heap_alloc_new w (.cells us e)) j y hj) h1 h63 hbytes (by simp; omega) ?_
  intro v' w' h2 h3 h4
  refine h v' w' h2 (grownBy_trans (World.grownBy_alloc w _ none) h3) ?_
  rcases h4 with h5 | ⟨g, h5, h6, h7⟩
  · exact .inl h5
  · exact .inr ⟨g, h5, by simp at h6; omega, grownBy_trans (World.grownBy_alloc w _ none) h7⟩

end Go.Proofs.YteljopjaolegaaaDoor

/-
  A HAND AND ITS DISK in a law's own memory, beside other blocks of the law's own (O), which stand while the disk acts.
-/
namespace Go.Proofs.YteljopjaolegaaaDoor
open Go.RowKit
set_option maxRecDepth 100000
set_option linter.unusedVariables false
set_option linter.unusedSimpArgs false

def Stays (O : Nat → Prop) (wx wy : World) : Prop := ∀ k, O k → wy.heap[k]? = wx.heap[k]?
theorem Stays.cell {O : Nat → Prop} {wx wy : World} (h : Stays O wx wy) {a : Addr} {v : Value} (hc : wx.cell? a = some v) (ho : O a.block) : wy.cell? a = some v := (World.cell?_of_block (h _ ho)).trans hc
theorem Stays.trans {O : Nat → Prop} {a b c : World} (h : Stays O a b) (k : Stays O b c) : Stays O a c := fun i hi => (k i hi).trans (h i hi)
theorem Stays.mono {O O' : Nat → Prop} {a b : World} (h : Stays O a b) (ho : ∀ k, O' k → O k) : Stays O' a b := fun i hi => h i (ho i hi)

/-- The hand h, its disk d; the law's own blocks O. -/
def DX (w wx : World) (h g : Nat) (d : DiskV) (O : Nat → Prop) : Prop :=
  ∃ T, DiskIs T wx g d ∧ (∀ k, T k → w.heap.size ≤ k) ∧ (∀ k, O k → ¬ T k ∧ k < wx.heap.size) ∧ O h ∧ PtrAt wx h g 70 ∧ Below w.heap.size w wx

section
variable {w wx wy : World} {h g : Nat} {d d' : DiskV} {O O' : Nat → Prop}
theorem DX.base (k : DX w wx h g d O) : Below w.heap.size w wx := by obtain ⟨T, _, _, _, _, _, h⟩ := k; exact h
theorem DX.lt (k : DX w wx h g d O) {i : Nat} (hi : O i) : i < wx.heap.size := by obtain ⟨T, _, _, h3, _⟩ := k; exact (h3 i hi).2
theorem DX.hand (k : DX w wx h g d O) : O h := by obtain ⟨T, _, _, _, h4, _⟩ := k; exact h4
theorem DX.fit (k : DX w wx h g d O) : d.Fit := by obtain ⟨T, h1, _⟩ := k; exact h1.fit
theorem DX.mono (k : DX w wx h g d O) (ho : ∀ i, O' i → O i) (hh : O' h) : DX w wx h g d O' := by
  obtain ⟨T, k1, k2, k3, k4, k5, k6⟩ := k
  exact ⟨T, k1, k2, fun i hi => k3 i (ho i hi), hh, k5, k6⟩
/-- Blocks of the law's own turn, new ones are made. -/
theorem DX.own {S : Nat → Prop} (k : DX w wx h g d O) (hx : Ext S wx wy) (hS : ∀ i, S i → O i ∧ i ≠ h ∧ w.heap.size ≤ i) (hO : ∀ i, O' i → O i ∨ (wx.heap.size ≤ i ∧ i < wy.heap.size)) (hh : O' h) : DX w wy h g d O' := by
  obtain ⟨T, k1, k2, k3, k4, k5, k6⟩ := k
  refine ⟨T, k1.ext hx (fun i hT hs => (k3 i (hS i hs).1).1 hT), k2, fun i hi => ?_, hh, (hx.block h (lt_block k5) (fun hs => (hS h hs).2.1 rfl)).trans k5, k6.trans (hx.below k6.size (fun i hi hs => by have := (hS i hs).2.2; omega))⟩
  rcases hO i hi with e | e
  · exact ⟨(k3 i e).1, Nat.lt_of_lt_of_le (k3 i e).2 hx.size⟩
  · exact ⟨fun hT => by have := k1.inside i hT; omega, e.2⟩
theorem DX.below (k : DX w wx h g d O) (hb : Below wx.heap.size wx wy) : DX w wy h g d O :=
  k.own (S := fun _ => False) (Ext.of_below hb) (fun _ h => h.elim) (fun _ h => .inl h) k.hand
theorem DX.stays (k : DX w wx h g d O) (hb : Below wx.heap.size wx wy) : Stays O wx wy := fun i hi => hb.block i (k.lt hi)
theorem DX.drew (k : DX w wx h g d O) : DX w wx.drew h g d O := k.below ⟨rfl, rfl, rfl, Nat.le_refl _, fun _ _ => rfl⟩
/-- More blocks that were made. -/
theorem DX.more (k : DX w wx h g d O) (hb : Below wx.heap.size wx wy) (hO : ∀ i, O' i → O i ∨ (wx.heap.size ≤ i ∧ i < wy.heap.size)) (hh : O' h) : DX w wy h g d O' :=
  k.own (S := fun _ => False) (Ext.of_below hb) (fun _ h => h.elim) hO hh
/-- The disk acts. -/
theorem DX.go {T : Nat → Prop} (k2 : ∀ i, T i → w.heap.size ≤ i) (k3 : ∀ i, O i → ¬ T i ∧ i < wx.heap.size) (k4 : O h) (k5 : PtrAt wx h g 70) (k6 : Below w.heap.size w wx) (hg : DiskGo T wx g wy d') : DX w wy h g d' O ∧ Stays O wx wy := by
  obtain ⟨T1, j1, j2, j3⟩ := hg
  refine ⟨⟨T1, j1, fun i hi => ?_, fun i hi => ⟨fun hT => ?_, Nat.lt_of_lt_of_le (k3 i hi).2 j3.size⟩, k4, (j3.block h (lt_block k5) (k3 h k4).1).trans k5, k6.trans (j3.below k6.size (fun i hi hT => by have := k2 i hT; omega))⟩, fun i hi => j3.block i (k3 i hi).2 (k3 i hi).1⟩
  · rcases j2 i hi with e | e
    · exact k2 i e
    · exact Nat.le_trans k6.size e
  · rcases j2 i hT with e | e
    · exact (k3 i hi).1 e
    · have := (k3 i hi).2; omega
end

theorem dx_new (n : Int) (w wx : World) (O : Nat → Prop) (hn : n ≤ 9223372036854775807) (hb : Below w.heap.size w wx) (hO : ∀ k, O k → k < wx.heap.size) : Calls Tryd.prog 10 #[.int .i64 n] wx fun x w' => ∃ h g, x = .returned (.pointer (some ⟨h, 0, none⟩)) ∧ DX w w' h g (DiskV.new n) (fun k => O k ∨ k = h) ∧ Below wx.heap.size wx w' ∧ wx.heap.size ≤ h := by
  refine (bnew n wx hn).mono ?_
  rintro x w' ⟨h, g, T, rfl, k1, k2, k3, k4, k5, k6⟩
  refine ⟨h, g, rfl, ⟨T, k2, fun k hk => Nat.le_trans hb.size (k3 k hk), fun k hk => ?_, .inr rfl, k1, hb.trans (k6.mono hb.size)⟩, k6, k5⟩
  rcases hk with hk | rfl
  · exact ⟨fun hT => by have := k3 k hT; have := hO k hk; omega, Nat.lt_of_lt_of_le (hO k hk) k6.size⟩
  · exact ⟨k4, lt_block k1⟩

theorem dx_disk {w wx : World} {h g : Nat} {d : DiskV} {O : Nat → Prop} (k : DX w wx h g d O) : Calls Tryd.prog 25 #[.pointer (some ⟨h, 0, none⟩)] wx fun x w' => ∃ q, x = .returned (.pointer (some ⟨q, 0, none⟩)) ∧ DX w w' h g d (fun k => O k ∨ k = q) ∧ PtrAt w' q g 95 ∧ Below wx.heap.size wx w' ∧ wx.heap.size ≤ q := by
  obtain ⟨T, k1, k2, k3, k4, k5, k6⟩ := id k
  refine (bdisk h _ k5).mono ?_
  rintro x w' ⟨rfl, hq, hb⟩
  refine ⟨_, rfl, k.more hb (fun i hi => hi.imp_right (fun e => ?_)) (.inl k4), hq, hb, Nat.le_refl _⟩
  have := lt_block hq
  exact ⟨by omega, by omega⟩
theorem dx_arm {w wx : World} {h g : Nat} {d : DiskV} {O : Nat → Prop} (k : DX w wx h g d O) (v : Int) (b : Bool) (hv : v ≤ 9223372036854775807) : Calls Tryd.prog 28 #[.pointer (some ⟨h, 0, none⟩), .int .i64 v, .bool b] wx fun x w' => x = .returned (.tuple #[]) ∧ DX w w' h g (d.arm v b) O ∧ Stays O wx w' := by
  obtain ⟨T, k1, k2, k3, k4, k5, k6⟩ := k
  refine (barm k1 h _ k5 (by decide) v b hv).mono ?_
  rintro x w' ⟨rfl, hg⟩
  exact ⟨rfl, DX.go k2 k3 k4 k5 k6 hg⟩
theorem dx_crash {w wx : World} {h g : Nat} {d : DiskV} {O : Nat → Prop} (k : DX w wx h g d O) (B : Option Addr) (kn kc : Nat) (keep : List Bool) (hk : Bls w B kn keep) (hlen : d.wait.length ≤ 140737488355328) : Calls Tryd.prog 29 #[.pointer (some ⟨h, 0, none⟩), .slice B kn kc] wx fun x w' => x = .returned (.tuple #[]) ∧ DX w w' h g (d.crash keep) O ∧ Stays O wx w' := by
  obtain ⟨T, k1, k2, k3, k4, k5, k6⟩ := k
  refine (bcrash k1 h _ k5 B kn kc keep (hk.kept (fun a v hc => cell_below k6 hc)) hlen).mono ?_
  rintro x w' ⟨rfl, hg⟩
  exact ⟨rfl, DX.go k2 k3 k4 k5 k6 hg⟩
theorem dx_sync {w wx : World} {h g q : Nat} {d : DiskV} {O : Nat → Prop} (k : DX w wx h g d O) (hq : PtrAt wx q g 95) (hlen : d.wait.length ≤ 140737488355328) : Calls Tryd.prog 52 #[.pointer (some ⟨q, 0, none⟩)] wx fun x w' => x = .returned (errV d.sync.2) ∧ DX w w' h g d.sync.1 O ∧ Stays O wx w' := by
  obtain ⟨T, k1, k2, k3, k4, k5, k6⟩ := k
  refine (bsync k1 q hq hlen).mono ?_
  rintro x w' ⟨rfl, hg⟩
  exact ⟨rfl, DX.go k2 k3 k4 k5 k6 hg⟩
theorem dx_sector {w wx : World} {h g : Nat} {d : DiskV} {O : Nat → Prop} (k : DX w wx h g d O) (v : Int) (hv : d.has v) : Calls Tryd.prog 13 #[.pointer (some ⟨h, 0, none⟩), .int .i64 v] wx fun x w' => x = .returned (.slice (some ⟨wx.heap.size, 0, none⟩) 512 512) ∧ (d.now v).length = 512 ∧ w'.heap[wx.heap.size]? = some (.cells (bs (d.now v)).toArray 5 (0, 0)) ∧ Below wx.heap.size wx w' := by
  obtain ⟨T, k1, k2, k3, k4, k5, k6⟩ := k
  refine (bsector k1 h _ k5 v hv).mono ?_
  rintro x w' ⟨h1, h2, h3, h4⟩
  exact ⟨h3, h2, h4, h1⟩

end Go.Proofs.YteljopjaolegaaaDoor

/-
  CONTRACTS: package block: Plant.
-/
namespace Go.Proofs.YteljopjaolegaaaDoor
open Go.RowKit
set_option maxRecDepth 100000
set_option linter.unusedVariables false
set_option linter.unusedSimpArgs false

theorem plant_out (p g : Nat) (t : TypeId) (A W : _) (n c : Nat) (many v : Int) (bs' bn : Nat) (armed : Bool) (acts : Int) (done down : Bool) (w : World)
    (hp : PtrAt w p g t) (h : BoxAt w g many bs' bn W armed acts done down) (hv : ¬ (0 ≤ v ∧ v < many)) :
    Calls Tryd.prog 27 #[.pointer (some ⟨p, 0, none⟩), .int .i64 v, .slice A n c] w fun r w' => r = .returned (.tuple #[]) ∧ w = w' := by
  have hp0 : w.cell? ⟨p, 0, none⟩ = some (.pointer (some ⟨g, 0, none⟩)) := cell_of_row _ _ 0 _ _ _ hp
  obtain ⟨c0, c1, c2, c3, c4, c5, c6, c7⟩ := h.cells
  have hc : v < 0 ∨ (¬ v < 0 ∧ many ≤ v) := by omega
  clear hp h hv
  rcases hc with hc | ⟨hc, hc2⟩
  all_goals (
    go_enter Tryd.func27, Tryd.ntmps27
    go_wp2_with fail
    refine bodyPost_ret (results_none rfl _ _ _) rfl ?_
    exact ⟨rfl, rfl⟩)

theorem own_monoM {w : World} {b b' : Nat} {e : TypeId} {s : Nat} {v : Value} {n : Nat} {xs : List Value} (h : w.ownsRow b e s v n xs) (hb : b' ≤ b) : w.ownsRow b' e s v n xs := by
  refine ⟨h.1, ?_⟩
  rcases h.2 with h2 | ⟨g, cap, cur, h1, h2, h3⟩
  · exact .inl h2
  · exact .inr ⟨g, cap, cur, h1, Nat.le_trans hb h2, h3⟩
theorem own_geM {w : World} {b : Nat} {e : TypeId} {s : Nat} {v : Value} {n : Nat} {xs : List Value} (h : w.ownsRow b e s v n xs) {k : Nat} (hk : v.ownBlock = some k) : b ≤ k := by
  rcases h.2 with ⟨h2, _⟩ | ⟨g, cap, cur, h1, h2, h3⟩
  · rw [h2] at hk; cases hk
  · rw [h1] at hk; cases hk; exact h2
theorem own_belowM {w w' : World} {b : Nat} {e : TypeId} {s : Nat} {v : Value} {n : Nat} {xs : List Value} (h : w.ownsRow b e s v n xs) (hb : Below w.heap.size w w') : w'.ownsRow b e s v n xs :=
  own_keep h fun g hg => by
    obtain ⟨cur, hc⟩ := own_obj (own_monoM h (Nat.zero_le _)) hg
    exact hb.block g (lt_block hc)
/-- The writes but those of a sector. -/
def withoutW (ws : List (Int × Value × List UInt8)) (v : Int) : List (Int × Value × List UInt8) := ws.filter (fun e => decide (e.1 ≠ v))

set_option maxHeartbeats 4000000 in
theorem plant_any (p g : Nat) (t : TypeId) (A Aw : Option Addr) (n c wc : Nat) (l : List UInt8) (many v : Int) (bs' bn : Nat) (armed : Bool) (acts : Int) (done down : Bool) (fs fn : Int → Option Value) (ws : List (Int × Value × List UInt8)) (w : World)
    (hp : PtrAt w p g t) (h : BoxAt w g many bs' bn (.slice Aw ws.length wc) armed acts done down) (hms : SecMap w bs' fs) (hmn : SecMap w bn fn) (hne : bs' ≠ bn)
    (hA : ∀ k e, ws[k]? = some e → ∃ wb xb xc, Aw = some ⟨wb, 0, none⟩ ∧ e.2.1 = .slice (some ⟨xb, 0, none⟩) 512 xc ∧ w.cell? ⟨wb, k * 2, none⟩ = some (.int .i64 e.1) ∧ w.cell? ⟨wb, k * 2 + 1, none⟩ = some e.2.1)
    (hb : Bs w A n l) (hlen : ws.length * 32 ≤ 140737488355328) (hv : 0 ≤ v ∧ v < many) :
    Calls Tryd.prog 27 #[.pointer (some ⟨p, 0, none⟩), .int .i64 v, .slice A n c] w fun r w' => r = .returned (.tuple #[]) ∧ ∃ W', BoxAt w' g many bs' bn W' armed acts done down ∧ SecMap w' bs' (fun i => if i = v then some (.slice (some ⟨w.heap.size, 0, none⟩) 512 512) else fs i) ∧ SecMap w' bn (fun i => if i = v then some (.slice (some ⟨w.heap.size, 0, none⟩) 512 512) else fn i) ∧ w'.heap[w.heap.size]? = some (.cells (bs (DiskV.pad l)).toArray 5 (0, 0)) ∧
      w'.ownsRow w.heap.size 99 2 W' (withoutW ws v).length (wcells (withoutW ws v)) ∧ Ext (fun k => k = g ∨ k = bs' ∨ k = bn) w w' := by
  have hp0 : w.cell? ⟨p, 0, none⟩ = some (.pointer (some ⟨g, 0, none⟩)) := cell_of_row _ _ 0 _ _ _ hp
  obtain ⟨c0, c1, c2, c3, c4, c5, c6, c7⟩ := h.cells
  have hz1 : ¬ v < 0 := by omega
  have hz2 : ¬ many ≤ v := by omega
  have Hinfo := Lib.hid info_u8
  have Hsz := Lib.hid size_u8
  have Hm1 : Hid (1 * 512 ≤ 281474976710656) := Lib.hid (by omega)
  have Hm2 : Hid (512 ≤ maxLen) := Lib.hid (by simp only [maxLen]; omega)
  have HR : Hid (w.heap.size ≤ w.heap.size) := Lib.hid (Nat.le_refl _)
  obtain ⟨kk, hkk⟩ : ∃ kk, kk = Nat.min n 512 := ⟨_, rfl⟩
  have Hk := Lib.hid hkk
  have Hfit : Hid (0 + kk ≤ (List.replicate 512 (0 : UInt8)).length) := Lib.hid (by rw [List.length_replicate, hkk]; have : Nat.min n 512 ≤ 512 := Nat.min_le_right _ _; omega)
  have hpad : splice (List.replicate 512 0) 0 (l.take kk) = DiskV.pad l := by
    have hl := hb.len
    rw [splice, DiskV.pad, List.take_zero, List.nil_append, Nat.zero_add, List.length_take, List.drop_replicate, hkk]
    by_cases h5 : n ≤ 512
    · rw [show Nat.min n 512 = n from Nat.min_eq_left h5, show min n l.length = n by omega, List.take_of_length_le (by omega), List.take_of_length_le (by omega), hl]
    · rw [show Nat.min n 512 = 512 from Nat.min_eq_right (by omega), show min 512 l.length = 512 by omega, show 512 - l.length = 0 by omega]
  have Hb := Lib.hid hb
  have Hms := Lib.hid hms
  have Hmn := Lib.hid hmn
  have Hne := Lib.hid hne
  have HA := Lib.hid hA
  have Hlen := Lib.hid hlen
  have Hbox := Lib.hid h
  have Hp := Lib.hid hp
  clear hv hkk hb hms hmn hne hA hlen h hp c4 c5 c6 c7
  go_enter Tryd.func27, Tryd.ntmps27
  go_wp2_with (first
    | (at_make; refine wpList_make_zeros rfl _ _ 31 rfl w.heap.size 5 (.int .u8 0) 1 Tryd.underlying31 Hinfo.out rfl _ _ 512 rfl rfl (by omega) (by omega) Hm1.out Hm2.out HR.out ?_; intro w1 Ho1 hb1; have HZ := zero_block Ho1; have HB1 := Lib.hid hb1; clear hb1)
    | (with_reducible refine wpList_copy_bytes rfl _ _ 31 31 rfl 5 Tryd.underlying31 Hsz.out (some ⟨w.heap.size, 0, none⟩) 512 512 A n c rfl rfl w.heap.size 0 _ 5 HZ.out _ (Hb.out.below HB1.out) kk Hk.out (fun _ => rfl) Hfit.out ?_; intro w3 hw3 hg3))
  have hrow := hw3.out
  rw [hpad] at hrow
  have HB3 : Hid (Below w.heap.size w w3) := Lib.hid (HB1.out.grown hg3 HB1.out.size (fun j hj => by cases hj; exact Nat.le_refl _))
  obtain ⟨xb, hxb⟩ : ∃ xb, xb = w.heap.size := ⟨_, rfl⟩
  rw [← hxb] at hrow ⊢
  have Hrow := Lib.hid hrow
  have Hxb := Lib.hid hxb
  clear hrow hw3 hg3 HZ Ho1 HB1 hxb hpad c3 c0 hz1 hz2
  have s0 : w3.cell? ⟨p, 0, none⟩ = some (.pointer (some ⟨g, 0, none⟩)) := cell_below HB3.out hp0
  have s1 : w3.cell? ⟨g, 1, none⟩ = some (.map (some bs')) := cell_below HB3.out c1
  have s2 : w3.cell? ⟨g, 2, none⟩ = some (.map (some bn)) := cell_below HB3.out c2
  clear hp0 c1 c2
  have hbl : bs' < w3.heap.size := (Hms.out.below HB3.out).lt
  have hnl : bn < w3.heap.size := (Hmn.out.below HB3.out).lt
  have hps : p ≠ bs' := fun e => (Hms.out.below HB3.out).off s0 e
  have hgs : g ≠ bs' := fun e => (Hms.out.below HB3.out).off s1 e
  have hpn : p ≠ bn := fun e => (Hmn.out.below HB3.out).off s0 e
  have hgn : g ≠ bn := fun e => (Hmn.out.below HB3.out).off s1 e
  obtain ⟨v0, st0, o1, o2, e1, e2, e3⟩ := (Hms.out.below HB3.out).entryAt v (.slice (some ⟨xb, 0, none⟩) 512 512)
  obtain ⟨v1, st1, o3, o4, e4, e5, e6⟩ := (Hmn.out.below HB3.out).entryAt v (.slice (some ⟨xb, 0, none⟩) 512 512)
  obtain ⟨wa, hwa⟩ : ∃ wa, wa = putObj w3 bs' o1 := ⟨_, rfl⟩
  obtain ⟨wb, hwb⟩ : ∃ wb, wb = putObj wa bs' o2 := ⟨_, rfl⟩
  obtain ⟨wcc, hwcc⟩ : ∃ wcc, wcc = putObj wb bn o3 := ⟨_, rfl⟩
  obtain ⟨wd, hwd⟩ : ∃ wd, wd = putObj wcc bn o4 := ⟨_, rfl⟩
  have za : wa.heap.size = w3.heap.size := by rw [hwa, putObj_size]
  have zb : wb.heap.size = w3.heap.size := by rw [hwb, putObj_size, za]
  have zc : wcc.heap.size = w3.heap.size := by rw [hwcc, putObj_size, zb]
  have zd : wd.heap.size = w3.heap.size := by rw [hwd, putObj_size, zc]
  have r1 : (Instr.mapEntry 65 (.map (some bs')) (.int .i64 v)).run Tryd.prog w3.drew = .ok (.tuple #[v0, .int .i64 st0]) wa.drew := by rw [hwa]; exact e1 w3.drew rfl
  have r2 : (Instr.entryStore 65 (.map (some bs')) (.int .i64 st0) (.slice (some ⟨xb, 0, none⟩) 512 512)).run Tryd.prog wa.drew = .ok () wb.drew := by rw [hwb]; exact e2 wa.drew (by rw [hwa]; exact putObj_same w3 bs' o1 hbl)
  have r3 : (Instr.mapEntry 65 (.map (some bn)) (.int .i64 v)).run Tryd.prog wb.drew = .ok (.tuple #[v1, .int .i64 st1]) wcc.drew := by rw [hwcc]; exact e4 wb.drew (by rw [hwb, hwa]; exact (putObj_other _ _ _ _ Hne.out.symm).trans (putObj_other _ _ _ _ Hne.out.symm))
  have r4 : (Instr.entryStore 65 (.map (some bn)) (.int .i64 st1) (.slice (some ⟨xb, 0, none⟩) 512 512)).run Tryd.prog wcc.drew = .ok () wd.drew := by rw [hwd]; exact e5 wcc.drew (by rw [hwcc]; exact putObj_same wb bn o3 (by rw [zb]; exact hnl))
  have ta : ∀ a, a.block ≠ bs' → a.block ≠ bn → wa.cell? a = w3.cell? a := fun a h1 h2 => by rw [hwa]; exact putObj_cell _ _ _ _ h1
  have tb : ∀ a, a.block ≠ bs' → a.block ≠ bn → wb.cell? a = w3.cell? a := fun a h1 h2 => by rw [hwb]; exact (putObj_cell _ _ _ _ h1).trans (ta a h1 h2)
  have tc : ∀ a, a.block ≠ bs' → a.block ≠ bn → wcc.cell? a = w3.cell? a := fun a h1 h2 => by rw [hwcc]; exact (putObj_cell _ _ _ _ h2).trans (tb a h1 h2)
  have td : ∀ a, a.block ≠ bs' → a.block ≠ bn → wd.cell? a = w3.cell? a := fun a h1 h2 => by rw [hwd]; exact (putObj_cell _ _ _ _ h2).trans (tc a h1 h2)
  have Sa : Hid (wa.cell? ⟨p, 0, none⟩ = some (.pointer (some ⟨g, 0, none⟩)) ∧ wa.cell? ⟨g, 1, none⟩ = some (.map (some bs')) ∧ wa.cell? ⟨g, 2, none⟩ = some (.map (some bn))) := Lib.hid ⟨(ta _ hps hpn).trans s0, (ta _ hgs hgn).trans s1, (ta _ hgs hgn).trans s2⟩
  have Sb : Hid (wb.cell? ⟨p, 0, none⟩ = some (.pointer (some ⟨g, 0, none⟩)) ∧ wb.cell? ⟨g, 1, none⟩ = some (.map (some bs')) ∧ wb.cell? ⟨g, 2, none⟩ = some (.map (some bn))) := Lib.hid ⟨(tb _ hps hpn).trans s0, (tb _ hgs hgn).trans s1, (tb _ hgs hgn).trans s2⟩
  have Sc : Hid (wcc.cell? ⟨p, 0, none⟩ = some (.pointer (some ⟨g, 0, none⟩)) ∧ wcc.cell? ⟨g, 1, none⟩ = some (.map (some bs')) ∧ wcc.cell? ⟨g, 2, none⟩ = some (.map (some bn))) := Lib.hid ⟨(tc _ hps hpn).trans s0, (tc _ hgs hgn).trans s1, (tc _ hgs hgn).trans s2⟩
  have Sd : Hid (wd.cell? ⟨p, 0, none⟩ = some (.pointer (some ⟨g, 0, none⟩)) ∧ wd.cell? ⟨g, 1, none⟩ = some (.map (some bs')) ∧ wd.cell? ⟨g, 2, none⟩ = some (.map (some bn))) := Lib.hid ⟨(td _ hps hpn).trans s0, (td _ hgs hgn).trans s1, (td _ hgs hgn).trans s2⟩
  have EX : Hid (Ext (fun k => k = bs' ∨ k = bn) w wd) := Lib.hid (by
    rw [hwd, hwcc, hwb, hwa]
    exact ((((Ext.of_below HB3.out).trans (Ext.of_grown (putObj_grown _ _ _) (fun k e => .inl (Option.some.inj e).symm))).trans (Ext.of_grown (putObj_grown _ _ _) (fun k e => .inl (Option.some.inj e).symm))).trans (Ext.of_grown (putObj_grown _ _ _) (fun k e => .inr (Option.some.inj e).symm))).trans (Ext.of_grown (putObj_grown _ _ _) (fun k e => .inr (Option.some.inj e).symm)))
  have M1 : Hid (SecMap wd bs' (fun i => if i = v then some (.slice (some ⟨xb, 0, none⟩) 512 512) else fs i)) := Lib.hid (e3 wd (by
    rw [hwd, hwcc]
    refine ((putObj_other _ _ _ _ Hne.out).trans (putObj_other _ _ _ _ Hne.out)).trans ?_
    rw [hwb]
    exact putObj_same wa bs' o2 (by rw [za]; exact hbl)))
  have M2 : Hid (SecMap wd bn (fun i => if i = v then some (.slice (some ⟨xb, 0, none⟩) 512 512) else fn i)) := Lib.hid (e6 wd (by
    rw [hwd]
    exact putObj_same wcc bn o4 (by rw [zc]; exact hnl)))
  have HD3 : Hid (wd.heap[xb]? = some (.cells (bs (DiskV.pad l)).toArray 5 (0, 0))) := Lib.hid (by
    have h1 : xb ≠ bs' := fun e => by have := Hms.out.lt; have := Hxb.out; omega
    have h2 : xb ≠ bn := fun e => by have := Hmn.out.lt; have := Hxb.out; omega
    rw [hwd, hwcc]
    refine ((putObj_other _ _ _ _ h2).trans (putObj_other _ _ _ _ h2)).trans ?_
    rw [hwb, hwa]
    exact ((putObj_other _ _ _ _ h1).trans (putObj_other _ _ _ _ h1)).trans Hrow.out)
  clear e1 e2 e3 e4 e5 e6 hwa hwb hwcc hwd za zb zc zd ta tb tc td hbl hnl
  go_wp2_with fail
  go_region_held3 (fun w' => w'.cell? ⟨p, 0, none⟩ = some (.pointer (some ⟨g, 0, none⟩)) ∧ w'.cell? ⟨g, 1, none⟩ = some (.map (some bs')) ∧ w'.cell? ⟨g, 2, none⟩ = some (.map (some bn))) (first | exact ⟨s0, s1, s2⟩ | exact Sa.out | exact Sb.out | exact Sc.out | exact Sd.out) (fail)
  have G9 : Hid (BoxAt wd.drew g many bs' bn (.slice Aw ws.length wc) armed acts done down) := Lib.hid ((EX.out.block g (lt_block Hbox.out) (fun e => by rcases e with e | e; exact hgs e; exact hgn e)).trans Hbox.out)
  have hgl : g < w.heap.size := lt_block Hbox.out
  obtain ⟨wz, hwz⟩ : ∃ wz, wz = wd.drew := ⟨_, rfl⟩
  have P9 : Hid (PtrAt wz p g t) := Lib.hid (by rw [hwz]; exact (EX.out.block p (lt_block Hp.out) (fun e => by rcases e with e | e; exact hps e; exact hpn e)).trans Hp.out)
  have M19 : Hid (SecMap wz bs' (fun i => if i = v then some (.slice (some ⟨xb, 0, none⟩) 512 512) else fs i)) := Lib.hid (by rw [hwz]; exact M1.out.block rfl)
  have M29 : Hid (SecMap wz bn (fun i => if i = v then some (.slice (some ⟨xb, 0, none⟩) 512 512) else fn i)) := Lib.hid (by rw [hwz]; exact M2.out.block rfl)
  have HD9 : Hid (wz.heap[xb]? = some (.cells (bs (DiskV.pad l)).toArray 5 (0, 0))) := Lib.hid (by rw [hwz]; exact HD3.out)
  have EX9 : Hid (Ext (fun k => k = bs' ∨ k = bn) w wz) := Lib.hid (by rw [hwz]; exact EX.out.drew)
  rw [← hwz] at G9
  rw [← hwz]
  have HA9 : Hid (∀ wr k e, Below wz.heap.size wz wr → ws[k]? = some e → ∃ wb xb xc, Aw = some ⟨wb, 0, none⟩ ∧ e.2.1 = .slice (some ⟨xb, 0, none⟩) 512 xc ∧ wr.cell? ⟨wb, k * 2, none⟩ = some (.int .i64 e.1) ∧ wr.cell? ⟨wb, k * 2 + 1, none⟩ = some e.2.1) := Lib.hid (fun wr k e hx he => by
    obtain ⟨wb, xb, xc, e1, e2, g1, g2⟩ := HA.out k e he
    exact ⟨wb, xb, xc, e1, e2, cell_below hx (EX9.out.cell g1 (fun e => by rcases e with e | e; exact Hms.out.off g1 e; exact Hmn.out.off g1 e)), cell_below hx (EX9.out.cell g2 (fun e => by rcases e with e | e; exact Hms.out.off g2 e; exact Hmn.out.off g2 e))⟩)
  have Hgl := Lib.hid hgl
  clear hgl hwz EX M1 M2 HD3 Sa Sb Sc Sd r1 r2 r3 r4 s0 s1 s2 hps hgs hpn hgn HA Hrow HB3 Hk Hfit Hb
  have s0 : wz.cell? ⟨p, 0, none⟩ = some (.pointer (some ⟨g, 0, none⟩)) := cell_of_row _ _ 0 _ _ _ P9.out
  have s3 := G9.out.cells.2.2.2.1
  go_wp2_with fail
  go_loopw [57, 7] (fun i x wr => ∃ (k : Nat) (A' : Option Addr) (c' : Nat), k ≤ ws.length ∧ i = .int .i64 k ∧ x = .slice A' (withoutW (ws.take k) v).length c' ∧ wr.ownsRow wz.heap.size 99 2 x (withoutW (ws.take k) v).length (wcells (withoutW (ws.take k) v)) ∧ Below wz.heap.size wz wr) (fun i x _ => ws.length - (intOf i).toNat)
  case atStart => exact ⟨0, none, 0, by omega, rfl, rfl, World.ownsRow_nil _ _ _ _, Below.refl _ _⟩
  case round =>
    obtain ⟨k, A', c', hk, rfl, rfl, ho, hb⟩ := hrel
    have HO := Lib.hid ho
    have HB := Lib.hid hb
    clear ho hb
    have Gr : Hid (BoxAt wr g many bs' bn (.slice Aw ws.length wc) armed acts done down) := Lib.hid ((HB.out.block g (lt_block G9.out)).trans G9.out)
    have s0r : wr.cell? ⟨p, 0, none⟩ = some (.pointer (some ⟨g, 0, none⟩)) := cell_below HB.out s0
    by_cases hlt : k < ws.length
    · obtain ⟨e, he⟩ : ∃ e, ws[k]? = some e := ⟨_, List.getElem?_eq_getElem hlt⟩
      obtain ⟨wb, xb2, xc, hwb, hxe, y1, y2⟩ := HA9.out wr k e HB.out he
      subst hwb
      obtain ⟨av, ev, el⟩ := e
      simp only at hxe
      subst hxe
      simp only at y1 y2
      have hkz : (k : Int) < ws.length := by omega
      have hk0 : (0 : Int) ≤ (k : Int) := by omega
      have hk1 : (k : Int) ≤ 140737488355328 := by have := Hlen.out; omega
      have Hst : Hid (withoutW (ws.take (k + 1)) v = withoutW (ws.take k) v ++ (if av = v then [] else [(av, .slice (some ⟨xb2, 0, none⟩) 512 xc, el)])) := Lib.hid (by
        rw [take_snoc he, withoutW, List.filter_append, withoutW]
        by_cases h : av = v
        · simp [h]
        · simp [h])
      have hby : Below wr.heap.size wr (wr.alloc (.cells #[.int .i64 av, .slice (some ⟨xb2, 0, none⟩) 512 xc] 99)) := (Below.refl _ _).alloc (Nat.le_refl _) _
      have Hby : Hid (Below wz.heap.size wz (wr.alloc (.cells #[.int .i64 av, .slice (some ⟨xb2, 0, none⟩) 512 xc] 99))) := Lib.hid (HB.out.trans (hby.mono HB.out.size))
      have HOy := Lib.hid (own_belowM HO.out hby)
      have Hinf2 := Lib.hid info_write
      have hfl : (withoutW (ws.take k) v).length ≤ k := Nat.le_trans (List.length_filter_le _ _) (by rw [List.length_take]; omega)
      have Hx1 : Hid ((withoutW (ws.take k) v).length + 1 ≤ maxLen) := Lib.hid (by have := Hlen.out; simp only [maxLen]; omega)
      have Hx2 : Hid (((withoutW (ws.take k) v).length + 1) * 32 ≤ 140737488355328) := Lib.hid (by have := Hlen.out; omega)
      have Hlt := Lib.hid hlt
      clear he hlt hk hby hfl
      by_cases hav : av = v
      · rw [if_pos hav, List.append_nil] at Hst
        subst hav
        go_wp2_with fail
        go_roundw
        case rel => exact ⟨k + 1, A', c', by have := Hlt.out; omega, by go_num, by rw [Hst.out], by rw [Hst.out]; exact HOy.out, Hby.out⟩
        case measure => have := Hlt.out; simp [intOf]; omega
      · rw [if_neg hav] at Hst
        have hav2 : (av != v) = true := by simpa using hav
        go_wp2_with (at_builtin; refine wpList_append_elem rfl _ _ 66 rfl wz.heap.size 99 (.agg #[.int .i64 0, .slice none 0 0]) 2 32 Tryd.underlying66 Hinf2.out rfl (by decide) (.slice A' (withoutW (ws.take k) v).length c') _ _ #[.int .i64 av, .slice (some ⟨xb2, 0, none⟩) 512 xc] rfl rfl HOy.out (by simp only [World.size_alloc]; rfl) (fun u hu => by simp at hu; rcases hu with rfl | rfl <;> rfl) Hx1.out Hx2.out Hby.out.size ?_; intro v' w9 hown9 hg9 hl9)
        obtain ⟨gw, cw, rfl⟩ := own_slice1 hown9
        have e1 : withoutW (ws.take (k + 1)) v = withoutW (ws.take k) v ++ [(av, .slice (some ⟨xb2, 0, none⟩) 512 xc, el)] := Hst.out
        have H9 : Hid (w9.ownsRow wz.heap.size 99 2 (.slice (some ⟨gw, 0, none⟩) ((withoutW (ws.take k) v).length + 1) cw) (withoutW (ws.take (k + 1)) v).length (wcells (withoutW (ws.take (k + 1)) v))) := Lib.hid (by rw [e1, wcells_snoc, List.length_append]; exact hown9)
        have HB9 : Hid (Below wz.heap.size wz w9) := Lib.hid (Hby.out.grown hg9 Hby.out.size (fun i hi => own_geM HO.out hi))
        have HL : Hid ((withoutW (ws.take (k + 1)) v).length = (withoutW (ws.take k) v).length + 1) := Lib.hid (by rw [e1, List.length_append]; rfl)
        clear hown9 hg9 hl9 e1
        go_roundw
        case rel => exact ⟨k + 1, some ⟨gw, 0, none⟩, cw, by have := Hlt.out; omega, by go_num, by rw [HL.out], H9.out, HB9.out⟩
        case measure => have := Hlt.out; simp [intOf]; omega
    · have e8 : k = ws.length := by omega
      subst e8
      have hge : ¬ (ws.length : Int) < ws.length := by omega
      have x3 := Gr.out.cells.2.2.2.1
      have f3 := Gr.out.free 3
      have HO2 : Hid (wr.ownsRow wz.heap.size 99 2 (.slice A' (withoutW ws v).length c') (withoutW ws v).length (wcells (withoutW ws v))) := Lib.hid (by have := HO.out; rw [List.take_of_length_le (Nat.le_refl _)] at this; exact this)
      clear hk hlt
      go_wp2_with fail
      go_end0
      rw [← Hxb.out]
      have hbw : ∀ i, i < w.heap.size → i < wz.heap.size := fun i hi => Nat.lt_of_lt_of_le hi EX9.out.size
      have hgs : bs' ≠ g := fun e => Hms.out.off (a := ⟨g, 0, none⟩) Hbox.out.cells.1 e.symm
      have hgn : bn ≠ g := fun e => Hmn.out.off (a := ⟨g, 0, none⟩) Hbox.out.cells.1 e.symm
      have hxg : xb ≠ g := fun e => by have := Hxb.out; have := Hgl.out; omega
      have old : ∀ i, i < wz.heap.size → i ≠ g → (wr.setCell ⟨g, 3, none⟩ (.slice A' (withoutW ws v).length c')).heap[i]? = wz.heap[i]? := fun i hi hne => (heap_setCell_other _ _ _ _ (fun e => hne e)).trans (HB.out.block i hi)
      refine ⟨rfl, _, Gr.out.set3 _, M19.out.block (old _ M19.out.lt hgs), M29.out.block (old _ M29.out.lt hgn), (old _ (lt_block HD9.out) hxg).trans HD9.out, own_monoM (own_keep HO2.out (fun i hi => heap_setCell_other _ _ _ _ (fun e => ?_))) (by rw [Hxb.out]; exact EX9.out.size), ?_⟩
      · have h1 := own_geM HO2.out hi
        have h2 : i = g := e
        have := hbw g Hgl.out
        omega
      · refine Ext.setCell ((EX9.out.mono (fun i _ h => .inr h)).step (T := fun _ => False) (Ext.of_below HB.out) (fun _ _ h => h.elim)) _ (fun _ => .inl rfl) _

theorem bplant {T : Nat → Prop} {w : World} {g : Nat} {d : DiskV} (hd : DiskIs T w g d) (p : Nat) (t : TypeId) (hp : PtrAt w p g t) (v : Int) (A : Option Addr) (n c : Nat) (l : List UInt8) (hb : Bs w A n l) (hlen : d.wait.length * 32 ≤ 140737488355328) :
    Calls Tryd.prog 27 #[.pointer (some ⟨p, 0, none⟩), .int .i64 v, .slice A n c] w fun r w' => r = .returned (.tuple #[]) ∧ DiskGo T w g w' (d.plant v l) := by
  obtain ⟨bs', bn, W, fs, fn, ws, h⟩ := id hd
  by_cases hv : d.has v
  rotate_left
  · refine (plant_out p g t A W n c _ v bs' bn _ _ _ _ w hp h.box hv).mono ?_
    rintro r w' ⟨rfl, rfl⟩
    refine ⟨rfl, ?_⟩
    rw [DiskV.plant, if_neg hv]
    exact DiskGo.refl hd
  have hwl : ws.length * 32 ≤ 140737488355328 := by rw [h.wait, List.length_map] at hlen; exact hlen
  obtain ⟨A, wc, hW, hA⟩ : ∃ A wc, W = .slice A ws.length wc ∧ ∀ k e, ws[k]? = some e → ∃ wb xb xc, A = some ⟨wb, 0, none⟩ ∧ e.2.1 = .slice (some ⟨xb, 0, none⟩) 512 xc ∧ w.cell? ⟨wb, k * 2, none⟩ = some (.int .i64 e.1) ∧ w.cell? ⟨wb, k * 2 + 1, none⟩ = some e.2.1 := by
    rcases h.row.2 with ⟨hW, h0⟩ | ⟨wb, cap, cur, hW, _⟩
    · refine ⟨none, 0, by rw [hW, h0], fun k e he => ?_⟩
      have := (List.getElem?_eq_some_iff.1 he).1
      omega
    · refine ⟨some ⟨wb, 0, none⟩, cap, hW, fun k e he => ?_⟩
      obtain ⟨b, rest, c, h1, _⟩ := h.rows e (List.mem_of_getElem? he)
      obtain ⟨w1, w2⟩ := wcells_at ws k e he
      have g1 := h.row.cells (g := wb) (by rw [hW]; rfl) _ _ w1
      have g2 := h.row.cells (g := wb) (by rw [hW]; rfl) _ _ w2
      have a1 : (⟨wb, 0, none⟩ : Addr).add (2 * k) = ⟨wb, k * 2, none⟩ := by unfold Addr.add; split <;> simp_all; omega
      have a2 : (⟨wb, 0, none⟩ : Addr).add (2 * k + 1) = ⟨wb, k * 2 + 1, none⟩ := by unfold Addr.add; split <;> simp_all; omega
      rw [a1] at g1
      rw [a2] at g2
      exact ⟨wb, b, c, rfl, h1, g1, g2⟩
  have hbx := h.box
  rw [hW] at hbx
  refine (plant_any p g t _ A n c wc l _ v bs' bn _ _ _ _ fs fn ws w hp hbx h.safe h.now h.ne hA hb hwl hv).mono ?_
  rintro r w' ⟨rfl, W', k1, k2, k3, k4, k5, k6⟩
  refine ⟨rfl, ?_⟩
  have hnew : RowIn T w w' (.slice (some ⟨w.heap.size, 0, none⟩) 512 512) (DiskV.pad l) := .inr ⟨_, [], 512, rfl, by rw [List.append_nil]; exact k4, DiskV.pad_length l, Nat.le_refl _⟩
  have hfit := h.fit.plant v l
  have hnow := DiskV.now_plant d v l hv
  have e0 : d.plant v l = { d with safe := lay1 d.safe (v, DiskV.pad l), wait := d.wait.filter (fun p => decide (p.1 ≠ v)) } := by rw [DiskV.plant, if_pos hv]
  have e1 : (d.plant v l).wait = d.wait.filter (fun p => decide (p.1 ≠ v)) := by rw [e0]
  have e2 : (d.plant v l).safe = lay1 d.safe (v, DiskV.pad l) := by rw [e0]
  refine h.after (d' := d.plant v l) (k6.mono (fun k _ e => by rcases e with e | e | e; exact .inl e; exact .inr (.inl e); exact .inr (.inr (.inl e)))) hfit (by rw [e0]; exact h.acts) (by rw [e0]) (.inl h.tn) h.ne (W' := W') (ws' := withoutW ws v) (fun k hk => .inr (own_geM k5 hk)) (by rw [e0]; exact k1) k2 k3 (own_monoM k5 (Nat.zero_le _)) ?_ (fun e he => .inl (h.rows e (List.mem_filter.mp he).1)) (fun i => ?_) (fun i => ?_)
  · rw [e1, h.wait, withoutW, List.filter_map]; rfl
  · rw [e2]
    by_cases hi : i = v
    · subst hi
      rw [lay1_same]
      simp only [if_pos]
      exact hnew
    · rw [lay1_other _ _ _ _ hi]
      simp only [if_neg hi]
      exact SecIn.of (h.safes i)
  · rw [hnow]
    by_cases hi : i = v
    · subst hi
      rw [lay1_same]
      simp only [if_pos]
      exact hnew
    · rw [lay1_other _ _ _ _ hi]
      simp only [if_neg hi]
      exact SecIn.of (h.nows i)

end Go.Proofs.YteljopjaolegaaaDoor

/-
  A HAND AND ITS DISK in a law's own memory, beside other blocks: superblocks, a plant.
-/
namespace Go.Proofs.YteljopjaolegaaaDoor
open Go.RowKit
set_option maxRecDepth 100000
set_option linter.unusedVariables false
set_option linter.unusedSimpArgs false

theorem dx_plant {w wx : World} {h g : Nat} {d : DiskV} {O : Nat → Prop} (k : DX w wx h g d O) (v : Int) (A : Option Addr) (n c : Nat) (l : List UInt8) (hb : Bs wx A n l) (hlen : d.wait.length * 32 ≤ 140737488355328) : Calls Tryd.prog 27 #[.pointer (some ⟨h, 0, none⟩), .int .i64 v, .slice A n c] wx fun x w' => x = .returned (.tuple #[]) ∧ DX w w' h g (d.plant v l) O ∧ Stays O wx w' := by
  obtain ⟨T, k1, k2, k3, k4, k5, k6⟩ := k
  refine (bplant k1 h _ k5 v A n c l hb hlen).mono ?_
  rintro x w' ⟨rfl, hg⟩
  exact ⟨rfl, DX.go k2 k3 k4 k5 k6 hg⟩
theorem dx_swrite {w wx : World} {h g q : Nat} {d : DiskV} {O : Nat → Prop} (k : DX w wx h g d O) (hO : O q) (hq : PtrAt wx q g 95) (hN : Nib w) (s : Sup) (hlen : (d.wait.length + 8) * 32 ≤ 140737488355328) : Calls Tryd.prog 24 #[.pointer (some ⟨q, 0, none⟩), s.val] wx fun x w' => x = .returned (errV (d.swrite s).2) ∧ DX w w' h g (d.swrite s).1 O ∧ Stays O wx w' := by
  obtain ⟨T, k1, k2, k3, k4, k5, k6⟩ := k
  refine (swrite_any k1 q hq (k3 q hO).1 (hN.below k6) s hlen).mono ?_
  rintro x w' ⟨rfl, hg⟩
  exact ⟨rfl, DX.go k2 k3 k4 k5 k6 hg⟩
theorem dx_sread {w wx : World} {h g q : Nat} {d : DiskV} {O : Nat → Prop} (k : DX w wx h g d O) (hq : PtrAt wx q g 95) (hN : Nib w) : Calls Tryd.prog 26 #[.pointer (some ⟨q, 0, none⟩)] wx fun x w' => x = .returned (.tuple #[d.sread.1.val, errV d.sread.2]) ∧ Below wx.heap.size wx w' := by
  obtain ⟨T, k1, k2, k3, k4, k5, k6⟩ := k
  exact sread_any k1 q hq (hN.below k6)

end Go.Proofs.YteljopjaolegaaaDoor
