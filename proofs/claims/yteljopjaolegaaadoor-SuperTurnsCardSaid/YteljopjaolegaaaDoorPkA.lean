/-
  A DISK OF SECTORS whose writes wait until it is synced, in plain Lean: block.* and the reference's Disk both go as this one.
-/
import Derived.Test.YteljopjaolegaaaDoorWords
import Derived.Test.YteljopjaolegaaaDoorStep
import Derived.MapKept
import Derived.Maps.RangeWalk
import Derived.Deep.RegionHeld3
import Derived.StillTail

namespace Go.Proofs.YteljopjaolegaaaDoor
set_option maxRecDepth 100000
set_option linter.unusedVariables false

abbrev Rows512 := Int → List UInt8
def zeros512 : List UInt8 := List.replicate 512 0
/-- One sector laid over the others. -/
def lay1 (f : Rows512) (p : Int × List UInt8) : Rows512 := fun i => if i = p.1 then p.2 else f i
def lays (f : Rows512) (ws : List (Int × List UInt8)) : Rows512 := ws.foldl lay1 f

structure DiskV where
  many : Nat
  safe : Rows512
  wait : List (Int × List UInt8)
  armed : Bool
  acts : Nat
  done : Bool
  down : Bool

namespace DiskV
def new (n : Int) : DiskV := ⟨n.toNat, fun _ => zeros512, [], false, 0, false, false⟩
/-- What is read. -/
def now (d : DiskV) : Rows512 := lays d.safe d.wait
def arm (d : DiskV) (acts : Int) (done : Bool) : DiskV := { d with armed := true, acts := acts.toNat, done := done }
/-- The writes that stay. -/
def kept : List (Int × List UInt8) → List Bool → List (Int × List UInt8)
  | p :: ws, b :: keep => if b then p :: kept ws keep else kept ws keep
  | _, _ => []
def crash (d : DiskV) (keep : List Bool) : DiskV := { d with safe := lays d.safe (kept d.wait keep), wait := [], armed := false, down := false }
def pad (b : List UInt8) : List UInt8 := b.take 512 ++ List.replicate (512 - b.length) 0
def has (d : DiskV) (i : Int) : Prop := 0 ≤ i ∧ i < d.many
instance (d : DiskV) (i : Int) : Decidable (d.has i) := by unfold has; exact inferInstance
def plant (d : DiskV) (i : Int) (b : List UInt8) : DiskV :=
  if d.has i then { d with safe := lay1 d.safe (i, pad b), wait := d.wait.filter (fun p => decide (p.1 ≠ i)) } else d
/-- Is an act carried out? -/
def carried (d : DiskV) : Bool := !(d.armed && decide (d.acts = 0)) || d.done
/-- Does the disk go down on it? -/
def falls (d : DiskV) : Bool := d.armed && decide (d.acts = 0)
def acted (d : DiskV) : DiskV := if d.falls then { d with down := true } else if d.armed then { d with acts := d.acts - 1 } else d
/-- An act's answer. -/
def told (d : DiskV) : Int := if d.falls then 5 else 0
def write (d : DiskV) (i : Int) (b : List UInt8) : DiskV × Int :=
  if d.down then (d, 5) else if ¬ (d.has i ∧ b.length = 512) then (d, 1)
  else (if d.carried then { d.acted with wait := d.wait ++ [(i, b)] } else d.acted, d.told)
def sync (d : DiskV) : DiskV × Int :=
  if d.down then (d, 5) else (if d.carried then { d.acted with safe := lays d.safe d.wait, wait := [] } else d.acted, d.told)
/-- A sector is read: its bytes, and why not. -/
def read (d : DiskV) (i : Int) : List UInt8 × Int := if d.down then ([], 5) else if ¬ d.has i then ([], 1) else (d.now i, 0)
/-- All rows are sectors. -/
def Fit (d : DiskV) : Prop := (∀ i, (d.safe i).length = 512) ∧ (∀ p ∈ d.wait, p.2.length = 512 ∧ d.has p.1)
end DiskV

theorem lays_nil (f : Rows512) : lays f [] = f := rfl
theorem lays_append (f : Rows512) (a b : List (Int × List UInt8)) : lays f (a ++ b) = lays (lays f a) b := List.foldl_append
theorem lays_snoc (f : Rows512) (a : List (Int × List UInt8)) (p : Int × List UInt8) : lays f (a ++ [p]) = lay1 (lays f a) p := by rw [lays_append]; rfl
theorem lay1_same (f : Rows512) (i : Int) (x : List UInt8) : lay1 f (i, x) i = x := if_pos rfl
theorem lay1_other (f : Rows512) (i j : Int) (x : List UInt8) (h : j ≠ i) : lay1 f (i, x) j = f j := if_neg h

theorem lays_length (f : Rows512) (hf : ∀ i, (f i).length = 512) : ∀ (ws : List (Int × List UInt8)), (∀ p ∈ ws, p.2.length = 512) → ∀ i, (lays f ws i).length = 512 := by
  intro ws
  induction ws generalizing f with
  | nil => intro _ i; exact hf i
  | cons p ws ih =>
    intro h i
    refine ih (lay1 f p) (fun j => ?_) (fun q hq => h q (List.mem_cons_of_mem _ hq)) i
    simp only [lay1]
    split
    · exact h p (List.mem_cons_self ..)
    · exact hf j

/-- What is read at a sector that the writes do not name is what is safe. -/
theorem lays_not (f : Rows512) (i : Int) : ∀ (ws : List (Int × List UInt8)), (∀ p ∈ ws, p.1 ≠ i) → lays f ws i = f i := by
  intro ws
  induction ws generalizing f with
  | nil => intro _; rfl
  | cons p ws ih =>
    intro h
    have e := ih (lay1 f p) (fun q hq => h q (List.mem_cons_of_mem _ hq))
    have h1 : i ≠ p.1 := fun e => h p (List.mem_cons_self ..) e.symm
    exact e.trans (lay1_other f p.1 i p.2 h1)

theorem lays_filter (f : Rows512) (i : Int) (x : List UInt8) (ws : List (Int × List UInt8)) : lays (lay1 f (i, x)) (ws.filter (fun p => decide (p.1 ≠ i))) = lay1 (lays f ws) (i, x) := by
  have swap : ∀ (f : Rows512) (p : Int × List UInt8), p.1 ≠ i → lay1 (lay1 f (i, x)) p = lay1 (lay1 f p) (i, x) := by
    intro f p hp
    funext j
    simp only [lay1]
    by_cases h1 : j = p.1
    · rw [if_pos h1, if_neg (fun e => hp (h1.symm.trans e)), if_pos h1]
    · rw [if_neg h1]
      by_cases h2 : j = i
      · rw [if_pos h2, if_pos h2]
      · rw [if_neg h2, if_neg h2, if_neg h1]
  have over : ∀ (f : Rows512) (p : Int × List UInt8), p.1 = i → lay1 (lay1 f p) (i, x) = lay1 f (i, x) := by
    intro f p hp
    funext j
    simp only [lay1, hp]
    split <;> rfl
  induction ws generalizing f with
  | nil => rfl
  | cons p ws ih =>
    by_cases hp : p.1 = i
    · rw [List.filter_cons, if_neg (by simp [hp])]
      have e := ih (lay1 f p)
      rw [over f p hp] at e
      exact e
    · rw [List.filter_cons, if_pos (by simpa using hp)]
      show lays (lay1 (lay1 f (i, x)) p) _ = _
      rw [swap f p hp]
      exact ih (lay1 f p)

namespace DiskV
theorem now_plant (d : DiskV) (i : Int) (b : List UInt8) (h : d.has i) : (d.plant i b).now = lay1 d.now (i, pad b) := by
  simp only [plant, if_pos h, now]; exact lays_filter _ _ _ _
theorem now_sync (d : DiskV) : ({ d with safe := lays d.safe d.wait, wait := [] } : DiskV).now = d.now := rfl
theorem pad_length (b : List UInt8) : (pad b).length = 512 := by simp [pad]; omega
theorem Fit.new (n : Int) : (DiskV.new n).Fit := ⟨fun i => by simp [DiskV.new, zeros512], fun p hp => by cases hp⟩
theorem Fit.now {d : DiskV} (h : d.Fit) (i : Int) : (d.now i).length = 512 := lays_length _ h.1 _ (fun p hp => (h.2 p hp).1) i
theorem kept_mem : ∀ (ws : List (Int × List UInt8)) (keep : List Bool) (p : Int × List UInt8), p ∈ kept ws keep → p ∈ ws
  | [], _, p, h => by cases h
  | q :: ws, [], p, h => by cases h
  | q :: ws, b :: keep, p, h => by
    simp only [kept] at h
    split at h
    · rcases List.mem_cons.mp h with rfl | h
      · exact List.mem_cons_self ..
      · exact List.mem_cons_of_mem _ (kept_mem ws keep p h)
    · exact List.mem_cons_of_mem _ (kept_mem ws keep p h)
theorem Fit.crash {d : DiskV} (h : d.Fit) (keep : List Bool) : (d.crash keep).Fit :=
  ⟨lays_length _ h.1 _ (fun p hp => (h.2 p (kept_mem _ _ p hp)).1), fun p hp => by cases hp⟩
theorem Fit.plant {d : DiskV} (h : d.Fit) (i : Int) (b : List UInt8) : (d.plant i b).Fit := by
  simp only [DiskV.plant]
  split
  · refine ⟨fun j => ?_, fun p hp => h.2 p ((List.mem_filter.mp hp).1)⟩
    simp only [lay1]
    split
    · exact pad_length b
    · exact h.1 j
  · exact h
theorem Fit.arm {d : DiskV} (h : d.Fit) (a : Int) (b : Bool) : (d.arm a b).Fit := h
theorem acted_safe (d : DiskV) : d.acted.safe = d.safe := by simp only [acted]; split <;> (try split) <;> rfl
theorem acted_wait (d : DiskV) : d.acted.wait = d.wait := by simp only [acted]; split <;> (try split) <;> rfl
theorem acted_many (d : DiskV) : d.acted.many = d.many := by simp only [acted]; split <;> (try split) <;> rfl
theorem Fit.acted {d : DiskV} (h : d.Fit) : d.acted.Fit := by
  refine ⟨by rw [acted_safe]; exact h.1, fun p hp => ?_⟩
  rw [acted_wait] at hp
  have := h.2 p hp
  simp only [has, acted_many] at this ⊢
  exact this
end DiskV

end Go.Proofs.YteljopjaolegaaaDoor

/-
  MAPS FROM int TO []byte in memory.
-/
namespace Go.Proofs.YteljopjaolegaaaDoor
open Go.RowKit Go.MapKept
set_option maxRecDepth 100000
set_option linter.unusedVariables false
set_option linter.unusedSimpArgs false

def keyNum : Value → Option Int
  | .int .i64 i => some i
  | _ => none
theorem keyNum_iff (v : Value) (k : Int) : keyNum v = some k ↔ v = .int .i64 k := by
  unfold keyNum
  split
  · simp
  · rename_i h
    constructor
    · intro e; cases e
    · intro e; exact absurd e (h k)
/-- What a list of entries holds at a number. -/
def mlook : List MapEntry → Int → Option Value
  | [], _ => none
  | e :: es, k => if keyNum e.key = some k then some e.val else mlook es k

theorem mlook_findNow (k : Int) : ∀ (es : List MapEntry) (n : Nat), (∀ e ∈ es, ∃ i, e.key = .int .i64 i) →
    (Instr.findNow (.int .i64) (.int .i64 k) es n = some none ∧ mlook es k = none ∧ ∀ e ∈ es, e.key ≠ .int .i64 k) ∨
    ∃ j e, Instr.findNow (.int .i64) (.int .i64 k) es n = some (some (n + j, e.val)) ∧ es[j]? = some e ∧ e.key = .int .i64 k ∧ mlook es k = some e.val ∧ ∀ i x, i < j → es[i]? = some x → x.key ≠ .int .i64 k := by
  intro es
  induction es with
  | nil => intro n _; exact .inl ⟨rfl, rfl, fun e h => by cases h⟩
  | cons a es ih =>
    intro n h
    obtain ⟨i, hi⟩ := h a (List.mem_cons_self ..)
    by_cases hk : k = i
    · subst hk
      refine .inr ⟨0, a, ?_, rfl, hi, ?_, fun i x hi => by omega⟩
      · simp [Instr.findNow, hi, Instr.sameNow]
      · simp [mlook, hi, keyNum]
    · have hs : Instr.sameNow (.int .i64) (.int .i64 k) a.key = some false := by rw [hi]; simp [Instr.sameNow, hk]
      have hne : a.key ≠ .int .i64 k := by rw [hi]; intro e; injection e with _ e; exact hk e.symm
      have hf : Instr.findNow (.int .i64) (.int .i64 k) (a :: es) n = Instr.findNow (.int .i64) (.int .i64 k) es (n + 1) := by simp only [Instr.findNow, hs]
      have hl : mlook (a :: es) k = mlook es k := if_neg (fun e => hne ((keyNum_iff _ _).mp e))
      rcases ih (n + 1) (fun e he => h e (List.mem_cons_of_mem _ he)) with ⟨h1, h2, h3⟩ | ⟨j, e, h1, h2, h3, h4, h5⟩
      · refine .inl ⟨by rw [hf, h1], by rw [hl, h2], fun e he => ?_⟩
        rcases List.mem_cons.mp he with rfl | he
        · exact hne
        · exact h3 e he
      · refine .inr ⟨j + 1, e, by rw [hf, h1]; congr 3; omega, by simpa using h2, h3, by rw [hl, h4], fun i x hij hx => ?_⟩
        cases i with
        | zero => rw [List.getElem?_cons_zero] at hx; cases hx; exact hne
        | succ i => exact h5 i x (by omega) (by simpa using hx)

theorem mlook_append (es : List MapEntry) (a : MapEntry) (k : Int) : mlook (es ++ [a]) k = match mlook es k with | some v => some v | none => if keyNum a.key = some k then some a.val else none := by
  induction es with
  | nil => simp [mlook]
  | cons e es ih =>
    simp only [List.cons_append, mlook]
    split
    · rfl
    · exact ih

theorem mlook_modify (k : Int) (v : Value) : ∀ (es : List MapEntry) (j : Nat) (e : MapEntry), es[j]? = some e → e.key = .int .i64 k → (∀ i x, i < j → es[i]? = some x → x.key ≠ .int .i64 k) →
    ∀ i, mlook (es.modify j (fun e => { e with key := .int .i64 k, val := v })) i = if i = k then some v else mlook es i := by
  intro es
  induction es with
  | nil => intro j e h; simp at h
  | cons a es ih =>
    intro j e he hk hlt i
    cases j with
    | zero =>
      rw [List.getElem?_cons_zero] at he
      cases he
      rw [List.modify_zero_cons]
      simp only [mlook, hk]
      by_cases hi : i = k
      · subst hi; simp [keyNum]
      · rw [if_neg (by simp [keyNum, Ne.symm hi]), if_neg hi, if_neg (by simp [keyNum, Ne.symm hi])]
    | succ j =>
      rw [List.modify_succ_cons]
      simp only [mlook]
      have ha : a.key ≠ .int .i64 k := hlt 0 a (by omega) rfl
      rw [ih j e (by simpa using he) hk (fun m x hm hx => hlt (m + 1) x (by omega) (by simpa using hx)) i]
      by_cases hi : i = k
      · subst hi
        rw [if_pos rfl, if_pos rfl, if_neg (fun h => ha ((keyNum_iff _ _).mp h))]
      · rw [if_neg hi, if_neg hi]

/-- A block is a map from numbers that reads as f. -/
def SecMap (w : World) (b : Nat) (f : Int → Option Value) : Prop :=
  ∃ es clock, w.heap[b]? = some (.map es clock) ∧ (∀ e ∈ es.toList, ∃ i, e.key = .int .i64 i) ∧ (∀ k, mlook es.toList k = f k) ∧ Stamped es clock

theorem SecMap.made (w : World) : SecMap (w.alloc (.map #[] 0)) w.heap.size (fun _ => none) := ⟨#[], 0, heap_alloc_new w _, fun e h => by simp at h, fun k => rfl, stamped_empty 0⟩
theorem SecMap.lt {w : World} {b : Nat} {f : Int → Option Value} (h : SecMap w b f) : b < w.heap.size := by
  obtain ⟨es, clock, hb, _⟩ := h
  exact (Array.getElem?_eq_some_iff.1 hb).1
theorem SecMap.block {w w1 : World} {b : Nat} {f : Int → Option Value} (h : SecMap w b f) (e : w1.heap[b]? = w.heap[b]?) : SecMap w1 b f := by
  obtain ⟨es, clock, hb, h2, h3, h9⟩ := h
  exact ⟨es, clock, e.trans hb, h2, h3, h9⟩
theorem SecMap.below {w w1 : World} {b : Nat} {f : Int → Option Value} (h : SecMap w b f) (hb : Below w.heap.size w w1) : SecMap w1 b f := h.block (hb.block b h.lt)

theorem SecMap.lookup {w : World} {b : Nat} {f : Int → Option Value} (h : SecMap w b f) (k : Int) :
    (Instr.lookup 65 (.map (some b)) (.int .i64 k) false).run Tryd.prog w = .ok ((f k).getD (.slice none 0 0)) w := by
  obtain ⟨es, clock, hb, h2, h3, h9⟩ := h
  have hm := Tryd.underlying65
  have hd := Tryd.underlying3
  have hk : IsKey (.int .i64) (.int .i64 k) := by simp [IsKey]
  have hz : (zeroValue 31).run Tryd.prog w = .ok (.slice none 0 0) w := by kernel_rfl
  rcases mlook_findNow k es.toList 0 h2 with ⟨h1, h4, _⟩ | ⟨j, e, h1, _, _, h4, _⟩
  · rw [← h3 k, h4]
    simp [Instr.lookup, run_underlying hm, MapKept.run_getObj_map hb, MapKept.run_checkKey hd hk, MapKept.run_findKey hd h1, Result.andThen, hz]
  · rw [← h3 k, h4]
    simp [Instr.lookup, run_underlying hm, MapKept.run_getObj_map hb, MapKept.run_checkKey hd hk, MapKept.run_findKey hd h1, Result.andThen]

/-- One block of the heap is another. -/
def putObj (w : World) (b : Nat) (o : Obj) : World := { w with heap := w.heap.setIfInBounds b o }
theorem putObj_drewN (w : World) (b : Nat) (o : Obj) (m : Nat) : putObj (w.drewN m) b o = (putObj w b o).drewN m := rfl
theorem putObj_drew (w : World) (b : Nat) (o : Obj) : putObj w.drew b o = (putObj w b o).drew := rfl
theorem putObj_size (w : World) (b : Nat) (o : Obj) : (putObj w b o).heap.size = w.heap.size := by simp [putObj]
theorem putObj_other (w : World) (b : Nat) (o : Obj) (i : Nat) (h : i ≠ b) : (putObj w b o).heap[i]? = w.heap[i]? := by simp [putObj, Ne.symm h]
theorem putObj_same (w : World) (b : Nat) (o : Obj) (h : b < w.heap.size) : (putObj w b o).heap[b]? = some o := by simp [putObj, h]
theorem putObj_grown (w : World) (b : Nat) (o : Obj) : w.grownBy (putObj w b o) (some b) :=
  ⟨rfl, rfl, rfl, by rw [putObj_size]; exact Nat.le_refl _, fun i hi hne => putObj_other w b o i (fun e => hne (by rw [e]))⟩
theorem putObj_cell (w : World) (b : Nat) (o : Obj) (a : Addr) (h : a.block ≠ b) : (putObj w b o).cell? a = w.cell? a := World.cell?_of_block (putObj_other w b o a.block h)
theorem putObj_frozen (w : World) (b : Nat) (o : Obj) (a : Addr) (h : a.block ≠ b) : (putObj w b o).frozen? a = w.frozen? a := by
  have e := putObj_other w b o a.block h
  unfold World.frozen?
  rw [e]

/-- 'm[k] = v', in whatever world has this heap. -/
theorem SecMap.updateAt {w : World} {b : Nat} {f : Int → Option Value} (h : SecMap w b f) (k : Int) (v : Value) :
    ∃ o, (∀ wx, wx.heap = w.heap → (Instr.mapUpdate 65 (.map (some b)) (.int .i64 k) v).run Tryd.prog wx = .ok () (putObj wx b o)) ∧ SecMap (putObj w b o) b (fun i => if i = k then some v else f i) := by
  have hlt := h.lt
  obtain ⟨es, clock, hb, h2, h3, h9⟩ := h
  have hm := Tryd.underlying65
  have hd := Tryd.underlying3
  have hk : IsKey (.int .i64) (.int .i64 k) := by simp [IsKey]
  rcases mlook_findNow k es.toList 0 h2 with ⟨h1, h4, h5⟩ | ⟨j, e, h1, hj, hke, h4, h5⟩
  · refine ⟨.map (es.push { key := .int .i64 k, val := v, born := clock }) (clock + 1), fun wx hx => ?_, ?_⟩
    · have hbx : wx.heap[b]? = some (.map es clock) := by rw [hx]; exact hb
      simp [Instr.mapUpdate, run_underlying hm, MapKept.run_getObj_map hbx, MapKept.run_checkKey hd hk, MapKept.run_findKey hd h1, MapKept.run_setObj_map _ hbx, Result.andThen, putObj]
    · refine ⟨_, _, putObj_same _ _ _ hlt, fun x hx => ?_, fun i => ?_, stamped_push h9 h5⟩
      · rw [Array.toList_push] at hx
        rcases List.mem_append.mp hx with hx | hx
        · exact h2 x hx
        · obtain rfl := List.mem_singleton.mp hx; exact ⟨k, rfl⟩
      · rw [Array.toList_push, mlook_append]
        by_cases hi : i = k
        · subst hi
          rw [h4]; simp [keyNum]
        · rw [h3 i]
          show _ = (if i = k then some v else f i)
          rw [if_neg hi]
          cases hf : f i with
          | some u => rfl
          | none => simp [keyNum, Ne.symm hi]
  · have hj2 : es[j]? = some e := by rw [← Array.getElem?_toList]; exact hj
    refine ⟨.map (es.modify j fun e => { e with key := .int .i64 k, val := v }) clock, fun wx hx => ?_, ?_⟩
    · have hbx : wx.heap[b]? = some (.map es clock) := by rw [hx]; exact hb
      simp [Instr.mapUpdate, run_underlying hm, MapKept.run_getObj_map hbx, MapKept.run_checkKey hd hk, MapKept.run_findKey hd h1, hj2, hke, run_keyThatStays hk, MapKept.run_setObj_map _ hbx, Result.andThen, putObj]
    · have hml : (es.modify j fun e => { e with key := .int .i64 k, val := v }).toList = es.toList.modify j (fun e => { e with key := .int .i64 k, val := v }) := Array.toList_modify ..
      refine ⟨_, _, putObj_same _ _ _ hlt, fun x hx => ?_, fun i => ?_, stamped_modify h9 j _ (fun _ _ => rfl) (fun x _ hx => by rw [hj2] at hx; cases hx; exact hke.symm)⟩
      · rw [hml] at hx
        obtain ⟨m, hm2⟩ := List.getElem?_of_mem hx
        rw [List.getElem?_modify] at hm2
        cases hem : es.toList[m]? with
        | none => rw [hem] at hm2; cases hm2
        | some y =>
          rw [hem] at hm2
          by_cases hjm : j = m
          · simp only [hjm, if_true, Option.map_eq_map, Option.map_some, Option.some.injEq] at hm2
            exact ⟨k, by rw [← hm2]⟩
          · simp only [hjm, if_false, Option.map_eq_map, Option.map_some, Option.some.injEq, id] at hm2
            subst hm2
            exact h2 _ (List.mem_of_getElem? hem)
      · rw [hml, mlook_modify k v es.toList j e hj hke h5 i, h3 i]

/-! ### 'for k, v := range m' -/
theorem mlook_mem {es : List MapEntry} (hp : es.Pairwise (fun x y => x.key ≠ y.key)) {e : MapEntry} {i : Int} (he : e ∈ es) (hk : e.key = .int .i64 i) : mlook es i = some e.val := by
  induction es with
  | nil => cases he
  | cons a es ih =>
    obtain ⟨h1, h2⟩ := List.pairwise_cons.1 hp
    rcases List.mem_cons.1 he with rfl | he
    · simp [mlook, hk, keyNum]
    · rw [mlook, if_neg (fun e1 => h1 e he (((keyNum_iff _ _).mp e1).trans hk.symm)), ih h2 he]
theorem mlook_some {es : List MapEntry} {i : Int} {v : Value} (h : mlook es i = some v) : ∃ e ∈ es, e.key = .int .i64 i ∧ e.val = v := by
  induction es with
  | nil => cases h
  | cons a es ih =>
    rw [mlook] at h
    split at h
    · rename_i hk
      exact ⟨a, List.mem_cons_self .., (keyNum_iff _ _).mp hk, by injection h⟩
    · obtain ⟨e, he, h1, h2⟩ := ih h
      exact ⟨e, List.mem_cons_of_mem _ he, h1, h2⟩

/-- A loop over a map, under way: which keys are to come, how many. -/
def SecRange (w : World) (b r : Nat) (f : Int → Option Value) (left : Int → Bool) (cnt : Nat) : Prop :=
  ∃ es clock since seen c0, w.heap[b]? = some (.map es clock) ∧ (∀ e ∈ es.toList, ∃ i, e.key = .int .i64 i) ∧ (∀ k, mlook es.toList k = f k) ∧ Stamped es clock ∧
    w.heap[r]? = some (.mapIter (some b) since seen c0) ∧ (∀ x ∈ es.toList, x.born < since) ∧ since ≤ c0 ∧ since ≤ clock ∧ (leftOf es seen).size = cnt ∧
    (∀ e ∈ es.toList, ∀ i, e.key = .int .i64 i → left i = !seen.contains e.born) ∧ (∀ i, left i = true → f i ≠ none)

theorem SecRange.map {w : World} {b r : Nat} {f : Int → Option Value} {left : Int → Bool} {cnt : Nat} (h : SecRange w b r f left cnt) : SecMap w b f := by
  obtain ⟨es, clock, since, seen, c0, h1, h2, h3, h4, _⟩ := h
  exact ⟨es, clock, h1, h2, h3, h4⟩
theorem SecRange.ne {w : World} {b r : Nat} {f : Int → Option Value} {left : Int → Bool} {cnt : Nat} (h : SecRange w b r f left cnt) : r ≠ b := by
  obtain ⟨es, clock, since, seen, c0, h1, h2, h3, h4, h5, _⟩ := h
  intro e; rw [e, h1] at h5; cases h5
theorem SecRange.lt {w : World} {b r : Nat} {f : Int → Option Value} {left : Int → Bool} {cnt : Nat} (h : SecRange w b r f left cnt) : r < w.heap.size := by
  obtain ⟨es, clock, since, seen, c0, h1, h2, h3, h4, h5, _⟩ := h
  exact (Array.getElem?_eq_some_iff.1 h5).1
theorem SecRange.kept {w w' : World} {b r : Nat} {f : Int → Option Value} {left : Int → Bool} {cnt : Nat} (h : SecRange w b r f left cnt) (e1 : w'.heap[b]? = w.heap[b]?) (e2 : w'.heap[r]? = w.heap[r]?) : SecRange w' b r f left cnt := by
  obtain ⟨es, clock, since, seen, c0, h1, h2, h3, h4, h5, h6⟩ := h
  exact ⟨es, clock, since, seen, c0, e1.trans h1, h2, h3, h4, e2.trans h5, h6⟩
theorem SecRange.left_eq {w : World} {b r : Nat} {f : Int → Option Value} {left : Int → Bool} {cnt : Nat} (h : SecRange w b r f left cnt) : w.rangeLeft b r = cnt := by
  obtain ⟨es, clock, since, seen, c0, h1, h2, h3, h4, h5, _, _, _, h6, _⟩ := h
  simp only [World.rangeLeft, h1, h5]; exact h6

theorem SecMap.range {w : World} {b : Nat} {f : Int → Option Value} (h : SecMap w b f) :
    ∃ since cnt, (Instr.range 65 (.map (some b))).run Tryd.prog w = .ok (.pointer (some ⟨w.heap.size, 0, none⟩)) (w.alloc (.mapIter (some b) since #[] since)) ∧ SecRange (w.alloc (.mapIter (some b) since #[] since)) b w.heap.size f (fun i => (f i).isSome) cnt := by
  have hlt := h.lt
  obtain ⟨es, clock, hb, h2, h3, h9⟩ := h
  refine ⟨clock, _, run_range_map w _ _ _ b es clock Tryd.underlying65 hb, es, clock, clock, #[], clock, (heap_alloc_old w _ hlt).trans hb, h2, h3, h9, heap_alloc_new w _, h9.1, Nat.le_refl _, Nat.le_refl _, rfl, fun e he i hk => ?_, fun i hi e => by simp [e] at hi⟩
  show (f i).isSome = _
  rw [← h3, mlook_mem ((stamped_iff _ _).1 h9).2.2 he hk]
  simp

theorem SecRange.next {w : World} {b r : Nat} {f : Int → Option Value} {left : Int → Bool} {cnt : Nat} (h : SecRange w b r f left cnt) (ty : TypeId) :
    (cnt = 0 ∧ (∀ i, left i = false) ∧ (Instr.next (.pointer (some ⟨r, 0, none⟩)) false ty).run Tryd.prog w = .ok (.tuple #[.bool false]) w) ∨
    ∃ i v w' cnt', left i = true ∧ f i = some v ∧ (Instr.next (.pointer (some ⟨r, 0, none⟩)) false ty).run Tryd.prog w = .ok (.tuple #[.bool true, .int .i64 i, v]) w' ∧
      SecRange w' b r f (fun x => left x && !decide (x = i)) cnt' ∧ cnt' < cnt ∧ w.grownBy w' (some r) ∧ w'.heap.size = w.heap.size ∧ (Instr.entry (.pointer (some ⟨r, 0, none⟩))).run Tryd.prog w' = .ok (.tuple #[.int .i64 i, v]) w' := by
  have hne := h.ne
  obtain ⟨es, clock, since, seen, c0, hb, h2, h3, h9, hr, hold, hsc, hsk, rfl, hl1, hl2⟩ := h
  have hst := (stamped_iff es clock).1 h9
  rcases run_next_at (P := Tryd.prog) w ty r b since c0 seen es clock hr hb hold hsc with ⟨h0, hrun⟩ | ⟨e, he, w1, hal, hrun⟩
  · refine Or.inl ⟨h0, fun i => ?_, hrun⟩
    cases hk : left i
    · rfl
    · exfalso
      cases hf : f i with
      | none => exact hl2 i hk hf
      | some v =>
        rw [← h3] at hf
        obtain ⟨e, he, h4, h5⟩ := mlook_some hf
        rw [hl1 e he i h4, all_seen es seen h0 e he] at hk
        cases hk
  · obtain ⟨hem, hes⟩ := mem_left he
    obtain ⟨i, hi⟩ := h2 e hem
    have hr1 : w1.heap[r]? = some (.mapIter (some b) since seen c0) := by rcases hal with rfl | rfl <;> exact hr
    have hb1 : w1.heap[b]? = some (.map es clock) := by rcases hal with rfl | rfl <;> exact hb
    have hset := heap_set (o' := .mapIter (some b) since (seen.push e.born) clock) hr1
    have hb' : (ChangeMaps.setBlock w1 r (.mapIter (some b) since (seen.push e.born) clock)).heap[b]? = some (.map es clock) := (hset.2 b (fun e1 => hne e1.symm)).trans hb1
    rw [hi] at hrun
    refine Or.inr ⟨i, e.val, _, _, by rw [hl1 e hem i hi, hes]; rfl, by rw [← h3]; exact mlook_mem hst.2.2 hem hi, hrun,
      ⟨es, clock, since, seen.push e.born, clock, hb', h2, h3, h9, hset.1, hold, hsk, hsk, rfl, fun x hx j hj => ?_, fun j hj => hl2 j (by simp at hj; exact hj.1)⟩, left_shrinks es seen e he, ?_, ?_, by rw [← hi]; exact run_entry_at _ r b since seen es clock e hset.1 hb' hem hst.2.1⟩
    · show (left j && !decide (j = i)) = _
      rw [hl1 x hx j hj, contains_push]
      by_cases hij : j = i
      · have hxe : x = e := entry_eq_of_key hst.2.2 hx hem (by rw [hj, hi, hij])
        subst hxe
        simp [hij]
      · have : ¬ x.born = e.born := fun hb => hij (by have := born_inj hst.2.1 hx hem hb; subst this; rw [hi] at hj; injection hj with _ hj; exact hj.symm)
        simp [hij, this]
    · rcases hal with rfl | rfl <;> exact ⟨rfl, rfl, rfl, by simp [ChangeMaps.setBlock], fun i _ hi => hset.2 i (fun e1 => hi (by rw [e1]))⟩
    · rcases hal with rfl | rfl <;> simp [ChangeMaps.setBlock]

end Go.Proofs.YteljopjaolegaaaDoor

/-
  ROWS OF SECTORS ON A DISK, in plain Lean.
-/
namespace Go.Proofs.YteljopjaolegaaaDoor
set_option maxRecDepth 100000
set_option linter.unusedVariables false

/-- The piece of bytes that goes into one sector. -/
def chunk (b : List UInt8) (i : Nat) : List UInt8 := (b.drop (512 * i)).take 512
theorem chunk_length (b : List UInt8) (i : Nat) (h : 512 * i + 512 ≤ b.length) : (chunk b i).length = 512 := by
  simp only [chunk, List.length_take, List.length_drop]; omega
/-- The bytes of sectors one behind another. -/
def got (f : Rows512) (a : Int) : Nat → List UInt8
  | 0 => []
  | i + 1 => got f a i ++ f (a + i)
theorem got_length (f : Rows512) (a : Int) (n : Nat) (h : ∀ i : Nat, i < n → (f (a + i)).length = 512) : (got f a n).length = 512 * n := by
  induction n with
  | zero => rfl
  | succ n ih => rw [got, List.length_append, ih (fun i hi => h i (by omega)), h n (by omega)]; omega
theorem got_congr (f g : Rows512) (a : Int) (n : Nat) (h : ∀ i : Nat, i < n → f (a + i) = g (a + i)) : got f a n = got g a n := by
  induction n with
  | zero => rfl
  | succ n ih => rw [got, got, ih (fun i hi => h i (by omega)), h n (by omega)]
theorem got_chunks (b : List UInt8) (f : Rows512) (a : Int) (n : Nat) (h : ∀ i : Nat, i < n → f (a + i) = chunk b i) : got f a n = b.take (512 * n) := by
  induction n with
  | zero => rfl
  | succ n ih =>
    rw [got, ih (fun i hi => h i (by omega)), h n (by omega), chunk, show 512 * (n + 1) = 512 * n + 512 by omega, List.take_add]
theorem got_zeros (f : Rows512) (a : Int) (n : Nat) (h : ∀ i : Nat, i < n → f (a + i) = zeros512) : got f a n = List.replicate (512 * n) 0 := by
  induction n with
  | zero => rfl
  | succ n ih =>
    rw [got, ih (fun i hi => h i (by omega)), h n (by omega), zeros512, List.replicate_append_replicate]; congr 1

namespace DiskV
/-- The first i of a row's pieces are written, or as many as go. -/
def wrote (d : DiskV) (a : Int) (c : Nat → List UInt8) : Nat → DiskV × Int
  | 0 => (d, 0)
  | i + 1 => if (wrote d a c i).2 = 0 then (wrote d a c i).1.write (a + i) (c i) else wrote d a c i
theorem wrote_stays (d : DiskV) (a : Int) (c : Nat → List UInt8) (i j : Nat) (h : i ≤ j) (he : (wrote d a c i).2 ≠ 0) : wrote d a c j = wrote d a c i := by
  induction j with
  | zero => rw [show i = 0 by omega]
  | succ j ih =>
    by_cases hj : i = j + 1
    · rw [hj]
    · rw [wrote, ih (by omega), if_neg he]
theorem wrote_next (d d' : DiskV) (a : Int) (c : Nat → List UInt8) (i : Nat) (h : wrote d a c i = (d', 0)) : wrote d a c (i + 1) = d'.write (a + i) (c i) := by
  rw [wrote, h, if_pos rfl]

/-- The same disk, but what waits and the switch. -/
def Kin (d d' : DiskV) : Prop := d'.many = d.many ∧ d'.safe = d.safe
theorem kin_acted (d : DiskV) : d.Kin d.acted := ⟨acted_many d, acted_safe d⟩

def pieces (a : Int) (c : Nat → List UInt8) (n : Nat) : List (Int × List UInt8) := (List.range n).map (fun (k : Nat) => (a + (k : Int), c k))
theorem pieces_succ (a : Int) (c : Nat → List UInt8) (n : Nat) : pieces a c (n + 1) = pieces a c n ++ [(a + n, c n)] := by
  simp [pieces, List.range_succ]

theorem acted_down (d : DiskV) (hd : d.down = false) : d.acted.down = d.falls := by
  simp only [acted]
  split
  · rename_i h; rw [h]
  · rename_i h
    rw [Bool.not_eq_true] at h
    split <;> simp [hd, h]

/-- One write that may be: it waits, or it does not and the disk is down. -/
theorem write_cases (d : DiskV) (i : Int) (b : List UInt8) (hd : d.down = false) (hi : d.has i) (hb : b.length = 512) :
    ((d.write i b).2 = 0 ∧ d.falls = false ∧ (d.write i b).1 = { d.acted with wait := d.wait ++ [(i, b)] }) ∨
    ((d.write i b).2 = 5 ∧ d.falls = true ∧ (d.write i b).1.down = true ∧ d.Kin (d.write i b).1 ∧ ((d.write i b).1.wait = d.wait ∨ (d.write i b).1.wait = d.wait ++ [(i, b)])) := by
  have e : d.write i b = (if d.carried then { d.acted with wait := d.wait ++ [(i, b)] } else d.acted, d.told) := by
    rw [write, if_neg (by rw [hd]; decide), if_neg (fun h => h ⟨hi, hb⟩)]
  rw [e]
  cases hf : d.falls with
  | false =>
    left
    have hc : d.carried = true := by
      simp only [falls] at hf
      simp only [carried, hf]; rfl
    rw [hc]
    exact ⟨by simp [told, hf], rfl, rfl⟩
  | true =>
    right
    have ha := acted_down d hd
    rw [hf] at ha
    refine ⟨by simp [told, hf], rfl, ?_⟩
    cases hc : d.carried with
    | true => exact ⟨ha, ⟨acted_many d, acted_safe d⟩, .inr rfl⟩
    | false => exact ⟨ha, kin_acted d, .inl (acted_wait d)⟩

theorem sync_cases (d : DiskV) (hd : d.down = false) :
    (d.sync.2 = 0 ∧ d.falls = false ∧ d.sync.1 = { d.acted with safe := lays d.safe d.wait, wait := [] }) ∨
    (d.sync.2 = 5 ∧ d.falls = true ∧ d.sync.1.down = true ∧ d.sync.1.many = d.many ∧ ((d.sync.1.safe = d.safe ∧ d.sync.1.wait = d.wait) ∨ (d.sync.1.safe = lays d.safe d.wait ∧ d.sync.1.wait = []))) := by
  have e : d.sync = (if d.carried then { d.acted with safe := lays d.safe d.wait, wait := [] } else d.acted, d.told) := by
    rw [sync, if_neg (by rw [hd]; decide)]
  rw [e]
  cases hf : d.falls with
  | false =>
    left
    have hc : d.carried = true := by
      simp only [falls] at hf
      simp only [carried, hf]; rfl
    rw [hc]
    exact ⟨by simp [told, hf], rfl, rfl⟩
  | true =>
    right
    have ha := acted_down d hd
    rw [hf] at ha
    refine ⟨by simp [told, hf], rfl, ?_⟩
    cases hc : d.carried with
    | true => exact ⟨ha, acted_many d, .inr ⟨rfl, rfl⟩⟩
    | false => exact ⟨ha, acted_many d, .inl ⟨acted_safe d, acted_wait d⟩⟩

/-- A row's pieces: all wait; or some do, and the disk is down. -/
theorem wrote_cases (d : DiskV) (a : Int) (c : Nat → List UInt8) (n : Nat) (hd : d.down = false) (h0 : 0 ≤ a) (hn : a + n ≤ d.many) (hb : ∀ i, i < n → (c i).length = 512) :
    ((wrote d a c n).2 = 0 ∧ (wrote d a c n).1.down = false ∧ d.Kin (wrote d a c n).1 ∧ (wrote d a c n).1.wait = d.wait ++ pieces a c n ∧ (d.armed = false → (wrote d a c n).1.armed = false)) ∨
    ((wrote d a c n).2 = 5 ∧ (wrote d a c n).1.down = true ∧ d.Kin (wrote d a c n).1 ∧ d.armed = true ∧ ∃ m, m ≤ n ∧ (wrote d a c n).1.wait = d.wait ++ pieces a c m) := by
  induction n with
  | zero => exact .inl ⟨rfl, hd, ⟨rfl, rfl⟩, by simp [wrote, pieces], fun h => h⟩
  | succ n ih =>
    rcases ih (by omega) (fun i hi => hb i (by omega)) with ⟨h1, h2, h3, h4, h5⟩ | ⟨h1, h2, h3, h4, m, h5, h6⟩
    · rw [wrote, if_pos h1]
      have hhas : (wrote d a c n).1.has (a + n) := ⟨by omega, by rw [h3.1]; omega⟩
      rcases write_cases (wrote d a c n).1 (a + n) (c n) h2 hhas (hb n (by omega)) with ⟨k1, k2, k3⟩ | ⟨k1, k2, k3, k4, k5⟩
      · refine .inl ⟨k1, ?_, ?_, ?_, fun ha => ?_⟩
        · rw [k3]; exact (acted_down _ h2).trans k2
        · rw [k3]; exact ⟨(acted_many _).trans h3.1, (acted_safe _).trans h3.2⟩
        · rw [k3]; show _ ++ _ = _; rw [h4, pieces_succ, List.append_assoc]
        · rw [k3]; show (wrote d a c n).1.acted.armed = false
          have := h5 ha
          simp only [acted]; split <;> (try split) <;> simp_all
      · refine .inr ⟨k1, k3, ⟨k4.1.trans h3.1, k4.2.trans h3.2⟩, ?_, ?_⟩
        · cases ha : d.armed with
          | true => rfl
          | false => rw [falls, h5 ha] at k2; cases k2
        · rcases k5 with k5 | k5
          · exact ⟨n, by omega, by rw [k5, h4]⟩
          · exact ⟨n + 1, Nat.le_refl _, by rw [k5, h4, pieces_succ, List.append_assoc]⟩
    · rw [wrote, if_neg (by rw [h1]; decide)]
      exact .inr ⟨h1, h2, h3, h4, m, by omega, h6⟩
end DiskV

/-! ### What writes of some pieces leave -/
/-- Where a part of a row's pieces is laid: at each of the row's sectors that piece or what was there; elsewhere what was there. -/
theorem lays_part (f : Rows512) (a : Int) (c : Nat → List UInt8) (n : Nat) (q : List (Int × List UInt8)) (hq : ∀ p ∈ q, p ∈ DiskV.pieces a c n) :
    (∀ j, (j < a ∨ a + n ≤ j) → lays f q j = f j) ∧ ∀ i : Nat, i < n → lays f q (a + i) = f (a + i) ∨ lays f q (a + i) = c i := by
  have main : ∀ (q : List (Int × List UInt8)) (f' : Rows512), (∀ p ∈ q, p ∈ DiskV.pieces a c n) → (∀ j, (j < a ∨ a + n ≤ j) → f' j = f j) → (∀ i : Nat, i < n → f' (a + i) = f (a + i) ∨ f' (a + i) = c i) →
      (∀ j, (j < a ∨ a + n ≤ j) → lays f' q j = f j) ∧ ∀ i : Nat, i < n → lays f' q (a + i) = f (a + i) ∨ lays f' q (a + i) = c i := by
    intro q
    induction q with
    | nil => intro f' _ h1 h2; exact ⟨h1, h2⟩
    | cons p q ih =>
      intro f' hq h1 h2
      have hp := hq p (List.mem_cons_self ..)
      simp only [DiskV.pieces, List.mem_map, List.mem_range] at hp
      obtain ⟨k, hk, rfl⟩ := hp
      refine ih (lay1 f' (a + (k : Int), c k)) (fun x hx => hq x (List.mem_cons_of_mem _ hx)) (fun j hj => ?_) (fun i hi => ?_)
      · rw [lay1_other _ _ _ _ (by omega)]; exact h1 j hj
      · by_cases hik : i = k
        · subst hik; right; exact lay1_same _ _ _
        · rw [lay1_other _ _ _ _ (by omega)]; exact h2 i hi
  exact main q f hq (fun _ _ => rfl) (fun _ _ => .inl rfl)

theorem lays_pieces (f : Rows512) (a : Int) (c : Nat → List UInt8) (n : Nat) : ∀ i : Nat, i < n → lays f (DiskV.pieces a c n) (a + i) = c i := by
  induction n with
  | zero => intro i hi; omega
  | succ n ih =>
    intro i hi
    rw [DiskV.pieces_succ, lays_snoc]
    by_cases hin : i = n
    · subst hin; exact lay1_same _ _ _
    · rw [lay1_other _ _ _ _ (by omega)]; exact ih i (by omega)

namespace DiskV
def pages (d : DiskV) : Int := d.many / 8
end DiskV
theorem chunk_page (b : List UInt8) (hb : b.length = 4096) (f : Rows512) (a : Int) (h : ∀ i : Nat, i < 8 → f (a + i) = chunk b i) : got f a 8 = b := by
  rw [got_chunks b f a 8 h, List.take_of_length_le (by omega)]

end Go.Proofs.YteljopjaolegaaaDoor

/-
  REGIONS THAT DRAW THEIR ORDER and end with a store into a cell that they load: the loads are taken first under a condition S on the world, which need not hold behind the last operation.
-/
namespace Go.Proofs.YteljopjaolegaaaDoor
open Go
set_option maxRecDepth 100000
set_option linter.unusedVariables false

section
variable {P : Program} {ops : Array Oper} {Q : Exit → Act → World → Prop} {md : Region.Mode} {S : World → Prop}

/-- Whatever order is picked from here on; behind every operation but number L the world meets S. -/
def AnyE (P : Program) (md : Region.Mode) (ops : Array Oper) (Q : Exit → Act → World → Prop) (S : World → Prop) (L : Nat) : Nat → Array Bool → Act → World → Prop
  | 0, listed, a, w => Region.ready md ops listed = [] ∧ Q .normal a w
  | fuel + 1, listed, a, w =>
    (Region.ready md ops listed = [] → Q .normal a w) ∧
    ∀ i ∈ Region.ready md ops listed, wpOp P ops Q i (fun a' w' => (i ≠ L → S w') ∧ AnyE P md ops Q S L fuel (listed.setIfInBounds i true) a' w') a w

theorem any_of_E {L : Nat} : ∀ (fuel : Nat) (listed : Array Bool) (a : Act) (w : World), AnyE P md ops Q S L fuel listed a w → wpAny P md ops Q fuel listed a w
  | 0, _, _, _, h => h
  | fuel + 1, _, _, _, h => ⟨h.1, fun i hi => wpOp_mono (fun a' w' h' => any_of_E fuel _ a' w' h'.2) (h.2 i hi)⟩

/-- Of each operation that has come up all that it waits for has come up. -/
def closedB (md : Region.Mode) (ops : Array Oper) (listed : Array Bool) : Bool :=
  (List.range ops.size).all fun j => !(listed.getD j false) || (match ops[j]? with | some oj => oj.after.all (fun e => !(Region.binds md e) || listed.getD e.on false) | none => true)
def Closed (md : Region.Mode) (ops : Array Oper) (listed : Array Bool) : Prop :=
  ∀ j oj, ops[j]? = some oj → listed.getD j false = true → ∀ e ∈ oj.after, Region.binds md e = true → listed.getD e.on false = true
theorem closedB_spec {listed : Array Bool} (h : closedB md ops listed = true) : Closed md ops listed := by
  intro j oj hj hl e he hb
  have h1 := List.all_eq_true.1 h j (List.mem_range.2 (Array.getElem?_eq_some_iff.1 hj).1)
  simp only [hj, hl, Bool.not_true, Bool.false_or] at h1
  have h2 := Array.all_eq_true'.1 h1 e he
  rw [hb] at h2
  simpa using h2
theorem Closed.set {listed : Array Bool} {i : Nat} (hc : Closed md ops listed) (hi : i ∈ Region.ready md ops listed) : Closed md ops (listed.setIfInBounds i true) := by
  obtain ⟨_, oi, hoi, hall⟩ := mem_ready.1 hi
  intro j oj hj hl e he hb
  by_cases hij : i = j
  · subst hij
    have : oj = oi := Option.some.inj (hj.symm.trans hoi)
    subst this
    exact getD_set_true (hall e he hb)
  · rw [getD_set_ne false hij] at hl
    exact getD_set_true (hc j oj hj hl e he hb)
/-- Operation k waits for the first of these, that one for the next, and so on. -/
def pathB (md : Region.Mode) (ops : Array Oper) : Nat → List Nat → Bool
  | _, [] => true
  | k, p :: ps => Region.waitsFor md ops k p && pathB md ops p ps
theorem path_waits {listed : Array Bool} (hc : Closed md ops listed) {i : Nat} (hi : listed.getD i true = false) :
    ∀ (ps : List Nat) (k : Nat), pathB md ops k ps = true → ps.getLast? = some i → listed.getD k false = false ∧ k ∉ Region.ready md ops listed := by
  intro ps
  induction ps with
  | nil => intro k _ h; cases h
  | cons p ps ih =>
    intro k hp hl
    simp only [pathB, Bool.and_eq_true] at hp
    have hpu : listed.getD p false = false := by
      cases ps with
      | nil =>
        simp only [List.getLast?_singleton, Option.some.injEq] at hl
        subst hl
        exact getD_both hi
      | cons q qs =>
        rw [List.getLast?_cons_cons] at hl
        exact (ih p hp.2 hl).1
    obtain ⟨ok, hok, e, he, hb, hon⟩ := Region.waitsFor_spec hp.1
    constructor
    · cases hkl : listed.getD k false with
      | false => rfl
      | true =>
        have := hc k ok hok hkl e he hb
        rw [hon, hpu] at this
        cases this
    · intro hr
      obtain ⟨_, ok', hok', hall⟩ := mem_ready.1 hr
      have : ok' = ok := Option.some.inj (hok'.symm.trans hok)
      subst this
      have := hall e he hb
      rw [hon, hpu] at this
      cases this

theorem anyE_first {i L : Nat} {ps : List Nat} {oi : Oper} {v : Value} (hi : ops[i]? = some oi) (hsel : ∀ (j : Nat) (o : Oper) cs b, ops[j]? = some o → o.op ≠ .select cs b)
    (hQ : ∀ c a w, Q (.panic c) (a.put oi.dst v) w → Q (.panic c) a w) (hp : pathB md ops L ps = true) (hl : ps.getLast? = some i) :
    ∀ (fuel : Nat) (listed : Array Bool) (a : Act) (w : World), Closed md ops listed →
      (∀ j oj, ops[j]? = some oj → j ≠ i → listed.getD j true = false → (∀ e ∈ oj.after, Region.binds md e = true → e.on ≠ i) → oi.apart ops oj = true) →
      i ∈ Region.ready md ops listed → YieldsIf P ops S oi v a → S w →
      AnyE P md ops Q S L fuel (listed.setIfInBounds i true) (a.put oi.dst v) w → AnyE P md ops Q S L (fuel + 1) listed a w := by
  intro fuel
  induction fuel with
  | zero =>
    intro listed a w _ _ hr hy hS H
    refine ⟨fun h => (by rw [h] at hr; cases hr), fun j hj => ?_⟩
    by_cases hji : j = i
    · subst hji; exact hy.wpOp hi hS ⟨fun _ => hS, H⟩
    · have := ready_mono hj hji
      rw [H.1] at this
      cases this
  | succ fuel ih =>
    intro listed a w hc hfree hr hy hS H
    refine ⟨fun h => (by rw [h] at hr; cases hr), fun j hj => ?_⟩
    by_cases hji : j = i
    · subst hji; exact hy.wpOp hi hS ⟨fun _ => hS, H⟩
    · have h1 := H.2 j (ready_mono hj hji)
      obtain ⟨hjun, oj, hoj, hall⟩ := mem_ready.1 hj
      have hjL : j ≠ L := fun e => by subst e; exact (path_waits hc (mem_ready.1 hr).1 ps _ hp hl).2 hj
      have hnot : ∀ e ∈ oj.after, Region.binds md e = true → e.on ≠ i := fun e he hb heq => by
        have h1 := hall e he hb
        have h0 := getD_both (mem_ready.1 hr).1
        rw [heq, h0] at h1
        cases h1
      have h2 := wpOp_putIf hoj (hfree j oj hoj hji hjun hnot) (fun cs b => hsel i oi cs b hi) (fun cs b => hsel j oj cs b hoj) hQ hy h1
      have hfree' : ∀ k ok, ops[k]? = some ok → k ≠ i → (listed.setIfInBounds j true).getD k true = false →
          (∀ e ∈ ok.after, Region.binds md e = true → e.on ≠ i) → oi.apart ops ok = true := fun k ok hk hki hun hno => by
        refine hfree k ok hk hki ?_ hno
        by_cases hjk : j = k
        · subst hjk; exact hjun
        · rw [getD_set_ne true hjk] at hun; exact hun
      refine wpOp_mono (fun a' w' h3 => ⟨fun _ => h3.2.1 hjL, ih (listed.setIfInBounds j true) a' w' (hc.set hj) hfree' (ready_mono hr (Ne.symm hji)) h3.1 (h3.2.1 hjL) ?_⟩) h2
      rw [Array.setIfInBounds_comm _ _ hji]
      exact h3.2.2

/-- Number i is taken first. ps: the way from the last operation back to it. -/
theorem anyE_take {i L : Nat} (ps : List Nat) {oi : Oper} {v : Value} {fuel : Nat} {listed : Array Bool} {a : Act} {w : World} (hi : ops[i]? = some oi)
    (hs : Region.noSelect ops = true) (hf : Region.free md ops listed i = true) (hr : (Region.ready md ops listed).contains i = true) (hcl : closedB md ops listed = true) (hp : pathB md ops L ps = true) (hl : ps.getLast? = some i)
    (hQ : ∀ c a w, Q (.panic c) (a.put oi.dst v) w → Q (.panic c) a w) (hS : S w) (hy : YieldsIf P ops S oi v a)
    (h : AnyE P md ops Q S L fuel (listed.setIfInBounds i true) (a.put oi.dst v) w) : AnyE P md ops Q S L (fuel + 1) listed a w :=
  anyE_first hi (Region.noSelect_spec hs) hQ hp hl fuel listed a w (closedB_spec hcl) (Region.free_spec hi hf) (by simpa using hr) hy hS h

/-- One alone may come up, and it is not the last. -/
theorem anyE_one {i L : Nat} {o : Oper} {fuel : Nat} {listed : Array Bool} {a : Act} {w : World} (hr : Region.ready md ops listed = [i]) (hne : i ≠ L) (ho : ops[i]? = some o)
    (h : ∀ K' : Act → World → Prop, Shut (∀ a w, S w → (S w → AnyE P md ops Q S L fuel (listed.setIfInBounds i true) a w) → K' a w) → if Region.wanted o (yielded ops a.tmps) = true then Oper.wp P o a w K' Q else K' (a.put o.dst undef) w) :
    AnyE P md ops Q S L (fuel + 1) listed a w :=
  ⟨fun h0 => (by rw [hr] at h0; cases h0), fun j hj => by
    rw [hr] at hj
    obtain rfl := List.mem_singleton.1 hj
    exact wpOp_step ho (fun K' hK => h K' (fun a w hS hW => hK a w ⟨fun _ => hS, hW hS⟩))⟩
/-- The last one. -/
theorem anyE_last {L : Nat} {o : Oper} {fuel : Nat} {listed : Array Bool} {a : Act} {w : World} (hr : Region.ready md ops listed = [L]) (hd : Region.ready md ops (listed.setIfInBounds L true) = []) (ho : ops[L]? = some o)
    (h : ∀ K' : Act → World → Prop, Shut (∀ a w, Q .normal a w → K' a w) → if Region.wanted o (yielded ops a.tmps) = true then Oper.wp P o a w K' Q else K' (a.put o.dst undef) w) :
    AnyE P md ops Q S L (fuel + 1) listed a w :=
  ⟨fun h0 => (by rw [hr] at h0; cases h0), fun j hj => by
    rw [hr] at hj
    obtain rfl := List.mem_singleton.1 hj
    refine wpOp_step ho (fun K' hK => h K' (fun a w hQ => hK a w ⟨fun hne => absurd rfl hne, ?_⟩))
    cases fuel with
    | zero => exact ⟨hd, hQ⟩
    | succ f => exact ⟨fun _ => hQ, by rw [hd]; simp⟩⟩

theorem regionE {id : Nat} {a : Act} {w : World} (L : Nat) (S : World → Prop) (hm : P.follows .mixedOrders = true) (hS : S w.drew)
    (h : S w.drew → AnyE P .any ops Q S L ops.size (Array.replicate ops.size false) a w.drew) : (Code.region id ops true).wp P Q a w :=
  wp_region_any hm (any_of_E _ _ _ _ (h hS))
end

end Go.Proofs.YteljopjaolegaaaDoor
