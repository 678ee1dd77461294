/-
  A DISK IN MEMORY (package block's): its box, its maps, the writes that wait, the rows.
-/
import Derived.Test.YteljopjaolegaaaDoorPkB
import Derived.Test.YteljopjaolegaaaDoorOwnedA
import Derived.Test.YteljopjaolegaaaDoorPkA

namespace Go.Proofs.YteljopjaolegaaaDoor
open Go.RowKit
set_option maxRecDepth 100000
set_option linter.unusedVariables false

/-- A sector's row: a block of bytes of which the first 512 are the sector's. -/
def RowAt (T : Nat → Prop) (w : World) (v : Value) (l : List UInt8) : Prop :=
  ∃ b rest c, v = .slice (some ⟨b, 0, none⟩) 512 c ∧ w.heap[b]? = some (.cells (bs l ++ rest).toArray 5 (0, 0)) ∧ l.length = 512 ∧ T b
/-- The rows of T stand. -/
def RowsStand (T : Nat → Prop) (w w' : World) : Prop := ∀ b cs, T b → w.heap[b]? = some (.cells cs 5 (0, 0)) → w'.heap[b]? = w.heap[b]?
theorem RowAt.keep {T T' : Nat → Prop} {w w' : World} {v : Value} {l : List UInt8} (h : RowAt T w v l) (hT : ∀ k, T k → T' k) (hk : RowsStand T w w') : RowAt T' w' v l := by
  obtain ⟨b, rest, c, h1, h2, h3, h4⟩ := h
  exact ⟨b, rest, c, h1, (hk b _ h4 h2).trans h2, h3, hT b h4⟩
theorem RowAt.bytes {T : Nat → Prop} {w : World} {v : Value} {l : List UInt8} (h : RowAt T w v l) : ∃ A c, v = .slice A 512 c ∧ Bs w A 512 l := by
  obtain ⟨b, rest, c, h1, h2, h3, h4⟩ := h
  exact ⟨_, c, h1, bs_row h2 h3 (by omega)⟩
def SecAt (T : Nat → Prop) (w : World) : Option Value → List UInt8 → Prop
  | none, l => l = zeros512
  | some v, l => RowAt T w v l
theorem SecAt.keep {T T' : Nat → Prop} {w w' : World} {o : Option Value} {l : List UInt8} (h : SecAt T w o l) (hT : ∀ k, T k → T' k) (hk : RowsStand T w w') : SecAt T' w' o l := by
  cases o with
  | none => exact h
  | some v => exact RowAt.keep h hT hk
/-- What the map's lookup gives: the bytes of a slice that are laid over zeros. -/
theorem SecAt.look {T : Nat → Prop} {w : World} {o : Option Value} {l : List UInt8} (h : SecAt T w o l) (hl : l.length = 512) : ∃ A n c x, o.getD (.slice none 0 0) = .slice A n c ∧ Bs w A n x ∧ n ≤ 512 ∧ splice (List.replicate 512 0) 0 x = l := by
  cases o with
  | none =>
    have h : l = zeros512 := h
    exact ⟨none, 0, 0, [], rfl, Bs.nil _ _, by omega, by rw [h]; rfl⟩
  | some v =>
    obtain ⟨A, c, rfl, hb⟩ := RowAt.bytes (show RowAt T w v l from h)
    refine ⟨A, 512, c, l, rfl, hb, Nat.le_refl _, ?_⟩
    rw [splice, List.take_zero, List.nil_append, Nat.zero_add, hl, List.drop_of_length_le (by simp), List.append_nil]

/-- The cells of the writes that wait: where, which row. -/
def wcells (ws : List (Int × Value × List UInt8)) : List Value := ws.flatMap (fun e => [.int .i64 e.1, e.2.1])
theorem wcells_length (ws : List (Int × Value × List UInt8)) : (wcells ws).length = ws.length * 2 := by
  induction ws with
  | nil => rfl
  | cons e ws ih => simp only [wcells, List.flatMap_cons, List.length_append, List.length_cons, List.length_nil] at ih ⊢; omega
theorem wcells_snoc (ws : List (Int × Value × List UInt8)) (e : Int × Value × List UInt8) : wcells (ws ++ [e]) = wcells ws ++ [.int .i64 e.1, e.2.1] := by simp [wcells]
theorem wcells_at (ws : List (Int × Value × List UInt8)) (k : Nat) (e : Int × Value × List UInt8) (h : ws[k]? = some e) : (wcells ws)[2 * k]? = some (.int .i64 e.1) ∧ (wcells ws)[2 * k + 1]? = some e.2.1 := by
  induction ws generalizing k with
  | nil => simp at h
  | cons a ws ih =>
    cases k with
    | zero => rw [List.getElem?_cons_zero] at h; cases h; exact ⟨rfl, rfl⟩
    | succ k =>
      rw [List.getElem?_cons_succ] at h
      obtain ⟨h1, h2⟩ := ih k h
      have e0 : wcells (a :: ws) = .int .i64 a.1 :: a.2.1 :: wcells ws := rfl
      rw [e0, show 2 * (k + 1) = 2 * k + 1 + 1 by omega, show 2 * k + 1 + 1 + 1 = (2 * k + 1) + 1 + 1 by omega]
      exact ⟨by rw [List.getElem?_cons_succ, List.getElem?_cons_succ]; exact h1, by rw [List.getElem?_cons_succ, List.getElem?_cons_succ]; exact h2⟩

structure DiskIn (T : Nat → Prop) (w : World) (g : Nat) (d : DiskV) (bs bn : Nat) (W : Value) (fs fn : Int → Option Value) (ws : List (Int × Value × List UInt8)) : Prop where
  inside : ∀ k, T k → k < w.heap.size
  fit : d.Fit
  acts : (d.acts : Int) ≤ 9223372036854775807
  many : (d.many : Int) ≤ 9223372036854775807
  tg : T g
  ts : T bs
  tn : T bn
  tw : ∀ k, W.ownBlock = some k → T k
  ne : bs ≠ bn
  box : BoxAt w g d.many bs bn W d.armed d.acts d.done d.down
  safe : SecMap w bs fs
  now : SecMap w bn fn
  row : w.ownsRow 0 99 2 W ws.length (wcells ws)
  wait : d.wait = ws.map (fun e => (e.1, e.2.2))
  rows : ∀ e ∈ ws, RowAt T w e.2.1 e.2.2
  safes : ∀ i, SecAt T w (fs i) (d.safe i)
  nows : ∀ i, SecAt T w (fn i) (d.now i)

def DiskIs (T : Nat → Prop) (w : World) (g : Nat) (d : DiskV) : Prop := ∃ bs bn W fs fn ws, DiskIn T w g d bs bn W fs fn ws

section
variable {T : Nat → Prop} {w w' : World} {g : Nat} {d : DiskV} {bs bn : Nat} {W : Value} {fs fn : Int → Option Value} {ws : List (Int × Value × List UInt8)}

theorem DiskIn.gs (h : DiskIn T w g d bs bn W fs fn ws) : g ≠ bs ∧ g ≠ bn := by
  obtain ⟨es, cl, h1, _⟩ := h.safe
  obtain ⟨en, cn, h2, _⟩ := h.now
  have hb := h.box
  unfold BoxAt at hb
  exact ⟨fun e => (by rw [e, h1] at hb; cases hb), fun e => (by rw [e, h2] at hb; cases hb)⟩
theorem own_obj {e : TypeId} {s n : Nat} {xs : List Value} {v : Value} {k : Nat} (h : w.ownsRow 0 e s v n xs) (hk : v.ownBlock = some k) : ∃ cur, w.heap[k]? = some (.cells cur e (0, 0)) := by
  rcases h.2 with ⟨rfl, _⟩ | ⟨g', cap, cur, rfl, hb, hg', _⟩
  · cases hk
  · cases hk; exact ⟨cur, hg'⟩
theorem DiskIn.wne (h : DiskIn T w g d bs bn W fs fn ws) : W.ownBlock ≠ some g ∧ W.ownBlock ≠ some bs ∧ W.ownBlock ≠ some bn := by
  obtain ⟨es, cl, h1, _⟩ := h.safe
  obtain ⟨en, cn, h2, _⟩ := h.now
  have hb := h.box
  unfold BoxAt at hb
  refine ⟨fun e => ?_, fun e => ?_, fun e => ?_⟩ <;> obtain ⟨cur, hc⟩ := own_obj h.row e
  · rw [hb] at hc; cases hc
  · rw [h1] at hc; cases hc
  · rw [h2] at hc; cases hc
/-- Blocks of bytes are none of the four that turn. -/
theorem DiskIn.stand (h : DiskIn T w g d bs bn W fs fn ws) (hk : ∀ k, k < w.heap.size → k ≠ g → k ≠ bs → k ≠ bn → W.ownBlock ≠ some k → w'.heap[k]? = w.heap[k]?) : RowsStand T w w' := by
  intro b cs _ hc
  obtain ⟨es, cl, h1, _⟩ := h.safe
  obtain ⟨en, cn, h2, _⟩ := h.now
  have hb := h.box
  unfold BoxAt at hb
  refine hk b (lt_block hc) (fun e => ?_) (fun e => ?_) (fun e => ?_) (fun e => ?_)
  · rw [e, hb] at hc; cases hc
  · rw [e, h1] at hc; cases hc
  · rw [e, h2] at hc; cases hc
  · obtain ⟨cur, hc2⟩ := own_obj h.row e
    rw [hc2] at hc; cases hc
theorem DiskIn.frame (h : DiskIn T w g d bs bn W fs fn ws) (hk : ∀ k, T k → w'.heap[k]? = w.heap[k]?) (hs : w.heap.size ≤ w'.heap.size) : DiskIn T w' g d bs bn W fs fn ws :=
  have st : RowsStand T w w' := fun b cs hb _ => hk b hb
  ⟨fun k hT => Nat.lt_of_lt_of_le (h.inside k hT) hs, h.fit, h.acts, h.many, h.tg, h.ts, h.tn, h.tw, h.ne, (hk g h.tg).trans h.box, h.safe.block (hk bs h.ts), h.now.block (hk bn h.tn),
    own_keep h.row (fun k e => hk k (h.tw k e)), h.wait, fun e he => (h.rows e he).keep (fun _ h => h) st, fun i => (h.safes i).keep (fun _ h => h) st, fun i => (h.nows i).keep (fun _ h => h) st⟩
theorem DiskIs.frame (h : DiskIs T w g d) (hk : ∀ k, T k → w'.heap[k]? = w.heap[k]?) (hs : w.heap.size ≤ w'.heap.size) : DiskIs T w' g d := by
  obtain ⟨bs, bn, W, fs, fn, ws, h⟩ := h
  exact ⟨bs, bn, W, fs, fn, ws, h.frame hk hs⟩
theorem DiskIs.inside (h : DiskIs T w g d) : ∀ k, T k → k < w.heap.size := by obtain ⟨bs, bn, W, fs, fn, ws, h⟩ := h; exact h.inside
theorem DiskIs.fit (h : DiskIs T w g d) : d.Fit := by obtain ⟨bs, bn, W, fs, fn, ws, h⟩ := h; exact h.fit
theorem DiskIs.many (h : DiskIs T w g d) : (d.many : Int) ≤ 9223372036854775807 := by obtain ⟨bs, bn, W, fs, fn, ws, h⟩ := h; exact h.many
theorem DiskIs.ext {S : Nat → Prop} (h : DiskIs T w g d) (hx : Ext S w w') (hd : ∀ k, T k → ¬ S k) : DiskIs T w' g d :=
  h.frame (fun k hT => hx.block k (h.inside k hT) (hd k hT)) hx.size
theorem DiskIs.below (h : DiskIs T w g d) (hb : Below w.heap.size w w') : DiskIs T w' g d := h.frame (fun k hT => hb.block k (h.inside k hT)) hb.size
end

/-- What an act on a disk leaves: another disk, in its own blocks and in new ones. -/
def DiskGo (T : Nat → Prop) (w : World) (g : Nat) (w' : World) (d' : DiskV) : Prop := ∃ T', DiskIs T' w' g d' ∧ (∀ k, T' k → T k ∨ w.heap.size ≤ k) ∧ Ext T w w'
theorem DiskGo.refl {T : Nat → Prop} {w : World} {g : Nat} {d : DiskV} (h : DiskIs T w g d) : DiskGo T w g w d := ⟨T, h, fun _ h => .inl h, Ext.refl _ _⟩
theorem DiskGo.of_below {T : Nat → Prop} {w w' : World} {g : Nat} {d : DiskV} (h : DiskIs T w g d) (hb : Below w.heap.size w w') : DiskGo T w g w' d := ⟨T, h.below hb, fun _ h => .inl h, Ext.of_below hb⟩
theorem DiskGo.trans {T T1 : Nat → Prop} {a b c : World} {g : Nat} {d2 : DiskV} (h1 : ∀ k, T1 k → T k ∨ a.heap.size ≤ k) (h2 : Ext T a b) (h : DiskGo T1 b g c d2) : DiskGo T a g c d2 := by
  obtain ⟨T2, k1, k2, k3⟩ := h
  refine ⟨T2, k1, fun k hk => ?_, h2.step k3 (fun i hi hT => by rcases h1 i hT with h | h; exact h; omega)⟩
  rcases k2 k hk with h | h
  · exact h1 k h
  · exact .inr (Nat.le_trans h2.size h)
/-- Ahead of the act some new blocks were made. -/
theorem DiskGo.ahead {T : Nat → Prop} {a b c : World} {g : Nat} {d2 : DiskV} (hb : Below a.heap.size a b) (h : DiskGo T b g c d2) : DiskGo T a g c d2 :=
  DiskGo.trans (fun _ h => .inl h) (Ext.of_below hb) h
/-- Behind it some new blocks were made. -/
theorem DiskGo.behind {T : Nat → Prop} {a b c : World} {g : Nat} {d2 : DiskV} (h : DiskGo T a g b d2) (hb : Below b.heap.size b c) : DiskGo T a g c d2 := by
  obtain ⟨T2, k1, k2, k3⟩ := h
  exact ⟨T2, k1.below hb, k2, k3.step (T := fun _ => False) (Ext.of_below hb) (fun _ _ h => h.elim)⟩

end Go.Proofs.YteljopjaolegaaaDoor

/-
  CONTRACTS: package block: the closure of Write.
-/
namespace Go.Proofs.YteljopjaolegaaaDoor
open Go.RowKit
set_option maxRecDepth 100000
set_option linter.unusedVariables false
set_option linter.unusedSimpArgs false

/-- One element of a struct's type, at a step of a region that draws its order. -/
theorem step_append_elem {P : Program} {w : World} {ops : Array Oper} {o : Oper} {a : Act} {K : Act → World → Prop} {Q : Exit → Act → World → Prop} {E : Prop} (hgd : o.guard = none) (s x : Operand) (t : TypeId)
    (ho : o.op = .call { callee := .builtin .append, args := #[s, x], argTypes := #[t, t] })
    (base : Nat) (e : TypeId) (z : Value) (size bytes : Nat) (ht : P.underlying t = some (.slice e)) (hinfo : (P.info? e).map (fun i => (i.zero, i.size, i.bytes)) = some (some z, size, bytes)) (hzs : z.cells.size = size) (hsz : 0 < size)
    (v : Value) (n : Nat) (xs : List Value) (us : Array Value) (hus : us.size = size) (hs : a.eval s = v) (hown : w.ownsRow base e size v n xs)
    (hx : a.eval x = .slice (some ⟨w.heap.size, 0, none⟩) 1 1) (h1 : ∀ u ∈ us.toList, u.oneCell' = true)
    (h63 : n + 1 ≤ maxLen) (hbytes : (n + 1) * bytes ≤ 140737488355328) (hbase : base ≤ w.heap.size)
    (h : ∀ v' w', w'.ownsRow base e size v' (n + 1) (xs ++ us.toList) → w.grownBy w' v.ownBlock → Lies w w' v v' → K (a.put o.dst v') w') :
    if Region.wanted o (yielded ops a.tmps) = true then Oper.wp P o a (w.alloc (.cells us e)) K Q else E := by
  have hw : Region.wanted o (yielded ops a.tmps) = true := by simp [Region.wanted, hgd]
  rw [if_pos hw]
  obtain ⟨i, hi, hz, hsize, hby⟩ := info_parts hinfo
  obtain ⟨v', w', hr, h2, h3, h4⟩ := run_append_lie (P := P) (w.alloc (.cells us e)) base t o.type e i z size bytes ht hi hz hsize hby hzs hsz v n xs (hown.alloc _) ⟨w.heap.size, 0, none⟩ 1 1 us.toList (by simp [hus])
    (fun j y hj => World.news_of_block (heap_alloc_new w (.cells us e)) j y hj) h1 h63 hbytes (by simp; omega)
  unfold Oper.wp execOp
  simp only [ho, resolve, invoke, builtin, Sem.run_bind, Sem.run_pure, Result.andThen_ok, List.map_toArray, List.map_cons, List.map_nil, hs, hx, hr]
  refine h v' w' h2 (grownBy_trans (World.grownBy_alloc w _ none) h3) ?_
  rcases h4 with h5 | ⟨g, h5, h6, h7⟩
  · exact .inl h5
  · exact .inr ⟨g, h5, by simp at h6; omega, grownBy_trans (World.grownBy_alloc w _ none) h7⟩

theorem info_write : (Tryd.prog.info? 99).map (fun i => (i.zero, i.size, i.bytes)) = some (some (.agg #[.int .i64 0, .slice none 0 0]), 2, 32) := by kernel_rfl

theorem own_slice1 {w : World} {base : Nat} {e : TypeId} {s : Nat} {v : Value} {n : Nat} {xs : List Value} (h : w.ownsRow base e s v (n + 1) xs) : ∃ g c, v = .slice (some ⟨g, 0, none⟩) (n + 1) c := by
  rcases h.2 with ⟨_, h0⟩ | ⟨g', cap, cur, rfl, _⟩
  · omega
  · exact ⟨g', cap, rfl⟩

/-- What the closure leaves: the sector as it is read, one write more that waits. -/
def Waits (g : Nat) (many : Int) (bs' bn : Nat) (W : Value) (armed : Bool) (acts : Int) (done down : Bool) (f : Int → Option Value) (m : Nat) (xs : List Value) (v : Int) (X : Value) (w w' : World) : Prop :=
  ∃ W', BoxAt w' g many bs' bn W' armed acts done down ∧ SecMap w' bn (fun i => if i = v then some X else f i) ∧ w'.ownsRow 0 99 2 W' (m + 1) (xs ++ [.int .i64 v, X]) ∧
    Ext (fun k => k = g ∨ k = bn ∨ W.ownBlock = some k) w w' ∧ (W'.ownBlock = W.ownBlock ∨ ∃ k, W'.ownBlock = some k ∧ w.heap.size ≤ k)

set_option maxHeartbeats 2000000 in
theorem wclosure_any (px pd pa p g : Nat) (xb n : Nat) (xc : Nat) (v : Int) (many : Int) (bs' bn : Nat) (W : Value) (armed : Bool) (acts : Int) (done down : Bool) (f : Int → Option Value) (m : Nat) (xs : List Value) (w : World)
    (hx : w.heap[px]? = some (.cells #[.slice (some ⟨xb, 0, none⟩) n xc] 31 (0, 0))) (hd : w.heap[pd]? = some (.cells #[.pointer (some ⟨p, 0, none⟩)] 54 (0, 0))) (ha : w.heap[pa]? = some (.cells #[.int .i64 v] 3 (0, 0)))
    (hp : w.heap[p]? = some (.cells #[.pointer (some ⟨g, 0, none⟩)] 95 (0, 0))) (h : BoxAt w g many bs' bn W armed acts done down) (hm : SecMap w bn f) (ho : w.ownsRow 0 99 2 W m xs) (hlen : (m + 1) * 32 ≤ 140737488355328) :
    Calls Tryd.prog 83 #[.pointer (some ⟨px, 0, none⟩), .pointer (some ⟨pd, 0, none⟩), .pointer (some ⟨pa, 0, none⟩)] w fun r w' => r = .returned (.tuple #[]) ∧ Waits g many bs' bn W armed acts done down f m xs v (.slice (some ⟨xb, 0, none⟩) n xc) w w' := by
  have hx0 : w.cell? ⟨px, 0, none⟩ = some (.slice (some ⟨xb, 0, none⟩) n xc) := cell_of_row _ _ 0 _ _ _ hx
  have hd0 : w.cell? ⟨pd, 0, none⟩ = some (.pointer (some ⟨p, 0, none⟩)) := cell_of_row _ _ 0 _ _ _ hd
  have ha0 : w.cell? ⟨pa, 0, none⟩ = some (.int .i64 v) := cell_of_row _ _ 0 _ _ _ ha
  have hp0 : w.cell? ⟨p, 0, none⟩ = some (.pointer (some ⟨g, 0, none⟩)) := cell_of_row _ _ 0 _ _ _ hp
  obtain ⟨c0, c1, c2, c3, c4, c5, c6, c7⟩ := h.cells
  obtain ⟨es, cl, hbn, hrest⟩ := hm
  have hm : SecMap w bn f := ⟨es, cl, hbn, hrest⟩
  have hxn : px ≠ bn := fun e => by rw [e, hbn] at hx; cases hx
  have hdn : pd ≠ bn := fun e => by rw [e, hbn] at hd; cases hd
  have han : pa ≠ bn := fun e => by rw [e, hbn] at ha; cases ha
  have hpn : p ≠ bn := fun e => by rw [e, hbn] at hp; cases hp
  have hgn : g ≠ bn := fun e => by unfold BoxAt at h; rw [e, hbn] at h; cases h
  have hxg : px ≠ g := fun e => by unfold BoxAt at h; rw [e, h] at hx; cases hx
  have hdg : pd ≠ g := fun e => by unfold BoxAt at h; rw [e, h] at hd; cases hd
  have hag : pa ≠ g := fun e => by unfold BoxAt at h; rw [e, h] at ha; cases ha
  have hpg : p ≠ g := fun e => by unfold BoxAt at h; rw [e, h] at hp; cases hp
  have wn : ∀ k, W.ownBlock = some k → k ≠ px ∧ k ≠ pd ∧ k ≠ pa ∧ k ≠ p ∧ k ≠ g ∧ k ≠ bn := fun k hk => by
    obtain ⟨cur, hc⟩ := own_obj ho hk
    unfold BoxAt at h
    refine ⟨fun e => ?_, fun e => ?_, fun e => ?_, fun e => ?_, fun e => ?_, fun e => ?_⟩ <;> rw [e] at hc
    · rw [hx] at hc; cases hc
    · rw [hd] at hc; cases hc
    · rw [ha] at hc; cases hc
    · rw [hp] at hc; cases hc
    · rw [h] at hc; cases hc
    · rw [hbn] at hc; cases hc
  obtain ⟨o, hrun, hs⟩ := hm.updateAt v (.slice (some ⟨xb, 0, none⟩) n xc)
  obtain ⟨wb, hwb⟩ : ∃ wb, wb = putObj w bn o := ⟨_, rfl⟩
  have d0 : wb.cell? ⟨px, 0, none⟩ = some (.slice (some ⟨xb, 0, none⟩) n xc) := by rw [hwb, putObj_cell _ _ _ _ hxn]; exact hx0
  have d1 : wb.cell? ⟨pd, 0, none⟩ = some (.pointer (some ⟨p, 0, none⟩)) := by rw [hwb, putObj_cell _ _ _ _ hdn]; exact hd0
  have d2 : wb.cell? ⟨pa, 0, none⟩ = some (.int .i64 v) := by rw [hwb, putObj_cell _ _ _ _ han]; exact ha0
  have d3 : wb.cell? ⟨p, 0, none⟩ = some (.pointer (some ⟨g, 0, none⟩)) := by rw [hwb, putObj_cell _ _ _ _ hpn]; exact hp0
  have hbx : BoxAt wb g many bs' bn W armed acts done down := by rw [hwb]; exact (putObj_other w bn o g hgn).trans h
  have d4 : wb.cell? ⟨g, 3, none⟩ = some W := hbx.cells.2.2.2.1
  have d5 : wb.cell? ⟨g, 2, none⟩ = some (.map (some bn)) := hbx.cells.2.2.1
  have hmu : (Instr.mapUpdate 65 (.map (some bn)) (.int .i64 v) (.slice (some ⟨xb, 0, none⟩) n xc)).run Tryd.prog w.drew = .ok () wb.drew := by rw [hwb]; exact hrun w.drew rfl
  have hgr : w.grownBy wb (some bn) := by rw [hwb]; exact putObj_grown w bn o
  rw [← hwb] at hs
  have Hown : Hid (wb.ownsRow 0 99 2 W m xs) := Lib.hid (own_keep (w := w) ho (fun k hk => by rw [hwb]; exact putObj_other w bn o k (wn k hk).2.2.2.2.2))
  have Hown1 : Hid (wb.drew.ownsRow 0 99 2 W m xs) := Lib.hid Hown.out
  have Hown2 : Hid (wb.drew.drew.ownsRow 0 99 2 W m xs) := Lib.hid Hown.out
  have Hs := Lib.hid hs
  have Hbx := Lib.hid hbx
  have Hgr := Lib.hid hgr
  have Hinfo := Lib.hid info_write
  have Hl1 : Hid (m + 1 ≤ maxLen) := Lib.hid (by simp only [maxLen]; omega)
  have Hl2 := Lib.hid hlen
  have H0 : Hid (∀ k, 0 ≤ k) := Lib.hid Nat.zero_le
  have KW : Hid (∀ w9 wy : World, wy.grownBy w9 W.ownBlock → wy.heap = wb.heap → (w9.cell? ⟨px, 0, none⟩ = some (.slice (some ⟨xb, 0, none⟩) n xc) ∧ w9.cell? ⟨pd, 0, none⟩ = some (.pointer (some ⟨p, 0, none⟩)) ∧ w9.cell? ⟨pa, 0, none⟩ = some (.int .i64 v) ∧ w9.cell? ⟨p, 0, none⟩ = some (.pointer (some ⟨g, 0, none⟩)) ∧ w9.cell? ⟨g, 3, none⟩ = some W) ∧ w9.frozen? ⟨g, 3, none⟩ = false ∧ BoxAt w9 g many bs' bn W armed acts done down ∧ SecMap w9 bn (fun i => if i = v then some (.slice (some ⟨xb, 0, none⟩) n xc) else f i)) := Lib.hid (fun w9 wy hg hy => by
    have keep : ∀ k, k < wb.heap.size → (∀ j, W.ownBlock = some j → j ≠ k) → w9.heap[k]? = wb.heap[k]? := fun k hk hne => (hg.block k (by rw [hy]; exact hk) (fun e => hne k e.symm rfl)).trans (by rw [hy])
    have cl : ∀ (a : Addr) u, wb.cell? a = some u → (∀ j, W.ownBlock = some j → j ≠ a.block) → w9.cell? a = some u := fun a u hc hne => (World.cell?_of_block (keep a.block (World.block_lt_of_cell? wb a hc) hne)).trans hc
    have hb9 : BoxAt w9 g many bs' bn W armed acts done down := (keep g (lt_block hbx) (fun j hj => (wn j hj).2.2.2.2.1)).trans hbx
    exact ⟨⟨cl _ _ d0 (fun j hj => (wn j hj).1), cl _ _ d1 (fun j hj => (wn j hj).2.1), cl _ _ d2 (fun j hj => (wn j hj).2.2.1), cl _ _ d3 (fun j hj => (wn j hj).2.2.2.1), hb9.cells.2.2.2.1⟩, hb9.free 3, hb9, hs.block (keep bn hs.lt (fun j hj => (wn j hj).2.2.2.2.2))⟩)
  have d6 : (wb.alloc (.cells #[.int .i64 v, .slice (some ⟨xb, 0, none⟩) n xc] 99)).cell? ⟨g, 3, none⟩ = some W := cell_below ((Below.refl _ _).alloc (Nat.le_refl _) _) d4
  have dz0 : (wb.alloc (.cells #[.int .i64 v, .slice (some ⟨xb, 0, none⟩) n xc] 99)).cell? ⟨px, 0, none⟩ = some (.slice (some ⟨xb, 0, none⟩) n xc) := cell_below ((Below.refl _ _).alloc (Nat.le_refl _) _) d0
  have dz1 : (wb.alloc (.cells #[.int .i64 v, .slice (some ⟨xb, 0, none⟩) n xc] 99)).cell? ⟨pd, 0, none⟩ = some (.pointer (some ⟨p, 0, none⟩)) := cell_below ((Below.refl _ _).alloc (Nat.le_refl _) _) d1
  have dz2 : (wb.alloc (.cells #[.int .i64 v, .slice (some ⟨xb, 0, none⟩) n xc] 99)).cell? ⟨pa, 0, none⟩ = some (.int .i64 v) := cell_below ((Below.refl _ _).alloc (Nat.le_refl _) _) d2
  have dz3 : (wb.alloc (.cells #[.int .i64 v, .slice (some ⟨xb, 0, none⟩) n xc] 99)).cell? ⟨p, 0, none⟩ = some (.pointer (some ⟨g, 0, none⟩)) := cell_below ((Below.refl _ _).alloc (Nat.le_refl _) _) d3
  have Hgn := Lib.hid hgn
  have HW : Hid (∀ k, W.ownBlock = some k → k ≠ g) := Lib.hid (fun k hk => (wn k hk).2.2.2.2.1)
  clear hwb hrun hs hbx hgr wn hxg hdg hag hpg hxn hdn han hpn hgn hlen ho hm hrest hbn hx hd ha hp h c0 c1 c4 c5 c6 c7 c3
  go_enter Tryd.func83, Tryd.ntmps83
  go_wp2_with fail
  go_region_held3 (fun w' => w'.cell? ⟨px, 0, none⟩ = some (.slice (some ⟨xb, 0, none⟩) n xc) ∧ w'.cell? ⟨pd, 0, none⟩ = some (.pointer (some ⟨p, 0, none⟩)) ∧ w'.cell? ⟨pa, 0, none⟩ = some (.int .i64 v) ∧ w'.cell? ⟨p, 0, none⟩ = some (.pointer (some ⟨g, 0, none⟩)) ∧ w'.cell? ⟨g, 2, none⟩ = some (.map (some bn))) (first | exact ⟨hx0, hd0, ha0, hp0, c2⟩ | exact ⟨d0, d1, d2, d3, d5⟩) (fail)
  clear d5 hx0 hd0 ha0 hp0 c2
  go_wp2_with fail
  refine regionE 18 (fun w' => w'.cell? ⟨px, 0, none⟩ = some (.slice (some ⟨xb, 0, none⟩) n xc) ∧ w'.cell? ⟨pd, 0, none⟩ = some (.pointer (some ⟨p, 0, none⟩)) ∧ w'.cell? ⟨pa, 0, none⟩ = some (.int .i64 v) ∧ w'.cell? ⟨p, 0, none⟩ = some (.pointer (some ⟨g, 0, none⟩)) ∧ w'.cell? ⟨g, 3, none⟩ = some W) (by kernel_rfl) (⟨d0, d1, d2, d3, d4⟩) (fun hHeld => ?_)
  refine anyE_take [0] (i := 0) (v := ?_) rfl (by kernel_rfl) (by kernel_rfl) (by kernel_rfl) (by kernel_rfl) (by kernel_rfl) rfl (fun _ _ _ h => h) (by assumption) (Or.inl ⟨by rfl, ?_⟩) ?_
  rotate_left
  · (intro w hSw; (try dsimp only at hSw); go_simp; try (with_reducible rfl))
  try simp only [Act.put, List.setIfInBounds_toArray, List.set_cons_zero, List.set_cons_succ]
  refine anyE_take [1] (i := 1) (v := ?_) rfl (by kernel_rfl) (by kernel_rfl) (by kernel_rfl) (by kernel_rfl) (by kernel_rfl) rfl (fun _ _ _ h => h) (by assumption) (Or.inl ⟨by rfl, ?_⟩) ?_
  rotate_left
  · (intro w hSw; (try dsimp only at hSw); go_simp; try (with_reducible rfl))
  try simp only [Act.put, List.setIfInBounds_toArray, List.set_cons_zero, List.set_cons_succ]
  refine anyE_take [2] (i := 2) (v := ?_) rfl (by kernel_rfl) (by kernel_rfl) (by kernel_rfl) (by kernel_rfl) (by kernel_rfl) rfl (fun _ _ _ h => h) (by assumption) (Or.inl ⟨by rfl, ?_⟩) ?_
  rotate_left
  · (intro w hSw; (try dsimp only at hSw); go_simp; try (with_reducible rfl))
  try simp only [Act.put, List.setIfInBounds_toArray, List.set_cons_zero, List.set_cons_succ]
  refine anyE_take [3] (i := 3) (v := ?_) rfl (by kernel_rfl) (by kernel_rfl) (by kernel_rfl) (by kernel_rfl) (by kernel_rfl) rfl (fun _ _ _ h => h) (by assumption) (Or.inl ⟨by rfl, ?_⟩) ?_
  rotate_left
  · (intro w hSw; (try dsimp only at hSw); go_simp; try (with_reducible rfl))
  try simp only [Act.put, List.setIfInBounds_toArray, List.set_cons_zero, List.set_cons_succ]
  refine anyE_take [4] (i := 4) (v := ?_) rfl (by kernel_rfl) (by kernel_rfl) (by kernel_rfl) (by kernel_rfl) (by kernel_rfl) rfl (fun _ _ _ h => h) (by assumption) (Or.inl ⟨by rfl, ?_⟩) ?_
  rotate_left
  · (intro w hSw; (try dsimp only at hSw); go_simp; try (with_reducible rfl))
  try simp only [Act.put, List.setIfInBounds_toArray, List.set_cons_zero, List.set_cons_succ]
  refine anyE_take [5] (i := 5) (v := ?_) rfl (by kernel_rfl) (by kernel_rfl) (by kernel_rfl) (by kernel_rfl) (by kernel_rfl) rfl (fun _ _ _ h => h) (by assumption) (Or.inl ⟨by rfl, ?_⟩) ?_
  rotate_left
  · (intro w hSw; (try dsimp only at hSw); go_simp; try (with_reducible rfl))
  try simp only [Act.put, List.setIfInBounds_toArray, List.set_cons_zero, List.set_cons_succ]
  refine anyE_take [6] (i := 6) (v := ?_) rfl (by kernel_rfl) (by kernel_rfl) (by kernel_rfl) (by kernel_rfl) (by kernel_rfl) rfl (fun _ _ _ h => h) (by assumption) (Or.inl ⟨by rfl, ?_⟩) ?_
  rotate_left
  · (intro w hSw; (try dsimp only at hSw); go_simp; try (with_reducible rfl))
  try simp only [Act.put, List.setIfInBounds_toArray, List.set_cons_zero, List.set_cons_succ]
  refine anyE_take [7] (i := 7) (v := ?_) rfl (by kernel_rfl) (by kernel_rfl) (by kernel_rfl) (by kernel_rfl) (by kernel_rfl) rfl (fun _ _ _ h => h) (by assumption) (Or.inl ⟨by rfl, ?_⟩) ?_
  rotate_left
  · (intro w hSw; (try dsimp only at hSw); go_simp; try (with_reducible rfl))
  try simp only [Act.put, List.setIfInBounds_toArray, List.set_cons_zero, List.set_cons_succ]
  refine anyE_take [8] (i := 8) (v := ?_) rfl (by kernel_rfl) (by kernel_rfl) (by kernel_rfl) (by kernel_rfl) (by kernel_rfl) rfl (fun _ _ _ h => h) (by assumption) (Or.inl ⟨by rfl, ?_⟩) ?_
  rotate_left
  · (intro w hSw; (try dsimp only at hSw); go_simp; try (with_reducible rfl))
  try simp only [Act.put, List.setIfInBounds_toArray, List.set_cons_zero, List.set_cons_succ]
  refine anyE_take [9] (i := 9) (v := ?_) rfl (by kernel_rfl) (by kernel_rfl) (by kernel_rfl) (by kernel_rfl) (by kernel_rfl) rfl (fun _ _ _ h => h) (by assumption) (Or.inl ⟨by rfl, ?_⟩) ?_
  rotate_left
  · (intro w hSw; (try dsimp only at hSw); go_simp; try (with_reducible rfl))
  try simp only [Act.put, List.setIfInBounds_toArray, List.set_cons_zero, List.set_cons_succ]
  refine anyE_take [10] (i := 10) (v := ?_) rfl (by kernel_rfl) (by kernel_rfl) (by kernel_rfl) (by kernel_rfl) (by kernel_rfl) rfl (fun _ _ _ h => h) (by assumption) (Or.inl ⟨by rfl, ?_⟩) ?_
  rotate_left
  · (intro w hSw; (try dsimp only at hSw); go_simp; try (with_reducible rfl))
  try simp only [Act.put, List.setIfInBounds_toArray, List.set_cons_zero, List.set_cons_succ]
  refine anyE_take [11] (i := 11) (v := ?_) rfl (by kernel_rfl) (by kernel_rfl) (by kernel_rfl) (by kernel_rfl) (by kernel_rfl) rfl (fun _ _ _ h => h) (by assumption) (Or.inl ⟨by rfl, ?_⟩) ?_
  rotate_left
  · (intro w hSw; (try dsimp only at hSw); go_simp; try (with_reducible rfl))
  try simp only [Act.put, List.setIfInBounds_toArray, List.set_cons_zero, List.set_cons_succ]
  refine anyE_take [12] (i := 12) (v := ?_) rfl (by kernel_rfl) (by kernel_rfl) (by kernel_rfl) (by kernel_rfl) (by kernel_rfl) rfl (fun _ _ _ h => h) (by assumption) (Or.inl ⟨by rfl, ?_⟩) ?_
  rotate_left
  · (intro w hSw; (try dsimp only at hSw); go_simp; try (with_reducible rfl))
  try simp only [Act.put, List.setIfInBounds_toArray, List.set_cons_zero, List.set_cons_succ]
  refine anyE_take [13] (i := 13) (v := ?_) rfl (by kernel_rfl) (by kernel_rfl) (by kernel_rfl) (by kernel_rfl) (by kernel_rfl) rfl (fun _ _ _ h => h) (by assumption) (Or.inl ⟨by rfl, ?_⟩) ?_
  rotate_left
  · (intro w hSw; (try dsimp only at hSw); go_simp; try (with_reducible rfl))
  try simp only [Act.put, List.setIfInBounds_toArray, List.set_cons_zero, List.set_cons_succ]
  refine anyE_one (i := 14) (by kernel_rfl) (by decide) rfl (fun K hK => ?_)
  go_simp
  refine hK.out _ _ ⟨dz0, dz1, dz2, dz3, d6⟩ (fun hHeld => ?_)
  clear hK K
  try simp only [Act.put, List.setIfInBounds_toArray, List.set_cons_zero, List.set_cons_succ]
  refine anyE_one (i := 15) (by kernel_rfl) (by decide) rfl (fun K hK => ?_)
  refine step_append_elem rfl (.tmp 22) (.tmp 26) 66 rfl 0 99 (.agg #[.int .i64 0, .slice none 0 0]) 2 32 Tryd.underlying66 Hinfo.out rfl (by decide) W m xs #[.int .i64 v, .slice (some ⟨xb, 0, none⟩) n xc] rfl rfl Hown2.out rfl (fun u hu => by simp at hu; rcases hu with rfl | rfl <;> rfl) Hl1.out Hl2.out (H0.out _) ?_
  intro v' w9 hown9 hg9 hl9
  obtain ⟨k1, k2, k3, k4⟩ := KW.out _ _ hg9 rfl
  obtain ⟨gw, cw, rfl⟩ := own_slice1 hown9
  have Hf : Hid (w9.ownsRow 0 99 2 (.slice (some ⟨gw, 0, none⟩) (m + 1) cw) (m + 1) (xs ++ [.int .i64 v, .slice (some ⟨xb, 0, none⟩) n xc])) := Lib.hid hown9
  have Hg := Lib.hid hg9
  have Hl := Lib.hid hl9
  have Hk3 := Lib.hid k3
  have Hk4 := Lib.hid k4
  have e4 := k1.2.2.2.2
  refine hK.out _ _ k1 (fun hHeld => ?_)
  clear hK K
  try simp only [Act.put, List.setIfInBounds_toArray, List.set_cons_zero, List.set_cons_succ]
  refine anyE_take [17, 16] (i := 16) (v := ?_) rfl (by kernel_rfl) (by kernel_rfl) (by kernel_rfl) (by kernel_rfl) (by kernel_rfl) rfl (fun _ _ _ h => h) (by assumption) (Or.inl ⟨by rfl, ?_⟩) ?_
  rotate_left
  · (intro w hSw; (try dsimp only at hSw); go_simp; try (with_reducible rfl))
  try simp only [Act.put, List.setIfInBounds_toArray, List.set_cons_zero, List.set_cons_succ]
  refine anyE_take [17] (i := 17) (v := ?_) rfl (by kernel_rfl) (by kernel_rfl) (by kernel_rfl) (by kernel_rfl) (by kernel_rfl) rfl (fun _ _ _ h => h) (by assumption) (Or.inl ⟨by rfl, ?_⟩) ?_
  rotate_left
  · (intro w hSw; (try dsimp only at hSw); go_simp; try (with_reducible rfl))
  try simp only [Act.put, List.setIfInBounds_toArray, List.set_cons_zero, List.set_cons_succ]
  refine anyE_last (by kernel_rfl) (by kernel_rfl) rfl (fun K hK => ?_)
  go_simp
  refine hK.out _ _ ?_
  clear hK K
  all_goals (
    go_end0
    have hg := (grown_set w9 g 3 (.slice (some ⟨gw, 0, none⟩) (m + 1) cw))
    have hgx : ∀ k, k < w.heap.size → ¬ (k = g ∨ k = bn ∨ W.ownBlock = some k) → (w9.setCell ⟨g, 3, none⟩ (.slice (some ⟨gw, 0, none⟩) (m + 1) cw)).heap[k]? = w.heap[k]? := fun k hk hne => by
      rw [heap_setCell_other _ _ _ _ (fun e => hne (.inl e)), Hg.out.block k (Nat.lt_of_lt_of_le hk Hgr.out.size) (fun e => hne (.inr (.inr e.symm)))]
      exact Hgr.out.block k hk (fun e => hne (.inr (.inl (by cases e; rfl))))
    refine ⟨rfl, _, Hk3.out.set3 _, Hk4.out.block (heap_setCell_other _ _ _ _ (fun e => Hgn.out e.symm)), own_keep Hf.out (fun k hk => heap_setCell_other _ _ _ _ ?_), ⟨Hg.out.os.trans Hgr.out.os, Hg.out.tape.trans Hgr.out.tape, Hg.out.output.trans Hgr.out.output, ?_, hgx⟩, ?_⟩
    · rintro rfl
      rcases Hl.out with hl | ⟨k', hk', hs', _⟩
      · exact HW.out _ (hl.symm.trans hk) rfl
      · rw [hk] at hk'
        cases hk'
        have := lt_block Hbx.out
        have e1 : wb.drew.drew.heap.size = wb.heap.size := rfl
        have e2 : wb.drew.heap.size = wb.heap.size := rfl
        omega
    · have e1 : wb.drew.drew.heap.size = wb.heap.size := rfl
      have e2 : wb.drew.heap.size = wb.heap.size := rfl
      have := Hg.out.size
      have := Hgr.out.size
      simp
      omega
    · rcases Hl.out with hl | ⟨k', hk', hs', _⟩
      · exact .inl hl
      · refine .inr ⟨k', hk', ?_⟩
        have e1 : wb.drew.drew.heap.size = wb.heap.size := rfl
        have e2 : wb.drew.heap.size = wb.heap.size := rfl
        have := Hgr.out.size
        omega)

end Go.Proofs.YteljopjaolegaaaDoor

/-
  A DISK IN MEMORY, behind an act.
-/
namespace Go.Proofs.YteljopjaolegaaaDoor
open Go.RowKit
set_option maxRecDepth 100000
set_option linter.unusedVariables false

/-- An error as a value. -/
def errV (e : Int) : Value := if e = 0 then .nilIface else .iface 37 (.int .i64 e)
theorem errV_zero : errV 0 = .nilIface := rfl
theorem errV_ne (e : Int) (h : ¬ e = 0) : errV e = .iface 37 (.int .i64 e) := if_neg h

/-- A row that stood, or a new one. -/
def RowIn (T : Nat → Prop) (w w2 : World) (v : Value) (l : List UInt8) : Prop :=
  RowAt T w v l ∨ ∃ b rest c, v = .slice (some ⟨b, 0, none⟩) 512 c ∧ w2.heap[b]? = some (.cells (bs l ++ rest).toArray 5 (0, 0)) ∧ l.length = 512 ∧ w.heap.size ≤ b
def SecIn (T : Nat → Prop) (w w2 : World) : Option Value → List UInt8 → Prop
  | none, l => l = zeros512
  | some v, l => RowIn T w w2 v l
theorem SecIn.of {T : Nat → Prop} {w w2 : World} {o : Option Value} {l : List UInt8} (h : SecAt T w o l) : SecIn T w w2 o l := by
  cases o with
  | none => exact h
  | some v => exact .inl h
theorem RowIn.at {T : Nat → Prop} {w w2 : World} {v : Value} {l : List UInt8} (h : RowIn T w w2 v l) (hk : RowsStand T w w2) : RowAt (fun k => T k ∨ (w.heap.size ≤ k ∧ k < w2.heap.size)) w2 v l := by
  rcases h with h | ⟨b, rest, c, h1, h2, h3, h4⟩
  · exact h.keep (fun _ h => .inl h) hk
  · exact ⟨b, rest, c, h1, h2, h3, .inr ⟨h4, lt_block h2⟩⟩
theorem SecIn.at {T : Nat → Prop} {w w2 : World} {o : Option Value} {l : List UInt8} (h : SecIn T w w2 o l) (hk : RowsStand T w w2) : SecAt (fun k => T k ∨ (w.heap.size ≤ k ∧ k < w2.heap.size)) w2 o l := by
  cases o with
  | none => exact h
  | some v => exact RowIn.at h hk

section
variable {T : Nat → Prop} {w w2 : World} {g : Nat} {d d' : DiskV} {bs bn bn' : Nat} {W W' : Value} {fs fn fs' fn' : Int → Option Value} {ws ws' : List (Int × Value × List UInt8)}

theorem DiskIn.after (h : DiskIn T w g d bs bn W fs fn ws) (hx : Ext (fun k => k = g ∨ k = bs ∨ k = bn ∨ W.ownBlock = some k) w w2) (fit : d'.Fit) (acts : (d'.acts : Int) ≤ 9223372036854775807) (many : d'.many = d.many)
    (tn : T bn' ∨ w.heap.size ≤ bn') (ne : bs ≠ bn') (tw : ∀ k, W'.ownBlock = some k → T k ∨ w.heap.size ≤ k)
    (box : BoxAt w2 g d'.many bs bn' W' d'.armed d'.acts d'.done d'.down) (safe : SecMap w2 bs fs') (now : SecMap w2 bn' fn') (row : w2.ownsRow 0 99 2 W' ws'.length (wcells ws'))
    (wait : d'.wait = ws'.map (fun e => (e.1, e.2.2))) (rows : ∀ e ∈ ws', RowIn T w w2 e.2.1 e.2.2) (safes : ∀ i, SecIn T w w2 (fs' i) (d'.safe i)) (nows : ∀ i, SecIn T w w2 (fn' i) (d'.now i)) : DiskGo T w g w2 d' := by
  have st : RowsStand T w w2 := h.stand (fun k hk h1 h2 h3 h4 => hx.block k hk (fun e => by rcases e with e | e | e | e; exact h1 e; exact h2 e; exact h3 e; exact h4 e))
  have sz := hx.size
  refine ⟨fun k => T k ∨ (w.heap.size ≤ k ∧ k < w2.heap.size), ⟨bs, bn', W', fs', fn', ws', ?_⟩, fun k hk => hk.imp_right (fun h => h.1), hx.mono (fun k hk e => ?_)⟩
  · refine ⟨fun k hk => ?_, fit, acts, by rw [many]; exact h.many, .inl h.tg, .inl h.ts, tn.imp_right (fun e => ⟨e, now.lt⟩), fun k hk => (tw k hk).imp_right (fun e => ⟨e, ?_⟩), ne, box, safe, now, row, wait, fun e he => (rows e he).at st, fun i => (safes i).at st, fun i => (nows i).at st⟩
    · rcases hk with hk | hk
      · exact Nat.lt_of_lt_of_le (h.inside k hk) sz
      · exact hk.2
    · obtain ⟨cur, hc⟩ := own_obj row hk
      exact lt_block hc
  · rcases e with e | e | e | e
    · rw [e]; exact h.tg
    · rw [e]; exact h.ts
    · rw [e]; exact h.tn
    · exact h.tw k e
end

/-- A pointer to a disk's box. -/
def PtrAt (w : World) (p g : Nat) (t : TypeId) : Prop := w.heap[p]? = some (.cells #[.pointer (some ⟨g, 0, none⟩)] t (0, 0))

theorem falls_iff (d : DiskV) : d.falls = true ↔ d.armed = true ∧ d.acts = 0 := by simp [DiskV.falls]
theorem write_falls (d : DiskV) (v : Int) (l : List UInt8) (hd : d.down = false) (hv : d.has v) (hl : l.length = 512) (ha : d.armed = true) (hz : d.acts = 0) (hdn : d.done = false) : d.write v l = ({ d with down := true }, 5) := by
  rw [DiskV.write, if_neg (by rw [hd]; decide), if_neg (not_not_intro ⟨hv, hl⟩)]
  simp [DiskV.carried, DiskV.told, DiskV.acted, DiskV.falls, ha, hz, hdn]
theorem write_last (d : DiskV) (v : Int) (l : List UInt8) (hd : d.down = false) (hv : d.has v) (hl : l.length = 512) (ha : d.armed = true) (hz : d.acts = 0) (hdn : d.done = true) : d.write v l = ({ d with down := true, wait := d.wait ++ [(v, l)] }, 5) := by
  rw [DiskV.write, if_neg (by rw [hd]; decide), if_neg (not_not_intro ⟨hv, hl⟩)]
  simp [DiskV.carried, DiskV.told, DiskV.acted, DiskV.falls, ha, hz, hdn]
theorem write_counts (d : DiskV) (v : Int) (l : List UInt8) (hd : d.down = false) (hv : d.has v) (hl : l.length = 512) (ha : d.armed = true) (hz : ¬ d.acts = 0) : d.write v l = ({ d with acts := d.acts - 1, wait := d.wait ++ [(v, l)] }, 0) := by
  rw [DiskV.write, if_neg (by rw [hd]; decide), if_neg (not_not_intro ⟨hv, hl⟩)]
  simp [DiskV.carried, DiskV.told, DiskV.acted, DiskV.falls, ha, hz]
theorem write_free (d : DiskV) (v : Int) (l : List UInt8) (hd : d.down = false) (hv : d.has v) (hl : l.length = 512) (ha : d.armed = false) : d.write v l = ({ d with wait := d.wait ++ [(v, l)] }, 0) := by
  rw [DiskV.write, if_neg (by rw [hd]; decide), if_neg (not_not_intro ⟨hv, hl⟩)]
  simp [DiskV.carried, DiskV.told, DiskV.acted, DiskV.falls, ha]

theorem Fit.more (d d' : DiskV) (v : Int) (l : List UInt8) (h : d.Fit) (hv : d.has v) (hl : l.length = 512) (h1 : d'.safe = d.safe) (h2 : d'.wait = d.wait ++ [(v, l)]) (h3 : d'.many = d.many) : d'.Fit := by
  refine ⟨by rw [h1]; exact h.1, fun p hp => ?_⟩
  have e : d'.has p.1 ↔ d.has p.1 := by simp only [DiskV.has, h3]
  rw [h2] at hp
  rcases List.mem_append.mp hp with hp | hp
  · exact ⟨(h.2 p hp).1, e.2 (h.2 p hp).2⟩
  · obtain rfl := List.mem_singleton.mp hp
    exact ⟨hl, e.2 hv⟩
theorem Fit.same (d d' : DiskV) (h : d.Fit) (h1 : d'.safe = d.safe) (h2 : d'.wait = d.wait) (h3 : d'.many = d.many) : d'.Fit := by
  refine ⟨by rw [h1]; exact h.1, fun p hp => ?_⟩
  rw [h2] at hp
  have := h.2 p hp
  simp only [DiskV.has, h3] at this ⊢
  exact this
theorem now_more (d d' : DiskV) (v : Int) (l : List UInt8) (h1 : d'.safe = d.safe) (h2 : d'.wait = d.wait ++ [(v, l)]) : d'.now = lay1 d.now (v, l) := by
  rw [DiskV.now, h1, h2, lays_snoc]; rfl
theorem now_same (d d' : DiskV) (h1 : d'.safe = d.safe) (h2 : d'.wait = d.wait) : d'.now = d.now := by rw [DiskV.now, h1, h2]; rfl

/-- What a write that is carried out leaves. -/
theorem DiskIn.wrote {T : Nat → Prop} {w wy w1 w2 : World} {g : Nat} {d d' : DiskV} {bs' bn : Nat} {W : Value} {fs fn : Int → Option Value} {ws : List (Int × Value × List UInt8)} (h : DiskIn T w g d bs' bn W fs fn ws)
    {v : Int} {l : List UInt8} {xb xc : Nat} {rest : List Value} {many : Int} {armed : Bool} {acts : Int} {done down : Bool}
    (hy : Ext (fun k => k = g) w wy) (hrow : wy.heap[xb]? = some (.cells (bs l ++ rest).toArray 5 (0, 0))) (hxb : w.heap.size ≤ xb)
    (hw : Waits g many bs' bn W armed acts done down fn ws.length (wcells ws) v (.slice (some ⟨xb, 0, none⟩) 512 xc) wy w1) (h2 : w1.grownBy w2 (some g))
    (box : ∀ W', BoxAt w1 g many bs' bn W' armed acts done down → BoxAt w2 g d'.many bs' bn W' d'.armed d'.acts d'.done d'.down)
    (hv : d.has v) (hl : l.length = 512) (e1 : d'.safe = d.safe) (e2 : d'.wait = d.wait ++ [(v, l)]) (e3 : d'.many = d.many) (e4 : (d'.acts : Int) ≤ 9223372036854775807) : DiskGo T w g w2 d' := by
  obtain ⟨W', k1, k2, k3, k4, k5⟩ := hw
  have hgs := h.gs
  have hwn := h.wne
  have hgl : g < w.heap.size := h.inside g h.tg
  have hxl : xb < wy.heap.size := lt_block hrow
  have hwg : ∀ k, W'.ownBlock = some k → k ≠ g := by
    intro k hk e
    subst e
    rcases k5 with k5 | ⟨k', k5, k6⟩
    · exact hwn.1 (by rw [← k5]; exact hk)
    · rw [hk] at k5; cases k5; have := hy.size; omega
  have hx : Ext (fun k => k = g ∨ k = bs' ∨ k = bn ∨ W.ownBlock = some k) w w2 :=
    ((hy.mono (T := fun k => k = g ∨ k = bs' ∨ k = bn ∨ W.ownBlock = some k) (fun k _ e => .inl e)).trans (k4.mono (fun k _ e => by rcases e with e | e | e; exact .inl e; exact .inr (.inr (.inl e)); exact .inr (.inr (.inr e))))).trans (Ext.of_grown h2 (fun k e => by cases e; exact .inl rfl))
  have hnow : d'.now = lay1 d.now (v, l) := now_more d d' v l e1 e2
  have hrow1 : w1.heap[xb]? = some (.cells (bs l ++ rest).toArray 5 (0, 0)) := by
    rw [k4.block xb hxl ?_]; exact hrow
    rintro (e | e | e)
    · omega
    · have := h.inside bn h.tn; omega
    · have := h.inside xb (h.tw xb e); omega
  have hrow2 : w2.heap[xb]? = some (.cells (bs l ++ rest).toArray 5 (0, 0)) := by
    rw [h2.block xb (lt_block hrow1) (fun e => by cases e; omega)]; exact hrow1
  have hnew : RowIn T w w2 (.slice (some ⟨xb, 0, none⟩) 512 xc) l := .inr ⟨xb, rest, xc, rfl, hrow2, hl, hxb⟩
  have hbs : w2.heap[bs']? = w.heap[bs']? := by
    have hb := h.inside bs' h.ts
    have hb2 : bs' < wy.heap.size := Nat.lt_of_lt_of_le hb hy.size
    have hb3 : bs' < w1.heap.size := Nat.lt_of_lt_of_le hb2 k4.size
    rw [h2.block bs' hb3 (fun e => by cases e; exact hgs.1 rfl), k4.block bs' hb2 (fun e => by
      rcases e with e | e | e
      · exact hgs.1 e.symm
      · exact h.ne e
      · exact hwn.2.1 e), hy.block bs' hb (fun e => hgs.1 e.symm)]
  refine h.after hx (Fit.more d d' v l h.fit hv hl e1 e2 e3) e4 e3 (.inl h.tn) h.ne (W' := W') (fun k hk => ?_) (box W' k1) (h.safe.block hbs) (k2.block (h2.block bn k2.lt (fun e => by cases e; exact hgs.2 rfl)))
    (ws' := ws ++ [(v, .slice (some ⟨xb, 0, none⟩) 512 xc, l)]) ?_ ?_ (fun e he => ?_) (fun i => by rw [e1]; exact SecIn.of (h.safes i)) (fun i => ?_)
  · rcases k5 with k5 | ⟨k', k5, k6⟩
    · exact .inl (h.tw k (by rw [← k5]; exact hk))
    · rw [hk] at k5; cases k5; have := hy.size; exact .inr (by omega)
  · rw [wcells_snoc, List.length_append]
    exact own_keep k3 (fun k hk => h2.block k (by obtain ⟨cur, hc⟩ := own_obj k3 hk; exact lt_block hc) (fun e => by cases e; exact hwg _ hk rfl))
  · rw [e2, h.wait, List.map_append]; rfl
  · rcases List.mem_append.mp he with he | he
    · exact .inl (h.rows e he)
    · obtain rfl := List.mem_singleton.mp he
      exact hnew
  · rw [hnow]
    by_cases hi : i = v
    · subst hi
      rw [lay1_same]
      simp only [if_pos]
      exact hnew
    · rw [lay1_other _ _ _ _ hi]
      simp only [if_neg hi]
      exact SecIn.of (h.nows i)

/-- What a disk that goes down, nothing else done, leaves. -/
theorem DiskIn.boxed {T : Nat → Prop} {w w2 : World} {g : Nat} {d d' : DiskV} {bs' bn : Nat} {W : Value} {fs fn : Int → Option Value} {ws : List (Int × Value × List UInt8)} (h : DiskIn T w g d bs' bn W fs fn ws)
    (hx : Ext (fun k => k = g) w w2) (box : BoxAt w2 g d'.many bs' bn W d'.armed d'.acts d'.done d'.down) (e1 : d'.safe = d.safe) (e2 : d'.wait = d.wait) (e3 : d'.many = d.many) (e4 : (d'.acts : Int) ≤ 9223372036854775807) : DiskGo T w g w2 d' := by
  have hgs := h.gs
  have hwn := h.wne
  refine h.after (hx.mono (fun k _ e => .inl e)) (Fit.same d d' h.fit e1 e2 e3) e4 e3 (.inl h.tn) h.ne (fun k hk => .inl (h.tw k hk)) box (h.safe.block (hx.block _ h.safe.lt (fun e => hgs.1 e.symm))) (h.now.block (hx.block _ h.now.lt (fun e => hgs.2 e.symm)))
    (own_keep h.row (fun k hk => hx.block k (h.inside k (h.tw k hk)) (fun e => by subst e; exact hwn.1 hk))) (by rw [e2]; exact h.wait) (fun e he => .inl (h.rows e he)) (fun i => by rw [e1]; exact SecIn.of (h.safes i)) (fun i => by rw [now_same d d' e1 e2]; exact SecIn.of (h.nows i))

end Go.Proofs.YteljopjaolegaaaDoor

/-
  CONTRACTS: package block: Write.
-/
namespace Go.Proofs.YteljopjaolegaaaDoor
open Go.RowKit
set_option maxRecDepth 100000
set_option linter.unusedVariables false
set_option linter.unusedSimpArgs false

theorem bwrite_down (p g : Nat) (t : TypeId) (v : Int) (A : Option Addr) (n c : Nat) (many : Int) (bs bn : Nat) (W : Value) (armed : Bool) (acts : Int) (done : Bool) (w : World) (hp : PtrAt w p g t) (h : BoxAt w g many bs bn W armed acts done true) :
    Calls Tryd.prog 70 #[.pointer (some ⟨p, 0, none⟩), .int .i64 v, .slice A n c] w fun r w' => r = .returned (.iface 37 (.int .i64 5)) ∧ Below w.heap.size w w' := by
  have h0 : w.cell? ⟨p, 0, none⟩ = some (.pointer (some ⟨g, 0, none⟩)) := cell_of_row _ _ 0 _ _ _ hp
  obtain ⟨c0, c1, c2, c3, c4, c5, c6, c7⟩ := h.cells
  have B2 : Below w.heap.size w ((w.alloc (.cells #[.pointer (some ⟨p, 0, none⟩)] 54)).alloc (.cells #[.int .i64 v] 3)) := ((Below.refl _ _).alloc (Nat.le_refl _) _).alloc (by simp) _
  have e0 : ((w.alloc (.cells #[.pointer (some ⟨p, 0, none⟩)] 54)).alloc (.cells #[.int .i64 v] 3)).cell? ⟨p, 0, none⟩ = some (.pointer (some ⟨g, 0, none⟩)) := cell_below B2 h0
  have e1 : ((w.alloc (.cells #[.pointer (some ⟨p, 0, none⟩)] 54)).alloc (.cells #[.int .i64 v] 3)).cell? ⟨g, 0, none⟩ = some (.int .i64 many) := cell_below B2 c0
  have e7 : ((w.alloc (.cells #[.pointer (some ⟨p, 0, none⟩)] 54)).alloc (.cells #[.int .i64 v] 3)).cell? ⟨g, 7, none⟩ = some (.bool true) := cell_below B2 c7
  have HB2 := Lib.hid B2
  clear hp h B2 h0 c0 c1 c2 c3 c4 c5 c6 c7
  go_enter Tryd.func70, Tryd.ntmps70
  go_wp2
  go_ret
  exact ⟨rfl, HB2.out⟩

theorem bwrite_out (p g : Nat) (t : TypeId) (v : Int) (A : Option Addr) (n c : Nat) (many : Int) (bs bn : Nat) (W : Value) (armed : Bool) (acts : Int) (done : Bool) (w : World) (hp : PtrAt w p g t) (h : BoxAt w g many bs bn W armed acts done false)
    (hv : ¬ (0 ≤ v ∧ v < many) ∨ ¬ n = 512) :
    Calls Tryd.prog 70 #[.pointer (some ⟨p, 0, none⟩), .int .i64 v, .slice A n c] w fun r w' => r = .returned (.iface 37 (.int .i64 1)) ∧ Below w.heap.size w w' := by
  have h0 : w.cell? ⟨p, 0, none⟩ = some (.pointer (some ⟨g, 0, none⟩)) := cell_of_row _ _ 0 _ _ _ hp
  obtain ⟨c0, c1, c2, c3, c4, c5, c6, c7⟩ := h.cells
  have B2 : Below w.heap.size w ((w.alloc (.cells #[.pointer (some ⟨p, 0, none⟩)] 54)).alloc (.cells #[.int .i64 v] 3)) := ((Below.refl _ _).alloc (Nat.le_refl _) _).alloc (by simp) _
  have e0 : ((w.alloc (.cells #[.pointer (some ⟨p, 0, none⟩)] 54)).alloc (.cells #[.int .i64 v] 3)).cell? ⟨p, 0, none⟩ = some (.pointer (some ⟨g, 0, none⟩)) := cell_below B2 h0
  have e1 : ((w.alloc (.cells #[.pointer (some ⟨p, 0, none⟩)] 54)).alloc (.cells #[.int .i64 v] 3)).cell? ⟨g, 0, none⟩ = some (.int .i64 many) := cell_below B2 c0
  have e7 : ((w.alloc (.cells #[.pointer (some ⟨p, 0, none⟩)] 54)).alloc (.cells #[.int .i64 v] 3)).cell? ⟨g, 7, none⟩ = some (.bool false) := cell_below B2 c7
  have HB2 := Lib.hid B2
  clear hp h B2 h0 c0 c1 c2 c3 c4 c5 c6 c7
  obtain ⟨nz, hnz⟩ : ∃ nz : Int, nz = (n : Int) := ⟨_, rfl⟩
  have hc : v < 0 ∨ (¬ v < 0 ∧ many ≤ v) ∨ (¬ v < 0 ∧ ¬ many ≤ v ∧ ((n : Int) != 512) = true) := by
    by_cases h1 : v < 0
    · exact .inl h1
    by_cases h2 : many ≤ v
    · exact .inr (.inl ⟨h1, h2⟩)
    · refine .inr (.inr ⟨h1, h2, ?_⟩)
      have : ¬ n = 512 := by rcases hv with hv | hv; exact absurd ⟨by omega, by omega⟩ hv; exact hv
      simp; omega
  clear hv hnz
  rcases hc with hc | ⟨hc, hc2⟩ | ⟨hc, hc2, hc3⟩
  all_goals (
    go_enter Tryd.func70, Tryd.ntmps70
    go_wp2
    go_quiet (fail)
    go_wp2
    go_ret
    exact ⟨rfl, below_drewN HB2.out _⟩)

set_option maxHeartbeats 2000000 in
/-- A write that may be: what it captures lies in new blocks; then the act. -/
theorem bwrite_in (p g : Nat) (t : TypeId) (v : Int) (A : Option Addr) (c : Nat) (l : List UInt8) (many : Int) (bs' bn : Nat) (W : Value) (armed : Bool) (acts : Int) (done : Bool) (w : World) (hp : PtrAt w p g t) (h : BoxAt w g many bs' bn W armed acts done false)
    (hv : 0 ≤ v ∧ v < many) (hb : Bs w A 512 l) (R : Value → World → Prop)
    (CA : Hid (∀ (wx : World) (px pd pa xb xc : Nat) (rest : List Value), Below w.heap.size w wx → wx.heap[px]? = some (.cells #[.slice (some ⟨xb, 0, none⟩) 512 xc] 31 (0, 0)) → wx.heap[pd]? = some (.cells #[.pointer (some ⟨p, 0, none⟩)] 54 (0, 0)) → wx.heap[pa]? = some (.cells #[.int .i64 v] 3 (0, 0)) →
      wx.heap[xb]? = some (.cells (bs l ++ rest).toArray 5 (0, 0)) → w.heap.size ≤ xb → Calls Tryd.prog 71 #[.pointer (some ⟨g, 0, none⟩), .func (.func 83) #[] #[.pointer (some ⟨px, 0, none⟩), .pointer (some ⟨pd, 0, none⟩), .pointer (some ⟨pa, 0, none⟩)]] wx fun r w' => ∃ e, r = .returned e ∧ R e w')) :
    Calls Tryd.prog 70 #[.pointer (some ⟨p, 0, none⟩), .int .i64 v, .slice A 512 c] w fun r w' => ∃ e, r = .returned e ∧ R e w' := by
  have h0 : w.cell? ⟨p, 0, none⟩ = some (.pointer (some ⟨g, 0, none⟩)) := cell_of_row _ _ 0 _ _ _ hp
  obtain ⟨c0, c1, c2, c3, c4, c5, c6, c7⟩ := h.cells
  have hmf : ∀ (fn : Fn) (first cap : Array Value) (w : World), (Instr.makeFunc fn first cap).run Tryd.prog w = .ok (.func fn first cap) w := fun _ _ _ _ => rfl
  obtain ⟨wA, hwA⟩ : ∃ wA, wA = ((w.alloc (.cells #[.pointer (some ⟨p, 0, none⟩)] 54)).alloc (.cells #[.int .i64 v] 3)) := ⟨_, rfl⟩
  have B2 : Below w.heap.size w wA := by rw [hwA]; exact ((Below.refl _ _).alloc (Nat.le_refl _) _).alloc (by simp) _
  have e0 : ((w.alloc (.cells #[.pointer (some ⟨p, 0, none⟩)] 54)).alloc (.cells #[.int .i64 v] 3)).cell? ⟨p, 0, none⟩ = some (.pointer (some ⟨g, 0, none⟩)) := by rw [← hwA]; exact cell_below B2 h0
  have e1 : ((w.alloc (.cells #[.pointer (some ⟨p, 0, none⟩)] 54)).alloc (.cells #[.int .i64 v] 3)).cell? ⟨g, 0, none⟩ = some (.int .i64 many) := by rw [← hwA]; exact cell_below B2 c0
  have e7 : ((w.alloc (.cells #[.pointer (some ⟨p, 0, none⟩)] 54)).alloc (.cells #[.int .i64 v] 3)).cell? ⟨g, 7, none⟩ = some (.bool false) := by rw [← hwA]; exact cell_below B2 c7
  have hv1 : decide (v < 0) = false := by simp; omega
  have hv2 : decide (many ≤ v) = false := by simp; omega
  have hv3 : ((512 : Int) != 512) = false := by decide
  have Hinfo := Lib.hid (show (Tryd.prog.info? 5).map (fun i => (i.zero, i.size, i.bytes)) = some (some (.int .u8 0), 1, 1) from info_u8)
  have Hp : Hid (wA.heap[w.heap.size]? = some (.cells #[.pointer (some ⟨p, 0, none⟩)] 54 (0, 0))) := Lib.hid (by rw [hwA, heap_alloc_old _ _ (by simp)]; exact heap_alloc_new w _)
  have Ha : Hid (wA.heap[w.heap.size + 1]? = some (.cells #[.int .i64 v] 3 (0, 0))) := Lib.hid (by
    have := heap_alloc_new (w.alloc (.cells #[.pointer (some ⟨p, 0, none⟩)] 54)) (.cells #[.int .i64 v] 3)
    rw [show (w.alloc (.cells #[.pointer (some ⟨p, 0, none⟩)] 54)).heap.size = w.heap.size + 1 by simp] at this
    rw [hwA]; exact this)
  have Hb : Hid (Bs wA A 512 l) := Lib.hid (hb.below B2)
  have HB2 := Lib.hid B2
  have Hsz : Hid (wA.heap.size = w.heap.size + 2) := Lib.hid (by rw [hwA]; simp)
  have HwA := Lib.hid hwA
  have Hnil : Hid (∀ m, (wA.drewN m).ownsRow wA.heap.size 5 1 (.slice none 0 0) 0 []) := Lib.hid (fun m => World.ownsRow_nil _ _ _ _)
  have Hc1 : Hid (0 + 512 ≤ 140737488355328) := Lib.hid (by omega)
  have f0 : wA.cell? ⟨w.heap.size, 0, none⟩ = some (.pointer (some ⟨p, 0, none⟩)) := cell_of_row _ _ 0 _ _ _ Hp.out
  have f1 : wA.cell? ⟨p, 0, none⟩ = some (.pointer (some ⟨g, 0, none⟩)) := cell_below B2 h0
  have Hfull : Hid (∀ (m : Nat) (v1 : Value) (w1 : World), w1.ownsRow wA.heap.size 5 1 v1 (0 + 512) ([] ++ _root_.Go.Proofs.YteljopjaolegaaaDoor.bs l) → (wA.drewN m).grownBy w1 (Value.slice none 0 0).ownBlock → ∃ xb xc rest, Below wA.heap.size wA w1 ∧ v1 = .slice (some ⟨xb, 0, none⟩) 512 xc ∧ Hid (wA.heap.size ≤ xb) ∧ Hid (w1.heap[xb]? = some (.cells (_root_.Go.Proofs.YteljopjaolegaaaDoor.bs l ++ rest).toArray 5 (0, 0)))) := Lib.hid (fun m v1 w1 ho hg => by
    obtain ⟨xb, xc, rest, k1, k2, k3, _⟩ := own_row_full (n := 512) ho (by omega)
    exact ⟨xb, xc, rest, ⟨hg.os, hg.tape, hg.output, hg.size, fun k hk => hg.block k hk (by simp [Value.ownBlock])⟩, k1, Lib.hid k2, Lib.hid k3⟩)
  have KC : Hid (∀ (w1 : World) (xb xc : Nat), Below wA.heap.size wA w1 → (w1.alloc (.cells #[.slice (some ⟨xb, 0, none⟩) 512 xc] 31)).cell? ⟨w.heap.size, 0, none⟩ = some (.pointer (some ⟨p, 0, none⟩)) ∧ (w1.alloc (.cells #[.slice (some ⟨xb, 0, none⟩) 512 xc] 31)).cell? ⟨p, 0, none⟩ = some (.pointer (some ⟨g, 0, none⟩))) := Lib.hid (fun w1 xb xc hb1 =>
    ⟨cell_below ((hb1.mono (Nat.le_refl _)).alloc hb1.size _) f0, cell_below ((hb1.mono (Nat.le_refl _)).alloc hb1.size _) f1⟩)
  clear hp h B2 h0 c0 c1 c2 c3 c4 c5 c6 c7 hv hb hwA f0 f1
  go_enter Tryd.func70, Tryd.ntmps70
  go_wp2_with fail
  go_quiet (fail)
  rw [← HwA.out]
  clear e0 e1 e7 hv1 hv2 hv3
  go_wp2_with (first | ((refine wpList_append_bytes rfl _ _ 31 rfl wA.heap.size 5 (.int .u8 0) Tryd.underlying31 Hinfo.out rfl (.slice none 0 0) 0 [] rfl (Hnil.out _) A 512 c l rfl (Hb.out.drewN _) Hc1.out (Nat.le_refl _) ?_); intro v1 w1 hown1 hg1 hl1; obtain ⟨xb, xc, rest, B1, rfl, Hxb, Hrow⟩ := Hfull.out _ _ _ hown1 hg1; obtain ⟨m0, m1⟩ := KC.out _ xb xc B1; have HB1 := Lib.hid B1; clear hown1 hg1 hl1 B1) | ((go_at_call 71; (refine (CA.out _ w1.heap.size w.heap.size (w.heap.size + 1) xb xc rest (((HB2.out.trans (HB1.out.mono HB2.out.size))).alloc (Nat.le_trans HB2.out.size HB1.out.size) _) ?_ ?_ ?_ ?_ ?_).mono ?_))))
  · exact heap_alloc_new w1 _
  · rw [heap_alloc_old _ _ (by have := HB1.out.size; have := Hsz.out; omega), HB1.out.block _ (by have := Hsz.out; omega)]; exact Hp.out
  · rw [heap_alloc_old _ _ (by have := HB1.out.size; have := Hsz.out; omega), HB1.out.block _ (by have := Hsz.out; omega)]; exact Ha.out
  · rw [heap_alloc_old _ _ (lt_block Hrow.out)]; exact Hrow.out
  · exact Nat.le_trans HB2.out.size Hxb.out
  rintro r w9 ⟨e, rfl, hr⟩
  have HR := Lib.hid hr
  clear hr
  go_wp2_with fail
  go_ret
  exact ⟨e, rfl, HR.out⟩

end Go.Proofs.YteljopjaolegaaaDoor

/-
  CONTRACTS: package block: Write, of a disk in memory.
-/
namespace Go.Proofs.YteljopjaolegaaaDoor
open Go.RowKit
set_option maxRecDepth 100000
set_option linter.unusedVariables false
set_option linter.unusedSimpArgs false

theorem ne_box {w : World} {g k : Nat} {many : Int} {bs' bn : Nat} {W : Value} {armed : Bool} {acts : Int} {done down : Bool} (h : BoxAt w g many bs' bn W armed acts done down) {cs : Array Value} {t : TypeId} (hk : w.heap[k]? = some (.cells cs t (0, 0))) (ht : t ≠ 68) : k ≠ g := by
  intro e
  unfold BoxAt at h
  rw [e, h] at hk
  cases hk
  exact ht rfl

set_option maxHeartbeats 1000000 in
/-- Write. -/
theorem bwrite {T : Nat → Prop} {w : World} {g : Nat} {d : DiskV} (hd : DiskIs T w g d) (p : Nat) (hp : PtrAt w p g 95) (v : Int) (A : Option Addr) (n c : Nat) (l : List UInt8) (hb : Bs w A n l) (hlen : (d.wait.length + 1) * 32 ≤ 140737488355328) :
    Calls Tryd.prog 70 #[.pointer (some ⟨p, 0, none⟩), .int .i64 v, .slice A n c] w fun r w' => r = .returned (errV (d.write v l).2) ∧ DiskGo T w g w' (d.write v l).1 := by
  obtain ⟨bs', bn, W, fs, fn, ws, h⟩ := id hd
  have hbx := h.box
  by_cases hdown : d.down = true
  · have e : d.write v l = (d, 5) := by rw [DiskV.write, if_pos hdown]
    rw [hdown] at hbx
    rw [e]
    refine (bwrite_down p g _ v A n c _ _ _ _ _ _ _ w hp hbx).mono ?_
    rintro r w' ⟨rfl, hB⟩
    exact ⟨rfl, DiskGo.of_below hd hB⟩
  have hdown : d.down = false := by simpa using hdown
  rw [hdown] at hbx
  by_cases hok : d.has v ∧ l.length = 512
  rotate_left
  · have e : d.write v l = (d, 1) := by rw [DiskV.write, if_neg (by rw [hdown]; decide), if_pos hok]
    rw [e]
    refine (bwrite_out p g _ v A n c _ _ _ _ _ _ _ w hp hbx ?_).mono ?_
    · by_cases hv : 0 ≤ v ∧ v < (d.many : Int)
      · exact .inr (fun e => hok ⟨hv, by rw [hb.len]; exact e⟩)
      · exact .inl hv
    rintro r w' ⟨rfl, hB⟩
    exact ⟨rfl, DiskGo.of_below hd hB⟩
  obtain ⟨hv, hl⟩ := hok
  obtain rfl : n = 512 := by rw [← hb.len]; exact hl
  have hwl : (ws.length + 1) * 32 ≤ 140737488355328 := by rw [h.wait, List.length_map] at hlen; exact hlen
  have hgl : g < w.heap.size := h.inside g h.tg
  -- the closure, in a world in which the box alone has turned
  have clo : ∀ (wx wy : World) (px pd pa xb xc : Nat) (acts' : Int), Below w.heap.size w wx → wx.heap[px]? = some (.cells #[.slice (some ⟨xb, 0, none⟩) 512 xc] 31 (0, 0)) → wx.heap[pd]? = some (.cells #[.pointer (some ⟨p, 0, none⟩)] 54 (0, 0)) → wx.heap[pa]? = some (.cells #[.int .i64 v] 3 (0, 0)) →
      (∀ k, k < wx.heap.size → k ≠ g → wy.heap[k]? = wx.heap[k]?) → BoxAt wy g d.many bs' bn W d.armed acts' d.done false →
      Calls Tryd.prog 83 #[.pointer (some ⟨px, 0, none⟩), .pointer (some ⟨pd, 0, none⟩), .pointer (some ⟨pa, 0, none⟩)] wy fun r w' => r = .returned (.tuple #[]) ∧ Waits g d.many bs' bn W d.armed acts' d.done false fn ws.length (wcells ws) v (.slice (some ⟨xb, 0, none⟩) 512 xc) wy w' := by
    intro wx wy px pd pa xb xc acts' hB hx1 hx2 hx3 hy hbY
    have hbX : BoxAt wx g d.many bs' bn W d.armed d.acts d.done false := (hB.block g hgl).trans hbx
    have nx := ne_box hbX hx1 (by decide)
    have nd := ne_box hbX hx2 (by decide)
    have na := ne_box hbX hx3 (by decide)
    have np := ne_box hbx hp (by decide)
    have hgs := h.gs
    have hpl := lt_block hp
    have hnl := h.now.lt
    refine wclosure_any px pd pa p g xb 512 xc v d.many bs' bn W d.armed acts' d.done false fn ws.length (wcells ws) wy ((hy px (lt_block hx1) nx).trans hx1) ((hy pd (lt_block hx2) nd).trans hx2) ((hy pa (lt_block hx3) na).trans hx3) ?_ hbY ?_ ?_ hwl
    · rw [hy p (Nat.lt_of_lt_of_le hpl hB.size) np, hB.block p hpl]; exact hp
    · exact h.now.block (by rw [hy bn (Nat.lt_of_lt_of_le hnl hB.size) (Ne.symm hgs.2), hB.block bn hnl])
    · refine own_keep h.row (fun k hk => ?_)
      have hkl := h.inside k (h.tw k hk)
      rw [hy k (Nat.lt_of_lt_of_le hkl hB.size) (fun e => h.wne.1 (by rw [← e]; exact hk)), hB.block k hkl]
  have ext0 : ∀ wx : World, Below w.heap.size w wx → Ext (fun k => k = g) w wx := fun wx hB => Ext.of_below hB
  have setE : ∀ (wx : World) (j : Nat) (u : Value), Ext (fun k => k = g) w wx → Ext (fun k => k = g) w (wx.setCell ⟨g, j, none⟩ u) := fun wx j u hE => hE.trans (Ext.of_grown (grown_set wx g j u) (fun k e => by cases e; rfl))
  have rowG : ∀ {wx : World} {xb : Nat} {rest : List Value}, wx.heap[xb]? = some (.cells (bs l ++ rest).toArray 5 (0, 0)) → w.heap.size ≤ xb → xb ≠ g := fun _ hge e => by omega
  by_cases ha : d.armed = true
  · by_cases hz : d.acts = 0
    · by_cases hdn : d.done = true
      · rw [write_last d v l hdown hv hl ha hz hdn]
        refine (bwrite_in p g _ v A c l _ _ _ _ _ _ _ w hp hbx hv hb (fun e w' => e = errV 5 ∧ DiskGo T w g w' { d with down := true, wait := d.wait ++ [(v, l)] }) (Lib.hid fun wx px pd pa xb xc rest hB k1 k2 k3 k4 k5 => ?_)).mono ?_
        · have hbX : BoxAt wx g d.many bs' bn W d.armed d.acts d.done false := (hB.block g hgl).trans hbx
          refine (act_write_last px pd pa g _ _ _ _ _ _ _ _ wx hbX (Waits g d.many bs' bn W d.armed d.acts d.done false fn ws.length (wcells ws) v (.slice (some ⟨xb, 0, none⟩) 512 xc) wx) ha (by rw [hz]; rfl) hdn (Lib.hid (clo wx wx px pd pa xb xc _ hB k1 k2 k3 (fun _ _ _ => rfl) hbX)) (Lib.hid fun wy hw => ?_)).mono ?_
          · obtain ⟨W', q1, _⟩ := hw
            obtain ⟨_, _, _, _, _, _, _, q8⟩ := q1.cells
            exact ⟨by rw [q8]; rfl, q1.free 7⟩
          · rintro r w' ⟨rfl, w1, hw, rfl⟩
            exact ⟨_, rfl, rfl, h.wrote (ext0 wx hB) k4 k5 hw (grown_set w1 g 7 _) (fun W' q => q.set7 true) hv hl rfl rfl rfl h.acts⟩
        · rintro r w' ⟨e, rfl, rfl, hg⟩
          exact ⟨rfl, hg⟩
      · have hdn : d.done = false := by simpa using hdn
        rw [write_falls d v l hdown hv hl ha hz hdn]
        refine (bwrite_in p g _ v A c l _ _ _ _ _ _ _ w hp hbx hv hb (fun e w' => e = errV 5 ∧ DiskGo T w g w' { d with down := true }) (Lib.hid fun wx px pd pa xb xc rest hB k1 k2 k3 k4 k5 => ?_)).mono ?_
        · have hbX : BoxAt wx g d.many bs' bn W d.armed d.acts d.done false := (hB.block g hgl).trans hbx
          refine (act_write_lost px pd pa g _ _ _ _ _ _ _ _ wx hbX ha (by rw [hz]; rfl) hdn).mono ?_
          rintro r w' ⟨rfl, rfl⟩
          exact ⟨_, rfl, rfl, h.boxed (setE wx 7 _ (ext0 wx hB)) (hbX.set7 true) rfl rfl rfl h.acts⟩
        · rintro r w' ⟨e, rfl, rfl, hg⟩
          exact ⟨rfl, hg⟩
    · rw [write_counts d v l hdown hv hl ha hz]
      refine (bwrite_in p g _ v A c l _ _ _ _ _ _ _ w hp hbx hv hb (fun e w' => e = errV 0 ∧ DiskGo T w g w' { d with acts := d.acts - 1, wait := d.wait ++ [(v, l)] }) (Lib.hid fun wx px pd pa xb xc rest hB k1 k2 k3 k4 k5 => ?_)).mono ?_
      · have hbX : BoxAt wx g d.many bs' bn W d.armed d.acts d.done false := (hB.block g hgl).trans hbx
        have hac := h.acts
        refine (act_write_counts px pd pa g _ _ _ _ _ _ _ _ wx hbX (Waits g d.many bs' bn W d.armed ((d.acts : Int) - 1) d.done false fn ws.length (wcells ws) v (.slice (some ⟨xb, 0, none⟩) 512 xc) (wx.setCell ⟨g, 5, none⟩ (.int .i64 ((d.acts : Int) - 1)))) ha (by omega) (by omega) (by omega)
          (Lib.hid (clo wx _ px pd pa xb xc _ hB k1 k2 k3 (fun k _ hk => heap_setCell_other _ _ _ _ (fun e => hk e)) (hbX.set5 _)))).mono ?_
        rintro r w' ⟨rfl, hw⟩
        refine ⟨_, rfl, rfl, h.wrote (rest := rest) (setE wx 5 _ (ext0 wx hB)) ?_ k5 hw (World.grownBy.refl _ _) (fun W' q => ?_) hv hl rfl rfl rfl ?_⟩
        · rw [heap_setCell_other _ _ _ _ (fun e => rowG k4 k5 e)]; exact k4
        · have e : ((d.acts - 1 : Nat) : Int) = (d.acts : Int) - 1 := by omega
          show BoxAt w' g d.many bs' bn W' d.armed ((d.acts - 1 : Nat) : Int) d.done d.down
          rw [e, hdown]; exact q
        · show ((d.acts - 1 : Nat) : Int) ≤ _
          omega
      · rintro r w' ⟨e, rfl, rfl, hg⟩
        exact ⟨rfl, hg⟩
  · have ha : d.armed = false := by simpa using ha
    rw [write_free d v l hdown hv hl ha]
    refine (bwrite_in p g _ v A c l _ _ _ _ _ _ _ w hp hbx hv hb (fun e w' => e = errV 0 ∧ DiskGo T w g w' { d with wait := d.wait ++ [(v, l)] }) (Lib.hid fun wx px pd pa xb xc rest hB k1 k2 k3 k4 k5 => ?_)).mono ?_
    · have hbX : BoxAt wx g d.many bs' bn W d.armed d.acts d.done false := (hB.block g hgl).trans hbx
      refine (act_write_free px pd pa g _ _ _ _ _ _ _ _ wx hbX (Waits g d.many bs' bn W d.armed d.acts d.done false fn ws.length (wcells ws) v (.slice (some ⟨xb, 0, none⟩) 512 xc) wx) ha (Lib.hid (clo wx wx px pd pa xb xc _ hB k1 k2 k3 (fun _ _ _ => rfl) hbX))).mono ?_
      rintro r w' ⟨rfl, hw⟩
      exact ⟨_, rfl, rfl, h.wrote (ext0 wx hB) k4 k5 hw (World.grownBy.refl _ _) (fun W' q => by show BoxAt w' g d.many bs' bn W' d.armed d.acts d.done d.down; rw [hdown]; exact q) hv hl rfl rfl rfl h.acts⟩
    · rintro r w' ⟨e, rfl, rfl, hg⟩
      exact ⟨rfl, hg⟩

end Go.Proofs.YteljopjaolegaaaDoor
