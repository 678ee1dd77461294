/-
  GENERAL: append of bytes at a step of a region that draws its order.
-/
import Derived.Test.YteljopjaolegaaaDoorGen
namespace Go.Proofs.YteljopjaolegaaaDoor
open Go.RowKit
set_option maxRecDepth 100000
set_option linter.unusedVariables false

theorem run_append_bs {P : Program} {w : World} (t ty : TypeId) (base : Nat) (e : TypeId) (z : Value) (ht : P.underlying t = some (.slice e)) (hinfo : (P.info? e).map (fun i => (i.zero, i.size, i.bytes)) = some (some z, 1, 1)) (hzs : z.cells.size = 1)
    (v : Value) (n : Nat) (xs : List Value) (hown : w.ownsRow base e 1 v n xs) (A : Option Addr) (m c : Nat) (l : List UInt8) (hb : Bs w A m l) (hbytes : n + m ≤ 140737488355328) (hbase : base ≤ w.heap.size) :
    ∃ v' w', (Builtin.append_ #[t, t] ty #[v, .slice A m c]).run P w = .ok v' w' ∧ w'.ownsRow base e 1 v' (n + m) (xs ++ bs l) ∧ w.grownBy w' v.ownBlock ∧ Lies w w' v v' := by
  obtain ⟨i, hi, hz, hsize, hby⟩ := info_parts hinfo
  by_cases h0 : m = 0
  · subst h0
    have hl : l = [] := List.eq_nil_of_length_eq_zero hb.len
    subst hl
    refine ⟨v, w, ?_, by simpa [bs] using hown, World.grownBy.refl _ _, Lies.refl _ _ _⟩
    cases A <;> rcases hown.2 with ⟨rfl, rfl⟩ | ⟨g, cap, cur, rfl, _, _, hnc, _⟩
    · simp [Builtin.append_, run_underlying ht, sizeOf, typeInfo, hi, Builtin.lenOf, Builtin.firstCells]
    · simp [Builtin.append_, run_underlying ht, sizeOf, typeInfo, hi, Builtin.lenOf, Builtin.firstCells, hnc, storeCells]
    · simp [Builtin.append_, run_underlying ht, sizeOf, typeInfo, hi, Builtin.lenOf, Builtin.firstCells, loadCells, loadCellsFrom]
    · simp [Builtin.append_, run_underlying ht, sizeOf, typeInfo, hi, Builtin.lenOf, Builtin.firstCells, hnc, storeCells, loadCells, loadCellsFrom]
  · obtain ⟨ad, c0, rfl, _, _⟩ := hb.get (k := 0) (by omega)
    refine run_append_lie (P := P) w base t ty e i z 1 1 ht hi hz hsize hby hzs (by decide) v n xs hown ad m c (bs l) (by rw [bs_length, hb.len, Nat.mul_one]) ?_ (bs_one l) (by simp only [maxLen]; omega) (by omega) hbase
    intro j u hu
    obtain ⟨d, hd, rfl⟩ := bs_get hu
    obtain ⟨ad', e', hc⟩ := hb.2.2 j d hd
    cases e'
    exact hc

theorem step_append_bytes {P : Program} {w : World} {ops : Array Oper} {o : Oper} {a : Act} {K : Act → World → Prop} {Q : Exit → Act → World → Prop} {E : Prop} (hgd : o.guard = none) (s x : Operand) (t : TypeId)
    (ho : o.op = .call { callee := .builtin .append, args := #[s, x], argTypes := #[t, t] })
    (base : Nat) (e : TypeId) (z : Value) (ht : P.underlying t = some (.slice e)) (hinfo : (P.info? e).map (fun i => (i.zero, i.size, i.bytes)) = some (some z, 1, 1)) (hzs : z.cells.size = 1)
    (v : Value) (n : Nat) (xs : List Value) (hs : a.eval s = v) (hown : w.ownsRow base e 1 v n xs)
    (A : Option Addr) (m c : Nat) (l : List UInt8) (hx : a.eval x = .slice A m c) (hb : Bs w A m l) (hbytes : n + m ≤ 140737488355328) (hbase : base ≤ w.heap.size)
    (h : ∀ v' w', w'.ownsRow base e 1 v' (n + m) (xs ++ bs l) → w.grownBy w' v.ownBlock → Lies w w' v v' → K (a.put o.dst v') w') :
    if Region.wanted o (yielded ops a.tmps) = true then Oper.wp P o a w K Q else E := by
  have hw : Region.wanted o (yielded ops a.tmps) = true := by simp [Region.wanted, hgd]
  rw [if_pos hw]
  obtain ⟨v', w', hr, h2, h3, h4⟩ := run_append_bs (P := P) t o.type base e z ht hinfo hzs v n xs hown A m c l hb hbytes hbase
  unfold Oper.wp execOp
  simp only [ho, resolve, invoke, builtin, Sem.run_bind, Sem.run_pure, Result.andThen_ok, List.map_toArray, List.map_cons, List.map_nil, hs, hx, hr]
  exact h v' w' h2 h3 h4

theorem wrapi_i64 (n : Int) (h0 : 0 ≤ n) (h1 : n < 2 ^ 63) : IntKind.i64.wrap n = n := by
  rw [IntKind.wrap_i64]
  have : (2 : Int) ^ 63 = 9223372036854775808 := by decide
  omega
/-- Bytes copied into a block that begins with bytes. -/
theorem wpList_copy_rest {P : Program} {w : World} {ops : Array Oper} {rest : List Oper} {o : Oper} {a : Act} {Q : Exit → Act → World → Prop} (hgd : o.guard = none) (d s : Operand) (dT sT : TypeId)
    (ho : o.op = .call { callee := .builtin .copy, args := #[d, s], argTypes := #[dT, sT] }) (elem : TypeId) (hu : P.underlying dT = some (.slice elem)) (hsz : (P.info? elem).map (·.size) = some 1)
    (dp : Option Addr) (dLen dCap : Nat) (A : Option Addr) (m c : Nat) (hd : a.eval d = .slice dp dLen dCap) (hs : a.eval s = .slice A m c)
    (g off : Nat) (cur : List UInt8) (more : List Value) (t : TypeId) (hg : w.heap[g]? = some (.cells (bs cur ++ more).toArray t (0, 0))) (l : List UInt8) (hb : Bs w A m l) (k : Nat) (hk : k = Nat.min m dLen)
    (hdp : 0 < k → dp = some ⟨g, off, none⟩) (hfit : off + k ≤ cur.length)
    (h : ∀ w', Hid (w'.heap[g]? = some (.cells (bs (splice cur off (l.take k)) ++ more).toArray t (0, 0))) → w.grownBy w' (some g) → wpList P ops Q rest (a.put o.dst (goInt k)) w') : wpList P ops Q (o :: rest) a w := by
  have hkm : k ≤ m := by rw [hk]; exact Nat.min_le_left _ _
  have hl : (l.take k).length = k := by rw [List.length_take, hb.len]; omega
  by_cases h0 : k = 0
  · refine wpList_copy_nothing hgd d s dT sT ho elem hu hsz dp A dLen dCap m c hd hs (by omega) ?_
    have := h w (show _ = _ by rw [h0]; simpa [splice] using hg) (World.grownBy.refl _ _)
    rwa [h0] at this
  · obtain ⟨ad, c0, rfl, _, _⟩ := hb.get (k := 0) (by omega)
    obtain rfl := hdp (by omega)
    refine wpList_copy_own hgd d s dT sT ho elem hu hsz g off dLen dCap ad m c hd hs (bs cur ++ more).toArray t hg (bs (l.take k)) (by rw [bs_length, hl, hk]) ?_ (by rw [bs_length, hl]; simp [bs_length]; omega) (bs_one _) ?_
    · intro j v hv
      obtain ⟨x, hx, rfl⟩ := bs_get hv
      rw [List.getElem?_take] at hx
      split at hx
      · obtain ⟨ad', e', hc⟩ := hb.2.2 j x hx
        cases e'
        exact hc
      · cases hx
    · have e : (bs cur ++ more).toArray.toList.take off ++ (bs (l.take k) ++ (bs cur ++ more).toArray.toList.drop (off + (bs (l.take k)).length)) = bs (splice cur off (l.take k)) ++ more := by
        rw [List.toList_toArray, bs_length, hl, List.take_append_of_le_length (by rw [bs_length]; omega), List.drop_append, bs_length, show off + k - cur.length = 0 by omega, List.drop_zero, splice, bs_append, bs_append, hl]
        simp [bs, List.append_assoc]
      rw [e, bs_length, hl]
      exact h _ (show _ = _ from setRow_heap w g _ _ t _ hg) (grown_setRow w g _)

/-- 'make([]byte, n, c)'. -/
theorem wpList_make_cap {P : Program} {w : World} {ops : Array Oper} {rest : List Oper} {o : Oper} {a : Act} {Q : Exit → Act → World → Prop}
    (hg : o.guard = none) (l c : Operand) (t : TypeId) (hop : o.op = Op.makeSlice t l c)
    (e : TypeId) (h1 : P.underlying t = some (.slice e)) (hinfo : (P.info? e).map (fun i => (i.zero, i.size, i.bytes)) = some (some (.int .u8 0), 1, 1))
    (L C : Int) (n k : Nat) (hl : a.eval l = .int .i64 L) (hc : a.eval c = .int .i64 C) (hL : L = (n : Int)) (hC : C = ((n + k : Nat) : Int)) (b2 : n + k ≤ 281474976710656)
    (hK : Hid ((w.alloc (.cells (bs (List.replicate n 0) ++ bs (List.replicate k 0)).toArray e)).heap[w.heap.size]? = some (.cells (bs (List.replicate n 0) ++ bs (List.replicate k 0)).toArray e (0, 0))) → wpList P ops Q rest (a.put o.dst (.slice (some ⟨w.heap.size, 0, none⟩) n (n + k))) (w.alloc (.cells (bs (List.replicate n 0) ++ bs (List.replicate k 0)).toArray e))) :
    wpList P ops Q (o :: rest) a w := by
  obtain ⟨i, hi, hz, hsize, hby⟩ := info_parts hinfo
  refine wpList_plain hg fun K hK' => ?_
  have hrun := run_make (P := P) w t e i (.int .u8 0) h1 hi hz .i64 .i64 (n : Int) ((n + k : Nat) : Int) (by omega) (by omega) (by rw [hby]; omega) (by omega)
  simp only [Int.toNat_natCast, hsize, Nat.mul_one] at hrun
  have hm : madeCells (Value.int IntKind.u8 0).cells (n + k) = (bs (List.replicate n 0) ++ bs (List.replicate k 0)).toArray := by
    have h2 := toList_madeCells_one (.int .u8 0) (n + k)
    rw [← bs_append, List.replicate_append_replicate, ← bs_zeros, ← h2]
    simp [Value.cells]
  rw [hm] at hrun
  subst hL hC
  unfold Oper.wp
  simp only [execOp, hop, hl, hc, Sem.run_bind, hrun, Result.andThen, Sem.run_pure]
  exact hK' _ _ (hK (Lib.hid (heap_alloc_new _ _)))

/-- A callee that reads alone, met behind draws. -/
theorem quiet_same2 {P : Program} {f : FuncId} {args : Array Value} {w : World} {n : Nat} {v : Value} (h : Calls P f args (w.drewN n) fun e w' => e = .returned v ∧ w.drewN n = w') : Calls P f args (w.drewN n) fun e w'' => e = .returned v ∧ ∃ m, w'' = w.drewN m :=
  h.mono fun _ _ ⟨he, hm⟩ => ⟨he, n, hm.symm⟩
theorem quiet_drew2 {P : Program} {f : FuncId} {args : Array Value} {w : World} {n : Nat} {v : Value} (h : Calls P f args (w.drewN n) fun e w' => e = .returned v ∧ ∃ m, w' = (w.drewN n).drewN m) : Calls P f args (w.drewN n) fun e w'' => e = .returned v ∧ ∃ m, w'' = w.drewN m :=
  h.mono fun _ _ ⟨he, m, hm⟩ => ⟨he, n + m, by rw [hm]; simp [World.drewN, Nat.add_assoc]⟩
theorem Bs.heap {w wx : World} {A : Option Addr} {n : Nat} {l : List UInt8} (h : Bs w A n l) (e : wx.heap = w.heap) : Bs wx A n l := h.kept fun _ _ a _ v hv => by simpa [World.cell?, e] using hv
theorem Nib.heap {w wx : World} (h : Nib w) (e : wx.heap = w.heap) : Nib wx := fun i hi => by have := h i hi; simpa [World.cell?, e] using this

theorem own_row_full {w : World} {base : Nat} {e : TypeId} {v : Value} {n : Nat} {l : List UInt8} (h : w.ownsRow base e 1 v n (bs l)) (hn : ¬ n = 0) :
    ∃ g cap rest, v = .slice (some ⟨g, 0, none⟩) n cap ∧ base ≤ g ∧ w.heap[g]? = some (.cells (bs l ++ rest).toArray e (0, 0)) ∧ n ≤ cap ∧ cap ≤ maxLen ∧ l.length + rest.length = cap := by
  have hl := h.1
  rcases h.2 with ⟨rfl, h0⟩ | ⟨g, cap, cur, rfl, hb, hg, hnc, hc, hs, ht⟩
  · exact absurd h0 hn
  · refine ⟨g, cap, cur.toList.drop (n * 1), rfl, hb, ?_, hnc, hc, ?_⟩
    · rw [hg, ← ht, List.take_append_drop]
    · rw [bs_length] at hl
      have hcl : cur.toList.length = cap := by rw [Array.length_toList, hs, Nat.mul_one]
      rw [List.length_drop, hcl]; omega
theorem own_of_cells {w : World} {base g cap n : Nat} {e : TypeId} {l : List UInt8} {rest : List Value} (hg : w.heap[g]? = some (.cells (bs l ++ rest).toArray e (0, 0))) (hb : base ≤ g) (hl : l.length = n) (hc : cap ≤ maxLen) (hs : l.length + rest.length = cap) : w.ownsRow base e 1 (.slice (some ⟨g, 0, none⟩) n cap) n (bs l) := by
  refine ⟨by rw [bs_length, hl]; omega, .inr ⟨g, cap, (bs l ++ rest).toArray, rfl, hb, hg, by omega, hc, by simp [bs_length]; omega, ?_⟩⟩
  rw [List.toList_toArray, Nat.mul_one, List.take_left' (by rw [bs_length, hl])]

theorem tw_all (l : List UInt8) (k : Nat) (xs : List UInt8) (i : Nat) (h1 : k + i ≤ l.length) (h2 : i ≤ xs.length) (h : (xs.take i).all (· == 0) = true) : tw l k xs i = l := by
  have hz : List.zipWith (· ^^^ ·) ((l.drop k).take i) (xs.take i) = (l.drop k).take i := by
    have e : xs.take i = List.replicate i 0 := by
      rw [List.eq_replicate_iff]
      refine ⟨by simp; omega, fun b hb => ?_⟩
      rw [List.all_eq_true] at h
      exact beq_iff_eq.1 (h b hb)
    rw [e]
    apply List.ext_getElem?
    intro j
    rw [List.getElem?_zipWith, List.getElem?_replicate]
    by_cases hj : j < i
    · rw [if_pos hj]
      cases hc : ((l.drop k).take i)[j]? with
      | none => rfl
      | some c => simp
    · rw [if_neg hj, List.getElem?_eq_none (by simp; omega)]
  rw [tw, hz, List.append_assoc, ← List.drop_drop, List.take_append_drop, List.take_append_drop]

/-- A row of bytes, behind a slice of bytes that has no room: the new row is the call's own. -/
theorem wpList_append_full {P : Program} {w : World} {ops : Array Oper} {rest : List Oper} {o : Oper} {a : Act} {Q : Exit → Act → World → Prop} (hgd : o.guard = none) (s x : Operand) (t : TypeId)
    (ho : o.op = .call { callee := .builtin .append, args := #[s, x], argTypes := #[t, t] })
    (base : Nat) (e : TypeId) (z : Value) (ht : P.underlying t = some (.slice e)) (hinfo : (P.info? e).map (fun i => (i.zero, i.size, i.bytes)) = some (some z, 1, 1)) (hzs : z.cells.size = 1)
    (b : Addr) (n : Nat) (l0 : List UInt8) (hs : a.eval s = .slice (some b) n n) (hb0 : Bs w (some b) n l0)
    (A : Option Addr) (m c : Nat) (l : List UInt8) (hx : a.eval x = .slice A m c) (hb : Bs w A m l) (hm : 0 < m)
    (hbytes : n + m ≤ 140737488355328) (hbase : base ≤ w.heap.size)
    (h : ∀ v' w', w'.ownsRow base e 1 v' (n + m) (bs (l0 ++ l)) → Below w.heap.size w w' → wpList P ops Q rest (a.put o.dst v') w') : wpList P ops Q (o :: rest) a w := by
  obtain ⟨i, hi, hz, hsize, hby⟩ := info_parts hinfo
  obtain ⟨ad, c0, rfl, _, _⟩ := hb.get (k := 0) hm
  have cellsOf : ∀ {b : Addr} {n : Nat} {l : List UInt8}, Bs w (some b) n l → ∀ j u, (bs l)[j]? = some u → w.cell? (b.add j) = some u := by
    intro b n l hb j u hu
    obtain ⟨d, hd, rfl⟩ := bs_get hu
    obtain ⟨ad', e', hc⟩ := hb.2.2 j d hd
    cases e'
    exact hc
  have hlo : (bs l0).length = n * i.size := by rw [bs_length, hb0.len, hsize, Nat.mul_one]
  have hln : (bs l).length = m * i.size := by rw [bs_length, hb.len, hsize, Nat.mul_one]
  have hr := run_append_grow (P := P) w t o.type e i z ht hi hz b n n (bs l0) hlo (cellsOf hb0) ad m c (bs l) hln (cellsOf hb) (by omega) (by omega) (growslice_fits (by omega) (by rw [hby]; omega))
  refine wpList_plain hgd fun K hK => ?_
  unfold Oper.wp execOp
  simp only [ho, resolve, invoke, builtin, Sem.run_bind, Sem.run_pure, Result.andThen_ok, List.map_toArray, List.map_cons, List.map_nil, hs, hx, hr]
  refine hK _ _ (h _ _ ?_ ⟨rfl, rfl, rfl, by simp, fun k hk => heap_alloc_old w.drew _ hk⟩)
  have hge := grownCap_ge w (n + m) n e
  have hcm : grownCap w (n + m) n e ≤ maxLen := grownCap_le_maxLen w (n + m) n e (by simp only [maxLen]; omega)
  refine ⟨by rw [bs_append, List.length_append, bs_length, bs_length, hb0.len, hb.len, Nat.mul_one], .inr ⟨w.heap.size, _, _, rfl, hbase, heap_alloc_new w.drew _, hge, hcm, ?_, ?_⟩⟩
  · simp only [Array.size_append, List.size_toArray, size_zeroCells, hzs, bs_length, hb0.len, hb.len]
    omega
  · rw [Nat.mul_one, bs_append]
    simp only [Array.toList_append, List.append_assoc]
    rw [← List.append_assoc]
    exact List.take_left' (by rw [List.length_append, bs_length, bs_length, hb0.len, hb.len])

end Go.Proofs.YteljopjaolegaaaDoor
