/-
  GENERAL: what the laws' walks use: bytes read in later worlds, strings of bytes, rows that are owned, bursts.
-/
import Derived.Test.YteljopjaolegaaaDoorLaw
import Derived.Laws.BytesArg
import Derived.Deep.RegionLaw
import Derived.BigQuiet
import Derived.StillTailTactics
namespace Go.Proofs.YteljopjaolegaaaDoor
open Go.RowKit
set_option maxRecDepth 100000
set_option linter.unusedVariables false

theorem lent_bs {w : World} {g n : Nat} {l : List UInt8} (hl : l.length = n) (hm : n ≤ 9223372036854775807) (hg : w.heap[g]? = some (.cells (bs (l ++ marks 3)).toArray 5 (0, 0))) : Bs w (some ⟨g, 0, none⟩) n l := by
  have := bs_block hg 0 n (by rw [List.length_append]; omega) hm
  rw [List.drop_zero, List.take_left' hl] at this
  exact this

theorem Bs.grown {w w1 : World} {A : Option Addr} {n g : Nat} {l : List UInt8} (h : Bs w A n l) (hb : w.grownBy w1 (some g)) (hs : ∀ ad, A = some ad → ad.block ≠ g) : Bs w1 A n l :=
  h.ext (Ext.of_grown (S := fun k => k = g) hb (fun k hk => by cases hk; rfl)) (fun ad e => hs ad e)

theorem Bs.head {w : World} {A : Option Addr} {n : Nat} {l : List UInt8} (h : Bs w A n l) (k : Nat) (hk : k ≤ n) : Bs w A k (l.take k) :=
  ⟨by rw [List.length_take, h.len]; omega, by have := h.max; omega, fun j c hj => by
    rw [List.getElem?_take] at hj
    split at hj
    · exact h.2.2 j c hj
    · cases hj⟩

/-- At a step of a region that draws its order. -/
theorem step_append_one {P : Program} {w : World} {ops : Array Oper} {o : Oper} {a : Act} {K : Act → World → Prop} {Q : Exit → Act → World → Prop} {E : Prop} (hgd : o.guard = none) (s x : Operand) (t : TypeId)
    (ho : o.op = .call { callee := .builtin .append, args := #[s, x], argTypes := #[t, t] })
    (base : Nat) (e : TypeId) (z : Value) (bytes : Nat) (ht : P.underlying t = some (.slice e)) (hinfo : (P.info? e).map (fun i => (i.zero, i.size, i.bytes)) = some (some z, 1, bytes)) (hzs : z.cells.size = 1)
    (v : Value) (n : Nat) (xs : List Value) (u : Value) (hs : a.eval s = v) (hown : w.ownsRow base e 1 v n xs)
    (hx : a.eval x = .slice (some ⟨w.heap.size, 0, none⟩) 1 1) (h1 : u.oneCell' = true)
    (h63 : n + 1 ≤ maxLen) (hbytes : (n + 1) * bytes ≤ 140737488355328) (hbase : base ≤ w.heap.size)
    (h : ∀ v' w', w'.ownsRow base e 1 v' (n + 1) (xs ++ [u]) → w.grownBy w' v.ownBlock → Lies w w' v v' → K (a.put o.dst v') w') :
    if Region.wanted o (yielded ops a.tmps) = true then Oper.wp P o a (w.alloc (.cells #[u] e)) K Q else E := by
  have hw : Region.wanted o (yielded ops a.tmps) = true := by simp [Region.wanted, hgd]
  rw [if_pos hw]
  obtain ⟨i, hi, hz, hsize, hby⟩ := info_parts hinfo
  obtain ⟨v', w', hr, h2, h3, h4⟩ := run_append_lie (P := P) (w.alloc (.cells #[u] e)) base t o.type e i z 1 bytes ht hi hz hsize hby hzs (by decide) v n xs (hown.alloc _) ⟨w.heap.size, 0, none⟩ 1 1 [u] (by simp)
    (fun j y hj => World.news_of_block (heap_alloc_new w (.cells #[u] e)) j y hj) (one_mem h1) h63 hbytes (by simp; omega)
  unfold Oper.wp execOp
  simp only [ho, resolve, invoke, builtin, Sem.run_bind, Sem.run_pure, Result.andThen_ok, List.map_toArray, List.map_cons, List.map_nil, hs, hx, hr]
  refine h v' w' h2 (grownBy_trans (World.grownBy_alloc w _ none) h3) ?_
  rcases h4 with h5 | ⟨g, h5, h6, h7⟩
  · exact .inl h5
  · exact .inr ⟨g, h5, by simp at h6; omega, grownBy_trans (World.grownBy_alloc w _ none) h7⟩

/-- The string of these bytes. -/
def strB (l : List UInt8) : ByteArray := ⟨l.toArray⟩
theorem run_convert_bs {w : World} {A : Option Addr} {n : Nat} {l : List UInt8} (h : Bs w A n l) (c : Nat) :
    (convert 31 9 (.slice A n c)).run Tryd.prog w = .ok (.string (strB l)) w := by
  rw [run_convert_bytes_string w 31 9 5 A n c Tryd.underlying31 Tryd.underlying5 Tryd.underlying9]
  cases A with
  | none =>
    have : l = [] := by
      cases l with
      | nil => rfl
      | cons x r => obtain ⟨ad, e, _⟩ := h.2.2 0 x rfl; cases e
    subst this
    simp [Conv.bytesToString, strB]
    rfl
  | some a =>
    have hl : (loadCells a n).run Tryd.prog w = .ok ((l.map fun c => ub c).map (Value.int .u8)).toArray w := by
      have := run_loadCells_list (P := Tryd.prog) w a ((l.map fun c => ub c).map (Value.int .u8)) (fun j v hj => by
        simp only [List.getElem?_map, Option.map_map, Option.map_eq_some_iff] at hj
        obtain ⟨u, hu, rfl⟩ := hj
        obtain ⟨ad, e, hc⟩ := h.2.2 j u hu
        cases e
        exact hc)
      simpa [h.len] using this
    rw [run_bytesToString w a n c _ hl, foldl_push_bytes]
    have : List.map (fun n => UInt8.ofNat n.toNat) (List.map (fun c => ub c) l) = l := by
      rw [List.map_map]
      conv => rhs; rw [← List.map_id l]
      apply List.map_congr_left
      intro u _
      simp [ub]
    rw [this]
    simp [strB, ByteArray.empty, ByteArray.emptyWithCapacity]
    rfl


theorem Bs.drew {w : World} {A : Option Addr} {n : Nat} {l : List UInt8} (h : Bs w A n l) : Bs w.drew A n l := h
theorem Bs.drewN {w : World} {A : Option Addr} {n : Nat} {l : List UInt8} (h : Bs w A n l) (m : Nat) : Bs (w.drewN m) A n l := h
theorem below_drewN {B : Nat} {a w : World} (h : Below B a w) (m : Nat) : Below B a (w.drewN m) := ⟨h.os, h.tape, h.output, h.size, h.block⟩
/-- Bytes that are owned can be read; and their slice's room. -/
theorem own_bytes_cap {w : World} {base : Nat} {e : TypeId} {v : Value} {n : Nat} {l : List UInt8} (h : w.ownsRow base e 1 v n (bs l)) :
    ∃ A c, v = .slice A n c ∧ Bs w A n l ∧ n ≤ c := by
  obtain ⟨A, c, rfl, hb⟩ := own_bytes h
  refine ⟨A, c, rfl, hb, ?_⟩
  rcases h.2 with ⟨h1, h2⟩ | ⟨g, cap, cur, h1, hb, hg, hn, hc, hs, ht⟩
  · cases h1; omega
  · cases h1; exact hn

theorem zipWith_self (a : List UInt8) : List.zipWith (· ^^^ ·) a a = List.replicate a.length 0 := by
  induction a with
  | nil => rfl
  | cons x r ih =>
    rw [List.zipWith_cons_cons, ih, UInt8.xor_self]; rfl
theorem zipWith_back (p q : List UInt8) (h : p.length = q.length) : List.zipWith (· ^^^ ·) p (List.zipWith (· ^^^ ·) p q) = q := by
  induction p generalizing q with
  | nil => cases q with
    | nil => rfl
    | cons _ _ => simp at h
  | cons x r ih =>
    cases q with
    | nil => simp at h
    | cons y s =>
      simp only [List.zipWith_cons_cons]
      rw [ih s (by simpa using h), ← UInt8.xor_assoc, UInt8.xor_self, UInt8.zero_xor]

/-- The bytes l, from k on turned by the first i of xs. -/
def tw (l : List UInt8) (k : Nat) (xs : List UInt8) (i : Nat) : List UInt8 := l.take k ++ List.zipWith (· ^^^ ·) ((l.drop k).take i) (xs.take i) ++ l.drop (k + i)
theorem tw_zero (l : List UInt8) (k : Nat) (xs : List UInt8) : tw l k xs 0 = l := by simp [tw]
theorem tw_length (l : List UInt8) (k : Nat) (xs : List UInt8) (i : Nat) (h1 : k + i ≤ l.length) (h2 : i ≤ xs.length) : (tw l k xs i).length = l.length := by
  simp [tw]; omega
theorem tw_get {l : List UInt8} {k : Nat} {xs : List UInt8} {i : Nat} {c : UInt8} (h : l[k + i]? = some c) (h2 : i ≤ xs.length) : (tw l k xs i)[k + i]? = some c := by
  have h1 := (List.getElem?_eq_some_iff.1 h).1
  have e : (l.take k ++ List.zipWith (· ^^^ ·) ((l.drop k).take i) (xs.take i)).length = k + i := by simp; omega
  rw [tw, List.getElem?_append_right (by omega), e, Nat.sub_self, List.getElem?_drop]
  exact h
theorem tw_set {l : List UInt8} {k : Nat} {xs : List UInt8} {i : Nat} {c x : UInt8} (h : l[k + i]? = some c) (hx : xs[i]? = some x) : (tw l k xs i).set (k + i) (c ^^^ x) = tw l k xs (i + 1) := by
  have h1 := (List.getElem?_eq_some_iff.1 h).1
  have h2 := (List.getElem?_eq_some_iff.1 hx).1
  have e : (l.take k ++ List.zipWith (· ^^^ ·) ((l.drop k).take i) (xs.take i)).length = k + i := by simp; omega
  have hd : (l.drop k)[i]? = some c := by rw [List.getElem?_drop]; exact h
  rw [tw, tw, List.set_append_right _ _ (by omega), e, Nat.sub_self, take_snoc hd, take_snoc hx, List.zipWith_append (by simp; omega)]
  have ed : l.drop (k + i) = c :: l.drop (k + (i + 1)) := by
    rw [List.drop_eq_getElem_cons h1, (List.getElem?_eq_some_iff.1 h).2]; rfl
  rw [ed]
  simp
theorem tw_zip (l : List UInt8) (k : Nat) (xs : List UInt8) (i : Nat) (h1 : k + i ≤ l.length) (h2 : i ≤ xs.length) :
    List.zipWith (· ^^^ ·) l (tw l k xs i) = List.replicate k 0 ++ xs.take i ++ List.replicate (l.length - (k + i)) 0 := by
  have e : l = l.take k ++ (l.drop k).take i ++ l.drop (k + i) := by
    rw [List.append_assoc, ← List.drop_drop, List.take_append_drop, List.take_append_drop]
  conv => lhs; rw [e]
  have e2 : tw (l.take k ++ (l.drop k).take i ++ l.drop (k + i)) k xs i = tw l k xs i := by rw [← e]
  rw [e2, tw, List.zipWith_append (by simp; omega), List.zipWith_append (by rfl), zipWith_self, zipWith_self, zipWith_back _ _ (by simp; omega)]
  simp
  omega
/-- A burst of up to four bytes tells. -/
theorem tw_tells (l : List UInt8) (k : Nat) (xs : List UInt8) (i : Nat) (h1 : k + i ≤ l.length) (h2 : i ≤ xs.length) (h4 : i ≤ 4) :
    (ui (Crc.sum l) == ui (Crc.sum (tw l k xs i))) = (xs.take i).all (· == 0) := by
  have e1 : (ui (Crc.sum l) == ui (Crc.sum (tw l k xs i))) = decide (Crc.sum l = Crc.sum (tw l k xs i)) := by
    rw [Bool.eq_iff_iff]
    simp only [beq_iff_eq, decide_eq_true_eq]
    exact ⟨fun h => ui_inj h, fun h => by rw [h]⟩
  rw [e1, Bool.eq_iff_iff, decide_eq_true_eq, Crc.sum_eq_iff _ _ (by rw [tw_length _ _ _ _ h1 h2]), tw_zip _ _ _ _ h1 h2, Crc.crc_burst _ _ _ (by simp; omega), List.all_eq_true]
  simp

theorem own_row {w : World} {base : Nat} {e : TypeId} {v : Value} {n : Nat} {l : List UInt8} (h : w.ownsRow base e 1 v n (bs l)) (hn : ¬ n = 0) :
    ∃ g cap rest, v = .slice (some ⟨g, 0, none⟩) n cap ∧ base ≤ g ∧ w.heap[g]? = some (.cells (bs l ++ rest).toArray e (0, 0)) ∧ n ≤ cap := by
  rcases h.2 with ⟨rfl, h0⟩ | ⟨g, cap, cur, rfl, hb, hg, hnc, hc, hs, ht⟩
  · exact absurd h0 hn
  · refine ⟨g, cap, cur.toList.drop (n * 1), rfl, hb, ?_, hnc⟩
    rw [hg, ← ht, List.take_append_drop]

theorem owns_empty {w : World} {B : Nat} (e : TypeId) (h : B ≤ w.heap.size) : (w.alloc (.cells #[] e)).ownsRow B e 1 (.slice (some ⟨w.heap.size, 0, none⟩) 0 0) 0 (bs []) :=
  ⟨rfl, .inr ⟨w.heap.size, 0, #[], rfl, h, heap_alloc_new _ _, Nat.le_refl _, by simp [maxLen], rfl, rfl⟩⟩

theorem bs_cell {w : World} {g : Nat} {l : List UInt8} {rest : List Value} {e : TypeId} (h : w.heap[g]? = some (.cells (bs l ++ rest).toArray e (0, 0))) {j : Nat} {c : UInt8} (hj : l[j]? = some c) : w.cell? ⟨g, j, none⟩ = some (.int .u8 (ub c)) := by
  refine cell_block h ?_
  rw [List.getElem?_append_left (by rw [bs_length]; exact (List.getElem?_eq_some_iff.1 hj).1)]
  simp [bs, hj]
theorem bs_row {w : World} {g : Nat} {l : List UInt8} {rest : List Value} {e : TypeId} (h : w.heap[g]? = some (.cells (bs l ++ rest).toArray e (0, 0))) {n : Nat} (hn : l.length = n) (hm : n ≤ 9223372036854775807) : Bs w (some ⟨g, 0, none⟩) n l :=
  ⟨hn, hm, fun j c hj => ⟨_, rfl, by
    have ha : (⟨g, 0, none⟩ : Addr).add j = ⟨g, j, none⟩ := by unfold Addr.add; split <;> simp_all
    rw [ha]; exact bs_cell h hj⟩⟩
theorem bs_set {l : List UInt8} {rest : List Value} {j : Nat} {c : UInt8} (hj : j < l.length) : (bs l ++ rest).set j (.int .u8 (ub c)) = bs (l.set j c) ++ rest := by
  rw [List.set_append_left _ _ (by rw [bs_length]; exact hj), bs, bs, List.map_set]

/-- A literal's new row. -/
theorem lit_bytes (w : World) (l : List UInt8) (cs : Array Value) (n : Nat) (f : Nat × Nat) (h : cs = (bs l).toArray) (hn : l.length = n) (hm : n ≤ 9223372036854775807) : Bs (w.alloc (.cells cs 5 f)) (some ⟨w.heap.size, 0, none⟩) n l :=
  ⟨hn, hm, fun j c hj => ⟨_, rfl, by
    have ha : (⟨w.heap.size, 0, none⟩ : Addr).add j = ⟨w.heap.size, j, none⟩ := by unfold Addr.add; split <;> simp_all
    rw [ha, cell_of_row _ w.heap.size j cs 5 f (heap_alloc_new w _), h]
    simp [bs, hj]⟩⟩
theorem Nib.alloc {w : World} (h : Nib w) (o : Obj) : Nib (w.alloc o) := h.below ((Below.refl _ _).alloc (Nat.le_refl _) o)

theorem conv_own {w : World} {B : Nat} {A : Option Addr} {n c : Nat} {l : List UInt8} (h : w.ownsRow B 5 1 (.slice A n c) n (bs l)) :
    (convert 31 9 (.slice A n c)).run Tryd.prog w = .ok (.string (strB l)) w := by
  obtain ⟨A', c', e, hb⟩ := own_bytes h
  cases e
  exact run_convert_bs hb c

end Go.Proofs.YteljopjaolegaaaDoor
