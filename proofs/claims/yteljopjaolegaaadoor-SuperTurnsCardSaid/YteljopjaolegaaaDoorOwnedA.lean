/-
  WHAT coffretlaw11.Owned keeps, in plain Lean: rows that are their owner's, and the list of all that has been written.
-/
import Derived.Test.YteljopjaolegaaaDoorGen
namespace Go.Proofs.YteljopjaolegaaaDoor
open Go.RowKit
set_option maxRecDepth 100000
set_option linter.unusedVariables false

theorem own_addr {w : World} {base : Nat} {e : TypeId} {v : Value} {n : Nat} {l : List UInt8} (h : w.ownsRow base e 1 v n (bs l)) :
    ∃ A c, v = .slice A n c ∧ n ≤ c ∧ Bs w A n l ∧ (∀ ad, A = some ad → v.ownBlock = some ad.block ∧ ad.block < w.heap.size ∧ base ≤ ad.block ∧ ad = ⟨ad.block, 0, none⟩) := by
  have hl : l.length = n := by have := h.1; rw [bs_length] at this; omega
  rcases h.2 with ⟨rfl, rfl⟩ | ⟨g, cap, cur, rfl, hb, hg, hn, hc, hs, ht⟩
  · obtain ⟨A, c, e1, hB⟩ := own_bytes h
    cases e1
    exact ⟨none, 0, rfl, Nat.le_refl _, hB, fun ad e => by cases e⟩
  · obtain ⟨A, c, e1, hB⟩ := own_bytes h
    cases e1
    exact ⟨_, cap, rfl, hn, hB, fun ad e => by cases e; exact ⟨rfl, lt_block hg, hb, rfl⟩⟩

theorem own_keep {w w' : World} {base : Nat} {e : TypeId} {s : Nat} {v : Value} {n : Nat} {xs : List Value} (h : w.ownsRow base e s v n xs) (hk : ∀ g, v.ownBlock = some g → w'.heap[g]? = w.heap[g]?) : w'.ownsRow base e s v n xs := by
  refine ⟨h.1, ?_⟩
  rcases h.2 with h2 | ⟨g, cap, cur, rfl, hb, hg, hn, hc, hs, ht⟩
  · exact .inl h2
  · exact .inr ⟨g, cap, cur, rfl, hb, by rw [hk g rfl]; exact hg, hn, hc, hs, ht⟩

theorem own_lt {w : World} {base : Nat} {e : TypeId} {s : Nat} {v : Value} {n : Nat} {xs : List Value} (h : w.ownsRow base e s v n xs) {g : Nat} (hg : v.ownBlock = some g) : base ≤ g ∧ g < w.heap.size := by
  rcases h.2 with ⟨rfl, _⟩ | ⟨g', cap, cur, rfl, hb, hg', hn, hc, hs, ht⟩
  · cases hg
  · cases hg; exact ⟨hb, lt_block hg'⟩

theorem own_set {w : World} {base : Nat} {e : TypeId} {g n c : Nat} {l : List UInt8} (h : w.ownsRow base e 1 (.slice (some ⟨g, 0, none⟩) n c) n (bs l)) {k : Nat} (hk : k < n) (x : UInt8) :
    (w.setCell ⟨g, k, none⟩ (.int .u8 (ub x))).ownsRow base e 1 (.slice (some ⟨g, 0, none⟩) n c) n (bs (l.set k x)) := by
  have hl : l.length = n := by have := h.1; rw [bs_length] at this; omega
  rcases h.2 with ⟨h0, _⟩ | ⟨g', cap, cur, hv, hb, hg, hn, hc, hs, ht⟩
  · cases h0
  · cases hv
    refine ⟨by simp [bs_length, hl], .inr ⟨g, c, cur.setIfInBounds k (.int .u8 (ub x)), rfl, hb, ?_, hn, hc, by simpa using hs, ?_⟩⟩
    · rw [heap_setCell_same w g k _ e _ hg]
    · rw [Array.toList_setIfInBounds, List.take_set, ht, bs, bs, List.map_set]

theorem own_cell {w : World} {base : Nat} {e : TypeId} {g n c : Nat} {l : List UInt8} (h : w.ownsRow base e 1 (.slice (some ⟨g, 0, none⟩) n c) n (bs l)) {k : Nat} {x : UInt8} (hx : l[k]? = some x) :
    w.cell? ⟨g, k, none⟩ = some (.int .u8 (ub x)) ∧ w.frozen? ⟨g, k, none⟩ = false := by
  have hl : l.length = n := by have := h.1; rw [bs_length] at this; omega
  have hk := (List.getElem?_eq_some_iff.1 hx).1
  rcases h.2 with ⟨h0, _⟩ | ⟨g', cap, cur, hv, hb, hg, hn, hc, hs, ht⟩
  · cases h0
  · cases hv
    refine ⟨?_, frozen_of_row w g k _ e hg⟩
    rw [cell_of_row w g k _ e (0, 0) hg]
    have : (cur.toList.take (n * 1))[k]? = some (.int .u8 (ub x)) := by rw [ht]; simp [bs, hx]
    rw [List.getElem?_take_of_lt (by omega)] at this
    simpa using this

/-! ### The mark of a row -/
def mark (j : Nat) : UInt8 := UInt8.ofNat (1 + j % 250)
theorem mark_ub (j : Nat) : ub (mark j) = 1 + (j : Int) % 250 := by
  unfold ub mark
  rw [UInt8.toNat_ofNat']
  omega

/-- An entry of the list 'long': it reads as its mark, and lies in no block that may yet turn. -/
def Ent (w : World) (L : Nat → Prop) (x : Value) (n : Nat) (c : UInt8) : Prop :=
  ∃ A cp, x = .slice A n cp ∧ n ≤ cp ∧ Bs w A n (List.replicate n c) ∧ ∀ ad, A = some ad → ad.block < w.heap.size ∧ ¬ L ad.block
theorem Ent.step {w w' : World} {L S L' : Nat → Prop} {x : Value} {n : Nat} {c : UInt8} (h : Ent w L x n c) (hx : Ext S w w') (hs : ∀ k, k < w.heap.size → S k → L k) (hl : ∀ k, k < w.heap.size → L' k → L k) : Ent w' L' x n c := by
  obtain ⟨A, cp, e, hn, hb, ha⟩ := h
  exact ⟨A, cp, e, hn, hb.ext hx (fun ad e1 hsd => (ha ad e1).2 (hs _ (ha ad e1).1 hsd)), fun ad e1 => ⟨Nat.lt_of_lt_of_le (ha ad e1).1 hx.size, fun h1 => (ha ad e1).2 (hl _ (ha ad e1).1 h1)⟩⟩

/-- The rows as they came. -/
structure Came (w : World) (base gr : Nat) (vs : List Value) (ls : List (List UInt8)) : Prop where
  len : ls.length = vs.length
  own : ∀ (j : Nat) (v : Value) (l : List UInt8), vs[j]? = some v → ls[j]? = some l → w.ownsRow base 5 1 v l.length (bs l)
  apart : ∀ (i j : Nat) (v v' : Value) (g : Nat), i ≠ j → vs[i]? = some v → vs[j]? = some v' → v.ownBlock = some g → v'.ownBlock ≠ some g
  off : ∀ (j : Nat) (v : Value), vs[j]? = some v → v.ownBlock ≠ some gr
  short : ∀ (j : Nat) (l : List UInt8), ls[j]? = some l → l.length ≤ 1099511627776

def Live (vs : List Value) (gr : Nat) (long : Value) (i : Nat) (k : Nat) : Prop := k = gr ∨ long.ownBlock = some k ∨ ∃ (j : Nat) (v : Value), i ≤ j ∧ vs[j]? = some v ∧ v.ownBlock = some k

/-- What holds when i rows are done. -/
structure OI (w : World) (base gr : Nat) (vs rR : List Value) (ls : List (List UInt8)) (i : Nat) (wr : World) (long : Value) (longs : List Value) : Prop where
  below : Below base w wr
  big : base ≤ wr.heap.size
  gb : base ≤ gr
  row : wr.heap[gr]? = some (.cells (vs ++ rR).toArray 31 (0, 0))
  own : wr.ownsRow base 31 1 long (2 * i) longs
  rest : ∀ (j : Nat) (v : Value) (l : List UInt8), i ≤ j → vs[j]? = some v → ls[j]? = some l → wr.ownsRow base 5 1 v l.length (bs l)
  lr : long.ownBlock ≠ some gr
  lv : ∀ (j : Nat) (v : Value) (g : Nat), vs[j]? = some v → v.ownBlock = some g → long.ownBlock ≠ some g
  done : ∀ (j : Nat) (l : List UInt8), j < i → ls[j]? = some l → ∃ (x y : Value), longs[2 * j]? = some x ∧ longs[2 * j + 1]? = some y ∧ Ent wr (Live vs gr long i) x (l.length + 9) (mark j) ∧ Ent wr (Live vs gr long i) y l.length (mark j)

theorem OI.len {w : World} {base gr : Nat} {vs rR : List Value} {ls : List (List UInt8)} {i : Nat} {wr : World} {long : Value} {longs : List Value} (h : OI w base gr vs rR ls i wr long longs) : longs.length = 2 * i := by
  have := h.own.1; omega

theorem OI.next {w : World} {base gr : Nat} {vs rR : List Value} {ls : List (List UInt8)} {i : Nat} {wi wb wc : World} {long long' : Value} {longs : List Value} {v G : Value} {l : List UInt8}
    (hc : Came w base gr vs ls) (h : OI w base gr vs rR ls i wi long longs) (hv : vs[i]? = some v) (hl : ls[i]? = some l)
    (hx : Ext (fun k => v.ownBlock = some k) wi wb) (hG : wb.ownsRow base 5 1 G (l.length + 9) (bs (List.replicate (l.length + 9) (mark i))))
    (hGb : G.ownBlock = v.ownBlock ∨ ∃ g, G.ownBlock = some g ∧ wi.heap.size ≤ g)
    (hvb : ∃ A c, v = .slice A l.length c ∧ l.length ≤ c ∧ Bs wb A l.length (List.replicate l.length (mark i)) ∧ ∀ ad, A = some ad → v.ownBlock = some ad.block ∧ ad.block < wi.heap.size ∧ ad = ⟨ad.block, 0, none⟩)
    (hL : wc.ownsRow base 31 1 long' (2 * i + 2) (longs ++ [G, v])) (hg : wb.grownBy wc long.ownBlock) (hlie : Lies wb wc long long') :
    OI w base gr vs rR ls (i + 1) wc long' (longs ++ [G, v]) := by
  have hlen := h.len
  have ho := h.rest i v l (Nat.le_refl _) hv hl
  have hxc : Ext (fun k => v.ownBlock = some k ∨ long.ownBlock = some k) wi wc := by
    refine ⟨hg.os.trans hx.os, hg.tape.trans hx.tape, hg.output.trans hx.output, Nat.le_trans hx.size hg.size, fun k hk hn => ?_⟩
    rw [hg.block k (Nat.lt_of_lt_of_le hk hx.size) (fun e => hn (.inr e.symm)), hx.block k hk (fun e => hn (.inl e))]
  have hgr : gr < wi.heap.size := lt_block h.row
  have hll : ∀ k, k < wi.heap.size → long'.ownBlock = some k → long.ownBlock = some k := by
    intro k hk e
    rcases hlie with e1 | ⟨g, e1, hge, _⟩
    · rw [← e1]; exact e
    · rw [e1] at e; cases e; exact absurd (Nat.lt_of_lt_of_le hk hx.size) (by omega)
  have hll2 : ∀ k, k < wb.heap.size → long'.ownBlock = some k → long.ownBlock = some k := by
    intro k hk e
    rcases hlie with e1 | ⟨g, e1, hge, _⟩
    · rw [← e1]; exact e
    · rw [e1] at e; cases e; omega
  have hkeepb : ∀ k, k < wi.heap.size → v.ownBlock ≠ some k → long.ownBlock ≠ some k → wc.heap[k]? = wi.heap[k]? := fun k hk h1 h2 => hxc.block k hk (fun e => e.elim h1 h2)
  refine ⟨?_, ?_, h.gb, ?_, ?_, ?_, ?_, ?_, ?_⟩
  · refine h.below.trans (hxc.below h.big fun k hk e => ?_)
    rcases e with e | e
    · have := (own_lt ho e).1; omega
    · have := (own_lt h.own e).1; omega
  · exact Nat.le_trans h.big hxc.size
  · rw [hkeepb gr hgr (hc.off i v hv) h.lr]; exact h.row
  · exact hL
  · intro j v' l' hj hv' hl'
    refine own_keep (h.rest j v' l' (by omega) hv' hl') fun g hg' => ?_
    have hb := own_lt (h.rest j v' l' (by omega) hv' hl') hg'
    exact hkeepb g hb.2 (fun e => hc.apart i j v v' g (by omega) hv hv' e hg') (h.lv j v' g hv' hg')
  · intro e
    exact h.lr (hll gr hgr e)
  · intro j v' g hv' hg' e
    by_cases hj : i ≤ j
    · obtain ⟨l', hl'⟩ : ∃ l', ls[j]? = some l' := ⟨_, List.getElem?_eq_getElem (by rw [hc.len]; exact (List.getElem?_eq_some_iff.1 hv').1)⟩
      have hb := own_lt (h.rest j v' l' hj hv' hl') hg'
      exact h.lv j v' g hv' hg' (hll g hb.2 e)
    · obtain ⟨l', hl'⟩ : ∃ l', ls[j]? = some l' := ⟨_, List.getElem?_eq_getElem (by rw [hc.len]; exact (List.getElem?_eq_some_iff.1 hv').1)⟩
      have hb := own_lt (hc.own j v' l' hv' hl') hg'
      exact h.lv j v' g hv' hg' (hll g (Nat.lt_of_lt_of_le hb.2 h.below.size) e)
  · intro j l' hj hl'
    by_cases hji : j < i
    · obtain ⟨x, y, h1, h2, h3, h4⟩ := h.done j l' hji hl'
      have hs : ∀ k, k < wi.heap.size → (v.ownBlock = some k ∨ long.ownBlock = some k) → Live vs gr long i k := by
        intro k _ e
        rcases e with e | e
        · exact .inr (.inr ⟨i, v, Nat.le_refl _, hv, e⟩)
        · exact .inr (.inl e)
      have hl2 : ∀ k, k < wi.heap.size → Live vs gr long' (i + 1) k → Live vs gr long i k := by
        intro k hk e
        rcases e with e | e | ⟨j, v', hj, hv', e⟩
        · exact .inl e
        · exact .inr (.inl (hll k hk e))
        · exact .inr (.inr ⟨j, v', by omega, hv', e⟩)
      exact ⟨x, y, by rw [List.getElem?_append_left (by omega)]; exact h1, by rw [List.getElem?_append_left (by omega)]; exact h2, h3.step hxc hs hl2, h4.step hxc hs hl2⟩
    · have e : j = i := by omega
      subst e
      cases hl.symm.trans hl'
      have hgn : Ext (fun k => long.ownBlock = some k) wb wc := Ext.of_grown hg (fun k e => e)
      have hdead : ∀ k, k < wb.heap.size → (k < wi.heap.size → v.ownBlock = some k) → ¬ Live vs gr long' (j + 1) k := by
        intro k hk hkv e
        rcases e with e | e | ⟨t, v', ht, hv', e⟩
        · subst e; exact hc.off j v hv (hkv hgr)
        · have e2 := hll2 k hk e
          have hb := own_lt h.own e2
          exact h.lv j v k hv (hkv hb.2) e2
        · obtain ⟨l', hl'⟩ : ∃ l', ls[t]? = some l' := ⟨_, List.getElem?_eq_getElem (by rw [hc.len]; exact (List.getElem?_eq_some_iff.1 hv').1)⟩
          have hb := own_lt (h.rest t v' l' (by omega) hv' hl') e
          exact hc.apart j t v v' k (by omega) hv hv' (hkv hb.2) e
      have hnl : ∀ k, (k < wi.heap.size → v.ownBlock = some k) → long.ownBlock ≠ some k := by
        intro k hkv e2
        have hb := own_lt h.own e2
        exact h.lv j v k hv (hkv hb.2) e2
      refine ⟨G, v, by rw [List.getElem?_append_right (by omega), hlen, Nat.sub_self]; rfl, by rw [List.getElem?_append_right (by omega), hlen, show 2 * j + 1 - 2 * j = 1 by omega]; rfl, ?_, ?_⟩
      · obtain ⟨A, c, e1, hn, hB, ha⟩ := own_addr hG
        have hkv : ∀ ad, A = some ad → (ad.block < wi.heap.size → v.ownBlock = some ad.block) := by
          intro ad e2 hlt
          have h1 := (ha ad e2).1
          rcases hGb with h3 | ⟨g, h3, hge⟩
          · rw [← h3]; exact h1
          · rw [h3] at h1; cases h1; omega
        exact ⟨A, c, e1, hn, hB.ext hgn (fun ad e2 => hnl _ (hkv ad e2)), fun ad e2 => ⟨Nat.lt_of_lt_of_le (ha ad e2).2.1 hgn.size, hdead _ (ha ad e2).2.1 (hkv ad e2)⟩⟩
      · obtain ⟨A, c, e1, hn, hB, ha⟩ := hvb
        have hkv : ∀ ad, A = some ad → (ad.block < wi.heap.size → v.ownBlock = some ad.block) := fun ad e2 _ => (ha ad e2).1
        exact ⟨A, c, e1, hn, hB.ext hgn (fun ad e2 => hnl _ (hkv ad e2)), fun ad e2 => ⟨Nat.lt_of_lt_of_le (ha ad e2).2.1 (Nat.le_trans hx.size hgn.size), hdead _ (Nat.lt_of_lt_of_le (ha ad e2).2.1 hx.size) (hkv ad e2)⟩⟩

/-- While nine marks are appended. -/
structure GI (wi : World) (base : Nat) (v : Value) (n : Nat) (c : UInt8) (k : Nat) (wr : World) (G : Value) : Prop where
  own : wr.ownsRow base 5 1 G (n + k) (bs (List.replicate (n + k) c))
  lies : G.ownBlock = v.ownBlock ∨ ∃ g, G.ownBlock = some g ∧ wi.heap.size ≤ g
  ext : Ext (fun k => v.ownBlock = some k) wi wr
  old : ∃ A cp, v = .slice A n cp ∧ n ≤ cp ∧ Bs wr A n (List.replicate n c) ∧ ∀ ad, A = some ad → v.ownBlock = some ad.block ∧ ad.block < wi.heap.size ∧ ad = ⟨ad.block, 0, none⟩

theorem GI.next {wi : World} {base : Nat} {v : Value} {n : Nat} {c : UInt8} {k : Nat} {wr w9 : World} {G v' : Value} (h : GI wi base v n c k wr G)
    (ho : w9.ownsRow base 5 1 v' (n + k + 1) (bs (List.replicate (n + k) c) ++ [.int .u8 (ub c)])) (hg : wr.grownBy w9 G.ownBlock) (hl : Lies wr w9 G v') : GI wi base v n c (k + 1) w9 v' := by
  have ho2 : w9.ownsRow base 5 1 v' (n + k + 1) (bs (List.replicate (n + k + 1) c)) := by
    rw [List.replicate_succ', bs_append]; exact ho
  refine ⟨ho2, ?_, ?_, ?_⟩
  · rcases hl with e | ⟨g, e, hge, _⟩
    · rw [e]; exact h.lies
    · exact .inr ⟨g, e, Nat.le_trans h.ext.size hge⟩
  · refine h.ext.step (T := fun k => G.ownBlock = some k) (Ext.of_grown hg (fun k e => e)) fun i hi e => ?_
    rcases h.lies with e1 | ⟨g, e1, hge⟩
    · rw [← e1]; exact e
    · rw [e1] at e; cases e; omega
  · obtain ⟨A, cp, e1, hn, hB, ha⟩ := h.old
    refine ⟨A, cp, e1, hn, ?_, ha⟩
    have hkeep : (∀ ad, A = some ad → G.ownBlock ≠ some ad.block) → Bs w9 A n (List.replicate n c) := fun hne =>
      hB.ext (Ext.of_grown (S := fun k => G.ownBlock = some k) hg (fun k e => e)) (fun ad e => hne ad e)
    cases A with
    | none => exact hkeep (fun ad e => by cases e)
    | some ad =>
      rcases h.lies with e2 | ⟨g, e2, hge⟩
      · rcases hl with e3 | ⟨g, e3, hge, hg0⟩
        · have hvb := (ha ad rfl).1
          have e4 : v'.ownBlock = some ad.block := by rw [e3, e2]; exact hvb
          obtain ⟨A', c', e5, _, hB', ha'⟩ := own_addr ho2
          have had := (ha ad rfl).2.2
          have hA' : A' = some ⟨ad.block, 0, none⟩ := by
            cases A' with
            | none => rw [e5] at e4; cases e4
            | some ad' =>
              have h1 := ha' ad' rfl
              rw [e4] at h1
              have h2 := Option.some.inj h1.1
              rw [h1.2.2.2, h2]
          rw [had, ← hA']
          have := hB'.head n (by omega)
          rw [List.take_replicate, Nat.min_eq_left (by omega)] at this
          exact this
        · exact hB.below ((Below.refl _ _).grown hg0 (Nat.le_refl _) (fun k e => by cases e))
      · exact hkeep (fun ad' e => by cases e; rw [e2]; intro e5; cases e5; have := (ha ad rfl).2.1; omega)

end Go.Proofs.YteljopjaolegaaaDoor
