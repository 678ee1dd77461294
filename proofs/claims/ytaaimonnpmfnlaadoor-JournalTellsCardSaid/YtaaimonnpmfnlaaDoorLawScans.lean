/-
  THE WALK of coffretlaw15.JournalScans.
-/
import Derived.Test.YtaaimonnpmfnlaaDoorLawFrames
namespace Go.Proofs.YtaaimonnpmfnlaaDoor
open Go.RowKit
set_option maxRecDepth 100000
set_option linter.unusedVariables false

theorem scanFrom_short (s : List UInt8) (e : Nat) (n : Nat) : ∀ E c, s.length + 20 ≤ E + n → ∀ r ∈ (scanFrom s e E c).1, r.length ≤ 1099511627776 := by
  induction n with
  | zero =>
    intro E c h r hr
    have hc := nextOf_cases (s.drop (beginsOf E)) e c
    have hg := beginsOf_ge E
    rw [List.length_drop] at hc
    rw [scanFrom_no (by omega)] at hr
    cases hr
  | succ n ih =>
    intro E c h r hr
    by_cases h0 : nextOf (s.drop (beginsOf E)) e c = 0
    · rw [scanFrom_no h0] at hr
      cases hr
    · have hc := nextOf_cases (s.drop (beginsOf E)) e c
      have hg := beginsOf_ge E
      rw [scanFrom_yes h0] at hr
      rcases List.mem_cons.1 hr with rfl | hr
      · rw [List.length_take]; omega
      · exact ih _ _ (by omega) r hr
theorem scanZ_short (l : List UInt8) (e : Int) : ∀ r ∈ (scanZ l e).1, r.length ≤ 1099511627776 := by
  intro r hr
  rw [scanZ] at hr
  split at hr
  · exact scanFrom_short _ _ ((streamOf l e.toNat).length + 20) 0 0 (by omega) r hr
  · cases hr

/-- A row of values of one cell, behind a slice of such. -/
theorem wpList_append_vals {P : Program} {w : World} {ops : Array Oper} {rest : List Oper} {o : Oper} {a : Act} {Q : Exit → Act → World → Prop} (hgd : o.guard = none) (s x : Operand) (t : TypeId)
    (ho : o.op = .call { callee := .builtin .append, args := #[s, x], argTypes := #[t, t] })
    (base : Nat) (e : TypeId) (z : Value) (bytes : Nat) (ht : P.underlying t = some (.slice e)) (hinfo : (P.info? e).map (fun i => (i.zero, i.size, i.bytes)) = some (some z, 1, bytes)) (hzs : z.cells.size = 1)
    (v : Value) (n : Nat) (xs : List Value) (hs : a.eval s = v) (hown : w.ownsRow base e 1 v n xs)
    (A : Option Addr) (m c : Nat) (us : List Value) (hx : a.eval x = .slice A m c) (hl : us.length = m) (hb : ∀ j u, us[j]? = some u → ∃ ad, A = some ad ∧ w.cell? (ad.add j) = some u) (h1 : ∀ u ∈ us, u.oneCell' = true)
    (h63 : n + m ≤ maxLen) (hbytes : (n + m) * bytes ≤ 140737488355328) (hbase : base ≤ w.heap.size)
    (h : ∀ v' w', w'.ownsRow base e 1 v' (n + m) (xs ++ us) → w.grownBy w' v.ownBlock → Lies w w' v v' → (m = 0 → v' = v) → wpList P ops Q rest (a.put o.dst v') w') : wpList P ops Q (o :: rest) a w := by
  obtain ⟨i, hi, _, hsize, _⟩ := info_parts hinfo
  by_cases h0 : m = 0
  · subst h0
    have hl : us = [] := List.eq_nil_of_length_eq_zero hl
    subst hl
    have hrun : (Builtin.append_ #[t, t] o.type #[v, .slice A 0 c]).run P w = .ok v w := by
      cases A <;> rcases hown.2 with ⟨rfl, rfl⟩ | ⟨g, cap, cur, rfl, _, _, hnc, _⟩
      · simp [Builtin.append_, run_underlying ht, sizeOf, typeInfo, hi, Builtin.lenOf, Builtin.firstCells]
      · simp [Builtin.append_, run_underlying ht, sizeOf, typeInfo, hi, Builtin.lenOf, Builtin.firstCells, hnc, storeCells]
      · simp [Builtin.append_, run_underlying ht, sizeOf, typeInfo, hi, Builtin.lenOf, Builtin.firstCells, loadCells, loadCellsFrom]
      · simp [Builtin.append_, run_underlying ht, sizeOf, typeInfo, hi, Builtin.lenOf, Builtin.firstCells, hnc, storeCells, loadCells, loadCellsFrom]
    refine wpList_plain hgd fun K hK => ?_
    unfold Oper.wp
    simp [execOp, ho, resolve, invoke, builtin, hs, hx, hrun, Result.andThen]
    exact hK _ _ (h v w (by simpa using hown) (World.grownBy.refl _ _) (Lies.refl _ _ _) (fun _ => rfl))
  · obtain ⟨u0, hu0⟩ : ∃ u, us[0]? = some u := ⟨_, List.getElem?_eq_getElem (by omega)⟩
    obtain ⟨ad, rfl, _⟩ := hb 0 u0 hu0
    refine wpList_append_lie hgd s x t ho base e z 1 bytes ht hinfo hzs (by decide) v n xs hs hown ad m c us hx (by rw [hl, Nat.mul_one]) ?_ h1 h63 hbytes hbase (fun v' w' a1 a2 a3 => h v' w' a1 a2 a3 (fun e => absurd e h0))
    intro j u hu
    obtain ⟨ad', e', hc⟩ := hb j u hu
    cases e'
    exact hc

theorem owned_none (w : World) : Calls Tryd.prog 14 #[.slice none 0 0] w fun e w' => e = .returned (.bool true) ∧ w = w' := by
  go_enter Tryd.func14, Tryd.ntmps14
  go_wp2_with fail
  go_loopw [3, 4] (fun long ix wr => ix = .int .i64 0 ∧ long = .slice none 0 0 ∧ wr = w) (fun _ ix _ => (intOf ix).toNat)
  case atStart => exact ⟨rfl, rfl, rfl⟩
  case round =>
    obtain ⟨rfl, rfl, rfl⟩ := hrel
    go_wp2_with fail
    go_loopw [9] (fun ix wx => ix = .int .i64 0 ∧ wx = wr) (fun ix _ => (intOf ix).toNat)
    case atStart => exact ⟨rfl, rfl⟩
    case round =>
      obtain ⟨rfl, rfl⟩ := hrel
      go_wp2_with fail
      go_ret
      exact ⟨rfl, rfl⟩

theorem Recs.one {w : World} {base : Nat} {v : Value} {vs : List Value} {ls : List (List UInt8)} (h : Recs w base v vs ls) : ∀ u ∈ vs, u.oneCell' = true := by
  intro u hu
  obtain ⟨j, hj, rfl⟩ := List.getElem_of_mem hu
  have hj2 : j < ls.length := by rw [h.len]; exact hj
  obtain ⟨A, c, e, _⟩ := own_slice (h.own j vs[j] ls[j] (List.getElem?_eq_getElem hj) (List.getElem?_eq_getElem hj2))
  rw [e]; rfl

/-- Two lists of records, one behind the other. -/
theorem Recs.came {w w' : World} {base gr : Nat} {v v' : Value} {vs vs' : List Value} {ls ls' : List (List UInt8)} {M : Nat} (h : Recs w base v vs ls) (h' : Recs w base v' vs' ls')
    (hM : ∀ (j : Nat) (u : Value) (g : Nat), vs[j]? = some u → u.ownBlock = some g → g < M) (hM' : ∀ (j : Nat) (u : Value) (g : Nat), vs'[j]? = some u → u.ownBlock = some g → M ≤ g)
    (hw : Below w.heap.size w w') (hgr : w.heap.size ≤ gr) (hs : ∀ r ∈ ls, r.length ≤ 1099511627776) (hs' : ∀ r ∈ ls', r.length ≤ 1099511627776) : Came w' base gr (vs ++ vs') (ls ++ ls') := by
  have hlt : ∀ (j : Nat) (u : Value) (g : Nat), (vs ++ vs')[j]? = some u → u.ownBlock = some g → g < w.heap.size := by
    intro j u g hu hg
    by_cases hj : j < vs.length
    · rw [List.getElem?_append_left hj] at hu; exact (h.lt hu hg).2
    · rw [List.getElem?_append_right (by omega)] at hu; exact (h'.lt hu hg).2
  refine ⟨by simp [h.len, h'.len], ?_, ?_, ?_, ?_⟩
  · intro j u l hu hl
    by_cases hj : j < vs.length
    · rw [List.getElem?_append_left hj] at hu
      rw [List.getElem?_append_left (by rw [h.len]; exact hj)] at hl
      exact own_below (h.own j u l hu hl) hw
    · rw [List.getElem?_append_right (by omega)] at hu
      rw [List.getElem?_append_right (by rw [h.len]; omega), h.len] at hl
      exact own_below (h'.own _ u l hu hl) hw
  · intro i j u u' g hij hu hu' hg hg'
    by_cases hi : i < vs.length
    · rw [List.getElem?_append_left hi] at hu
      by_cases hj : j < vs.length
      · rw [List.getElem?_append_left hj] at hu'
        exact h.apart i j u u' g hij hu hu' hg hg'
      · rw [List.getElem?_append_right (by omega)] at hu'
        have := hM i u g hu hg
        have := hM' _ u' g hu' hg'
        omega
    · rw [List.getElem?_append_right (by omega)] at hu
      by_cases hj : j < vs.length
      · rw [List.getElem?_append_left hj] at hu'
        have := hM j u' g hu' hg'
        have := hM' _ u g hu hg
        omega
      · rw [List.getElem?_append_right (by omega)] at hu'
        exact h'.apart _ _ u u' g (by omega) hu hu' hg hg'
  · intro j u hu e
    have := hlt j u gr hu e
    omega
  · intro j l hl
    have hm := List.mem_of_getElem? hl
    rcases List.mem_append.1 hm with hm | hm
    · exact hs l hm
    · exact hs' l hm

theorem scans_owned {w8 w10 : World} {b2 M : Nat} {v v' vb : Value} {vs vs' : List Value} {ls : List (List UInt8)} (X : Recs w8 b2 v vs ls) (Y : Recs w8 b2 v' vs' ls)
    (hM : ∀ (j : Nat) (u : Value) (g : Nat), vs[j]? = some u → u.ownBlock = some g → g < M) (hM' : ∀ (j : Nat) (u : Value) (g : Nat), vs'[j]? = some u → u.ownBlock = some g → M ≤ g)
    (hb2 : b2 ≤ w8.heap.size) (hw : Below w8.heap.size w8 w10) (hv : vs.length ≤ 2147483648) (hv' : vs'.length ≤ 2147483648) (hs : ∀ r ∈ ls, r.length ≤ 1099511627776)
    (hnil : vs.length = 0 → vs'.length = 0 → vb = .slice none 0 0) (ho : w10.ownsRow w8.heap.size 22 1 vb (vs.length + vs'.length) (vs ++ vs')) :
    Calls Tryd.prog 14 #[vb] w10 fun e w' => e = .returned (.bool true) ∧ Below b2 w10 w' := by
  have e1 := X.len
  have e2 := Y.len
  by_cases h0 : vs.length = 0
  · rw [hnil h0 (by omega)]
    exact (owned_none w10).mono fun e w' h => ⟨h.1, by rw [← h.2]; exact Below.refl _ _⟩
  · rcases ho.2 with ⟨_, hz⟩ | ⟨g, cap, cur, rfl, hb, hg, hn, hc, hcs, ht⟩
    · omega
    · rw [Nat.mul_one] at ht
      refine owned_any b2 g cap (vs.length + vs'.length) (vs ++ vs') (cur.toList.drop (vs.length + vs'.length)) (ls ++ ls) w10 (X.came Y hM hM' hw hb hs hs) (Nat.le_trans hb2 hb) ?_ (Nat.le_trans hb2 hw.size) (by simp) (by omega)
      rw [hg, ← ht, List.take_append_drop]

set_option maxHeartbeats 4000000 in
theorem journalScans_any (ez : Int) (A : Option Addr) (n c : Nat) (l : List UInt8) (w : World) (hN : Nib w) (h : Bs w A n l) (hc : n ≤ c) (hm : n ≤ 140737488351232) (hlt : ∀ ad, A = some ad → ad.block < w.heap.size) :
    Calls Tryd.prog 4 #[.slice A n c, .int .i64 ez] w fun e w' => e = .returned (.bool true) ∧ Below w.heap.size w w' := by
  have HN := Lib.hid hN
  have Hm := Lib.hid hm
  have Hinfo := Lib.hid info_row2
  obtain ⟨B, hB⟩ : ∃ B, B = w.heap.size := ⟨_, rfl⟩
  have HBl : Hid (∀ wx, Below B w wx → B ≤ wx.heap.size) := Lib.hid (fun wx h => by rw [hB]; exact h.size)
  have Hlow : Hid (∀ wx, Below B w wx → Below w.heap.size w wx) := Lib.hid (fun wx h => by rw [← hB]; exact h)
  have Hup : Hid (∀ wx, Below w.heap.size w wx → Below B w wx) := Lib.hid (fun wx h => by rw [hB]; exact h)
  have K : Hid (∀ wx, Below B w wx → Bs wx A n l) := Lib.hid (fun wx hx => h.below (Hlow.out _ hx))
  have KN : Hid (∀ wx, Below B w wx → Nib wx) := Lib.hid (fun wx hx => hN.below (Hlow.out _ hx))
  have HAB : Hid (∀ ad, A = some ad → ad.block < B) := Lib.hid (fun ad e => by rw [hB]; exact hlt ad e)
  have HL := Lib.hid h.len
  have HLm := Lib.hid h.max
  obtain ⟨T, hT⟩ : ∃ T, T = scanZ l ez := ⟨_, rfl⟩
  have HTs : Hid (∀ r ∈ T.1, r.length ≤ 1099511627776) := Lib.hid (by rw [hT]; exact scanZ_short l ez)
  have CS : Hid (∀ wx Ax, Below B w wx → Bs wx Ax n l → Calls Tryd.prog 15 #[.slice Ax n (n + 3), .int .i64 ez] wx fun r w' => ∃ v vs, r = .returned (.tuple #[v, .int .i64 (T.2 : Nat)]) ∧ Recs w' wx.heap.size v vs T.1 ∧ Hid (vs.length ≤ 2147483648) ∧ Below wx.heap.size wx w') := Lib.hid (fun wx Ax hb hl => by
    rw [hT]; exact scan_any Ax n (n + 3) ez l wx (KN.out _ hb) hl (by omega) (by omega))
  have CR : Hid (∀ wx, Below B w wx → Calls Tryd.prog 16 #[.slice A n c, .int .i64 ez] wx fun r w' => ∃ v vs, r = .returned (.tuple #[v, .int .i64 (T.2 : Nat)]) ∧ Recs w' wx.heap.size v vs T.1 ∧ Hid (vs.length ≤ 2147483648) ∧ Below wx.heap.size wx w') := Lib.hid (fun wx hb => by
    rw [hT]; exact rscan_any A n c ez l wx (K.out _ hb) hc (by omega))
  clear hN hB h hlt hT hm hc
  go_enter Tryd.func4, Tryd.ntmps4
  go_wp2_with (first
    | (go_at_call 9; refine (awake15 _ HN.out).mono ?_; rintro e w1 ⟨rfl, hb⟩; have G1 := Lib.hid (Hup.out _ hb); clear hb HN)
    | (go_at_call 10; refine (lent_any A n c l w1 (K.out _ G1.out) Hm.out).mono ?_; rintro e w2 ⟨rfl, hg, hb⟩; have HI2 := Lib.hid hg; have L2 := Lib.hid (lent_bs HL.out HLm.out hg); have G2 : Hid (Below B w w2) := Lib.hid (G1.out.trans (hb.mono (HBl.out _ G1.out))); obtain ⟨gl, hgl⟩ : ∃ g, g = w1.heap.size := ⟨_, rfl⟩; have Hgl : Hid (B ≤ gl ∧ gl < w2.heap.size) := Lib.hid ⟨by rw [hgl]; exact HBl.out _ G1.out, by rw [hgl]; exact lt_block hg⟩; rw [← hgl] at HI2 L2 ⊢; clear hg hb hgl)
    | (go_at_call 15; (with_reducible refine (CS.out w2 _ G2.out L2.out).mono ?_); rintro e w3 ⟨v, vs, rfl, hr, hv, hb⟩; have G3 : Hid (Below B w w3) := Lib.hid (G2.out.trans (hb.mono (HBl.out _ G2.out))); obtain ⟨Ax, cx, rfl, hcx, -⟩ := hr.rows; have X3 := Lib.hid hr; have Hcx := Lib.hid hcx; have Hv := hv; have HI3 := Lib.hid ((hb.block gl Hgl.out.2).trans HI2.out); have L3 := Lib.hid (L2.out.below hb); have S3 : Hid (w2.heap.size ≤ w3.heap.size) := Lib.hid hb.size; clear hr hb hcx hv)
    | (go_at_call 15; (with_reducible refine (CS.out w3 _ G3.out L3.out).mono ?_); rintro e w4 ⟨v, vs', rfl, hr, hv, hb⟩; have G4 : Hid (Below B w w4) := Lib.hid (G3.out.trans (hb.mono (HBl.out _ G3.out))); obtain ⟨Ay, cy, rfl, hcy, -⟩ := hr.rows; have Y4 := Lib.hid (hr.mono S3.out); have X4 := Lib.hid (X3.out.below hb); have Hcy := Lib.hid hcy; have Hv' := hv; have MX : Hid (∀ (j : Nat) (u : Value) (g : Nat), vs[j]? = some u → u.ownBlock = some g → g < w3.heap.size) := Lib.hid (fun j u g a1 a2 => (X3.out.lt a1 a2).2); have MY : Hid (∀ (j : Nat) (u : Value) (g : Nat), vs'[j]? = some u → u.ownBlock = some g → w3.heap.size ≤ g) := Lib.hid (fun j u g a1 a2 => (hr.lt a1 a2).1); have HI4 := Lib.hid ((hb.block gl (lt_block HI3.out)).trans HI3.out); have S4 : Hid (w2.heap.size ≤ w4.heap.size) := Lib.hid (Nat.le_trans S3.out hb.size); clear hr hb hcy hv)
    | (go_at_call 12; refine (back_any A n c gl l w4 (K.out _ G4.out) Hm.out HI4.out (fun ad e => Nat.ne_of_lt (Nat.lt_of_lt_of_le (HAB.out ad e) Hgl.out.1))).mono ?_; rintro e w5 ⟨rfl, hg⟩; have G5 : Hid (Below B w w5) := Lib.hid (G4.out.grown hg (HBl.out _ G4.out) (fun i hi => by cases hi; exact Hgl.out.1)); have X5 := Lib.hid (X4.out.grown hg Hgl.out.2); have Y5 := Lib.hid (Y4.out.grown hg Hgl.out.2); have S5 : Hid (w2.heap.size ≤ w5.heap.size) := Lib.hid (Nat.le_trans S4.out hg.size); clear hg)
    | (go_at_call 16; (with_reducible refine (CR.out w5 G5.out).mono ?_); rintro e w6 ⟨q, vq, rfl, hr, hv, hb⟩; have G6 : Hid (Below B w w6) := Lib.hid (G5.out.trans (hb.mono (HBl.out _ G5.out))); obtain ⟨Aq, cq, rfl, hcq, hqr⟩ := hr.rows; have X6 := Lib.hid (X5.out.below hb); have Y6 := Lib.hid (Y5.out.below hb); have S6 : Hid (w2.heap.size ≤ w6.heap.size) := Lib.hid (Nat.le_trans S5.out hb.size); have CA : Hid (∀ wx : World, wx.heap = w6.heap → Calls Tryd.prog 17 #[.slice Ax vs.length cx, .slice Aq vq.length cq] wx fun r w' => r = .returned (.bool true) ∧ ∃ k, w' = wx.drewN k) := Lib.hid (fun wx he => by obtain ⟨A1, c1, e1, h1, hrx⟩ := X6.out.rows; cases e1; have := same_any Ax Aq _ _ cx cq T.1 T.1 wx (hrx.heap he) (hqr.heap he) h1 hcq; rw [decide_eq_true rfl] at this; exact this); have CB : Hid (∀ wx : World, wx.heap = w6.heap → Calls Tryd.prog 17 #[.slice Ay vs'.length cy, .slice Aq vq.length cq] wx fun r w' => r = .returned (.bool true) ∧ ∃ k, w' = wx.drewN k) := Lib.hid (fun wx he => by obtain ⟨A1, c1, e1, h1, hrx⟩ := Y6.out.rows; cases e1; have := same_any Ay Aq _ _ cy cq T.1 T.1 wx (hrx.heap he) (hqr.heap he) h1 hcq; rw [decide_eq_true rfl] at this; exact this); clear hr hb hcq hqr hv X3 X4 X5 Y4 Y5 HI2 HI3 HI4 L2 L3)
    | (go_at_call 17; (with_reducible refine (CA.out w6 rfl).mono ?_); rintro r w7 ⟨rfl, k7, hk⟩; have H7 : Hid (w7.heap = w6.heap) := Lib.hid (by rw [hk]; rfl); have E7 : Hid (Below w6.heap.size w6 w7) := Lib.hid (by rw [hk]; exact below_drewN (Below.refl _ _) _); clear hk)
    | (go_at_call 17; (with_reducible refine (CB.out w7 H7.out).mono ?_); rintro r w8 ⟨rfl, k8, hk⟩; have E8 : Hid (Below w6.heap.size w6 w8) := Lib.hid (by rw [hk]; exact below_drewN E7.out _); have X8 := Lib.hid (X6.out.below E8.out); have Y8 := Lib.hid (Y6.out.below E8.out); have G8 : Hid (Below B w w8) := Lib.hid (G6.out.trans (E8.out.mono (HBl.out _ G6.out))); have S8 : Hid (w2.heap.size ≤ w8.heap.size) := Lib.hid (Nat.le_trans S6.out E8.out.size); clear hk)
    | (at_builtin; refine wpList_append_vals rfl _ _ 30 rfl w8.heap.size 22 (.slice none 0 0) 24 Tryd.underlying30 Hinfo.out rfl (.slice none 0 0) 0 [] rfl (World.ownsRow_nil _ _ _ _) Ax vs.length cx vs rfl rfl (by obtain ⟨A1, c1, e1, _, hcell⟩ := own_slice X8.out.outer; cases e1; exact hcell) X8.out.one (by have := Hv.out; simp only [maxLen]; omega) (by have := Hv.out; omega) (Nat.le_refl _) ?_; intro va w9 ho hg hla hnil; rw [Nat.zero_add, List.nil_append] at ho; have O9 := Lib.hid ho; have N9 := Lib.hid hnil; have E9 : Hid (Below w8.heap.size w8 w9) := Lib.hid ((Below.refl _ _).grown hg (Nat.le_refl _) (fun i hi => by cases hi)); clear ho hg hla hnil)
    | (at_builtin; refine wpList_append_vals rfl _ _ 30 rfl w8.heap.size 22 (.slice none 0 0) 24 Tryd.underlying30 Hinfo.out rfl va vs.length vs rfl O9.out Ay vs'.length cy vs' rfl rfl (by obtain ⟨A1, c1, e1, _, hcell⟩ := own_slice (Y8.out.below E9.out).outer; cases e1; exact hcell) Y8.out.one (by have := Hv.out; have := Hv'.out; simp only [maxLen]; omega) (by have := Hv.out; have := Hv'.out; omega) E9.out.size ?_; intro vb w10 ho hg hla hnil; have E10 : Hid (Below w8.heap.size w8 w10) := Lib.hid (E9.out.grown hg E9.out.size (fun i hi => (O9.out.lt i hi).1)); have CO : Hid (Calls Tryd.prog 14 #[vb] w10 fun e w' => e = .returned (.bool true) ∧ Below w2.heap.size w10 w') := Lib.hid (scans_owned X8.out Y8.out MX.out MY.out S8.out E10.out Hv.out Hv'.out HTs.out (fun h1 h2 => by rw [hnil h2]; exact N9.out h1) ho); have G10 : Hid (Below B w w10) := Lib.hid (G8.out.trans (E10.out.mono (HBl.out _ G8.out))); clear ho hg hla hnil)
    | (go_at_call 14; with_reducible refine CO.out.mono ?_; rintro e w11 ⟨rfl, hb⟩; have G11 : Hid (Below B w w11) := Lib.hid (G10.out.trans (hb.mono (HBl.out _ G2.out))); clear hb))
  go_ret
  exact ⟨rfl, Hlow.out _ G11.out⟩

end Go.Proofs.YtaaimonnpmfnlaaDoor
