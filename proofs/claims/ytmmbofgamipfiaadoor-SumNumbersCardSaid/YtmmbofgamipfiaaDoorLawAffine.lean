/-
  THE WALK of coffretlaw11.SumAffine.
-/
import Derived.Test.YtmmbofgamipfiaaDoorAwakeA
import Derived.Test.YtmmbofgamipfiaaDoorSumJ
import Derived.Laws.Cover1
import Derived.Deep.RegionLaw
namespace Go.Proofs.YtmmbofgamipfiaaDoor
open Go.RowKit

theorem ui_xor64 (a b : BitVec 32) : bits .xor .i64 (ui a) (ui b) = ui (a ^^^ b) := by
  have ha := a.isLt
  have hb := b.isLt
  have hx : a.toNat ^^^ b.toNat < 2 ^ 32 := Nat.xor_lt_two_pow ha hb
  have h1 : (BitVec.ofInt 64 (a.toNat : Int)).toNat = a.toNat := by
    rw [BitVec.ofInt_natCast, BitVec.toNat_ofNat]; exact Nat.mod_eq_of_lt (by omega)
  have h2 : (BitVec.ofInt 64 (b.toNat : Int)).toNat = b.toNat := by
    rw [BitVec.ofInt_natCast, BitVec.toNat_ofNat]; exact Nat.mod_eq_of_lt (by omega)
  unfold ui
  show IntKind.i64.wrap ((BitVec.ofInt 64 (a.toNat : Int) ^^^ BitVec.ofInt 64 (b.toNat : Int)).toNat : Int) = _
  rw [BitVec.toNat_xor, h1, h2, wraps_i64 _ (by omega) (by omega), BitVec.toNat_xor]
attribute [go_sem] ui_xor64

theorem Bs.head {w : World} {A : Option Addr} {n : Nat} {l : List UInt8} (h : Bs w A n l) (k : Nat) (hk : k ≤ n) : Bs w A k (l.take k) :=
  ⟨by rw [List.length_take, h.len]; omega, by have := h.max; omega, fun j c hj => by
    rw [List.getElem?_take] at hj
    split at hj
    · exact h.2.2 j c hj
    · cases hj⟩

/-- At a step of a region that draws its order. -/
theorem step_append_one {P : Program} {w : World} {ops : Array Oper} {o : Oper} {a : Act} {K : Act → World → Prop} {Q : Exit → Act → World → Prop} {E : Prop} (hgd : o.guard = none) (s x : Operand) (t : TypeId)
    (ho : o.op = .call { callee := .builtin .append, args := #[s, x], argTypes := #[t, t] })
    (base : Nat) (e : TypeId) (z : Value) (bytes : Nat) (ht : P.underlying t = some (.slice e)) (hinfo : (P.info? e).map (fun i => (i.zero, i.size, i.bytes)) = some (some z, 1, bytes)) (hzs : z.cells.size = 1)
    (v : Value) (n : Nat) (xs : List Value) (u : Value) (hs : a.eval s = v) (hown : w.ownsRow base e 1 v n xs)
    (hx : a.eval x = .slice (some ⟨w.heap.size, 0, none⟩) 1 1) (h1 : u.oneCell' = true)
    (h63 : n + 1 ≤ maxLen) (hbytes : (n + 1) * bytes ≤ 140737488355328) (hbase : base ≤ w.heap.size)
    (h : ∀ v' w', w'.ownsRow base e 1 v' (n + 1) (xs ++ [u]) → w.grownBy w' v.ownBlock → Lies w w' v v' → K (a.put o.dst v') w') :
    if Region.wanted o (yielded ops a.tmps) = true then Oper.wp P o a (w.alloc (.cells #[u] e)) K Q else E := by
  have hw : Region.wanted o (yielded ops a.tmps) = true := by simp [Region.wanted, hgd]
  rw [if_pos hw]
  obtain ⟨i, hi, hz, hsize, hby⟩ := info_parts hinfo
  obtain ⟨v', w', hr, h2, h3, h4⟩ := run_append_lie (P := P) (w.alloc (.cells #[u] e)) base t o.type e i z 1 bytes ht hi hz hsize hby hzs (by decide) v n xs (hown.alloc _) ⟨w.heap.size, 0, none⟩ 1 1 [u] (by simp)
    (fun j y hj => World.news_of_block (heap_alloc_new w (.cells #[u] e)) j y hj) (one_mem h1) h63 hbytes (by simp; omega)
  unfold Oper.wp execOp
  simp only [ho, resolve, invoke, builtin, Sem.run_bind, Sem.run_pure, Result.andThen_ok, List.map_toArray, List.map_cons, List.map_nil, hs, hx, hr]
  refine h v' w' h2 (grownBy_trans (World.grownBy_alloc w _ none) h3) ?_
  rcases h4 with h5 | ⟨g, h5, h6, h7⟩
  · exact .inl h5
  · exact .inr ⟨g, h5, by simp at h6; omega, grownBy_trans (World.grownBy_alloc w _ none) h7⟩

set_option maxRecDepth 100000 in
set_option maxHeartbeats 2000000 in
theorem sumAffine_any (A1 A2 A3 : Option Addr) (n1 n2 n3 c1 c2 c3 : Nat) (l1 l2 l3 : List UInt8) (w : World) (hN : Nib w) (h1 : Bs w A1 n1 l1) (h2 : Bs w A2 n2 l2) (h3 : Bs w A3 n3 l3)
    (hc1 : n1 ≤ c1) (hc2 : n2 ≤ c2) (hc3 : n3 ≤ c3) (hm : n1 ≤ 140737488351232) :
    Calls Tryd.prog 9 #[.slice A1 n1 c1, .slice A2 n2 c2, .slice A3 n3 c3] w fun e w' => e = .returned (.bool true) ∧ Below w.heap.size w w' := by
  have Hinfo := Lib.hid info_u8
  have HN := Lib.hid hN
  obtain ⟨n, hn⟩ : ∃ n, n = Nat.min (Nat.min n1 n2) n3 := ⟨_, rfl⟩
  have hmin : ∀ (w : World), (Builtin.min_ #[3, 3, 3] 3 #[.int .i64 n1, .int .i64 n2, .int .i64 n3]).run Tryd.prog w = .ok (.int .i64 (n : Int)) w := by
    intro w
    rw [run_min_int3, hn]
    congr 2
    show _ = ((min (min n1 n2) n3 : Nat) : Int)
    split <;> split at * <;> omega
  have k1 : n ≤ n1 := by rw [hn]; exact Nat.le_trans (Nat.min_le_left _ _) (Nat.min_le_left _ _)
  have k2 : n ≤ n2 := by rw [hn]; exact Nat.le_trans (Nat.min_le_left _ _) (Nat.min_le_right _ _)
  have k3 : n ≤ n3 := by rw [hn]; exact Nat.min_le_right _ _
  clear hn hN
  obtain ⟨B, hB⟩ : ∃ B, B = w.heap.size := ⟨_, rfl⟩
  have HBl : Hid (∀ wx, Below B w wx → B ≤ wx.heap.size) := Lib.hid (fun wx h => by rw [hB]; exact h.size)
  have Hlow : Hid (∀ wx, Below B w wx → Below w.heap.size w wx) := Lib.hid (fun wx h => by rw [← hB]; exact h)
  have Hup : Hid (∀ wx, Below w.heap.size w wx → Below B w wx) := Lib.hid (fun wx h => by rw [hB]; exact h)
  have K1 : Hid (∀ wx, Below B w wx → Bs wx A1 n1 l1) := Lib.hid (fun wx h => h1.below (Hlow.out _ h))
  have K2 : Hid (∀ wx, Below B w wx → Bs wx A2 n2 l2) := Lib.hid (fun wx h => h2.below (Hlow.out _ h))
  have K3 : Hid (∀ wx, Below B w wx → Bs wx A3 n3 l3) := Lib.hid (fun wx h => h3.below (Hlow.out _ h))
  have KN : Hid (∀ wx, Below B w wx → Nib wx) := Lib.hid (fun wx h => HN.out.below (Hlow.out _ h))
  have E1 := Lib.hid h1.len
  have E2 := Lib.hid h2.len
  have E3 := Lib.hid h3.len
  obtain ⟨Z, hZ⟩ : ∃ Z, Z = List.zipWith (· ^^^ ·) (List.zipWith (· ^^^ ·) (l1.take n) (l2.take n)) (l3.take n) := ⟨_, rfl⟩
  have HZ := Lib.hid hZ
  have Zl : Hid (Z.length = n) := Lib.hid (by rw [hZ]; simp only [List.length_zipWith, List.length_take]; have := E1.out; have := E2.out; have := E3.out; omega)
  have Zs : Hid (Crc.sum Z = Crc.sum (l1.take n) ^^^ Crc.sum (l2.take n) ^^^ Crc.sum (l3.take n)) := Lib.hid (by
    rw [hZ]; exact Crc.sum_affine _ _ _ (by simp only [List.length_take]; have := E1.out; have := E2.out; omega) (by simp only [List.length_take]; have := E2.out; have := E3.out; omega))
  have Zg : Hid (∀ k x1 x2 x3, k < n → l1[k]? = some x1 → l2[k]? = some x2 → l3[k]? = some x3 → Z[k]? = some (x1 ^^^ x2 ^^^ x3)) := Lib.hid (fun k x1 x2 x3 hk g1 g2 g3 => by
    rw [hZ, List.getElem?_zipWith, List.getElem?_zipWith, List.getElem?_take_of_lt hk, List.getElem?_take_of_lt hk, List.getElem?_take_of_lt hk, g1, g2, g3])
  clear hB hZ h1 h2 h3
  go_enter Tryd.func9, Tryd.ntmps9
  go_wp2_with (go_at_call 10; refine (awake11 _ HN.out).mono ?_; rintro e w1 ⟨rfl, hb⟩; have G1 := Lib.hid (Hup.out _ hb); clear hb)
  clear hmin
  go_loopw [9, 10] (fun v i wr => ∃ k : Nat, k ≤ n ∧ i = .int .i64 k ∧ wr.ownsRow B 5 1 v k (bs (Z.take k)) ∧ Below B w wr) (fun _ i _ => n - (intOf i).toNat)
  case atStart => exact ⟨0, by omega, rfl, by rw [List.take_zero]; exact World.ownsRow_nil _ _ _ _, G1.out⟩
  case round =>
    obtain ⟨k, hk, rfl, h1, h2⟩ := hrel
    have H1 := Lib.hid h1
    have H2 := Lib.hid h2
    clear h1 h2
    by_cases hlt : k < n
    · obtain ⟨a1, x1, rfl, g1, d1⟩ := (K1.out _ H2.out).get (k := k) (by omega)
      obtain ⟨a2, x2, rfl, g2, d2⟩ := (K2.out _ H2.out).get (k := k) (by omega)
      obtain ⟨a3, x3, rfl, g3, d3⟩ := (K3.out _ H2.out).get (k := k) (by omega)
      have Hz := Lib.hid (Zg.out k x1 x2 x3 hlt g1 g2 g3)
      have Hc1 : Hid (k + 1 ≤ maxLen) := Lib.hid (by simp only [maxLen]; omega)
      have Hc2 : Hid ((k + 1) * 1 ≤ 140737488355328) := Lib.hid (by omega)
      have Hc3 : Hid (B ≤ wr.heap.size) := Lib.hid (HBl.out _ H2.out)
      have i1 : (k : Int) < (n1 : Int) := by omega
      have i2 : (k : Int) < (n2 : Int) := by omega
      have i3 : (k : Int) < (n3 : Int) := by omega
      clear g1 g2 g3
      go_wp2_with fail
      go_region_law (refine step_append_one rfl (.tmp 27) (.tmp 42) 22 rfl B 5 (.int .u8 0) 1 Tryd.underlying22 Hinfo.out rfl u9 k (bs (Z.take k)) (.int .u8 (ub (x1 ^^^ x2 ^^^ x3))) rfl H1.out.drew rfl rfl Hc1.out Hc2.out Hc3.out ?_; intro v' w9 hown9 hg9 hl9; have Hr : Hid (w9.ownsRow B 5 1 v' (k + 1) (bs (Z.take (k + 1)))) := Lib.hid (by rw [take_snoc Hz.out, bs_append]; exact hown9); have Hb9 : Hid (Below B w w9) := Lib.hid (H2.out.drew.grown hg9 Hc3.out (fun i hi => (H1.out.lt i hi).1)); clear hown9 hg9 hl9)
      all_goals (try go_wp2)
      all_goals exact ⟨⟨k + 1, by omega, by go_num, Hr.out, Hb9.out⟩, by simp [intOf]; omega⟩
    · have e : k = n := by omega
      have hkn : ¬ (k : Int) < (n : Int) := by omega
      have h1 := H1.out
      rw [e, List.take_of_length_le (by rw [Zl.out]; omega)] at h1
      obtain ⟨A, c, rfl, hbz⟩ := own_bytes h1
      have C0 : Hid (Calls Tryd.prog 12 #[.slice A n c] wr fun e w' => e = .returned (.int .i64 (ui (Crc.sum (l1.take n) ^^^ Crc.sum (l2.take n) ^^^ Crc.sum (l3.take n)))) ∧ wr = w') := Lib.hid (by
        rw [← Zs.out]; exact sum_any _ _ _ _ _ hbz (KN.out _ H2.out))
      clear h1 hbz
      obtain ⟨s1, e1⟩ : ∃ s, s = Crc.sum (l1.take n) := ⟨_, rfl⟩
      obtain ⟨s2, e2⟩ : ∃ s, s = Crc.sum (l2.take n) := ⟨_, rfl⟩
      obtain ⟨s3, e3⟩ : ∃ s, s = Crc.sum (l3.take n) := ⟨_, rfl⟩
      have C1 : Hid (Calls Tryd.prog 12 #[.slice A1 n c1] wr fun e w' => e = .returned (.int .i64 (ui s1)) ∧ wr = w') := Lib.hid (by
        rw [e1]; exact sum_any _ _ _ _ _ ((K1.out _ H2.out).head n k1) (KN.out _ H2.out))
      have C2 : Hid (Calls Tryd.prog 12 #[.slice A2 n c2] wr fun e w' => e = .returned (.int .i64 (ui s2)) ∧ wr = w') := Lib.hid (by
        rw [e2]; exact sum_any _ _ _ _ _ ((K2.out _ H2.out).head n k2) (KN.out _ H2.out))
      have C3 : Hid (Calls Tryd.prog 12 #[.slice A3 n c3] wr fun e w' => e = .returned (.int .i64 (ui s3)) ∧ wr = w') := Lib.hid (by
        rw [e3]; exact sum_any _ _ _ _ _ ((K3.out _ H2.out).head n k3) (KN.out _ H2.out))
      rw [← e1, ← e2, ← e3] at C0
      clear e1 e2 e3 Zs Zl HZ Zg H1
      go_wp2_with (go_at_call 12; (first | with_reducible refine C1.out.mono ?_ | with_reducible refine C2.out.mono ?_ | with_reducible refine C3.out.mono ?_ | with_reducible refine C0.out.mono ?_); rintro e w' ⟨rfl, rfl⟩)
      go_ret
      exact ⟨rfl, Hlow.out _ H2.out⟩

end Go.Proofs.YtmmbofgamipfiaaDoor
