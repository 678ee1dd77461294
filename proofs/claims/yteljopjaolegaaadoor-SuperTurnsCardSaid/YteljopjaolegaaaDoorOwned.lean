/-
  CONTRACT: coffretlaw11.Owned.
-/
import Derived.Test.YteljopjaolegaaaDoorOwnedA
namespace Go.Proofs.YteljopjaolegaaaDoor
open Go.RowKit
set_option maxRecDepth 100000
set_option linter.unusedVariables false

theorem info_row : (Tryd.prog.info? 31).map (fun i => (i.zero, i.size, i.bytes)) = some (some (.slice none 0 0), 1, 24) := by kernel_rfl

theorem vs_cell {w : World} {g : Nat} {vs rest : List Value} {e : TypeId} (h : w.heap[g]? = some (.cells (vs ++ rest).toArray e (0, 0))) {j : Nat} {v : Value} (hj : vs[j]? = some v) : w.cell? ⟨g, j, none⟩ = some v := by
  refine cell_block h ?_
  rw [List.getElem?_append_left (List.getElem?_eq_some_iff.1 hj).1]
  exact hj

theorem own_slice {w : World} {base : Nat} {e : TypeId} {v : Value} {n : Nat} {xs : List Value} (h : w.ownsRow base e 1 v n xs) :
    ∃ A c, v = .slice A n c ∧ n ≤ c ∧ ∀ j u, xs[j]? = some u → ∃ ad, A = some ad ∧ w.cell? (ad.add j) = some u := by
  have hl : xs.length = n := by have := h.1; omega
  rcases h.2 with ⟨rfl, rfl⟩ | ⟨g, cap, cur, rfl, hb, hg, hn, hc, hs, ht⟩
  · exact ⟨none, 0, rfl, Nat.le_refl _, fun j u hj => by
      have := (List.getElem?_eq_some_iff.1 hj).1
      omega⟩
  · exact ⟨_, cap, rfl, hn, fun j u hj => ⟨_, rfl, h.cells (g := g) rfl j u hj⟩⟩

set_option maxRecDepth 100000 in
set_option maxHeartbeats 2000000 in
theorem owned_any (base gr cR m : Nat) (vs rR : List Value) (ls : List (List UInt8)) (w : World) (hC : Came w base gr vs ls) (hgb : base ≤ gr) (hrow : w.heap[gr]? = some (.cells (vs ++ rR).toArray 31 (0, 0))) (hbig : base ≤ w.heap.size)
    (hvm : vs.length = m) (hm : m ≤ 1099511627776) :
    Calls Tryd.prog 21 #[.slice (some ⟨gr, 0, none⟩) m cR] w fun e w' => e = .returned (.bool true) ∧ Below base w w' := by
  have HC := Lib.hid hC
  have Hinfo := Lib.hid info_row
  have Hinfo8 := Lib.hid info_u8
  have Hvm := Lib.hid hvm
  have H0 : Hid (OI w base gr vs rR ls 0 w (.slice none 0 0) []) := Lib.hid ⟨Below.refl _ _, hbig, hgb, hrow, World.ownsRow_nil _ _ _ _, fun j v l _ h1 h2 => hC.own j v l h1 h2, (by intro e; cases e), (fun j v g _ _ e => by cases e), (fun j l h _ => by omega)⟩
  clear hC hgb hrow hbig hvm
  go_enter Tryd.func21, Tryd.ntmps21
  go_wp2_with fail
  go_loopw [3, 4] (fun long ix wr => ∃ (i : Nat) (longs : List Value), i ≤ m ∧ ix = .int .i64 i ∧ OI w base gr vs rR ls i wr long longs) (fun _ ix _ => m - (intOf ix).toNat)
  case atStart => exact ⟨0, [], by omega, rfl, H0.out⟩
  case round =>
    obtain ⟨i, longs, hi, rfl, hoi⟩ := hrel
    have HO := Lib.hid hoi
    clear hoi
    obtain ⟨wi, rfl⟩ : ∃ wi : World, wi = wr := ⟨_, rfl⟩
    by_cases hlt : i < m
    · obtain ⟨v, hv⟩ : ∃ v, vs[i]? = some v := ⟨_, List.getElem?_eq_getElem (by rw [Hvm.out]; exact hlt)⟩
      obtain ⟨l, hl⟩ : ∃ l, ls[i]? = some l := ⟨_, List.getElem?_eq_getElem (by rw [HC.out.len, Hvm.out]; exact hlt)⟩
      have Hv := Lib.hid hv
      have Hl := Lib.hid hl
      have Ho := Lib.hid (HO.out.rest i v l (Nat.le_refl _) hv hl)
      obtain ⟨n, hn⟩ : ∃ n, n = l.length := ⟨_, rfl⟩
      have Hn := Lib.hid hn
      have hn40 : n ≤ 1099511627776 := by rw [hn]; exact HC.out.short i l hl
      obtain ⟨A, c, hvA, hnc, _, ha⟩ := own_addr Ho.out
      rw [← hn] at hvA hnc
      have Ha := Lib.hid ha
      have HvA := Lib.hid hvA
      have hcv := vs_cell HO.out.row hv
      rw [hvA] at hcv
      have hmk : 1 + (i : Int) % 250 = ub (mark i) := (mark_ub i).symm
      clear hv hl hn ha hvA
      have Hgr : Hid (∀ wx, Ext (fun b => v.ownBlock = some b) wi wx → wx.cell? ⟨gr, i, none⟩ = some (.slice A n c)) := Lib.hid (fun wx hx => by
        rw [← HvA.out]
        refine hx.cell (vs_cell HO.out.row Hv.out) (fun e => HC.out.off i v Hv.out e))
      go_wp2_with fail
      go_loopw [6] (fun kx wr => ∃ k : Nat, k ≤ n ∧ kx = .int .i64 k ∧ wr.ownsRow base 5 1 v n (bs (List.replicate k (mark i) ++ l.drop k)) ∧ Ext (fun b => v.ownBlock = some b) wi wr) (fun kx _ => n - (intOf kx).toNat)
      case atStart => exact ⟨0, by omega, rfl, by rw [Hn.out]; exact Ho.out, Ext.refl _ _⟩
      case round =>
        obtain ⟨k, hk, rfl, h1, h2⟩ := hrel
        have H1 := Lib.hid h1
        have H2 := Lib.hid h2
        have hcv1 := Hgr.out _ h2
        clear h1 h2 hcv
        by_cases hkn : k < n
        · obtain ⟨y, hy⟩ : ∃ y, (List.replicate k (mark i) ++ l.drop k)[k]? = some y := ⟨_, List.getElem?_eq_getElem (by simp; rw [← Hn.out]; omega)⟩
          obtain ⟨A1, c1, e1, _, hB1, ha1⟩ := own_addr H1.out
          obtain ⟨ad, x1, e2, _, _⟩ := hB1.get hkn
          have e3 := (ha1 ad e2).2.2.2
          rw [HvA.out] at e1
          cases e1
          obtain ⟨g, hg⟩ : ∃ g, g = ad.block := ⟨_, rfl⟩
          rw [← hg] at e3
          rw [e3] at e2
          subst e2
          have hvo : v.ownBlock = some g := by rw [HvA.out]; rfl
          have hw1 := H1.out
          rw [HvA.out] at hw1
          obtain ⟨hcy, hfz⟩ := own_cell hw1 hy
          have Hset := Lib.hid (own_set hw1 hkn (mark i))
          have Hvo := Lib.hid hvo
          clear hy hB1 ha1 e3 hg hvo hw1
          go_wp2_with fail
          go_roundw
          case rel =>
            refine ⟨k + 1, by omega, by go_num, ?_, H2.out.setCell _ (fun _ => Hvo.out) _⟩
            have := Hset.out
            rw [← HvA.out] at this
            have e : (List.replicate k (mark i) ++ l.drop k).set k (mark i) = List.replicate (k + 1) (mark i) ++ l.drop (k + 1) := by
              rw [List.set_append_right _ _ (by simp), List.length_replicate, Nat.sub_self, List.drop_eq_getElem_cons (by rw [← Hn.out]; exact hkn), List.set_cons_zero, List.replicate_succ', List.append_assoc]
              rfl
            rw [e] at this
            exact this
          case measure => simp [intOf]; omega
        · have hkk : ¬ (k : Int) < (n : Int) := by omega
          have hown := H1.out
          rw [show k = n by omega, show l.drop n = [] from by rw [Hn.out]; simp, List.append_nil] at hown
          have HG0 : Hid (GI wi base v n (mark i) 0 wr v) := Lib.hid ⟨hown, .inl rfl, H2.out, by
            obtain ⟨A1, c1, e1, e2, hB1, ha1⟩ := own_addr hown
            exact ⟨A1, c1, e1, e2, hB1, fun ad e => ⟨(ha1 ad e).1, (own_lt Ho.out (ha1 ad e).1).2, (ha1 ad e).2.2.2⟩⟩⟩
          clear hown
          go_wp2_with fail
          obtain ⟨wl, rfl⟩ : ∃ wl : World, wl = wr := ⟨_, rfl⟩
          clear H1 hcv1
          go_loopw [7, 8] (fun G kx wr => ∃ k : Nat, k ≤ 9 ∧ kx = .int .i64 k ∧ GI wi base v n (mark i) k wr G) (fun _ kx _ => 9 - (intOf kx).toNat)
          case atStart => exact ⟨0, by omega, rfl, by rw [← HvA.out]; exact HG0.out⟩
          case round =>
            obtain ⟨q, hq9, rfl, hgi⟩ := hrel
            have HGI := Lib.hid hgi
            clear hgi
            have Hbw : Hid (base ≤ wr.heap.size) := Lib.hid (Nat.le_trans HO.out.big HGI.out.ext.size)
            by_cases hq : q < 9
            · have Hc1 : Hid (n + q + 1 ≤ maxLen) := Lib.hid (by simp only [maxLen]; omega)
              have Hc2 : Hid ((n + q + 1) * 1 ≤ 140737488355328) := Lib.hid (by omega)
              go_wp2_with (at_builtin; refine wpList_append_one rfl _ _ 31 rfl base 5 (.int .u8 0) 1 Tryd.underlying31 Hinfo8.out rfl u7 (n + q) (bs (List.replicate (n + q) (mark i))) (.int .u8 (ub (mark i))) rfl HGI.out.own rfl rfl Hc1.out Hc2.out Hbw.out ?_; intro v' w9 ho hg hla; have HN9 := Lib.hid (HGI.out.next ho hg hla); clear ho hg hla)
              go_roundw
              case rel => exact ⟨q + 1, by omega, by go_num, HN9.out⟩
              case measure => simp [intOf]; omega
            · have hqq : ¬ (q : Int) < 9 := by omega
              have e9 : q = 9 := by omega
              have hG9 := HGI.out
              rw [e9] at hG9
              have HG9 := Lib.hid hG9
              have hcv2 := Hgr.out _ hG9.ext
              obtain ⟨AG, cG, eG, hcG, _, _⟩ := own_addr hG9.own
              subst eG
              have Hlo : Hid (wr.ownsRow base 31 1 u3 (2 * i) longs) := Lib.hid (own_keep HO.out.own (fun g e => hG9.ext.block g (own_lt HO.out.own e).2 (fun e2 => HO.out.lv i v g Hv.out e2 e)))
              have Hc1 : Hid (2 * i + 2 ≤ maxLen) := Lib.hid (by simp only [maxLen]; omega)
              have Hc2 : Hid ((2 * i + 2) * 24 ≤ 140737488355328) := Lib.hid (by omega)
              have H1c : Hid (∀ u ∈ (#[.slice AG (n + 9) cG, .slice A n c] : Array Value).toList, u.oneCell' = true) := Lib.hid (by
                intro y hy
                simp at hy
                rcases hy with rfl | rfl <;> rfl)
              clear hG9 e9
              go_wp2_with (at_builtin; refine wpList_append_lit rfl _ _ 45 rfl base 31 (.slice none 0 0) 24 Tryd.underlying45 Hinfo.out rfl u3 (2 * i) longs #[.slice AG (n + 9) cG, .slice A n c] 2 rfl rfl Hlo.out rfl H1c.out Hc1.out Hc2.out Hbw.out ?_; intro v' w9 ho hg hla; have HN9 : Hid (OI w base gr vs rR ls (i + 1) w9 v' (longs ++ [.slice AG (n + 9) cG, v])) := Lib.hid (HO.out.next HC.out Hv.out Hl.out HG9.out.ext (by rw [← Hn.out]; exact HG9.out.own) HG9.out.lies (by rw [← Hn.out]; exact HG9.out.old) (by rw [HvA.out]; exact ho) hg hla); clear ho hg hla)
              go_roundw
              case rel => exact ⟨i + 1, _, by omega, by go_num, HN9.out⟩
              case measure => simp [intOf]; omega
    · have him : ¬ (i : Int) < (m : Int) := by omega
      have e : i = m := by omega
      obtain ⟨A3, c3, e3, hc3, hcl⟩ := own_slice HO.out.own
      subst e3
      have Hcl := Lib.hid hcl
      have Hen : Hid (∀ t, t < 2 * i → ∃ A len cp, longs[t]? = some (.slice A len cp) ∧ len ≤ cp ∧ Bs wi A len (List.replicate len (mark (t / 2)))) := Lib.hid (by
        intro t ht
        have hjl : t / 2 < ls.length := by rw [HC.out.len, Hvm.out]; omega
        obtain ⟨x, y, h1, h2, ⟨A, cp, ex, hn, hb, _⟩, ⟨A', cp', ey, hn', hb', _⟩⟩ := HO.out.done (t / 2) _ (by omega) (List.getElem?_eq_getElem hjl)
        rcases Nat.mod_two_eq_zero_or_one t with hp | hp
        · exact ⟨A, _, cp, by rw [← ex, ← h1]; congr 1; omega, hn, hb⟩
        · exact ⟨A', _, cp', by rw [← ey, ← h2]; congr 1; omega, hn', hb'⟩)
      have Hbel := Lib.hid HO.out.below
      have hbi : ((2 * i : Nat) : Int) ≤ 2199023255552 := by omega
      clear hcl HO
      obtain ⟨z, hz⟩ : ∃ z, z = 2 * i := ⟨_, rfl⟩
      rw [← hz] at Hen hc3 hbi ⊢
      clear hz
      go_wp2_with fail
      obtain ⟨wq, hwq⟩ : ∃ wq : World, wq = wi := ⟨_, rfl⟩
      rw [← hwq] at Hen Hcl Hbel ⊢
      clear hwq
      go_loopw [9] (fun ix wr => ∃ t : Nat, t ≤ z ∧ ix = .int .i64 t ∧ wr = wq) (fun ix _ => z - (intOf ix).toNat)
      case atStart => exact ⟨0, by omega, rfl, rfl⟩
      case round =>
        obtain ⟨t, ht, rfl, rfl⟩ := hrel
        obtain ⟨wl, hwl⟩ : ∃ wl : World, wl = wr := ⟨_, rfl⟩
        rw [← hwl] at Hen Hcl Hbel ⊢
        clear hwl
        by_cases htz : t < z
        · obtain ⟨A, len, cp, hlt, hlc, hB⟩ := Hen.out t htz
          obtain ⟨ad3, e3, hc⟩ := Hcl.out t _ hlt
          subst e3
          have HB := Lib.hid hB
          have hmk : 1 + (t : Int) / 2 % 250 = ub (mark (t / 2)) := by rw [mark_ub, Int.natCast_ediv]; rfl
          have htb : (t : Int) ≤ 2199023255552 := by omega
          have hlen : len ≤ 9223372036854775807 := hB.max
          clear hlt hB
          go_wp2_with fail
          go_loopw [10] (fun kx wx => ∃ k : Nat, k ≤ len ∧ kx = .int .i64 k ∧ wx = wl) (fun kx _ => len - (intOf kx).toNat)
          case atStart => exact ⟨0, by omega, rfl, rfl⟩
          case round =>
            obtain ⟨k, hk, rfl, rfl⟩ := hrel
            by_cases hkl : k < len
            · obtain ⟨ad4, x4, e4, hx4, hc4⟩ := HB.out.get hkl
              subst e4
              have e5 : x4 = mark (t / 2) := by
                rw [List.getElem?_replicate_of_lt hkl] at hx4
                exact (Option.some.inj hx4).symm
              rw [e5] at hc4
              have hne : (ub (mark (t / 2)) != ub (mark (t / 2))) = false := by simp
              clear hx4 e5
              go_wp2_with fail
              go_roundw
              case rel => exact ⟨k + 1, by omega, by go_num, trivial⟩
              case measure => simp [intOf]; omega
            · have hkk : ¬ (k : Int) < (len : Int) := by omega
              go_wp2_with fail
              go_roundw
              case rel => exact ⟨t + 1, by omega, by go_num, trivial⟩
              case measure => simp [intOf]; omega
        · have htt : ¬ (t : Int) < (z : Int) := by omega
          go_wp2_with fail
          go_ret
          exact ⟨rfl, Hbel.out⟩

end Go.Proofs.YteljopjaolegaaaDoor
