/-
  CONTRACT: page.Open of any bytes.
-/
import Derived.Test.YteljopjaolegaaaDoorPageE
namespace Go.Proofs.YteljopjaolegaaaDoor
open Go.RowKit
set_option maxRecDepth 100000
set_option linter.unusedVariables false

/-- What page.Open answers. -/
def OpenPost (l : List UInt8) (number : Int) (w : World) (e : Ending) (w' : World) : Prop :=
  Below w.heap.size w w' ∧ ((openCode l number = 0 ∧ ∃ v, e = .returned (.tuple #[.int .i64 (ub (openKind l)), v, .int .i64 0]) ∧ w'.ownsRow w.heap.size 5 1 v (openLen l) (bs (openBody l))) ∨
    (openCode l number ≠ 0 ∧ e = .returned (.tuple #[.int .i64 0, .slice none 0 0, .int .i64 (openCode l number)])))

theorem open_any (A : Option Addr) (n c : Nat) (l : List UInt8) (number : Int) (w : World) (hN : Nib w) (hb : Bs w A n l) (hc : n ≤ c) :
    Calls Tryd.prog 44 #[.slice A n c, .int .i64 number] w fun e w' => OpenPost l number w e w' := by
  by_cases hn : n = 4096
  · subst hn
    obtain ⟨ad, _, rfl, _, _⟩ := hb.get (k := 0) (by omega)
    have hl := hb.len
    have hbx : ∀ wx : World, wx.heap = w.heap → Bs wx (some ad) 4096 l := fun wx h => hb.kept fun _ _ a _ v hv => by simpa [World.cell?, h] using hv
    have hNx : ∀ wx : World, wx.heap = w.heap → Nib wx := fun wx h i hi => by have := hN i hi; simpa [World.cell?, h] using this
    obtain ⟨s, hs⟩ : ∃ s, s = Crc.sum (l.drop 4) := ⟨_, rfl⟩
    obtain ⟨u0, h0⟩ : ∃ u, u = unle (l.take 4) := ⟨_, rfl⟩
    obtain ⟨u4, h4⟩ : ∃ u, u = unle ((l.drop 4).take 4) := ⟨_, rfl⟩
    obtain ⟨u9, h9⟩ : ∃ u, u = unle ((l.drop 9).take 2) := ⟨_, rfl⟩
    have C0 : Hid (∀ wx : World, wx.heap = w.heap → Calls Tryd.prog 67 #[.slice (some ad) 4096 c, .int .i64 0, .int .i64 4] wx fun e w' => e = .returned (.int .i64 u0) ∧ wx = w') := Lib.hid (fun wx h => by
      have := pread_any (some ad) 4096 c 0 4 l wx (hbx wx h) hc (by omega) (by omega) (by omega)
      rw [List.drop_zero, ← h0] at this; exact this)
    have C4 : Hid (∀ wx : World, wx.heap = w.heap → Calls Tryd.prog 67 #[.slice (some ad) 4096 c, .int .i64 4, .int .i64 4] wx fun e w' => e = .returned (.int .i64 u4) ∧ wx = w') := Lib.hid (fun wx h => by
      have := pread_any (some ad) 4096 c 4 4 l wx (hbx wx h) hc (by omega) (by omega) (by omega)
      rw [← h4] at this; exact this)
    have C9 : Hid (∀ wx : World, wx.heap = w.heap → Calls Tryd.prog 67 #[.slice (some ad) 4096 c, .int .i64 9, .int .i64 2] wx fun e w' => e = .returned (.int .i64 u9) ∧ wx = w') := Lib.hid (fun wx h => by
      have := pread_any (some ad) 4096 c 9 2 l wx (hbx wx h) hc (by omega) (by omega) (by omega)
      rw [← h9] at this; exact this)
    have CS : Hid (∀ wx : World, wx.heap = w.heap → Calls Tryd.prog 62 #[.slice (some ⟨ad.block, ad.off + 4, none⟩) 4092 (c - 4)] wx fun e w' => e = .returned (.int .i64 (ui s)) ∧ wx = w') := Lib.hid (fun wx h => by
      have h1 := (hbx wx h).sub 4 4092 (by omega)
      rw [List.take_of_length_le (by rw [List.length_drop, hl]; exact Nat.le_refl _)] at h1
      rw [hs]
      exact sum_any _ _ _ _ _ h1 (hNx wx h))
    obtain ⟨kb, hkb⟩ : ∃ kb, l[8]? = some kb := ⟨_, List.getElem?_eq_getElem (by omega)⟩
    have hkd : l.getD 8 0 = kb := by simp [List.getD, hkb]
    have hkc : w.cell? ⟨ad.block, ad.off + 8, none⟩ = some (.int .u8 (ub kb)) := by
      obtain ⟨ad', e, hc8⟩ := hb.2.2 8 kb hkb
      cases e; exact hc8
    have e1 : ¬ l.length ≠ 4096 := by omega
    by_cases hs0 : u0 = s.toNat
    · have e2 : ¬ unle (l.take 4) ≠ (Crc.sum (l.drop 4)).toNat := by rw [← h0, ← hs]; omega
      have C0s := C0
      rw [hs0] at C0s
      by_cases hn4 : (u4 : Int) = number
      · have e3 : ¬ ((unle ((l.drop 4).take 4) : Nat) : Int) ≠ number := by rw [← h4]; omega
        subst hn4
        by_cases hk0 : kb = 0
        · have hcode : openCode l u4 = 122 := by
            rw [openCode, if_neg e1, if_neg e2, if_neg e3, if_pos (.inl (by rw [hkd]; exact hk0))]
          refine (open_form ad c u4 w hc s u9 kb C0s CS C4 C9 hkc (by rw [hk0]; rfl)).mono ?_
          rintro e w' ⟨rfl, hb2⟩
          exact ⟨hb2, .inr ⟨by rw [hcode]; decide, by rw [hcode]⟩⟩
        · have hkf : (ub kb == 0) = false := by
            rw [beq_eq_false_iff_ne]; exact fun h => hk0 (ub_inj (by rw [h]; rfl))
          by_cases hu9 : 4085 < u9
          · have hcode : openCode l u4 = 122 := by
              rw [openCode, if_neg e1, if_neg e2, if_neg e3, if_pos (.inr (by rw [← h9]; exact hu9))]
            refine (open_long ad c u4 w hc s u9 kb C0s CS C4 C9 hkc hkf (by omega)).mono ?_
            rintro e w' ⟨rfl, hb2⟩
            exact ⟨hb2, .inr ⟨by rw [hcode]; decide, by rw [hcode]⟩⟩
          · have e4 : ¬ (l.getD 8 0 = 0 ∨ 4085 < unle ((l.drop 9).take 2)) := by
              rw [hkd, ← h9]; exact fun h => h.elim hk0 hu9
            by_cases hall : (l.drop (11 + unle ((l.drop 9).take 2))).all (· == 0) = true
            · have hcode : openCode l u4 = 0 := by
                rw [openCode, if_neg e1, if_neg e2, if_neg e3, if_neg e4, if_pos hall]
              rw [← h9, List.all_eq_true] at hall
              refine (open_fine ad c l u4 w hc s u9 kb C0s CS C4 C9 hkc hkf (by omega) hbx hN (fun t ht => ?_)).mono ?_
              · have hlt : 11 + u9 + t < l.length := by omega
                have := hall l[11 + u9 + t] (List.mem_iff_getElem?.2 ⟨t, by rw [List.getElem?_drop]; exact List.getElem?_eq_getElem hlt⟩)
                rw [List.getElem?_eq_getElem hlt, beq_iff_eq.1 this]
              · rintro e w' ⟨v, rfl, ho, hb2⟩
                exact ⟨hb2, .inl ⟨hcode, v, by rw [openKind, hkd], by rw [openBody, openLen, ← h9]; exact ho⟩⟩
            · have hcode : openCode l u4 = 122 := by
                rw [openCode, if_neg e1, if_neg e2, if_neg e3, if_neg e4, if_neg hall]
              rw [← h9] at hall
              obtain ⟨d, hd⟩ : ∃ d, d = l.drop (11 + u9) := ⟨_, rfl⟩
              rw [← hd] at hall
              have hj : d.findIdx (fun y => !(y == 0)) < d.length := by
                rw [List.findIdx_lt_length]
                rw [List.all_eq_true] at hall
                refine Classical.byContradiction fun hno => hall fun y hy => ?_
                exact Classical.byContradiction fun h => hno ⟨y, hy, by simpa using h⟩
              obtain ⟨j0, hj0⟩ : ∃ j, j = d.findIdx (fun y => !(y == 0)) := ⟨_, rfl⟩
              have hx : d[j0]? = some d[d.findIdx (fun y => !(y == 0))] := by rw [hj0]; exact List.getElem?_eq_getElem hj
              have hxn := List.findIdx_getElem (w := hj)
              refine (open_spoilt ad c j0 d[d.findIdx (fun y => !(y == 0))] l u4 w hc s u9 kb C0s CS C4 C9 hkc hkf (by omega) hbx (by rw [← List.getElem?_drop, ← hd]; exact hx) (by
                rw [beq_eq_false_iff_ne]; intro h; have := ub_inj (h.trans (show (0 : Int) = ub 0 from rfl)); simp [this] at hxn) (fun t ht => ?_)).mono ?_
              · have htl : t < d.length := by omega
                have := List.not_of_lt_findIdx (p := fun y => !(y == 0)) (xs := d) (by omega : t < d.findIdx (fun y => !(y == 0)))
                rw [← List.getElem?_drop, ← hd, List.getElem?_eq_getElem htl]
                simp at this
                rw [this]
              · rintro e w' ⟨rfl, hb2⟩
                exact ⟨hb2, .inr ⟨by rw [hcode]; decide, by rw [hcode]⟩⟩
      · have hcode : openCode l number = 121 := by
          rw [openCode, if_neg e1, if_neg e2, if_pos (by rw [← h4]; exact hn4)]
        refine (open_place ad c number w hc s u4 C0s CS C4 (by simp; exact hn4)).mono ?_
        rintro e w' ⟨rfl, hb2⟩
        exact ⟨hb2, .inr ⟨by rw [hcode]; decide, by rw [hcode]⟩⟩
    · have hcode : openCode l number = 120 := by
        rw [openCode, if_neg e1, if_pos (by rw [← h0, ← hs]; exact hs0)]
      refine (open_sum ad c number w hc s u0 C0 CS (by simp [ui]; omega)).mono ?_
      rintro e w' ⟨rfl, hb2⟩
      exact ⟨hb2, .inr ⟨by rw [hcode]; decide, by rw [hcode]⟩⟩
  · refine (open_len A n c l number w hn).mono ?_
    rintro e w' ⟨rfl, rfl⟩
    have h : openCode l number = 122 := by rw [openCode, if_pos (by rw [hb.len]; exact hn)]
    exact ⟨Below.refl _ _, .inr ⟨by rw [h]; decide, by rw [h]⟩⟩

end Go.Proofs.YteljopjaolegaaaDoor
