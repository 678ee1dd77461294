/-
  THE WALK of coffretlaw11.SumAdds.
-/
import Derived.Test.YtmmbofgamipfiaaDoorAwakeA
namespace Go.Proofs.YtmmbofgamipfiaaDoor
open Go.RowKit

theorem lent_bs {w : World} {g n : Nat} {l : List UInt8} (hl : l.length = n) (hm : n ≤ 9223372036854775807) (hg : w.heap[g]? = some (.cells (bs (l ++ marks 3)).toArray 5 (0, 0))) : Bs w (some ⟨g, 0, none⟩) n l := by
  have := bs_block hg 0 n (by rw [List.length_append]; omega) hm
  rw [List.drop_zero, List.take_left' hl] at this
  exact this

theorem Bs.grown {w w1 : World} {A : Option Addr} {n g : Nat} {l : List UInt8} (h : Bs w A n l) (hb : w.grownBy w1 (some g)) (hs : ∀ ad, A = some ad → ad.block ≠ g) : Bs w1 A n l :=
  h.ext (Ext.of_grown (S := fun k => k = g) hb (fun k hk => by cases hk; rfl)) (fun ad e => hs ad e)

set_option maxHeartbeats 1000000 in
theorem sumAdds_any (s : Int) (A : Option Addr) (n c : Nat) (l : List UInt8) (w : World) (hN : Nib w) (hb : Bs w A n l) (hm : n ≤ 140737488351232) (hlt : ∀ ad, A = some ad → ad.block < w.heap.size) :
    Calls Tryd.prog 3 #[.int .i64 s, .slice A n c] w fun e w' => e = .returned (.bool true) ∧ Below w.heap.size w w' := by
  have HN := Lib.hid hN
  have HB := Lib.hid hb
  have Hm := Lib.hid hm
  have Hlt := Lib.hid hlt
  clear hN hb hm hlt
  cases h : MayB s with
  | true =>
    obtain ⟨b, rfl⟩ := MayB.yes h
    clear h
    go_enter Tryd.func3, Tryd.ntmps3
    go_wp2_with (first
      | (go_at_call 10; refine (awake11 _ HN.out).mono ?_; rintro e w1 ⟨rfl, hb⟩; have H1 := Lib.hid hb; have HN1 := Lib.hid (HN.out.below hb); have HB1 := Lib.hid (HB.out.below hb); clear hb)
      | (go_at_call 11; refine (lent_any A n c l _ HB1.out Hm.out).mono ?_; rintro e w2 ⟨rfl, hg, hb⟩; have Hg := Lib.hid hg; have HL := Lib.hid (lent_bs HB1.out.len HB1.out.max hg); have H2 := Lib.hid hb; have HN2 := Lib.hid (HN1.out.below hb); have HB2 := Lib.hid (HB1.out.below hb); clear hb hg)
      | (go_at_call 12; refine (sum_any _ _ _ l _ HL.out HN2.out).mono ?_; rintro e w' ⟨rfl, rfl⟩)
      | (go_at_call 13; refine (more_ok b _ _ _ l _ HL.out HN2.out).mono ?_; rintro e w' ⟨rfl, rfl⟩)
      | (go_at_call 14; refine (back_any A n c _ l _ HB2.out Hm.out Hg.out (fun ad e => Nat.ne_of_lt (Nat.lt_of_lt_of_le (Hlt.out ad e) H1.out.size))).mono ?_; rintro e w3 ⟨rfl, hg⟩; have H3 := Lib.hid hg; have HB3 := Lib.hid (HB2.out.grown hg (fun ad e => Nat.ne_of_lt (Nat.lt_of_lt_of_le (Hlt.out ad e) H1.out.size))); clear hg)
      | (go_at_call 15; refine (rmore_ok b _ _ _ l _ HB3.out).mono ?_; rintro e w' ⟨rfl, rfl⟩)
      | (go_at_call 16; refine (rsum_any _ _ _ l _ HB3.out).mono ?_; rintro e w' ⟨rfl, rfl⟩))
    go_ret
    exact ⟨rfl, (H1.out.trans (H2.out.mono H1.out.size)).grown H3.out (Nat.le_trans H1.out.size H2.out.size) (fun k hk => by cases hk; exact H1.out.size)⟩
  | false =>
    have H := Lib.hid h
    clear h
    go_enter Tryd.func3, Tryd.ntmps3
    go_wp2_with (first
      | (go_at_call 10; refine (awake11 _ HN.out).mono ?_; rintro e w1 ⟨rfl, hb⟩; have H1 := Lib.hid hb; have HN1 := Lib.hid (HN.out.below hb); have HB1 := Lib.hid (HB.out.below hb); clear hb)
      | (go_at_call 11; refine (lent_any A n c l _ HB1.out Hm.out).mono ?_; rintro e w2 ⟨rfl, hg, hb⟩; have Hg := Lib.hid hg; have HL := Lib.hid (lent_bs HB1.out.len HB1.out.max hg); have H2 := Lib.hid hb; have HN2 := Lib.hid (HN1.out.below hb); have HB2 := Lib.hid (HB1.out.below hb); clear hb hg)
      | (go_at_call 12; refine (sum_any _ _ _ l _ HL.out HN2.out).mono ?_; rintro e w' ⟨rfl, rfl⟩)
      | (go_at_call 13; refine (more_bad s _ _ _ _ H.out).mono ?_; rintro e w' ⟨rfl, rfl⟩)
      | (go_at_call 14; refine (back_any A n c _ l _ HB2.out Hm.out Hg.out (fun ad e => Nat.ne_of_lt (Nat.lt_of_lt_of_le (Hlt.out ad e) H1.out.size))).mono ?_; rintro e w3 ⟨rfl, hg⟩; have H3 := Lib.hid hg; have HB3 := Lib.hid (HB2.out.grown hg (fun ad e => Nat.ne_of_lt (Nat.lt_of_lt_of_le (Hlt.out ad e) H1.out.size))); clear hg)
      | (go_at_call 15; refine (rmore_bad s _ _ _ _ H.out).mono ?_; rintro e w' ⟨rfl, rfl⟩)
      | (go_at_call 16; refine (rsum_any _ _ _ l _ HB3.out).mono ?_; rintro e w' ⟨rfl, rfl⟩))
    go_ret
    exact ⟨rfl, (H1.out.trans (H2.out.mono H1.out.size)).grown H3.out (Nat.le_trans H1.out.size H2.out.size) (fun k hk => by cases hk; exact H1.out.size)⟩

end Go.Proofs.YtmmbofgamipfiaaDoor
