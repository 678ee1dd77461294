/-
  WHAT EVERY ROW NEEDS: arguments opened; a result 'true' with nothing old turned is the row's post; the table of sixteen.
-/
import Derived.Test.YteljopjaolegaaaDoorCards
import Derived.Test.YteljopjaolegaaaDoorTie
import Derived.Test.YteljopjaolegaaaDoorWords
import Derived.ProofKit
import Derived.OpenShut
import Derived.ShutString
import Derived.ChangeOld
import Derived.Below
import Derived.Carry
import Derived.SizedLaws
import Derived.Deep.DeepHandedRow
import Derived.Lib.LaidTab
namespace Go.Proofs.YteljopjaolegaaaDoor
open Go.ChangeShapes Go.WideShapes Go.ChangeAt Go.RowKit
set_option maxRecDepth 100000

theorem ownK : ownKnob Tryd.prog.godebug = none := by kernel_rfl
theorem laidOut : laidOutB Tryd.prog = true := by kernel_rfl
theorem nibNamed : Tryd.prog.globalNamed "coffret/sum.nibble" = some 1 := by kernel_rfl
theorem nibType : (Tryd.prog.globals[1]?).map (·.type) = some 151 := by kernel_rfl
theorem nibCells : Tryd.prog.cellsOf 151 = 16 := by kernel_rfl
theorem wordCells : Tryd.prog.cellsOf 149 = 1 := by kernel_rfl
theorem byteCells : Tryd.prog.cellsOf 5 = 1 := by kernel_rfl
theorem byteBytes : Tryd.prog.bytesOf 5 = 1 := by kernel_rfl

/-- The sixteen words. -/
def nibWords : List Int := [0, 498536548, 997073096, 651767980, 1994146192, 1802195444, 1303535960, 1342533948, 3988292384, 4027552580, 3604390888, 3412177804, 2607071920, 2262029012, 2685067896, 3183342108]
theorem nibWords_is : ∀ i : Fin 16, nibWords.getD i.val 0 = ui (Crc.tab.getD i.val 0#32) := by decide
theorem nib_of {W : World} {rest : List (String × DataW Unit)} (h : laidMet Tryd.prog (("coffret/sum.nibble", Rows.laid_coffret_sum_nibble) :: rest) W) : Nib W := fun i hi => by
  have hT : Lib.TabIs Tryd.prog W "coffret/sum.nibble" .u32 nibWords := Lib.tabIs_of_head nibNamed nibType Tryd.underlying151 Tryd.underlying149 wordCells nibCells h
  rw [hT.cell nibNamed i hi, nibWords_is ⟨i, hi⟩]

/-- An argument of type int. -/
theorem arg_int {H : Type} {enc : TypeId × Value → H} {W : World} {base b0 : Nat} {sp : Nat → Bool} {held : Bool} {v : Value} {d : DataW H} {p : List MemPlace}
    (hval : Value.okWide Tryd.prog W .any b0 3 v) (h : DataW.Trod enc Tryd.prog W base sp held 3 v d p) :
    ∃ n, v = .int .i64 n ∧ -9223372036854775808 ≤ n ∧ n ≤ 9223372036854775807 := by
  obtain ⟨n, rfl, _, _, hw⟩ := open_int Tryd.underlying3 hval h
  refine ⟨n, rfl, ?_⟩
  simpa [Lit.wf, IntKind.min, IntKind.max, IntKind.signed, IntKind.bits] using hw

/-- An argument of type []byte. -/
theorem arg_bytes {H : Type} {enc : TypeId × Value → H} {W : World} {base b0 : Nat} {held : Bool} {v : Value} {d : DataW H} {p : List MemPlace} {ts : List TypeId} {ds : List (DataW H)} {j : Nat}
    (hval : Value.okWide Tryd.prog W .any b0 31 v) (h : DataW.Trod enc Tryd.prog W base (fun _ => true) held 31 v d p)
    (hz : (DataW.weightsEach Tryd.prog ts ds).all (· ≤ reachBytes) = true) (hj : ts[j]? = some 31) (hd : ds[j]? = some d) :
    ∃ A n c l, v = .slice A n c ∧ Bs W A n l ∧ n ≤ c ∧ c ≤ 140737488351232 ∧ c + 1 ≤ Rows.uptoBulk d ∧ ∀ ad, A = some ad → ad.block < W.heap.size := by
  obtain ⟨A, n, c, rfl⟩ := okWide_slice Tryd.underlying31 hval
  have hin : ∀ ad, A = some ad → ad.block < W.heap.size := by
    intro ad e
    subst e
    simp only [Value.okWide, Tryd.underlying31, Cell.okWide, Cell.ok] at hval
    obtain ⟨_, _, _, _, row, cells, hsh, _⟩ := hval
    unfold World.shape? at hsh
    cases ho : W.heap[ad.block]? with
    | none => rw [ho] at hsh; cases hsh
    | some o => exact (Array.getElem?_eq_some_iff.1 ho).1
  obtain ⟨fuel, hf⟩ := h
  rcases open_ints Tryd.underlying31 Tryd.underlying5 byteCells hf with ⟨hcs, hx⟩ | ⟨x, len, cap, zs, hcs, _, hl, hm, hzl, hx, hcell, hwz⟩
  · simp [Value.cells] at hcs
    obtain ⟨rfl, rfl, rfl⟩ := hcs
    cases hx
    exact ⟨none, 0, 0, [], rfl, Bs.nil _ _, by omega, by omega, by simp [Rows.uptoBulk], fun _ h => by cases h⟩
  · simp [Value.cells] at hcs
    obtain ⟨rfl, rfl, rfl⟩ := hcs
    simp only [if_true] at hzl
    cases hx
    have hb := sized_slice hz hj hd Tryd.underlying31
    rw [byteBytes] at hb
    have e1 : (lits (H := H) .u8 (zs.take n)).length = n := by simp [lits]; omega
    have e2 : (lits (H := H) .u8 (zs.drop n)).length = c - n := by simp [lits]; omega
    rw [e1, e2] at hb
    have hlen : ∀ (l : List (DataW H)), l.length ≤ Rows.uptoBulkAll l := by
      intro l
      induction l with
      | nil => simp [Rows.uptoBulkAll]
      | cons x r ih =>
        have h1 : 1 ≤ Rows.uptoBulk x := by
          cases x with
          | lit l => cases l <;> simp [Rows.uptoBulk]
          | nil => simp [Rows.uptoBulk]
          | ptr d => simp [Rows.uptoBulk]
          | slice elems spare => simp [Rows.uptoBulk]
          | agg parts => simp [Rows.uptoBulk]
          | iface t d => simp [Rows.uptoBulk]
          | map entries => simp [Rows.uptoBulk]
          | held h => simp [Rows.uptoBulk]
        simp only [Rows.uptoBulkAll, List.length_cons]; omega
    refine ⟨some x, n, c, (zs.take n).map (fun z => UInt8.ofNat z.toNat), rfl, ⟨by simp; omega, by simp only [reachBytes] at hb; omega, fun k u hk => ⟨x, rfl, ?_⟩⟩, hl, by simp only [reachBytes] at hb; omega, ?_, ?_⟩
    · simp only [List.getElem?_map, Option.map_eq_some_iff] at hk
      obtain ⟨z, hz1, rfl⟩ := hk
      have hkn : k < n := by
        have := (List.getElem?_eq_some_iff.1 hz1).1
        simp at this; omega
      have hz2 : zs[k]? = some z := by rw [List.getElem?_take_of_lt hkn] at hz1; exact hz1
      rw [hcell k (by omega)]
      have hw := hwz z (List.mem_of_getElem? hz2)
      have hzz : zs.getD k 0 = z := by simp [List.getD, hz2]
      rw [hzz]
      have hw' : 0 ≤ z ∧ z ≤ 255 := by simpa [Lit.wf, IntKind.min, IntKind.max, IntKind.signed, IntKind.bits] using hw
      have : ub (UInt8.ofNat z.toNat) = z := by
        unfold ub
        rw [UInt8.toNat_ofNat']
        omega
      rw [this]
    · simp only [Rows.uptoBulk]
      have h1 := hlen (lits (H := H) .u8 (zs.take n))
      have h2 := hlen (lits (H := H) .u8 (zs.drop n))
      omega
    · exact hin

theorem trodAll_below {H : Type} {enc : TypeId × Value → H} {P : Program} (hl : laidOutB P = true) {W W' : World} (hb : Below W.heap.size W W') {ts : List TypeId} :
    ∀ {vs : List Value} {ds : List (DataW H)} {ps : List MemPlace}, ts.all (fun t => P.readableRec t && decide (t < P.types.size)) = true → DataW.TrodAll enc P W 0 (fun _ => true) true ts vs ds ps → (∀ x ∈ ps, x.block < W.heap.size) →
      DataW.TrodAll enc P W' 0 (fun b => decide (b < W.heap.size)) true ts vs ds ps := by
  induction ts with
  | nil =>
    intro vs ds ps _ h _
    obtain ⟨rfl, rfl, rfl⟩ := trodAll_nil h
    exact trodAll_mk0
  | cons t ts ih =>
    intro vs ds ps ht h hlt
    obtain ⟨v, vs', d, ds', p, q, rfl, rfl, rfl, h1, h2⟩ := trodAll_cons h
    simp only [List.all_cons, Bool.and_eq_true, decide_eq_true_eq] at ht
    exact trodAll_cons_mk (Below.trod hl ht.1.1 ht.1.2 h1 hb (fun x hx => hlt x (by simp [hx]))) (ih ht.2 h2 (fun x hx => hlt x (by simp [hx])))

/-- A law that answers true and turns nothing old keeps its row. -/
theorem post_true {H : Type} {enc : TypeId × Value → H} {fn : Func} {s : ChangeSpec} {W W' : World} {args : Array Value} {ds gs : List (DataW H)} {before : List MemPlace}
    (hr : fn.resultTypes = #[4]) (hrow : fn.params.toList.all (fun t => Tryd.prog.readableRec t && decide (t < Tryd.prog.types.size)) = true) (hv : s.vars = [])
    (hW : DataW.Whole enc Tryd.prog fn.params.toList s.vars false W args.toList ds gs before) (hs : s.fn H ds = { results := [.lit (.bool true)], args := ds }) (hb : Below W.heap.size W W') :
    ∃ v, Ending.returned (.bool true) = .returned v ∧ s.post enc Tryd.prog fn false true false false W args v W' := by
  have hW' := hW
  obtain ⟨p, q, hA, hV, rfl, _, _⟩ := hW
  rw [hv] at hV
  obtain ⟨rfl, rfl⟩ := trodVars_none hV
  have hlt : ∀ x ∈ p, x.block < W.heap.size := fun x hx => hW'.lt x (by simp [hx])
  refine ⟨_, rfl, ds, [], p ++ [], [], p, [], hW', ?_, ?_, ?_, hb.frame _, fun h => by cases h⟩
  · rw [hr, List.append_nil, hs]
    exact trodAll_mk1 (shut_bool Tryd.underlying4 _)
  · rw [List.append_nil, hs]
    exact trodAll_below laidOut hb hrow hA hlt
  · rw [List.append_nil, hs, hv]
    rfl

/-- A world for a witness: the settled one, the table holding what its initialiser lays. -/
noncomputable def laidWorld (os : Os) : World :=
  { World.holding Tryd.prog os ⟨#[], #[], []⟩ with heap := (World.holding Tryd.prog os ⟨#[], #[], []⟩).heap.modify 1 fun
      | .cells _ t frozen => .cells (nibWords.map fun z => Value.int .u32 z).toArray t frozen
      | o => o }

end Go.Proofs.YteljopjaolegaaaDoor
