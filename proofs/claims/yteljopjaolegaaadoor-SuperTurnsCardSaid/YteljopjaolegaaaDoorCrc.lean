/-
  THE SUM, PLAIN: turns, their rows, what follows from them (no program here).
-/
namespace Go.Proofs.YteljopjaolegaaaDoor.Crc
set_option maxRecDepth 100000

def poly : BitVec 32 := 0xEDB88320#32

/-- A turn of a number. -/
def turn (r : BitVec 32) : BitVec 32 := if r.getLsbD 0 then (r >>> 1) ^^^ poly else r >>> 1

theorem turn_zero : turn 0#32 = 0#32 := by decide

theorem turn_xor (a b : BitVec 32) : turn (a ^^^ b) = turn a ^^^ turn b := by
  unfold turn
  rw [BitVec.getLsbD_xor, BitVec.ushiftRight_xor_distrib]
  cases a.getLsbD 0 <;> cases b.getLsbD 0 <;> simp
  · ac_rfl
  · ac_rfl
  · have : ∀ x y p : BitVec 32, x ^^^ y = (x ^^^ p) ^^^ (y ^^^ p) := by
      intro x y p
      have : (x ^^^ p) ^^^ (y ^^^ p) = (x ^^^ y) ^^^ (p ^^^ p) := by ac_rfl
      rw [this]; simp
    exact this _ _ _

theorem turn_inj0 (r : BitVec 32) (h : turn r = 0#32) : r = 0#32 := by
  unfold turn at h
  split at h
  · rename_i h0
    have := congrArg (fun x : BitVec 32 => x.getLsbD 31) h
    simp [poly] at this
  · rename_i h0
    apply BitVec.eq_of_getLsbD_eq
    intro i hi
    cases i with
    | zero => simpa using h0
    | succ i =>
      have := congrArg (fun x : BitVec 32 => x.getLsbD i) h
      simp [BitVec.getLsbD_ushiftRight] at this
      rw [Nat.add_comm] at this
      simpa using this

def turns : Nat → BitVec 32 → BitVec 32
  | 0, r => r
  | n + 1, r => turns n (turn r)

theorem turns_xor (n : Nat) (a b : BitVec 32) : turns n (a ^^^ b) = turns n a ^^^ turns n b := by
  induction n generalizing a b with
  | zero => rfl
  | succ n ih => simp only [turns, turn_xor, ih]

theorem turns_zero (n : Nat) : turns n 0#32 = 0#32 := by
  induction n with
  | zero => rfl
  | succ n ih => simp only [turns, turn_zero, ih]

theorem turns_add (m n : Nat) (r : BitVec 32) : turns (m + n) r = turns n (turns m r) := by
  induction m generalizing r with
  | zero => simp [turns]
  | succ m ih => rw [Nat.succ_add]; simp only [turns, ih]

theorem turns_inj0 (n : Nat) (r : BitVec 32) (h : turns n r = 0#32) : r = 0#32 := by
  induction n generalizing r with
  | zero => exact h
  | succ n ih => exact turn_inj0 _ (ih _ h)

theorem turns_inj (n : Nat) (a b : BitVec 32) (h : turns n a = turns n b) : a = b := by
  have : turns n (a ^^^ b) = 0#32 := by rw [turns_xor, h]; simp
  have := turns_inj0 n _ this
  exact BitVec.xor_eq_zero_iff.1 this

/-- A byte as 32 bits. -/
def wide (c : UInt8) : BitVec 32 := c.toBitVec.setWidth 32

theorem wide_xor (a b : UInt8) : wide (a ^^^ b) = wide a ^^^ wide b := by
  unfold wide; rw [UInt8.toBitVec_xor, BitVec.setWidth_xor]

theorem wide_zero : wide 0 = 0#32 := by decide

theorem wide_inj0 (a : UInt8) (h : wide a = 0#32) : a = 0 := by
  unfold wide at h
  have h2 := congrArg BitVec.toNat h
  simp at h2
  apply UInt8.toNat_inj.1
  have := a.toNat_lt
  simp
  omega

def crc (r : BitVec 32) : List UInt8 → BitVec 32
  | [] => r
  | c :: l => crc (turns 8 (r ^^^ wide c)) l

theorem crc_append (r : BitVec 32) (a b : List UInt8) : crc r (a ++ b) = crc (crc r a) b := by
  induction a generalizing r with
  | nil => rfl
  | cons c a ih => simp only [List.cons_append, crc, ih]

/-- The rest of a register goes through bytes by turns alone. -/
theorem crc_split (r s : BitVec 32) (l : List UInt8) : crc (r ^^^ s) l = turns (8 * l.length) r ^^^ crc s l := by
  induction l generalizing r s with
  | nil => rfl
  | cons c l ih =>
    have e : r ^^^ s ^^^ wide c = r ^^^ (s ^^^ wide c) := by ac_rfl
    simp only [crc, e, turns_xor 8 r, ih, List.length_cons]
    rw [show 8 * (l.length + 1) = 8 + 8 * l.length from by omega, turns_add 8]

/-- Two rows exchanged byte by byte. -/
theorem crc_xor (r s : BitVec 32) (a b : List UInt8) (h : a.length = b.length) :
    crc (r ^^^ s) (List.zipWith (· ^^^ ·) a b) = crc r a ^^^ crc s b := by
  induction a generalizing r s b with
  | nil => cases b with
    | nil => rfl
    | cons c b => simp at h
  | cons c a ih => cases b with
    | nil => simp at h
    | cons d b =>
      simp at h
      have e : r ^^^ s ^^^ (wide c ^^^ wide d) = (r ^^^ wide c) ^^^ (s ^^^ wide d) := by ac_rfl
      simp only [List.zipWith_cons_cons, crc, wide_xor, e, turns_xor 8, ih _ _ _ h]

theorem crc_zeros (n : Nat) : crc 0#32 (List.replicate n 0) = 0#32 := by
  induction n with
  | zero => rfl
  | succ n ih => simp only [List.replicate_succ, crc, wide_zero, BitVec.xor_self, turns_zero, ih]

/-- The sum behind a sum. -/
def more (s : BitVec 32) (l : List UInt8) : BitVec 32 := ~~~ crc (~~~ s) l
def sum (l : List UInt8) : BitVec 32 := more 0#32 l
def join (x y : BitVec 32) (n : Nat) : BitVec 32 := turns (8 * n) x ^^^ y

theorem more_append (s : BitVec 32) (a b : List UInt8) : more s (a ++ b) = more (more s a) b := by
  unfold more; rw [crc_append]; simp

theorem sum_append (a b : List UInt8) : sum (a ++ b) = more (sum a) b := more_append _ _ _

theorem not_xor_left (a b : BitVec 32) : ~~~ (a ^^^ b) = a ^^^ ~~~ b := by
  apply BitVec.eq_of_getLsbD_eq
  intro i hi
  simp [hi]

theorem not_eq_xor (x : BitVec 32) : ~~~ x = x ^^^ (~~~ 0#32) := by
  have h1 : (~~~ 0#32) = BitVec.allOnes 32 := by decide
  rw [h1]
  exact (BitVec.xor_allOnes ..).symm

theorem more_join (x : BitVec 32) (b : List UInt8) : more x b = join x (sum b) b.length := by
  unfold more join sum more
  rw [not_eq_xor x, crc_split, not_xor_left]

theorem sum_join (a b : List UInt8) : sum (a ++ b) = join (sum a) (sum b) b.length := by rw [sum_append, more_join]

theorem join_join (x y z : BitVec 32) (m n : Nat) : join (join x y m) z n = join x (join y z n) (m + n) := by
  unfold join
  rw [turns_xor, ← turns_add, show 8 * m + 8 * n = 8 * (m + n) from by omega]
  ac_rfl

theorem sum_eq_iff (a b : List UInt8) (h : a.length = b.length) :
    sum a = sum b ↔ crc 0#32 (List.zipWith (· ^^^ ·) a b) = 0#32 := by
  unfold sum more
  have := crc_xor (~~~ 0#32) (~~~ 0#32) a b h
  rw [BitVec.xor_self] at this
  rw [this, BitVec.xor_eq_zero_iff]
  constructor
  · intro h; simpa using h
  · intro h; rw [h]

theorem xor_cancel_mid (x p y : BitVec 32) : (x ^^^ p) ^^^ (p ^^^ y) = x ^^^ y := by
  have : (x ^^^ p) ^^^ (p ^^^ y) = x ^^^ y ^^^ (p ^^^ p) := by ac_rfl
  rw [this]; simp

/-- Three rows of one length, exchanged. -/
theorem sum_affine (a b c : List UInt8) (h1 : a.length = b.length) (h2 : b.length = c.length) :
    sum (List.zipWith (· ^^^ ·) (List.zipWith (· ^^^ ·) a b) c) = sum a ^^^ sum b ^^^ sum c := by
  have hl : (List.zipWith (· ^^^ ·) a b).length = c.length := by simp; omega
  have k1 := crc_xor (~~~ 0#32) (~~~ 0#32) a b h1
  have k2 := crc_xor 0#32 (~~~ 0#32) (List.zipWith (· ^^^ ·) a b) c hl
  rw [BitVec.xor_self] at k1
  simp only [BitVec.zero_xor] at k2
  unfold sum more
  rw [k2, k1, not_xor_left]
  have : ∀ x y z : BitVec 32, x ^^^ y ^^^ ~~~ z = ~~~ x ^^^ ~~~ y ^^^ ~~~ z := by
    intro x y z
    apply BitVec.eq_of_getLsbD_eq
    intro i hi
    simp [hi]
  exact this _ _ _

/-! ### A burst of up to four bytes -/

theorem turn_shl (x : BitVec 32) (h : x.getLsbD 31 = false) : turn (x <<< 1) = x := by
  unfold turn
  have h0 : (x <<< 1).getLsbD 0 = false := by simp
  rw [h0]
  simp only [Bool.false_eq_true, if_false]
  apply BitVec.eq_of_getLsbD_eq
  intro i hi
  simp only [BitVec.getLsbD_ushiftRight, BitVec.getLsbD_shiftLeft]
  by_cases h31 : i = 31
  · subst h31; rw [h]; simp
  · simp; intro _; omega

/-- The bits from k on are 0. -/
def low (x : BitVec 32) (k : Nat) : Prop := ∀ i, k ≤ i → x.getLsbD i = false

theorem turns_shl (k : Nat) (x : BitVec 32) (hk : k ≤ 32) (h : low x (32 - k)) : turns k (x <<< k) = x := by
  induction k generalizing x with
  | zero => simp [turns]
  | succ k ih =>
    rw [turns, show x <<< (k + 1) = (x <<< k) <<< 1 from by rw [BitVec.shiftLeft_add], turn_shl]
    · exact ih x (by omega) (fun i hi => h i (by omega))
    · rw [BitVec.getLsbD_shiftLeft]
      by_cases e : (31 : Nat) < k
      · simp [e]
      · rw [h (31 - k) (by omega)]; simp

def pack : List UInt8 → BitVec 32
  | [] => 0#32
  | c :: l => wide c ^^^ (pack l <<< 8)

theorem wide_low (c : UInt8) : low (wide c) 8 := by
  intro i hi
  unfold wide
  rw [BitVec.getLsbD_setWidth]
  rw [BitVec.getLsbD_of_ge _ _ hi]; simp

theorem pack_low (l : List UInt8) (h : l.length ≤ 4) : low (pack l) (8 * l.length) := by
  induction l with
  | nil => intro i _; simp [pack]
  | cons c l ih =>
    intro i hi
    simp only [List.length_cons] at hi h
    rw [pack, BitVec.getLsbD_xor, wide_low c i (by omega), BitVec.getLsbD_shiftLeft]
    rw [ih (by omega) (i - 8) (by omega)]; simp

theorem crc_pack (r : BitVec 32) (l : List UInt8) (h : l.length ≤ 4) : crc r l = turns (8 * l.length) (r ^^^ pack l) := by
  induction l generalizing r with
  | nil => simp [crc, pack, turns]
  | cons c l ih =>
    simp only [List.length_cons] at h
    rw [crc, ih _ (by omega)]
    have hp : pack l = turns 8 (pack l <<< 8) := by
      rw [turns_shl 8 _ (by omega)]
      intro i hi
      exact pack_low l (by omega) i (by omega)
    conv => lhs; rw [hp]
    rw [← turns_xor, List.length_cons, show 8 * (l.length + 1) = 8 + 8 * l.length from by omega, turns_add 8, pack]
    congr 2
    ac_rfl

theorem pack_inj0 (l : List UInt8) (h : l.length ≤ 4) (h0 : pack l = 0#32) : ∀ c ∈ l, c = 0 := by
  induction l with
  | nil => simp
  | cons c l ih =>
    simp only [List.length_cons] at h
    have hb : ∀ i, (wide c).getLsbD i = (pack l <<< 8).getLsbD i := by
      intro i
      have := congrArg (fun x : BitVec 32 => x.getLsbD i) h0
      simpa [pack] using this
    have hc : wide c = 0#32 := by
      apply BitVec.eq_of_getLsbD_eq
      intro i hi
      by_cases h8 : i < 8
      · rw [hb i, BitVec.getLsbD_shiftLeft]; simp [h8]
      · rw [wide_low c i (by omega)]; simp
    have hl : pack l = 0#32 := by
      apply BitVec.eq_of_getLsbD_eq
      intro i hi
      by_cases h8 : i < 24
      · have := hb (i + 8)
        rw [hc, BitVec.getLsbD_shiftLeft] at this
        have h32 : i + 8 < 32 := by omega
        simp [h32] at this
        simpa using this
      · rw [pack_low l (by omega) i (by omega)]; simp
    intro d hd
    rcases List.mem_cons.1 hd with rfl | hd
    · exact wide_inj0 _ hc
    · exact ih (by omega) hl d hd

theorem crc_burst (k m : Nat) (l : List UInt8) (h : l.length ≤ 4) :
    crc 0#32 (List.replicate k 0 ++ l ++ List.replicate m 0) = 0#32 ↔ ∀ c ∈ l, c = 0 := by
  rw [crc_append, crc_append, crc_zeros]
  have e : ∀ r, crc r (List.replicate m 0) = turns (8 * m) r := by
    intro r
    have := crc_split r 0#32 (List.replicate m 0)
    simpa [crc_zeros] using this
  rw [e]
  constructor
  · intro h0
    have h1 := turns_inj0 _ _ h0
    rw [crc_pack _ _ h] at h1
    have h2 := turns_inj0 _ _ h1
    simp at h2
    exact pack_inj0 l h h2
  · intro h0
    have : l = List.replicate l.length 0 := List.eq_replicate_iff.2 ⟨rfl, h0⟩
    rw [this, crc_zeros, turns_zero]


/-! ### The table of sixteen -/

def tab : List (BitVec 32) := [0x00000000#32, 0x1DB71064#32, 0x3B6E20C8#32, 0x26D930AC#32, 0x76DC4190#32, 0x6B6B51F4#32, 0x4DB26158#32, 0x5005713C#32,
  0xEDB88320#32, 0xF00F9344#32, 0xD6D6A3E8#32, 0xCB61B38C#32, 0x9B64C2B0#32, 0x86D3D2D4#32, 0xA00AE278#32, 0xBDBDF21C#32]

theorem tab_turns : ∀ k : Fin 16, tab.getD k.val 0#32 = turns 4 (BitVec.ofNat 32 k.val) := by decide

theorem low_split (r : BitVec 32) : r = ((r >>> 4) <<< 4) ^^^ (r &&& 15#32) := by
  apply BitVec.eq_of_getLsbD_eq
  intro i hi
  have h15 : (15#32).getLsbD i = decide (i < 4) := by
    rcases Nat.lt_or_ge i 4 with h | h
    · match i, h with
      | 0, _ => rfl
      | 1, _ => rfl
      | 2, _ => rfl
      | 3, _ => rfl
    · rw [show decide (i < 4) = false from by simp; omega]
      have : low 15#32 4 := by
        intro j hj
        have := BitVec.getLsbD_of_ge (15#4) j hj
        rw [show (15#32) = (15#4).setWidth 32 from by decide, BitVec.getLsbD_setWidth, this]; simp
      exact this i h
  rw [BitVec.getLsbD_xor, BitVec.getLsbD_and, h15, BitVec.getLsbD_shiftLeft, BitVec.getLsbD_ushiftRight]
  by_cases h : i < 4
  · simp [h, hi]
  · simp [h, hi, show 4 + (i - 4) = i from by omega]

theorem and15_lt (r : BitVec 32) : (r &&& 15#32).toNat < 16 := by
  rw [BitVec.toNat_and]
  exact Nat.lt_of_le_of_lt Nat.and_le_right (by decide)

/-- Four turns by the table. -/
theorem nibble_turns (r : BitVec 32) : (r >>> 4) ^^^ tab.getD (r &&& 15#32).toNat 0#32 = turns 4 r := by
  have h := tab_turns ⟨(r &&& 15#32).toNat, and15_lt r⟩
  simp only [BitVec.ofNat_toNat, BitVec.setWidth_eq] at h
  rw [h]
  conv => rhs; rw [low_split r, turns_xor]
  rw [turns_shl 4 _ (by omega)]
  intro i hi
  rw [BitVec.getLsbD_ushiftRight, BitVec.getLsbD_of_ge _ _ (by omega)]

theorem byte_turns (r : BitVec 32) : turns 4 (turns 4 r) = turns 8 r := (turns_add 4 4 r).symm

/-! ### Rows of what becomes of each bit -/

/-- m tells what f makes of each bit. -/
def Tells (f : BitVec 32 → BitVec 32) (m : List (BitVec 32)) : Prop := m.length = 32 ∧ ∀ i, i < 32 → m.getD i 0#32 = f (1#32 <<< i)
def Lin (f : BitVec 32 → BitVec 32) : Prop := f 0#32 = 0#32 ∧ ∀ a b, f (a ^^^ b) = f a ^^^ f b

theorem lin_turns (n : Nat) : Lin (turns n) := ⟨turns_zero n, turns_xor n⟩

/-- What is left of n from bit i on. -/
def from_ (n : BitVec 32) (i : Nat) : BitVec 32 := (n >>> i) <<< i

theorem from_zero (n : BitVec 32) : from_ n 0 = n := by simp [from_]

theorem getLsbD_from (n : BitVec 32) (i j : Nat) : (from_ n i).getLsbD j = (decide (i ≤ j) && n.getLsbD j) := by
  unfold from_
  rw [BitVec.getLsbD_shiftLeft, BitVec.getLsbD_ushiftRight]
  by_cases h : i ≤ j
  · have e : i + (j - i) = j := by omega
    rw [e]
    by_cases h32 : j < 32
    · simp [h, h32, Nat.not_lt.2 h]
    · rw [BitVec.getLsbD_of_ge n j (by omega)]; simp
  · simp [h, Nat.lt_of_not_le h]

theorem from_step (n : BitVec 32) (i : Nat) :
    from_ n i = (if n.getLsbD i then 1#32 <<< i else 0#32) ^^^ from_ n (i + 1) := by
  apply BitVec.eq_of_getLsbD_eq
  intro j hj
  rw [BitVec.getLsbD_xor, getLsbD_from, getLsbD_from]
  have h1 : (1#32 <<< i).getLsbD j = decide (i = j) := by
    rw [BitVec.getLsbD_shiftLeft, BitVec.getLsbD_one]
    by_cases h : i = j
    · subst h; simp [hj]
    · simp [h, hj]; omega
  by_cases e : i = j
  · subst e
    cases hb : n.getLsbD i
    · simp
    · simp [h1]
  · cases hb : n.getLsbD i <;> by_cases h2 : i ≤ j <;> simp [h1, e, h2] <;> intros <;> omega

theorem from_end (n : BitVec 32) (i : Nat) (h : 32 ≤ i) : from_ n i = 0#32 := by
  apply BitVec.eq_of_getLsbD_eq
  intro j hj
  rw [getLsbD_from]; simp; omega

theorem from_shr_zero (n : BitVec 32) (i : Nat) (h : n >>> i = 0#32) : from_ n i = 0#32 := by simp [from_, h]

/-- What a row makes of a number, bit by bit from bit i on. -/
def ofFrom (m : List (BitVec 32)) (n : BitVec 32) : Nat → Nat → BitVec 32
  | 0, _ => 0#32
  | k + 1, i => (if n.getLsbD i then m.getD i 0#32 else 0#32) ^^^ ofFrom m n k (i + 1)

def of (m : List (BitVec 32)) (n : BitVec 32) : BitVec 32 := ofFrom m n 32 0

theorem ofFrom_tells {f : BitVec 32 → BitVec 32} {m : List (BitVec 32)} (hf : Lin f) (hm : Tells f m) (n : BitVec 32) (k i : Nat) (h : i + k = 32) :
    ofFrom m n k i = f (from_ n i) := by
  induction k generalizing i with
  | zero => rw [ofFrom, from_end n i (by omega), hf.1]
  | succ k ih =>
    rw [ofFrom, ih (i + 1) (by omega), from_step n i, hf.2]
    congr 1
    split
    · exact hm.2 i (by omega)
    · exact hf.1.symm

theorem of_tells {f : BitVec 32 → BitVec 32} {m : List (BitVec 32)} (hf : Lin f) (hm : Tells f m) (n : BitVec 32) : of m n = f n := by
  rw [of, ofFrom_tells hf hm n 32 0 rfl, from_zero]

def twice (m : List (BitVec 32)) : List (BitVec 32) := m.map (of m)

theorem twice_tells {f : BitVec 32 → BitVec 32} {m : List (BitVec 32)} (hf : Lin f) (hm : Tells f m) : Tells (fun x => f (f x)) (twice m) := by
  refine ⟨by simp [twice, hm.1], fun i hi => ?_⟩
  have h := hm.2 i hi
  have hl : i < m.length := by rw [hm.1]; exact hi
  rw [List.getD_eq_getElem?_getD, List.getElem?_eq_getElem hl] at h
  rw [twice, List.getD_eq_getElem?_getD, List.getElem?_map, List.getElem?_eq_getElem hl]
  simp only [Option.map_some, Option.getD_some] at h ⊢
  rw [of_tells hf hm, h]

theorem twice_turns {n : Nat} {m : List (BitVec 32)} (hm : Tells (turns n) m) : Tells (turns (2 * n)) (twice m) := by
  have := twice_tells (lin_turns n) hm
  have e : (fun x => turns n (turns n x)) = turns (2 * n) := by
    funext x; rw [show 2 * n = n + n from by omega, turns_add]
  rwa [e] at this

/-- One turn of each bit. -/
def one : List (BitVec 32) := (List.range 32).map fun i => turn (1#32 <<< i)
theorem one_tells : Tells (turns 1) one := by
  refine ⟨by simp [one], fun i hi => ?_⟩
  simp [one, List.getD_eq_getElem?_getD, hi, turns]

/-- Joining by rows that are doubled. -/
def joinBy (m : List (BitVec 32)) : Nat → Nat → BitVec 32 → BitVec 32
  | 0, _, r => r
  | k + 1, n, r => if n = 0 then r else joinBy (twice m) k (n / 2) (if n % 2 = 1 then of m r else r)

theorem joinBy_turns (k : Nat) : ∀ (m : List (BitVec 32)) (t n : Nat) (r : BitVec 32), Tells (turns t) m → n < 2 ^ k → joinBy m k n r = turns (t * n) r := by
  induction k with
  | zero => intro m t n r hm hn; obtain rfl : n = 0 := by omega
            simp [joinBy, turns]
  | succ k ih =>
    intro m t n r hm hn
    rw [joinBy]
    split
    · rename_i h; subst h; simp [turns]
    · rename_i h
      rw [ih (twice m) (2 * t) (n / 2) _ (twice_turns hm) (by rw [Nat.pow_succ] at hn; omega)]
      have hd : t * n = t * (n % 2) + 2 * t * (n / 2) := by
        conv => lhs; rw [← Nat.mod_add_div n 2]
        rw [Nat.mul_add, ← Nat.mul_assoc, Nat.mul_comm t 2]
      rw [hd]
      split
      · rename_i h1
        rw [h1, Nat.mul_one, turns_add, of_tells (lin_turns t) hm]
      · rename_i h1
        rw [show n % 2 = 0 from by omega, Nat.mul_zero, Nat.zero_add]

end Go.Proofs.YteljopjaolegaaaDoor.Crc
