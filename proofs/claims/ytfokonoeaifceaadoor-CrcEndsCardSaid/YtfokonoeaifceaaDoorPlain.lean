/- Plain law of the sum of 16 bits, bit by bit: no program in sight. -/
namespace Go.Proofs.YtfokonoeaifceaaDoor.CrcM

/-- one bit step -/
def step (c : BitVec 16) : BitVec 16 := if c.msb then (c <<< 1) ^^^ 0x1021#16 else c <<< 1

theorem step_zero : step 0 = 0 := by decide

theorem step_xor (a b : BitVec 16) : step (a ^^^ b) = step a ^^^ step b := by
  unfold step
  rw [BitVec.msb_xor, BitVec.shiftLeft_xor_distrib]
  cases a.msb <;> cases b.msb <;> simp
  · ac_rfl
  · ac_rfl
  · rw [show a <<< 1 ^^^ 4129#16 ^^^ (b <<< 1 ^^^ 4129#16) = a <<< 1 ^^^ b <<< 1 ^^^ (4129#16 ^^^ 4129#16) by ac_rfl]
    simp

theorem step_inj0 (c : BitVec 16) (h : step c = 0) : c = 0 := by
  unfold step at h
  have h0 : ((if c.msb then (c <<< 1) ^^^ 0x1021#16 else c <<< 1) : BitVec 16).getLsbD 0 = false := by rw [h]; simp
  cases hm : c.msb with
  | true => simp [hm] at h0
  | false =>
    simp only [hm] at h
    simp only [Bool.false_eq_true, if_false] at h
    apply BitVec.eq_of_getLsbD_eq
    intro i hi
    by_cases h15 : i = 15
    · subst h15
      have : c.getLsbD 15 = c.msb := by simp [BitVec.msb_eq_getLsbD_last]
      rw [this, hm]; simp
    · have h1 : (c <<< 1).getLsbD (i + 1) = false := by rw [h]; simp
      rw [BitVec.getLsbD_shiftLeft] at h1
      have h2 : i + 1 < 16 := by omega
      simpa [h2] using h1

def steps : Nat → BitVec 16 → BitVec 16
  | 0, c => c
  | n + 1, c => steps n (step c)

theorem steps_add (m n : Nat) (c : BitVec 16) : steps (m + n) c = steps n (steps m c) := by
  induction m generalizing c with
  | zero => simp [steps]
  | succ m ih => rw [show m + 1 + n = (m + n) + 1 by omega]; simp only [steps]; rw [ih]

theorem steps_zero (n : Nat) : steps n 0 = 0 := by
  induction n with
  | zero => rfl
  | succ n ih => simp only [steps]; rw [step_zero]; exact ih

theorem steps_xor (n : Nat) (a b : BitVec 16) : steps n (a ^^^ b) = steps n a ^^^ steps n b := by
  induction n generalizing a b with
  | zero => rfl
  | succ n ih => simp only [steps]; rw [step_xor, ih]

theorem steps_inj0 (n : Nat) (c : BitVec 16) (h : steps n c = 0) : c = 0 := by
  induction n generalizing c with
  | zero => exact h
  | succ n ih => simp only [steps] at h; exact step_inj0 _ (ih _ h)

/-- no overflow: the bits go up -/
theorem steps_low (n : Nat) (c : BitVec 16) (h : c.toNat < 2 ^ (16 - n)) (hn : n ≤ 16) : steps n c = c <<< n := by
  induction n generalizing c with
  | zero => simp [steps]
  | succ n ih =>
    have hm : c.msb = false := by
      rw [BitVec.msb_eq_decide]
      have : (2 : Nat) ^ (16 - (n + 1)) ≤ 2 ^ 15 := Nat.pow_le_pow_right (by decide) (by omega)
      simp; omega
    have hs : step c = c <<< 1 := by unfold step; simp [hm]
    have hlt : c.toNat * 2 < 2 ^ (16 - n) := by
      have : (2 : Nat) ^ (16 - n) = 2 ^ (16 - (n + 1)) * 2 := by rw [← Nat.pow_succ]; congr 1; omega
      omega
    have hlt2 : c.toNat * 2 < 65536 := by
      have : (2 : Nat) ^ (16 - n) ≤ 2 ^ 16 := Nat.pow_le_pow_right (by decide) (by omega)
      omega
    have h1 : (c <<< 1).toNat = c.toNat * 2 := by
      rw [BitVec.toNat_shiftLeft, Nat.shiftLeft_eq]
      exact Nat.mod_eq_of_lt (by omega)
    simp only [steps]
    rw [hs, ih _ (by rw [h1]; exact hlt) (by omega), ← BitVec.shiftLeft_add, Nat.add_comm]

/-- the table of the half bytes -/
def halves : List (BitVec 16) := [0x0000#16, 0x1021#16, 0x2042#16, 0x3063#16, 0x4084#16, 0x50a5#16, 0x60c6#16, 0x70e7#16,
  0x8108#16, 0x9129#16, 0xa14a#16, 0xb16b#16, 0xc18c#16, 0xd1ad#16, 0xe1ce#16, 0xf1ef#16]

def half (c : BitVec 16) : BitVec 16 := (c <<< 4) ^^^ halves.getD (c.toNat / 4096) 0

theorem halves_steps : ∀ i : Fin 16, (BitVec.ofNat 16 (i.val * 4096)) <<< 4 = 0 ∧ steps 4 (BitVec.ofNat 16 (i.val * 4096)) = halves.getD i.val 0 := by decide

theorem split_hi (c : BitVec 16) : c = BitVec.ofNat 16 (c.toNat / 4096 * 4096) ^^^ (c &&& 0xfff#16) := by
  have hlo : (c &&& 0xfff#16).toNat = c.toNat % 4096 := by
    rw [BitVec.toNat_and]
    exact Nat.and_two_pow_sub_one_eq_mod c.toNat 12
  have hd : BitVec.ofNat 16 (c.toNat / 4096 * 4096) &&& (c &&& 0xfff#16) = 0 := by
    apply BitVec.eq_of_toNat_eq
    rw [BitVec.toNat_and, hlo, BitVec.toNat_ofNat]
    have hl := c.isLt
    rw [Nat.mod_eq_of_lt (by omega : c.toNat / 4096 * 4096 < 2 ^ 16)]
    apply Nat.eq_of_testBit_eq
    intro i
    rw [Nat.testBit_and, show (4096 : Nat) = 2 ^ 12 by decide, Nat.testBit_mul_two_pow, Nat.testBit_mod_two_pow]
    by_cases h : 12 ≤ i
    · simp [Nat.not_lt.2 h]
    · simp [h]
  have hx : BitVec.ofNat 16 (c.toNat / 4096 * 4096) ^^^ (c &&& 0xfff#16) = BitVec.ofNat 16 (c.toNat / 4096 * 4096) + (c &&& 0xfff#16) := by
    rw [BitVec.add_eq_or_of_and_eq_zero _ _ hd]
    apply BitVec.eq_of_getLsbD_eq
    intro i hi
    have := congrArg (fun x => x.getLsbD i) hd
    simp only [BitVec.getLsbD_and] at this
    simp only [BitVec.getLsbD_or, BitVec.getLsbD_xor, BitVec.getLsbD_and]
    revert this
    generalize (BitVec.ofNat 16 (c.toNat / 4096 * 4096)).getLsbD i = p
    generalize c.getLsbD i = q
    generalize (4095#16).getLsbD i = r
    cases p <;> cases q <;> cases r <;> simp
  rw [hx]
  apply BitVec.eq_of_toNat_eq
  rw [BitVec.toNat_add, hlo, BitVec.toNat_ofNat]
  have hl := c.isLt
  omega

theorem half_steps (c : BitVec 16) : half c = steps 4 c := by
  unfold half
  have hl := c.isLt
  have hi : c.toNat / 4096 < 16 := by omega
  have ht := halves_steps ⟨c.toNat / 4096, hi⟩
  have hlo : (c &&& 0xfff#16).toNat = c.toNat % 4096 := by
    rw [BitVec.toNat_and]
    exact Nat.and_two_pow_sub_one_eq_mod c.toNat 12
  conv => rhs; rw [split_hi c]
  rw [steps_xor, steps_low 4 (c &&& 0xfff#16) (by rw [hlo]; exact Nat.mod_lt _ (by decide)) (by decide), ht.2]
  conv => lhs; arg 1; rw [split_hi c]
  rw [BitVec.shiftLeft_xor_distrib, ht.1]
  simp [BitVec.xor_comm]

/-- a byte -/
def bstep (c : BitVec 16) (x : Int) : BitVec 16 := steps 8 (c ^^^ (BitVec.ofInt 16 x <<< 8))
def crc (c : BitVec 16) (l : List Int) : BitVec 16 := l.foldl bstep c

theorem bstep_half (c : BitVec 16) (x : Int) : half (half (c ^^^ (BitVec.ofInt 16 x <<< 8))) = bstep c x := by
  rw [half_steps, half_steps, ← steps_add]; rfl

theorem crc_append (c : BitVec 16) (a b : List Int) : crc c (a ++ b) = crc (crc c a) b := by simp [crc]
theorem crc_snoc (c : BitVec 16) (a : List Int) (x : Int) : crc c (a ++ [x]) = bstep (crc c a) x := by simp [crc]

theorem crc_zeros (n : Nat) : crc 0 (List.replicate n 0) = 0 := by
  induction n with
  | zero => rfl
  | succ n ih =>
    rw [List.replicate_succ]
    show crc (bstep 0 0) _ = 0
    rw [show bstep 0 0 = 0 by decide]; exact ih


/-- two bytes, bit by bit -/
def bxor (x y : Int) : Int := ((BitVec.ofInt 8 x ^^^ BitVec.ofInt 8 y).toNat : Int)

def isByte (x : Int) : Prop := 0 ≤ x ∧ x < 256

theorem ofInt16 (x : Int) (h : isByte x) : BitVec.ofInt 16 x = BitVec.setWidth 16 (BitVec.ofInt 8 x) := by
  obtain ⟨h0, h1⟩ := h
  obtain ⟨n, rfl⟩ := Int.eq_ofNat_of_zero_le h0
  apply BitVec.eq_of_toNat_eq
  simp
  omega

theorem ofInt16_bxor (x y : Int) (hx : isByte x) (hy : isByte y) : BitVec.ofInt 16 (bxor x y) = BitVec.ofInt 16 x ^^^ BitVec.ofInt 16 y := by
  rw [ofInt16 x hx, ofInt16 y hy]
  unfold bxor
  rw [← BitVec.setWidth_xor]
  generalize BitVec.ofInt 8 x ^^^ BitVec.ofInt 8 y = v
  apply BitVec.eq_of_toNat_eq
  have h8 := v.isLt
  simp

theorem bxor_byte (x y : Int) : isByte (bxor x y) := by
  unfold bxor isByte
  have := (BitVec.ofInt 8 x ^^^ BitVec.ofInt 8 y).isLt
  omega

theorem bstep_xor (c d : BitVec 16) (x y : Int) (hx : isByte x) (hy : isByte y) : bstep (c ^^^ d) (bxor x y) = bstep c x ^^^ bstep d y := by
  unfold bstep
  rw [ofInt16_bxor x y hx hy, BitVec.shiftLeft_xor_distrib, ← steps_xor]
  congr 1
  ac_rfl

def bxors : List Int → List Int → List Int
  | x :: a, y :: b => bxor x y :: bxors a b
  | _, _ => []

theorem crc_xor (a b : List Int) : ∀ (c d : BitVec 16), a.length = b.length → (∀ x ∈ a, isByte x) → (∀ x ∈ b, isByte x) →
    crc (c ^^^ d) (bxors a b) = crc c a ^^^ crc d b := by
  induction a generalizing b with
  | nil => intro c d hl _ _; cases b with
    | nil => rfl
    | cons y b => simp at hl
  | cons x a ih =>
    intro c d hl ha hb
    cases b with
    | nil => simp at hl
    | cons y b =>
      show crc (bstep (c ^^^ d) (bxor x y)) (bxors a b) = crc (bstep c x) a ^^^ crc (bstep d y) b
      rw [bstep_xor c d x y (ha x (by simp)) (hb y (by simp))]
      exact ih b _ _ (by simpa using hl) (fun z hz => ha z (by simp [hz])) (fun z hz => hb z (by simp [hz]))

/-- from a word of 16 bits: its two bytes -/
def hiB (c : BitVec 16) : Int := ((c.toNat / 256 : Nat) : Int)
def loB (c : BitVec 16) : Int := ((c.toNat % 256 : Nat) : Int)

theorem split8 (c : BitVec 16) : c ^^^ (BitVec.ofInt 16 (hiB c) <<< 8) = BitVec.ofInt 16 (loB c) := by
  have hl := c.isLt
  have h1 : BitVec.ofInt 16 (hiB c) <<< 8 = BitVec.ofNat 16 (c.toNat / 256 * 256) := by
    apply BitVec.eq_of_toNat_eq
    unfold hiB
    simp [BitVec.toNat_shiftLeft, Nat.shiftLeft_eq]
    omega
  have h2 : BitVec.ofInt 16 (loB c) = c &&& 0xff#16 := by
    apply BitVec.eq_of_toNat_eq
    rw [BitVec.toNat_and]
    unfold loB
    rw [show (255#16).toNat = 2 ^ 8 - 1 by decide, Nat.and_two_pow_sub_one_eq_mod]
    simp
    omega
  rw [h1, h2]
  apply BitVec.eq_of_getLsbD_eq
  intro i hi
  simp only [BitVec.getLsbD_xor, BitVec.getLsbD_and, BitVec.getLsbD_ofNat]
  have e1 : (c.toNat / 256 * 256).testBit i = (decide (8 ≤ i) && c.getLsbD i) := by
    rw [show (256 : Nat) = 2 ^ 8 by decide, Nat.testBit_mul_two_pow, Nat.testBit_div_two_pow]
    by_cases h : 8 ≤ i
    · simp [h, BitVec.getLsbD]
    · simp [h]
  have e2 : (255 : Nat).testBit i = decide (i < 8) := by
    rw [show (255 : Nat) = 2 ^ 8 - 1 by decide, Nat.testBit_two_pow_sub_one]
  rw [e1, e2]
  by_cases h : i < 8
  · simp [h, hi, Nat.not_le.2 h]
  · simp [h, hi, Nat.not_lt.1 h]

theorem crc_end (c : BitVec 16) : crc c [hiB c, loB c] = 0 := by
  show bstep (bstep c (hiB c)) (loB c) = 0
  have hl := c.isLt
  unfold bstep
  rw [split8]
  have : steps 8 (BitVec.ofInt 16 (loB c)) = BitVec.ofInt 16 (loB c) <<< 8 := by
    apply steps_low
    · unfold loB; simp; omega
    · decide
  rw [this, BitVec.xor_self]
  exact steps_zero 8

/-- a state that is not 0 stays so over bytes 0 -/
theorem bstep_zero_inj (c : BitVec 16) (h : bstep c 0 = 0) : c = 0 := by
  unfold bstep at h
  have := steps_inj0 _ _ h
  simpa using this

theorem crc_zeros_inj (n : Nat) (c : BitVec 16) (h : crc c (List.replicate n 0) = 0) : c = 0 := by
  induction n generalizing c with
  | zero => exact h
  | succ n ih =>
    rw [List.replicate_succ] at h
    exact bstep_zero_inj c (ih _ h)

/-- two bytes as a word -/
theorem crc_two (x y : Int) (hy : isByte y) : crc 0 [x, y] = steps 16 ((BitVec.ofInt 16 x <<< 8) ^^^ BitVec.ofInt 16 y) := by
  show bstep (bstep 0 x) y = _
  unfold bstep
  rw [show steps 16 (BitVec.ofInt 16 x <<< 8 ^^^ BitVec.ofInt 16 y) = steps 8 (steps 8 (BitVec.ofInt 16 x <<< 8 ^^^ BitVec.ofInt 16 y)) from steps_add 8 8 _, steps_xor 8 (BitVec.ofInt 16 x <<< 8)]
  have : steps 8 (BitVec.ofInt 16 y) = BitVec.ofInt 16 y <<< 8 := by
    apply steps_low
    · obtain ⟨h0, h1⟩ := hy
      obtain ⟨n, rfl⟩ := Int.eq_ofNat_of_zero_le h0
      simp; omega
    · decide
  rw [this]
  simp

theorem word_zero (x y : Int) (hx : isByte x) (hy : isByte y) (h : (BitVec.ofInt 16 x <<< 8) ^^^ BitVec.ofInt 16 y = 0) : x = 0 ∧ y = 0 := by
  obtain ⟨a0, a1⟩ := hx
  obtain ⟨b0, b1⟩ := hy
  obtain ⟨n, rfl⟩ := Int.eq_ofNat_of_zero_le a0
  obtain ⟨m, rfl⟩ := Int.eq_ofNat_of_zero_le b0
  have e : (BitVec.ofInt 16 (n : Int) <<< 8) = BitVec.ofInt 16 (m : Int) := by
    have h1 : (BitVec.ofInt 16 (n : Int) <<< 8) ^^^ BitVec.ofInt 16 (m : Int) ^^^ BitVec.ofInt 16 (m : Int) = 0 ^^^ BitVec.ofInt 16 (m : Int) := by rw [h]
    rw [BitVec.xor_assoc, BitVec.xor_self] at h1
    simpa using h1
  have e2 := congrArg BitVec.toNat e
  simp [BitVec.toNat_shiftLeft, Nat.shiftLeft_eq] at e2
  omega

theorem bxor_zero (x y : Int) (hx : isByte x) (hy : isByte y) (h : bxor x y = 0) : x = y := by
  unfold bxor at h
  have h1 : BitVec.ofInt 8 x ^^^ BitVec.ofInt 8 y = 0 := by
    apply BitVec.eq_of_toNat_eq
    have : (BitVec.ofInt 8 x ^^^ BitVec.ofInt 8 y).toNat = 0 := by omega
    simpa using this
  have e : BitVec.ofInt 8 x = BitVec.ofInt 8 y := by
    have h2 : BitVec.ofInt 8 x ^^^ BitVec.ofInt 8 y ^^^ BitVec.ofInt 8 y = 0 ^^^ BitVec.ofInt 8 y := by rw [h1]
    rw [BitVec.xor_assoc, BitVec.xor_self] at h2
    simpa using h2
  obtain ⟨a0, a1⟩ := hx
  obtain ⟨b0, b1⟩ := hy
  obtain ⟨n, rfl⟩ := Int.eq_ofNat_of_zero_le a0
  obtain ⟨m, rfl⟩ := Int.eq_ofNat_of_zero_le b0
  have e2 := congrArg BitVec.toNat e
  simp at e2
  omega

theorem xor_eq_zero16 (a b : BitVec 16) (h : a ^^^ b = 0) : a = b := by
  have h2 : a ^^^ b ^^^ b = 0 ^^^ b := by rw [h]
  rw [BitVec.xor_assoc, BitVec.xor_self] at h2
  simpa using h2

/-- CrcPairs -/
theorem crc_pair_inj (a b c d : Int) (ha : isByte a) (hb : isByte b) (hc : isByte c) (hd : isByte d) (h : crc 0 [a, b] = crc 0 [c, d]) : a = c ∧ b = d := by
  have hx' : crc 0 [bxor a c, bxor b d] = crc 0 [a, b] ^^^ crc 0 [c, d] := crc_xor [a, b] [c, d] 0 0 rfl (by simp [ha, hb]) (by simp [hc, hd])
  rw [h, BitVec.xor_self] at hx'
  rw [crc_two _ _ (bxor_byte _ _)] at hx'
  have hw := steps_inj0 _ _ hx'
  obtain ⟨h1, h2⟩ := word_zero _ _ (bxor_byte _ _) (bxor_byte _ _) hw
  exact ⟨bxor_zero _ _ ha hc h1, bxor_zero _ _ hb hd h2⟩


theorem bstep_state (c d : BitVec 16) (x : Int) : bstep (c ^^^ d) x = bstep c x ^^^ steps 8 d := by
  unfold bstep
  rw [← steps_xor]
  congr 1
  ac_rfl

theorem crc_state (l : List Int) : ∀ c d : BitVec 16, crc (c ^^^ d) l = crc c l ^^^ steps (8 * l.length) d := by
  induction l with
  | nil => intro c d; rfl
  | cons x l ih =>
    intro c d
    show crc (bstep (c ^^^ d) x) l = crc (bstep c x) l ^^^ _
    rw [bstep_state, ih, ← steps_add]
    congr 2
    simp only [List.length_cons]
    omega

/-- bit k of a text is turned (the highest bit of a byte first) -/
def turnAt (l : List Int) (k : Nat) : List Int := l.set (k / 8) (bxor (l.getD (k / 8) 0) ((128 / 2 ^ (k % 8) : Nat) : Int))

theorem bit_in : ∀ r : Fin 8, bstep 0 ((128 / 2 ^ r.val : Nat) : Int) = steps (8 - r.val) 0x8000#16 := by decide

theorem crc_turn (l : List Int) : ∀ (c : BitVec 16) (k : Nat), k < 8 * l.length → (∀ x ∈ l, isByte x) →
    crc c (turnAt l k) = crc c l ^^^ steps (8 * l.length - k) 0x8000#16 := by
  induction l with
  | nil => intro c k hk _; simp at hk
  | cons x l ih =>
    intro c k hk hl
    by_cases h8 : k < 8
    · have hd : k / 8 = 0 := by omega
      have hm : k % 8 = k := by omega
      have e : turnAt (x :: l) k = bxor x ((128 / 2 ^ k : Nat) : Int) :: l := by simp [turnAt, hd, hm]
      rw [e]
      show crc (bstep c (bxor x ((128 / 2 ^ k : Nat) : Int))) l = crc (bstep c x) l ^^^ _
      have hb : isByte ((128 / 2 ^ k : Nat) : Int) := by
        have h128 : 128 / 2 ^ k ≤ 128 := Nat.div_le_self _ _
        generalize 128 / 2 ^ k = q at h128
        unfold isByte; omega
      have h1 := bstep_xor c 0 x _ (hl x (by simp)) hb
      rw [show c ^^^ 0 = c by simp] at h1
      rw [h1, bit_in ⟨k, h8⟩, crc_state, ← steps_add]
      congr 2
      simp only [List.length_cons]
      omega
    · have hd : k / 8 = (k - 8) / 8 + 1 := by omega
      have hm : k % 8 = (k - 8) % 8 := by omega
      have e : turnAt (x :: l) k = x :: turnAt l (k - 8) := by simp [turnAt, hd, hm]
      rw [e]
      show crc (bstep c x) (turnAt l (k - 8)) = crc (bstep c x) l ^^^ _
      simp only [List.length_cons] at hk
      rw [ih _ (k - 8) (by omega) (fun z hz => hl z (by simp [hz]))]
      congr 2
      simp only [List.length_cons]
      omega

theorem turnAt_length (l : List Int) (k : Nat) : (turnAt l k).length = l.length := by simp [turnAt]
theorem turnAt_bytes (l : List Int) (k : Nat) (h : ∀ x ∈ l, isByte x) : ∀ x ∈ turnAt l k, isByte x := by
  intro x hx
  rcases List.mem_or_eq_of_mem_set hx with h1 | h1
  · exact h x h1
  · subst h1; exact bxor_byte _ _

/-- the first i of the bits that t says, from bit p on -/
def burst (t : Nat → Bool) (p : Nat) : Nat → List Int → List Int
  | 0, l => l
  | i + 1, l => if t i then turnAt (burst t p i l) (p + i) else burst t p i l

theorem burst_length (t : Nat → Bool) (p i : Nat) (l : List Int) : (burst t p i l).length = l.length := by
  induction i with
  | zero => rfl
  | succ i ih => simp only [burst]; split <;> simp [turnAt_length, ih]
theorem burst_bytes (t : Nat → Bool) (p i : Nat) (l : List Int) (h : ∀ x ∈ l, isByte x) : ∀ x ∈ burst t p i l, isByte x := by
  induction i with
  | zero => exact h
  | succ i ih => simp only [burst]; split; exact turnAt_bytes _ _ ih; exact ih

def acc (t : Nat → Bool) : Nat → BitVec 16
  | 0 => 0
  | i + 1 => if t i then acc t i ^^^ (0x8000#16 >>> i) else acc t i

theorem top_up : ∀ i : Fin 16, steps i.val (0x8000#16 >>> i.val) = 0x8000#16 := by decide +kernel
theorem top_bit : ∀ i j : Fin 16, (0x8000#16 >>> i.val).getLsbD (15 - j.val) = decide (i = j) := by decide +kernel

theorem acc_bit (t : Nat → Bool) (j : Nat) (hj : j < 16) : ∀ i, i ≤ 16 → (acc t i).getLsbD (15 - j) = (decide (j < i) && t j) := by
  intro i
  induction i with
  | zero => intro _; simp [acc]
  | succ i ih =>
    intro hi
    have ih := ih (by omega)
    have tb := top_bit ⟨i, by omega⟩ ⟨j, hj⟩
    simp only [Fin.mk.injEq] at tb
    simp only [acc]
    by_cases hij : i = j
    · subst hij
      cases ht : t i with
      | true => simp [ih, tb]
      | false => simp [ih]
    · have h1 : decide (j < i + 1) = decide (j < i) := by congr 1; apply propext; omega
      cases ht : t i with
      | true => simp [ih, tb, hij, h1]
      | false => simp [ih, h1]

theorem crc_burst (t : Nat → Bool) (p : Nat) (l : List Int) (hl : ∀ x ∈ l, isByte x) (ht : ∀ i, t i = true → p + i < 8 * l.length) (c : BitVec 16) :
    ∀ i, i ≤ 16 → crc c (burst t p i l) = crc c l ^^^ steps (8 * l.length - p) (acc t i) := by
  intro i
  induction i with
  | zero => intro _; show crc c l = crc c l ^^^ steps _ 0; rw [steps_zero]; simp
  | succ i ih =>
    intro hi
    have ih := ih (by omega)
    simp only [burst, acc]
    cases hti : t i with
    | false => simpa using ih
    | true =>
      have hlt := ht i hti
      simp only [if_true]
      rw [crc_turn _ _ _ (by rw [burst_length]; exact hlt) (burst_bytes _ _ _ _ hl), ih, burst_length, steps_xor, BitVec.xor_assoc]
      congr 2
      rw [show 8 * l.length - p = i + (8 * l.length - (p + i)) by omega, steps_add, top_up ⟨i, by omega⟩]

/-- CrcBursts -/
theorem crc_burst_ne (t : Nat → Bool) (p : Nat) (l : List Int) (hl : ∀ x ∈ l, isByte x) (ht : ∀ i, t i = true → p + i < 8 * l.length)
    (j : Nat) (hj : j < 16) (htj : t j = true) : crc 0 (burst t p 16 l) ≠ crc 0 l := by
  intro h
  have h1 := crc_burst t p l hl ht 0 16 (by decide)
  rw [h] at h1
  have h2 : steps (8 * l.length - p) (acc t 16) = 0 := by
    have h3 : crc 0 l ^^^ crc 0 l = crc 0 l ^^^ (crc 0 l ^^^ steps (8 * l.length - p) (acc t 16)) := by rw [← h1]
    rw [BitVec.xor_self, ← BitVec.xor_assoc, BitVec.xor_self] at h3
    simpa using h3.symm
  have h4 := steps_inj0 _ _ h2
  have h5 := acc_bit t j hj 16 (by decide)
  rw [h4, htj] at h5
  simp [hj] at h5

theorem alive_sum : crc 0 [49, 50, 51, 52, 53, 54, 55, 56, 57] = 0x31c3#16 := by decide +kernel

theorem steps_succ (n : Nat) (c : BitVec 16) : steps (n + 1) c = step (steps n c) := by
  rw [steps_add n 1]; rfl

theorem step_msb (c : BitVec 16) (h : 32768 ≤ c.toNat) : step c = (c <<< 1) ^^^ 0x1021#16 := by
  unfold step
  rw [if_pos (by rw [BitVec.msb_eq_decide]; simpa using h)]
theorem step_low (c : BitVec 16) (h : ¬ 32768 ≤ c.toNat) : step c = c <<< 1 := by
  unfold step
  rw [if_neg (by rw [BitVec.msb_eq_decide]; simpa using h)]

end Go.Proofs.YtfokonoeaifceaaDoor.CrcM
