/- Plain mathematics of the 64-bit sum: one turn is linear and loses nothing; a text's sum by its bytes as one number; joins and bursts. No program in sight; no condition beyond those typed. -/
namespace Go.Proofs.YtjdbnobhapfakaaDoor.CrcM
/-- the polynomial, turned round -/
def P : Nat := 0x95ac9329ac4bc9b5
def half (c : Nat) : Nat := if c % 2 = 1 then (c / 2) ^^^ P else c / 2
theorem xor_parity (a b : Nat) : (a ^^^ b) % 2 = (a + b) % 2 := by
  have h := Nat.xor_mod_two_pow (a := a) (b := b) (n := 1)
  simp only [Nat.pow_one] at h
  rw [h]
  have ha := Nat.mod_two_eq_zero_or_one a
  have hb := Nat.mod_two_eq_zero_or_one b
  rw [Nat.add_mod]
  rcases ha with ha | ha <;> rcases hb with hb | hb <;> rw [ha, hb] <;> rfl
theorem xor_swap (a b c d : Nat) : (a ^^^ b) ^^^ (c ^^^ d) = (a ^^^ c) ^^^ (b ^^^ d) := by
  rw [Nat.xor_assoc, Nat.xor_assoc, ← Nat.xor_assoc b, Nat.xor_comm b c, Nat.xor_assoc c]
theorem xor_right_comm (a b c : Nat) : a ^^^ b ^^^ c = a ^^^ c ^^^ b := by rw [Nat.xor_assoc, Nat.xor_comm b c, ← Nat.xor_assoc]
theorem half_xor (a b : Nat) : half (a ^^^ b) = half a ^^^ half b := by
  unfold half
  rw [xor_parity, Nat.xor_div_two]
  have ha := Nat.mod_two_eq_zero_or_one a
  have hb := Nat.mod_two_eq_zero_or_one b
  rw [Nat.add_mod]
  rcases ha with ha | ha <;> rcases hb with hb | hb <;> simp [ha, hb]
  · rw [Nat.xor_assoc]
  · rw [xor_right_comm]
  · rw [xor_swap, Nat.xor_self, Nat.xor_zero]
def halfs : Nat → Nat → Nat
  | 0, c => c
  | n + 1, c => halfs n (half c)
theorem halfs_add (m n c : Nat) : halfs (m + n) c = halfs n (halfs m c) := by
  induction m generalizing c with
  | zero => simp [halfs]
  | succ m ih => rw [Nat.succ_add]; simp only [halfs]; rw [ih]
theorem halfs_succ (n c : Nat) : halfs (n + 1) c = half (halfs n c) := by rw [halfs_add]; rfl
theorem halfs_xor (n a b : Nat) : halfs n (a ^^^ b) = halfs n a ^^^ halfs n b := by
  induction n generalizing a b with
  | zero => rfl
  | succ n ih => simp only [halfs]; rw [half_xor, ih]
theorem half_zero : half 0 = 0 := rfl
theorem halfs_zero (n : Nat) : halfs n 0 = 0 := by
  induction n with
  | zero => rfl
  | succ n ih => simp only [halfs]; rw [half_zero, ih]
theorem half_lt {c : Nat} (h : c < 2 ^ 64) : half c < 2 ^ 64 := by
  unfold half
  split
  · exact Nat.xor_lt_two_pow (by omega) (by decide)
  · omega
theorem halfs_lt (n : Nat) {c : Nat} (h : c < 2 ^ 64) : halfs n c < 2 ^ 64 := by
  induction n generalizing c with
  | zero => exact h
  | succ n ih => exact ih (half_lt h)
/-- half loses nothing (the polynomial's top bit is 1). -/
theorem half_inj0 {c : Nat} (h : c < 2 ^ 64) (h0 : half c = 0) : c = 0 := by
  unfold half at h0
  split at h0
  · exfalso
    have hc : c / 2 = P := by
      have h1 : c / 2 ^^^ P ^^^ P = 0 ^^^ P := by rw [h0]
      rwa [Nat.xor_assoc, Nat.xor_self, Nat.xor_zero, Nat.zero_xor] at h1
    unfold P at hc; omega
  · omega
theorem halfs_inj0 (n : Nat) {c : Nat} (h : c < 2 ^ 64) (h0 : halfs n c = 0) : c = 0 := by
  induction n generalizing c with
  | zero => exact h0
  | succ n ih => exact half_inj0 h (ih (half_lt h) h0)
/-- four turns at once, by a table of sixteen -/
def tab : List Nat := [0x0000000000000000, 0x7d08ff3b88be6f81, 0xfa11fe77117cdf02, 0x8719014c99c2b083,
  0xdf7adabd7a6e2d6f, 0xa2722586f2d042ee, 0x256b24ca6b12f26d, 0x5863dbf1e3ac9dec,
  0x95ac9329ac4bc9b5, 0xe8a46c1224f5a634, 0x6fbd6d5ebd3716b7, 0x12b5926535897936,
  0x4ad64994d625e4da, 0x37deb6af5e9b8b5b, 0xb0c7b7e3c7593bd8, 0xcdcf48d84fe75459]
theorem tab_small : ∀ i, i < 16 → halfs 4 i = tab.getD i 0 := by decide +kernel
theorem tab_lt : ∀ i, tab.getD i 0 < 2 ^ 64 := by
  intro i
  by_cases h : i < 16
  · have : ∀ i, i < 16 → tab.getD i 0 < 2 ^ 64 := by decide +kernel
    exact this i h
  · rw [List.getD_eq_getElem?_getD, List.getElem?_eq_none (by show 16 ≤ i; omega)]; decide
theorem split16 (c : Nat) : (c % 16) ^^^ (c / 16 * 16) = c := by
  apply Nat.eq_of_testBit_eq
  intro i
  rw [Nat.testBit_xor]
  have e16 : (16 : Nat) = 2 ^ 4 := rfl
  rw [e16, Nat.testBit_mod_two_pow, ← Nat.shiftRight_eq_div_pow, ← Nat.shiftLeft_eq, Nat.testBit_shiftLeft, Nat.testBit_shiftRight]
  by_cases h : i < 4
  · have h2 : ¬ (i ≥ 4) := by omega
    simp [h, h2]
  · have h2 : i ≥ 4 := by omega
    have h3 : 4 + (i - 4) = i := by omega
    simp [h, h2, h3]
theorem halfs_even (n c : Nat) : halfs n (c * 2 ^ n) = c := by
  induction n generalizing c with
  | zero => simp [halfs]
  | succ n ih =>
    simp only [halfs]
    have : half (c * 2 ^ (n + 1)) = c * 2 ^ n := by
      rw [Nat.pow_succ, ← Nat.mul_assoc]
      unfold half
      rw [if_neg (by omega)]
      omega
    rw [this, ih]
theorem quarter (c : Nat) : halfs 4 c = tab.getD (c % 16) 0 ^^^ (c / 16) := by
  have h := halfs_xor 4 (c % 16) (c / 16 * 16)
  rw [split16] at h
  rw [h, tab_small _ (by omega)]
  congr 1
  exact halfs_even 4 (c / 16)
/-- one byte -/
def byte (c : Nat) (b : UInt8) : Nat := halfs 8 (c ^^^ b.toNat)
def upd (c : Nat) (l : List UInt8) : Nat := l.foldl byte c
theorem byte_tab (c : Nat) (b : UInt8) : byte c b = (let d := c ^^^ b.toNat; let e := tab.getD (d % 16) 0 ^^^ (d / 16); tab.getD (e % 16) 0 ^^^ (e / 16)) := by
  unfold byte
  show halfs (4 + 4) _ = _
  rw [halfs_add, quarter, quarter]
theorem byte_lt {c : Nat} (b : UInt8) (h : c < 2 ^ 64) : byte c b < 2 ^ 64 :=
  halfs_lt _ (Nat.xor_lt_two_pow h (by have := b.toNat_lt; omega))
theorem upd_lt (l : List UInt8) {c : Nat} (h : c < 2 ^ 64) : upd c l < 2 ^ 64 := by
  unfold upd
  induction l generalizing c with
  | nil => exact h
  | cons b l ih => exact ih (byte_lt b h)
theorem upd_append (c : Nat) (l m : List UInt8) : upd c (l ++ m) = upd (upd c l) m := by unfold upd; rw [List.foldl_append]
theorem upd_snoc (c : Nat) (l : List UInt8) (b : UInt8) : upd c (l ++ [b]) = byte (upd c l) b := by rw [upd_append]; rfl
/-- n bytes of value 0 -/
def zeros (n c : Nat) : Nat := halfs (8 * n) c
theorem byte_xor (a b : Nat) (x : UInt8) : byte (a ^^^ b) x = byte a x ^^^ halfs 8 b := by
  unfold byte
  rw [xor_right_comm, halfs_xor]
theorem upd_xor (l : List UInt8) (a b : Nat) : upd (a ^^^ b) l = upd a l ^^^ halfs (8 * l.length) b := by
  induction l generalizing a b with
  | nil => rfl
  | cons x l ih =>
    show upd (byte (a ^^^ b) x) l = upd (byte a x) l ^^^ _
    rw [byte_xor, ih, ← halfs_add, List.length_cons]
    congr 2
    omega
theorem upd_zeros (l : List UInt8) (a : Nat) : upd a l = upd 0 l ^^^ halfs (8 * l.length) a := by
  have := upd_xor l 0 a
  rwa [Nat.zero_xor] at this

/-- the bytes as one number, the first lowest -/
def le : List UInt8 → Nat
  | [] => 0
  | b :: l => b.toNat + 256 * le l
theorem le_lt (l : List UInt8) : le l < 2 ^ (8 * l.length) := by
  induction l with
  | nil => decide
  | cons b l ih =>
    have hb := b.toNat_lt
    have e : 2 ^ (8 * (b :: l).length) = 256 * 2 ^ (8 * l.length) := by
      rw [List.length_cons, Nat.mul_add, Nat.pow_add, Nat.mul_comm]
    rw [e]
    simp only [le]
    omega
theorem xor_high (b n x : Nat) (hb : b < 2 ^ n) : b ^^^ (x * 2 ^ n) = b + x * 2 ^ n := by
  have h := Nat.two_pow_add_eq_or_of_lt (i := n) hb x
  rw [Nat.mul_comm x, Nat.add_comm, h]
  apply Nat.eq_of_testBit_eq
  intro i
  rw [Nat.testBit_xor, Nat.testBit_or, Nat.mul_comm, ← Nat.shiftLeft_eq, Nat.testBit_shiftLeft]
  by_cases hi : i < n
  · have : ¬ (i ≥ n) := by omega
    simp [this]
  · have hz : b.testBit i = false := Nat.testBit_lt_two_pow (Nat.lt_of_lt_of_le hb (Nat.pow_le_pow_right (by decide) (by omega)))
    simp [hz]
theorem upd_le (l : List UInt8) (c : Nat) : upd c l = halfs (8 * l.length) (c ^^^ le l) := by
  induction l generalizing c with
  | nil => simp [upd, le, halfs]
  | cons b l ih =>
    show upd (byte c b) l = _
    rw [ih]
    have e : byte c b ^^^ le l = halfs 8 (c ^^^ le (b :: l)) := by
      simp only [le]
      rw [Nat.mul_comm 256, show (256 : Nat) = 2 ^ 8 from rfl, ← xor_high _ 8 _ b.toNat_lt, ← Nat.xor_assoc, halfs_xor, halfs_even]
      rfl
    rw [e, ← halfs_add, List.length_cons]
    congr 1
    omega
theorem upd_zero_le (l : List UInt8) : upd 0 l = halfs (8 * l.length) (le l) := by rw [upd_le, Nat.zero_xor]
theorem halfs_shift (n k v : Nat) (h : k ≤ n) : halfs n (v * 2 ^ k) = halfs (n - k) v := by
  have e : n = k + (n - k) := by omega
  conv => lhs; rw [e]
  rw [halfs_add, halfs_even]
/-- LAW C5: a change of bits that lie within 64 changes the sum. -/
theorem burst (l m : List UInt8) (hl : m.length = l.length) (k v : Nat) (hk : k ≤ 8 * l.length) (hv : v < 2 ^ 64) (h0 : v ≠ 0) (h : le m = le l ^^^ (v * 2 ^ k)) : upd 0 m ≠ upd 0 l := by
  intro he
  rw [upd_zero_le, upd_zero_le, hl, h, halfs_xor, halfs_shift _ _ _ hk] at he
  have : halfs (8 * l.length - k) v = 0 := by
    have h1 : halfs (8 * l.length) (le l) ^^^ (halfs (8 * l.length) (le l) ^^^ halfs (8 * l.length - k) v) = halfs (8 * l.length) (le l) ^^^ halfs (8 * l.length) (le l) := by rw [he]
    rwa [← Nat.xor_assoc, Nat.xor_self, Nat.zero_xor] at h1
  exact h0 (halfs_inj0 _ hv this)
theorem le_append (l m : List UInt8) : le (l ++ m) = le l + le m * 2 ^ (8 * l.length) := by
  induction l with
  | nil => simp [le]
  | cons b l ih =>
    simp only [List.cons_append, le, ih, List.length_cons]
    rw [Nat.mul_add 8, Nat.pow_add, Nat.mul_add, Nat.mul_one, show (2 : Nat) ^ 8 = 256 from rfl, ← Nat.mul_assoc, ← Nat.mul_assoc, Nat.mul_comm 256 (le m), Nat.mul_assoc (le m), Nat.mul_assoc (le m), Nat.mul_comm 256 (2 ^ _)]
    omega
/-- the eight bytes of a sum -/
def text (c : Nat) : List UInt8 := (List.range 8).map fun i => UInt8.ofNat (c / 2 ^ (8 * i) % 256)
theorem le_text (c : Nat) (h : c < 2 ^ 64) : le (text c) = c := by
  have e : text c = [UInt8.ofNat (c % 256), UInt8.ofNat (c / 256 % 256), UInt8.ofNat (c / 65536 % 256), UInt8.ofNat (c / 16777216 % 256), UInt8.ofNat (c / 4294967296 % 256), UInt8.ofNat (c / 1099511627776 % 256), UInt8.ofNat (c / 281474976710656 % 256), UInt8.ofNat (c / 72057594037927936 % 256)] := by
    simp [text, List.range, List.range.loop]
  rw [e]
  simp only [le, UInt8.toNat_ofNat']
  omega
theorem text_length (c : Nat) : (text c).length = 8 := by simp [text]
/-- LAW C4: with its sum behind it the sum is 0. -/
theorem upd_text (c : Nat) (h : c < 2 ^ 64) : upd c (text c) = 0 := by
  rw [upd_le, le_text c h, Nat.xor_self, halfs_zero]
/-- what Join answers -/
def join (a b n : Nat) : Nat := halfs (8 * n) a ^^^ b
theorem join_pieces (l m : List UInt8) : join (upd 0 l) (upd 0 m) m.length = upd 0 (l ++ m) := by
  unfold join
  rw [upd_append, upd_zeros m (upd 0 l), Nat.xor_comm]
theorem join_linear (a b : Nat) (l : List UInt8) : upd a l ^^^ upd b l = join (a ^^^ b) 0 l.length := by
  unfold join
  rw [upd_zeros l a, upd_zeros l b, xor_swap, Nat.xor_self, Nat.zero_xor, Nat.xor_zero, halfs_xor]
/-- bits of a number, one more -/
theorem mod_more (v i : Nat) : v % 2 ^ (i + 1) = (v % 2 ^ i) ^^^ ((v / 2 ^ i % 2) * 2 ^ i) := by
  rw [xor_high _ _ _ (Nat.mod_lt _ (Nat.two_pow_pos i)), Nat.pow_succ, Nat.mod_mul, Nat.mul_comm (2 ^ i)]
/-- what a matrix's rows hold: of each bit, what N turns make of it -/
def row (N i : Nat) : Nat := halfs N (2 ^ i)
theorem row_lt (N i : Nat) (h : i < 64) : row N i < 2 ^ 64 := halfs_lt _ (Nat.pow_lt_pow_right (by decide) h)
theorem times_step (N v i : Nat) : halfs N (v % 2 ^ (i + 1)) = if v / 2 ^ i % 2 = 1 then halfs N (v % 2 ^ i) ^^^ row N i else halfs N (v % 2 ^ i) := by
  rw [mod_more, halfs_xor]
  rcases Nat.mod_two_eq_zero_or_one (v / 2 ^ i) with h | h <;> rw [h]
  · simp [halfs_zero]
  · simp [row]
theorem row_square (N i : Nat) : halfs N (row N i) = row (N + N) i := by unfold row; rw [halfs_add]
theorem row_first (i : Nat) : upd (2 ^ i) [0] = row 8 i := by
  show halfs 8 (2 ^ i ^^^ (0 : UInt8).toNat) = _
  rw [show (0 : UInt8).toNat = 0 from rfl, Nat.xor_zero]; rfl
end Go.Proofs.YtjdbnobhapfakaaDoor.CrcM
