/- Plain facts: the packer as a function of the text, and that what it writes reads as the text; no program. -/
import Derived.Test.YtdadggaecgkhfaaLP1
namespace Go.Proofs.Ytdadggaecgkhfaa.LZ
open Go.RowKit Go.Proofs.YtdadggaecgkhfaaW.PrintWords Go.Proofs.YtdadggaecgkhfaaW.PrintMore
open Go.Proofs.Ytdadggaecgkhfaa.PLzfUnpacks IM
set_option linter.unusedVariables false
set_option linter.unusedSimpArgs false
/-- a text's first bytes as numbers -/
def tx (s : ByteArray) (i : Nat) : List Int := (s.data.toList.take i).map fun u => (u.toNat : Int)
theorem tx_length (s : ByteArray) (i : Nat) (h : i ≤ s.size) : (tx s i).length = i := by
  unfold tx
  rw [List.length_map, List.length_take, data_length]; omega
theorem tx_succ (s : ByteArray) (i : Nat) (h : i < s.size) : tx s (i + 1) = tx s i ++ [(s[i].toNat : Int)] := by
  unfold tx
  rw [List.take_succ_eq_append_getElem (by rw [data_length]; exact h), List.map_append]
  rfl
theorem tx_rd (s : ByteArray) (i j : Nat) (h : j < i) (hi : i ≤ s.size) : rd (tx s i) (j : Int) = (s[j].toNat : Int) := by
  unfold rd tx
  rw [Int.toNat_natCast]
  have hl : j < ((s.data.toList.take i).map fun u => (u.toNat : Int)).length := by rw [List.length_map, List.length_take, data_length]; omega
  rw [List.getD_eq_getElem?_getD, List.getElem?_eq_getElem hl, Option.getD_some, List.getElem_map, List.getElem_take]
  rfl
theorem tx_cut (s : ByteArray) (a b : Nat) (h : a ≤ b) (hb : b ≤ s.size) : tx s b = tx s a ++ ((s.extract a b).data.toList.map fun u => (u.toNat : Int)) := by
  unfold tx
  rw [extract_list _ _ _ h, ← List.map_append]
  congr 1
  rw [show b = a + (b - a) by omega, List.take_add, show a + (b - a) - a = b - a by omega]
theorem tx_all (s : ByteArray) : strOfNums (tx s s.size) = s := by
  unfold tx strOfNums
  rw [List.take_of_length_le (by rw [data_length]; omega)]
  have := bs_bytes s.data.toList
  unfold bs at this
  rw [this]
/-- the bytes at two places are alike -/
def eqAt (s : ByteArray) (a b : Nat) : Prop := s.data.toList[a]? = s.data.toList[b]?
instance (s : ByteArray) (a b : Nat) : Decidable (eqAt s a b) := by unfold eqAt; infer_instance
theorem eqAt_iff (s : ByteArray) (a b : Nat) (ha : a < s.size) (hb : b < s.size) : eqAt s a b ↔ s[a] = s[b] := by
  unfold eqAt
  rw [List.getElem?_eq_getElem (by rw [data_length]; exact ha), List.getElem?_eq_getElem (by rw [data_length]; exact hb)]
  exact ⟨fun e => Option.some.inj e, fun e => congrArg some e⟩
theorem tx_grow (s : ByteArray) (d : Nat) (hd : 1 ≤ d) : ∀ (m i : Nat), d ≤ i → i + m ≤ s.size → (∀ k, k < m → eqAt s (i - d + k) (i + k)) → grow d m (tx s i) = tx s (i + m) := by
  intro m
  induction m with
  | zero => intro i _ _ _; rfl
  | succ m ih =>
    intro i hdi hi h
    have h0 := h 0 (by omega)
    rw [Nat.add_zero, Nat.add_zero, eqAt_iff s _ _ (by omega) (by omega)] at h0
    simp only [grow]
    rw [tx_length s i (by omega), tx_rd s i (i - d) (by omega) (by omega), h0, ← tx_succ s i (by omega), ih (i + 1) (by omega) (by omega) ?_]
    · rw [show i + 1 + m = i + (m + 1) by omega]
    · intro k hk
      have := h (k + 1) (by omega)
      rw [show i - d + (k + 1) = i + 1 - d + k by omega, show i + (k + 1) = i + 1 + k by omega] at this
      exact this
/-- how far two places go on alike -/
def ml (s : ByteArray) (a i : Nat) : Nat → Nat → Nat
  | 0, n => n
  | f + 1, n => if n < 264 ∧ i + n < s.size ∧ eqAt s (a + n) (i + n) then ml s a i f (n + 1) else n
theorem ml_ok (s : ByteArray) (a i : Nat) : ∀ (f n : Nat), n ≤ 264 → (i + n ≤ s.size) → (∀ k, k < n → eqAt s (a + k) (i + k)) →
    n ≤ ml s a i f n ∧ ml s a i f n ≤ 264 ∧ i + ml s a i f n ≤ s.size ∧ ∀ k, k < ml s a i f n → eqAt s (a + k) (i + k) := by
  intro f
  induction f with
  | zero => intro n h1 h2 h3; exact ⟨Nat.le_refl _, h1, h2, h3⟩
  | succ f ih =>
    intro n h1 h2 h3
    rw [ml]
    split
    · next h =>
      obtain ⟨h4, h5, h6⟩ := h
      obtain ⟨r1, r2⟩ := ih (n + 1) (by omega) (by omega) (fun k hk => by
        rcases Nat.lt_or_ge k n with hlt | hge
        · exact h3 k hlt
        · rw [show k = n by omega]; exact h6)
      exact ⟨by omega, r2⟩
    · exact ⟨Nat.le_refl _, h1, h2, h3⟩
/-- the byte at a place -/
def bn (s : ByteArray) (i : Nat) : Nat := (s.data.toList.getD i 0).toNat
theorem bn_lt (s : ByteArray) (i : Nat) : bn s i < 256 := UInt8.toNat_lt _
theorem bn_eq (s : ByteArray) (i : Nat) (h : i < s.size) : bn s i = s[i].toNat := by
  unfold bn
  rw [List.getD_eq_getElem?_getD, List.getElem?_eq_getElem (by rw [data_length]; exact h), Option.getD_some]
  rfl
theorem bn_eqAt {s : ByteArray} {i j : Nat} (h : eqAt s i j) : bn s i = bn s j := by
  unfold eqAt at h
  unfold bn
  rw [List.getD_eq_getElem?_getD, List.getD_eq_getElem?_getD, h]
/-- the hash of three bytes -/
def hash3 (a b c : Nat) : Nat := (a * 65536 + b * 256 + c) * 2654435761 / 4096 % 16384
theorem hash3_lt (a b c : Nat) : hash3 a b c < 16384 := Nat.mod_lt _ (by omega)
def hs (s : ByteArray) (i : Nat) : Nat := hash3 (bn s i) (bn s (i + 1)) (bn s (i + 2))
theorem hs_lt (s : ByteArray) (i : Nat) : hs s i < 16384 := hash3_lt _ _ _
def upd (T : Nat → Nat) (h v : Nat) : Nat → Nat := fun k => if k = h then v else T k
/-- how long the copy at i from behind t is -/
def len3 (s : ByteArray) (t i : Nat) : Nat := if 1 ≤ t ∧ i + 1 - t ≤ 8192 then ml s (t - 1) i 265 0 else 0
/-- the runs of what waits -/
def flw (l : ByteArray) (xs : List Int) : List Int := fl (l.size + 1) l.data.toList xs
/-- the packer's loop -/
def pk (s : ByteArray) : Nat → (Nat → Nat) → Nat → Nat → List Int → List Int
  | 0, _, from_, _, xs => flw (s.extract from_ s.size) xs
  | f + 1, T, from_, i, xs =>
    if i + 2 < s.size then
      if len3 s (T (hs s i)) i < 3 then pk s f (upd T (hs s i) (i + 1)) from_ (i + 1) xs
      else pk s f (upd T (hs s i) (i + 1)) (i + len3 s (T (hs s i)) i) (i + len3 s (T (hs s i)) i) (flw (s.extract from_ i) xs ++ cp (i + 1 - T (hs s i)) (len3 s (T (hs s i)) i))
    else flw (s.extract from_ s.size) xs
theorem flw_says {n : Nat} {l : ByteArray} {xs out : List Int} (h : Says n xs out) (hn : out.length + l.size ≤ n) : Says n (flw l xs) (out ++ l.data.toList.map fun u => (u.toNat : Int)) :=
  Says.fl _ _ _ _ (by rw [data_length]; omega) (by rw [data_length]; omega) h
theorem flw_length (l : ByteArray) (xs : List Int) : (flw l xs).length ≤ xs.length + 2 * l.size := by
  have := fl_length (l.size + 1) l.data.toList xs
  rw [data_length] at this
  exact this
theorem len3_ok (s : ByteArray) (t i : Nat) (hi : i ≤ s.size) (h3 : ¬ len3 s t i < 3) : 1 ≤ t ∧ i + 1 - t ≤ 8192 ∧ len3 s t i ≤ 264 ∧ i + len3 s t i ≤ s.size ∧ ∀ k, k < len3 s t i → eqAt s (t - 1 + k) (i + k) := by
  unfold len3 at h3 ⊢
  by_cases h : 1 ≤ t ∧ i + 1 - t ≤ 8192
  · rw [if_pos h] at h3 ⊢
    obtain ⟨_, h2⟩ := ml_ok s (t - 1) i 265 0 (by omega) (by omega) (fun k hk => by omega)
    exact ⟨h.1, h.2, h2⟩
  · rw [if_neg h] at h3
    omega
theorem pk_says (s : ByteArray) : ∀ (f : Nat) (T : Nat → Nat) (from_ i : Nat) (xs : List Int), from_ ≤ i → i ≤ s.size → (∀ k, T k ≤ i) → Says s.size xs (tx s from_) → xs.length ≤ 2 * from_ →
    Says s.size (pk s f T from_ i xs) (tx s s.size) ∧ (pk s f T from_ i xs).length ≤ 2 * s.size := by
  intro f
  have hend : ∀ (from_ : Nat) (xs : List Int), from_ ≤ s.size → Says s.size xs (tx s from_) → xs.length ≤ 2 * from_ → Says s.size (flw (s.extract from_ s.size) xs) (tx s s.size) ∧ (flw (s.extract from_ s.size) xs).length ≤ 2 * s.size := by
    intro from_ xs hf h hl
    refine ⟨?_, ?_⟩
    · rw [tx_cut s from_ s.size hf (Nat.le_refl _)]
      exact flw_says h (by rw [tx_length s _ hf, ByteArray.size_extract]; omega)
    · have := flw_length (s.extract from_ s.size) xs
      rw [ByteArray.size_extract] at this
      omega
  induction f with
  | zero => intro T from_ i xs h1 h2 h3 h4 h5; exact hend from_ xs (by omega) h4 h5
  | succ f ih =>
    intro T from_ i xs h1 h2 h3 h4 h5
    rw [pk]
    by_cases hi : i + 2 < s.size
    · rw [if_pos hi]
      have hT : ∀ j, i + 1 ≤ j → ∀ k, upd T (hs s i) (i + 1) k ≤ j := fun j hj k => by
        unfold upd
        split
        · omega
        · have := h3 k; omega
      by_cases hn : len3 s (T (hs s i)) i < 3
      · rw [if_pos hn]
        exact ih _ _ _ _ (by omega) (by omega) (hT _ (by omega)) h4 h5
      · rw [if_neg hn]
        obtain ⟨k1, k2, k3, k4, k5⟩ := len3_ok s _ i (by omega) hn
        have k6 := h3 (hs s i)
        have hfl := flw_length (s.extract from_ i) xs
        rw [ByteArray.size_extract] at hfl
        refine ih _ _ _ _ (Nat.le_refl _) k4 (hT _ (by omega)) ?_ ?_
        · have hs1 := flw_says (l := s.extract from_ i) h4 (by rw [tx_length s _ (by omega), ByteArray.size_extract]; omega)
          rw [← tx_cut s from_ i h1 h2] at hs1
          have := Says.cp (i + 1 - T (hs s i)) (len3 s (T (hs s i)) i) (by omega) (by omega) (by omega) k3 (by rw [tx_length s i h2]; omega) (by rw [tx_length s i h2]; omega) hs1
          rw [tx_grow s _ (by omega) _ i (by omega) k4 (fun k hk => by
            rw [show i - (i + 1 - T (hs s i)) + k = T (hs s i) - 1 + k by omega]; exact k5 k hk)] at this
          exact this
        · have := cp_length (i + 1 - T (hs s i)) (len3 s (T (hs s i)) i)
          rw [List.length_append]
          omega
    · rw [if_neg hi]
      exact hend from_ xs (by omega) h4 h5
end Go.Proofs.Ytdadggaecgkhfaa.LZ
