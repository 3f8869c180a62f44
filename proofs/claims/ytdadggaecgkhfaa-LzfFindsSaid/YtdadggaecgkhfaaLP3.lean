/- Plain facts: what the packer makes of a text that is one half said twice, and of one byte said many times; no program. -/
import Derived.Test.YtdadggaecgkhfaaLP2
namespace Go.Proofs.Ytdadggaecgkhfaa.LZ
open Go.RowKit Go.Proofs.YtdadggaecgkhfaaW.PrintWords Go.Proofs.YtdadggaecgkhfaaW.PrintMore
open Go.Proofs.Ytdadggaecgkhfaa.PLzfUnpacks IM
set_option linter.unusedVariables false
set_option linter.unusedSimpArgs false
theorem fl_len32 : ∀ (f : Nat) (l : List UInt8) (xs : List Int), 32 * (fl f l xs).length ≤ 32 * xs.length + 33 * l.length + 31 := by
  intro f
  induction f with
  | zero => intro l xs; simp only [fl]; omega
  | succ f ih =>
    intro l xs
    rw [fl]
    split
    · omega
    · next hl =>
      have h0 : 0 < l.length := List.length_pos_iff.mpr hl
      by_cases h32 : l.length ≤ 32
      · rw [show min 32 l.length = l.length by omega, List.drop_length, List.take_length]
        have e : fl f [] (xs ++ [(l.length : Int) - 1] ++ l.map fun u => (u.toNat : Int)) = xs ++ [(l.length : Int) - 1] ++ l.map fun u => (u.toNat : Int) := by
          cases f with
          | zero => rfl
          | succ f => rw [fl, if_pos rfl]
        rw [e]
        simp only [List.length_append, List.length_map, List.length_cons, List.length_nil]
        omega
      · have := ih (l.drop (min 32 l.length)) (xs ++ [((min 32 l.length : Nat) : Int) - 1] ++ (l.take (min 32 l.length)).map fun u => (u.toNat : Int))
        simp only [List.length_append, List.length_map, List.length_take, List.length_drop, List.length_cons, List.length_nil] at this
        omega
theorem tw_says (s : ByteArray) (h : Nat) (h3 : 3 ≤ h) (h8 : h ≤ 8192) (hs2 : s.size = 2 * h) (hd : ∀ k, k < h → eqAt s k (h + k)) :
    ∀ (f left : Nat) (xs : List Int), left < f → left ≤ h → (left = 0 ∨ 3 ≤ left) → Says s.size xs (tx s (2 * h - left)) → Says s.size (tw h f left xs) (tx s s.size) := by
  intro f
  induction f with
  | zero => intro left xs h; omega
  | succ f ih =>
    intro left xs hf hl h03 hx
    rw [tw]
    split
    · next h0 => rw [h0, Nat.sub_zero, ← hs2] at hx; exact hx
    · next h0 =>
      obtain ⟨n1, n2, n3, n4⟩ := nxt_ok left (h03.resolve_left h0)
      refine ih _ _ (by omega) (by omega) n4 ?_
      have := Says.cp h (nxt left) (by omega) h8 n1 n2 (by rw [tx_length s _ (by omega)]; omega) (by rw [tx_length s _ (by omega)]; omega) hx
      rw [tx_grow s h (by omega) (nxt left) (2 * h - left) (by omega) (by omega) (fun k hk => by
        have := hd (h - left + k) (by omega)
        rw [show 2 * h - left - h + k = h - left + k by omega, show 2 * h - left + k = h + (h - left + k) by omega]; exact this)] at this
      rw [show 2 * h - (left - nxt left) = 2 * h - left + nxt left by omega]
      exact this
theorem tw_len (h : Nat) : ∀ (f left : Nat) (xs : List Int), left < f → (left = 0 ∨ 3 ≤ left) → 87 * (tw h f left xs).length ≤ 87 * xs.length + left + (if left = 0 then 0 else 261) := by
  intro f
  induction f with
  | zero => intro left xs h; omega
  | succ f ih =>
    intro left xs hf h03
    rw [tw]
    split
    · next h0 => omega
    · next h0 =>
      obtain ⟨n1, n2, n3, n4⟩ := nxt_ok left (h03.resolve_left h0)
      have hc := cp_length h (nxt left)
      have := ih (left - nxt left) (xs ++ cp h (nxt left)) (by omega) n4
      rw [List.length_append] at this
      have hn : left - nxt left = 0 ∨ 261 ≤ nxt left := by
        unfold nxt
        split <;> omega
      split at this <;> omega
/-- what 'twice' writes where it writes -/
def twb (s : ByteArray) : List Int := tw (s.size / 2) (s.size / 2 + 1) (s.size / 2) (fl (s.size / 2 + 1) (s.extract 0 (s.size / 2)).data.toList [])
/-- where 'twice' writes -/
def Two (s : ByteArray) : Prop := 64 ≤ s.size ∧ s.size / 2 ≤ 8192 ∧ s.extract 0 (s.size / 2) = s.extract (s.size - s.size / 2) s.size ∧ s.size = 2 * (s.size / 2)
theorem two_eq (s : ByteArray) (h : Two s) : ∀ k, k < s.size / 2 → eqAt s k (s.size / 2 + k) := by
  obtain ⟨h1, h2, h3, h4⟩ := h
  intro k hk
  rw [eqAt_iff s _ _ (by omega) (by omega)]
  have e1 : (s.extract 0 (s.size / 2))[k]'(by rw [ByteArray.size_extract]; omega) = s[k]'(by omega) := by
    rw [ByteArray.getElem_extract]
    congr 1
    omega
  have e2 : (s.extract (s.size - s.size / 2) s.size)[k]'(by rw [ByteArray.size_extract]; omega) = s[s.size / 2 + k]'(by omega) := by
    rw [ByteArray.getElem_extract]
    congr 1
    omega
  rw [← e1, ← e2]
  congr 1
theorem twb_says (s : ByteArray) (h : Two s) : Says s.size (twb s) (tx s s.size) := by
  have he := two_eq s h
  obtain ⟨h1, h2, h3, h4⟩ := h
  unfold twb
  refine tw_says s (s.size / 2) (by omega) h2 h4 he _ _ _ (by omega) (Nat.le_refl _) (.inr (by omega)) ?_
  have := Says.fl (n := s.size) (s.size / 2 + 1) (s.extract 0 (s.size / 2)).data.toList [] [] (by rw [data_length, ByteArray.size_extract]; omega) (by rw [data_length, ByteArray.size_extract, List.length_nil]; omega) (Says.nil _)
  rw [List.nil_append] at this
  rw [show 2 * (s.size / 2) - s.size / 2 = s.size / 2 by omega]
  have e := tx_cut s 0 (s.size / 2) (by omega) (by omega)
  rw [show tx s 0 = [] from rfl, List.nil_append] at e
  rw [e]
  exact this
theorem twb_len (s : ByteArray) (h : Two s) : (twb s).length + 4 ≤ s.size := by
  obtain ⟨h1, h2, h3, h4⟩ := h
  have a := fl_len32 (s.size / 2 + 1) (s.extract 0 (s.size / 2)).data.toList []
  have b := tw_len (s.size / 2) (s.size / 2 + 1) (s.size / 2) (fl (s.size / 2 + 1) (s.extract 0 (s.size / 2)).data.toList []) (by omega) (.inr (by omega))
  rw [data_length, ByteArray.size_extract, List.length_nil] at a
  rw [if_neg (by omega)] at b
  unfold twb
  omega
/-- what stands in the packer's hands at last -/
def pkd (s : ByteArray) : List Int := pk s (s.size + 1) (fun _ => 0) 0 0 []
open Classical in
noncomputable def pkt (s : ByteArray) : List Int := if (pkd s).length + 4 > s.size ∧ Two s then twb s else pkd s
/-- what Pack answers -/
noncomputable def packS (s : ByteArray) : ByteArray × Bool := if 524288 < s.size ∨ s.size < 8 then (⟨#[]⟩, false) else if (pkt s).length + 4 > s.size then (⟨#[]⟩, false) else (strOfNums (pkt s), true)
theorem pkd_says (s : ByteArray) : Says s.size (pkd s) (tx s s.size) ∧ (pkd s).length ≤ 2 * s.size :=
  pk_says s _ _ 0 0 [] (Nat.le_refl _) (Nat.zero_le _) (fun _ => Nat.le_refl _) (Says.nil _) (by simp)
theorem pkt_says (s : ByteArray) : Says s.size (pkt s) (tx s s.size) ∧ (pkt s).length ≤ 2 * s.size := by
  unfold pkt
  split
  · next h => exact ⟨twb_says s h.2, by have := twb_len s h.2; omega⟩
  · exact pkd_says s
theorem strOfNums_list (xs : List Int) : (strOfNums xs).data.toList = bs xs := rfl
/-- what is packed is unpacked -/
theorem packS_back (s : ByteArray) (h : (packS s).2 = true) : unpS (packS s).1 s.size = (s, 0) ∧ (packS s).1.size + 4 ≤ s.size ∧ 8 ≤ s.size ∧ s.size ≤ 524288 := by
  unfold packS at h ⊢
  by_cases h1 : 524288 < s.size ∨ s.size < 8
  · rw [if_pos h1] at h; simp at h
  · rw [if_neg h1] at h ⊢
    by_cases h2 : (pkt s).length + 4 > s.size
    · rw [if_pos h2] at h; simp at h
    · rw [if_neg h2]
      have e := (pkt_says s).1.end_ (tx_length s _ (Nat.le_refl _))
      rw [tx_all] at e
      have hsz : (strOfNums (pkt s)).size = (pkt s).length := str_size _
      refine ⟨?_, by simp only [hsz]; omega, by omega, by omega⟩
      unfold unpS
      rw [if_neg (by omega), Int.toNat_natCast, strOfNums_list]
      unfold upw at e
      rw [← e]
      congr 1
theorem packS_nay (s : ByteArray) (h : (packS s).2 = false) : (packS s).1 = ⟨#[]⟩ := by
  unfold packS at h ⊢
  by_cases h1 : 524288 < s.size ∨ s.size < 8
  · rw [if_pos h1]
  · rw [if_neg h1] at h ⊢
    by_cases h2 : (pkt s).length + 4 > s.size
    · rw [if_pos h2]
    · rw [if_neg h2] at h; simp at h
theorem packS_long (s : ByteArray) (h : 524288 < s.size) : (packS s).2 = false := by
  unfold packS
  rw [if_pos (.inl h)]
/-- a text that stands twice is packed -/
theorem packS_two (s : ByteArray) (h : Two s) : (packS s).2 = true := by
  have h' := h
  obtain ⟨h1, h2, h3, h4⟩ := h'
  unfold packS
  rw [if_neg (by omega)]
  have e : ¬ (pkt s).length + 4 > s.size := by
    unfold pkt
    by_cases hc : (pkd s).length + 4 > s.size
    · rw [if_pos ⟨hc, h⟩]
      have := twb_len s h
      omega
    · rw [if_neg (fun e => hc e.1)]
      exact hc
  rw [if_neg e]
theorem two_append (a s : ByteArray) (h1 : 32 ≤ a.size) (h2 : a.size ≤ 4000) (e : s.data.toList = a.data.toList ++ a.data.toList) : Two s := by
  have hsz : s.size = a.size + a.size := by
    rw [← data_length, e, List.length_append, data_length]
  have hh : s.size / 2 = a.size := by omega
  refine ⟨by omega, by omega, ?_, by omega⟩
  rw [hh]
  apply ByteArray.ext
  apply Array.toList_inj.mp
  have e1 : s.size - a.size = a.data.toList.length := by rw [data_length]; omega
  have e2 : a.size - 0 = a.data.toList.length := by rw [data_length]; omega
  have e3 : s.size - (s.size - a.size) = a.data.toList.length := by rw [data_length]; omega
  rw [extract_list _ _ _ (by omega), extract_list _ _ _ (by omega), e3, e1, e2, e, List.drop_left, List.drop_zero, List.take_left, List.take_length]
/-- one byte many times -/
def Mono (s : ByteArray) : Prop := ∀ i j, i < s.size → j < s.size → eqAt s i j
theorem ml_mono (s : ByteArray) (hm : Mono s) (a i : Nat) (ha : a ≤ i) : ∀ (f n : Nat), n ≤ 264 → i + n ≤ s.size → 264 < n + f → ml s a i f n = min 264 (s.size - i) := by
  intro f
  induction f with
  | zero => intro n h1 h2 h3; omega
  | succ f ih =>
    intro n h1 h2 h3
    rw [ml]
    by_cases h : n < 264 ∧ i + n < s.size
    · rw [if_pos ⟨h.1, h.2, hm _ _ (by omega) (by omega)⟩]
      exact ih (n + 1) (by omega) (by omega) (by omega)
    · rw [if_neg (fun e => h ⟨e.1, e.2.1⟩)]
      omega
theorem pk_mono (s : ByteArray) (hm : Mono s) (h0 : Nat) (hh : ∀ i, i + 2 < s.size → hs s i = h0) : ∀ (f : Nat) (T : Nat → Nat) (from_ i : Nat) (xs : List Int), s.size < f + i → from_ ≤ i → i ≤ s.size → i ≤ from_ + 1 → 1 ≤ T h0 → T h0 ≤ i → i + 1 - T h0 ≤ 264 →
    264 * (pk s f T from_ i xs).length ≤ 264 * (xs.length + 2 * (i - from_)) + 3 * (s.size - i) + (if i < s.size then 1056 else 0) := by
  intro f
  induction f with
  | zero => intro T from_ i xs h; omega
  | succ f ih =>
    intro T from_ i xs hf h1 h2 h3 h4 h5 h6
    rw [pk]
    by_cases hi : i + 2 < s.size
    · rw [if_pos hi, hh i hi]
      have hl : len3 s (T h0) i = min 264 (s.size - i) := by
        unfold len3
        rw [if_pos ⟨h4, by omega⟩]
        exact ml_mono s hm _ i (by omega) 265 0 (by omega) (by omega) (by omega)
      rw [hl, if_neg (by omega)]
      have hu : upd T h0 (i + 1) h0 = i + 1 := by unfold upd; rw [if_pos rfl]
      have := ih (upd T h0 (i + 1)) (i + min 264 (s.size - i)) (i + min 264 (s.size - i)) (flw (s.extract from_ i) xs ++ cp (i + 1 - T h0) (min 264 (s.size - i))) (by omega) (Nat.le_refl _) (by omega) (by omega) (by omega) (by omega) (by omega)
      have hc := cp_length (i + 1 - T h0) (min 264 (s.size - i))
      have hfl := flw_length (s.extract from_ i) xs
      rw [ByteArray.size_extract] at hfl
      rw [List.length_append] at this
      rw [if_pos (by omega)]
      split at this <;> omega
    · rw [if_neg hi]
      have hfl := flw_length (s.extract from_ s.size) xs
      rw [ByteArray.size_extract] at hfl
      split <;> omega
theorem hs_mono (s : ByteArray) (hm : Mono s) (i : Nat) (hi : i + 2 < s.size) : hs s i = hs s 0 := by
  unfold hs
  rw [bn_eqAt (hm i 0 (by omega) (by omega)), bn_eqAt (hm (i + 1) (0 + 1) (by omega) (by omega)), bn_eqAt (hm (i + 2) (0 + 2) (by omega) (by omega))]
theorem packS_mono (s : ByteArray) (hm : Mono s) (h1 : 20 ≤ s.size) (h2 : s.size ≤ 524288) : (packS s).2 = true := by
  unfold packS
  rw [if_neg (by omega)]
  have hlen : (pkd s).length + 4 ≤ s.size := by
    unfold pkd
    rw [pk, if_pos (by omega), show len3 s 0 0 = 0 from rfl, if_pos (by omega)]
    have := pk_mono s hm (hs s 0) (fun i hi => hs_mono s hm i hi) s.size (upd (fun _ => 0) (hs s 0) (0 + 1)) 0 (0 + 1) [] (by omega) (by omega) (by omega) (by omega) (by unfold upd; rw [if_pos rfl]; omega) (by unfold upd; rw [if_pos rfl]; omega) (by unfold upd; rw [if_pos rfl]; omega)
    rw [List.length_nil, if_pos (by omega)] at this
    omega
  have e : ¬ (pkt s).length + 4 > s.size := by
    unfold pkt
    rw [if_neg (fun e => by omega)]
    omega
  rw [if_neg e]
end Go.Proofs.Ytdadggaecgkhfaa.LZ
