/- Plain facts: the text of a rising list is read back as that list; adding numbers in any order makes one text; conditions: as each has them. -/
import Derived.Test.YtdadggaecgkhfaaIM3
namespace Go.Proofs.Ytdadggaecgkhfaa.IM
open Go.RowKit Go.Proofs.YtdadggaecgkhfaaW.PrintWords Go.Proofs.YtdadggaecgkhfaaW.PrintMore
open Go.Proofs.Ytdadggaecgkhfaa.PIntsetPlays
set_option linter.unusedVariables false
set_option linter.unusedSimpArgs false
def u8 (x : Int) : UInt8 := UInt8.ofNat x.toNat
theorem u8_nat (x : Int) (h : 0 ≤ x ∧ x < 256) : ((u8 x).toNat : Int) = x := by
  unfold u8
  simp [UInt8.toNat_ofNat']
  omega
theorem lebI_front (v : Int) (w : Nat) : lebI v (w + 1) = v % 256 :: lebI (v / 256) w := by
  unfold lebI
  rw [List.range_succ_eq_map, List.map_cons, List.map_map]
  congr 1
  · simp
  · apply List.map_congr_left
    intro i _
    show v / 256 ^ (i + 1) % 256 = v / 256 / 256 ^ i % 256
    rw [Int.ediv_ediv_of_nonneg (by omega), Int.pow_succ, Int.mul_comm]
theorem split_mod (v m : Int) (hm : 0 < m) : v % (256 * m) = v % 256 + 256 * ((v / 256) % m) := by
  rw [Int.emod_def v (256 * m), Int.emod_def v 256, Int.emod_def (v / 256) m, Int.ediv_ediv_of_nonneg (by omega), Int.mul_sub, Int.mul_assoc]
  omega
theorem leI_leb (w : Nat) : ∀ v : Int, ((leI ((lebI v w).map u8) : Nat) : Int) = v % 256 ^ w := by
  induction w with
  | zero => intro v; simp [lebI, leI, Int.emod_one]
  | succ w ih =>
    intro v
    rw [lebI_front, List.map_cons]
    simp only [leI]
    have h1 := u8_nat (v % 256) (by omega)
    have h2 := ih (v / 256)
    have h3 : (0 : Int) < 256 ^ w := Int.pow_pos (by omega)
    rw [Int.pow_succ, Int.mul_comm (256 ^ w) 256, split_mod v _ h3, ← h2]
    omega
theorem encI_data (w : Nat) (l : List Int) : (strOfNums (encI w l)).data.toList = (encI w l).map u8 := by
  rw [strOfNums_data]
  rfl
theorem encI_map (w : Nat) (l : List Int) : (encI w l).map u8 = (lebI w 4).map u8 ++ ((lebI l.length 4).map u8 ++ l.flatMap fun n => (lebI n w).map u8) := by
  unfold encI
  rw [List.map_append, List.map_append, List.map_flatMap, List.append_assoc]
theorem enc_W (w : Nat) (hw : w < 4294967296) (l : List Int) : W (strOfNums (encI w l)) = w := by
  unfold W
  rw [encI_data, encI_map, List.take_append_of_le_length (by simp [lebI_length]), List.take_of_length_le (by simp [lebI_length])]
  have := leI_leb 4 (w : Int)
  omega
theorem enc_N (w : Nat) (l : List Int) (hl : l.length < 4294967296) : N (strOfNums (encI w l)) = l.length := by
  unfold N
  rw [encI_data, encI_map, List.drop_append_of_le_length (by simp [lebI_length]), List.drop_of_length_le (by simp [lebI_length]), List.nil_append, List.take_append_of_le_length (by simp [lebI_length]), List.take_of_length_le (by simp [lebI_length])]
  have := leI_leb 4 (l.length : Int)
  omega
theorem enc_size (w : Nat) (l : List Int) : (strOfNums (encI w l)).size = 8 + l.length * w := by
  rw [← data_length, encI_data, List.length_map]
  unfold encI
  rw [List.length_append, List.length_append, lebI_length, lebI_length, flat_length]
theorem flat_cut (f : Int → List UInt8) (w : Nat) (hf : ∀ x, (f x).length = w) : ∀ (l : List Int) (i : Nat) (h : i < l.length), ((l.flatMap f).drop (i * w)).take w = f l[i] := by
  intro l
  induction l with
  | nil => intro i h; simp at h
  | cons x r ih =>
    intro i h
    rw [List.flatMap_cons]
    cases i with
    | zero =>
      rw [Nat.zero_mul, List.drop_zero, List.take_append_of_le_length (by rw [hf]; exact Nat.le_refl _), List.take_of_length_le (by rw [hf]; exact Nat.le_refl _)]
      rfl
    | succ i =>
      rw [List.drop_append, List.drop_of_length_le (by rw [hf, Nat.add_mul]; omega), List.nil_append, hf, show (i + 1) * w - w = i * w from by rw [Nat.add_mul]; omega]
      exact ih i (by simpa using h)
theorem drop_pre (A F : List UInt8) (h : A.length = 8) : (A ++ F).drop 8 = F := by rw [← h, List.drop_left]
theorem enc_cut (w : Nat) (l : List Int) (i : Nat) (h : i < l.length) : cut (strOfNums (encI w l)) w i = (lebI l[i] w).map u8 := by
  unfold cut
  have e : ∀ D : List UInt8, D.drop (8 + i * w) = (D.drop 8).drop (i * w) := fun D => by rw [List.drop_drop]
  rw [encI_data, encI_map, ← List.append_assoc, e, drop_pre _ _ (by simp [lebI_length])]
  exact flat_cut _ w (fun x => by simp [lebI_length]) l i h
theorem sx_back (w : Nat) (hw : w = 2 ∨ w = 4 ∨ w = 8) (v : Int) (hv : needsI v ≤ w) (h1 : -9223372036854775808 ≤ v) (h2 : v ≤ 9223372036854775807) : sx w (leI ((lebI v w).map u8)) = v := by
  have h := leI_leb w v
  unfold needsI at hv
  unfold sx
  rcases hw with rfl | rfl | rfl
  · rw [if_pos rfl, i16_wrap, h]
    split at hv
    · omega
    · split at hv <;> omega
  · rw [if_neg (by omega), if_pos rfl, h]
    rw [IntKind.wrap_i32]
    split at hv
    · omega
    · split at hv <;> omega
  · rw [if_neg (by omega), if_neg (by omega), IntKind.wrap_i64, h]
    omega
def Fits (w : Nat) (l : List Int) : Prop := ∀ x ∈ l, needsI x ≤ w ∧ -9223372036854775808 ≤ x ∧ x ≤ 9223372036854775807
theorem enc_el (w : Nat) (hw : w = 2 ∨ w = 4 ∨ w = 8) (l : List Int) (hf : Fits w l) (i : Nat) (h : i < l.length) : el (strOfNums (encI w l)) w i = l[i] := by
  unfold el
  rw [enc_cut w l i h]
  obtain ⟨h1, h2, h3⟩ := hf _ (List.getElem_mem h)
  exact sx_back w hw _ h1 h2 h3
theorem enc_els (w : Nat) (hw : w = 2 ∨ w = 4 ∨ w = 8) (l : List Int) (hf : Fits w l) (hl : l.length ≤ 1048576) : els (strOfNums (encI w l)) = l := by
  unfold els
  rw [enc_W w (by omega) l, enc_N w l (by omega)]
  apply List.ext_getElem
  · simp
  · intro i h1 h2
    simp only [List.getElem_map, List.getElem_range]
    exact enc_el w hw l hf i h2
theorem enc_good (w : Nat) (hw : w = 2 ∨ w = 4 ∨ w = 8) (l : List Int) (hf : Fits w l) (hl : l.length ≤ 1048576) (hs : l.Pairwise (· < ·)) : Good (strOfNums (encI w l)) := by
  have hW := enc_W w (by omega) l
  have hN := enc_N w l (by omega)
  have hS := enc_size w l
  refine ⟨⟨by omega, by rw [hW]; exact hw, by omega, by rw [hW, hN, hS]⟩, ?_⟩
  intro j hj1 hj2
  rw [hW]
  rw [hN] at hj2
  rw [enc_el w hw l hf j hj2, enc_el w hw l hf (j - 1) (by omega)]
  exact List.pairwise_iff_getElem.mp hs (j - 1) j (by omega) hj2 (by omega)
theorem addL_cons (x : Int) (r : List Int) (n : Int) : addL (x :: r) n = if n ≤ x then n :: x :: r else x :: addL r n := by
  unfold addL
  simp only [pos]
  split <;> simp
theorem there_cons (x : Int) (r : List Int) (n : Int) : there (x :: r) n = if n ≤ x then decide (x = n) else there r n := by
  unfold there
  simp only [pos]
  split <;> simp
theorem there_nil (n : Int) : there [] n = false := rfl
theorem mem_addL (n y : Int) : ∀ l : List Int, y ∈ addL l n ↔ y = n ∨ y ∈ l := by
  intro l
  induction l with
  | nil => simp [addL, pos]
  | cons x r ih =>
    rw [addL_cons]
    split
    · simp
    · simp only [List.mem_cons, ih]
      constructor
      · rintro (h | h | h) <;> simp [h]
      · rintro (h | h | h) <;> simp [h]
theorem addL_length (n : Int) (l : List Int) : (addL l n).length = l.length + 1 := by
  have := pos_le l n
  unfold addL
  simp
  omega
theorem addL_sorted (n : Int) : ∀ l : List Int, l.Pairwise (· < ·) → there l n = false → (addL l n).Pairwise (· < ·) := by
  intro l
  induction l with
  | nil => intro _ _; simp [addL, pos]
  | cons x r ih =>
    intro hs ht
    rw [there_cons] at ht
    rw [addL_cons]
    obtain ⟨h1, h2⟩ := List.pairwise_cons.mp hs
    split
    · next h =>
      rw [if_pos h] at ht
      have hne : x ≠ n := by simpa using ht
      refine List.pairwise_cons.mpr ⟨?_, hs⟩
      intro y hy
      rcases List.mem_cons.mp hy with rfl | hy
      · omega
      · have := h1 y hy; omega
    · next h =>
      rw [if_neg h] at ht
      refine List.pairwise_cons.mpr ⟨?_, ih h2 ht⟩
      intro y hy
      rcases (mem_addL n y r).mp hy with rfl | hy
      · omega
      · exact h1 y hy
theorem there_mem (n : Int) (l : List Int) (h : there l n = true) : n ∈ l := List.mem_of_getElem? ((there_iff l n).mp h)
theorem mem_there (n : Int) : ∀ l : List Int, l.Pairwise (· < ·) → n ∈ l → there l n = true := by
  intro l
  induction l with
  | nil => intro _ h; cases h
  | cons x r ih =>
    intro hs h
    obtain ⟨h1, h2⟩ := List.pairwise_cons.mp hs
    rw [there_cons]
    rcases List.mem_cons.mp h with rfl | h
    · rw [if_pos (Int.le_refl _)]; simp
    · have := h1 n h
      rw [if_neg (by omega)]
      exact ih h2 h
theorem sorted_ext : ∀ l l' : List Int, l.Pairwise (· < ·) → l'.Pairwise (· < ·) → (∀ y, y ∈ l ↔ y ∈ l') → l = l' := by
  intro l
  induction l with
  | nil =>
    intro l' _ _ h
    cases l' with
    | nil => rfl
    | cons x r => exact absurd ((h x).mpr List.mem_cons_self) (by simp)
  | cons a r ih =>
    intro l' hs hs' h
    cases l' with
    | nil => exact absurd ((h a).mp List.mem_cons_self) (by simp)
    | cons b r' =>
      obtain ⟨h1, h2⟩ := List.pairwise_cons.mp hs
      obtain ⟨h3, h4⟩ := List.pairwise_cons.mp hs'
      have hab : a = b := by
        rcases List.mem_cons.mp ((h a).mp List.mem_cons_self) with e | e
        · exact e
        · rcases List.mem_cons.mp ((h b).mpr List.mem_cons_self) with e2 | e2
          · exact e2.symm
          · have := h1 b e2
            have := h3 a e
            omega
      subst hab
      congr 1
      refine ih r' h2 h4 (fun y => ⟨fun hy => ?_, fun hy => ?_⟩)
      · rcases List.mem_cons.mp ((h y).mp (List.mem_cons_of_mem _ hy)) with e | e
        · subst e; have := h1 y hy; omega
        · exact e
      · rcases List.mem_cons.mp ((h y).mpr (List.mem_cons_of_mem _ hy)) with e | e
        · subst e; have := h3 y hy; omega
        · exact e
/-- the one text of a rising list -/
def Canon (s : ByteArray) (l : List Int) : Prop := ∃ w, s = strOfNums (encI w l) ∧ (w = 2 ∨ w = 4 ∨ w = 8) ∧ Fits w l ∧ (w = 2 ∨ ∃ x ∈ l, needsI x = w) ∧ l.Pairwise (· < ·)
theorem needsI_or (x : Int) : needsI x = 2 ∨ needsI x = 4 ∨ needsI x = 8 := by unfold needsI; split; simp; split <;> simp
theorem Canon.same {s s' : ByteArray} {l : List Int} (h : Canon s l) (h' : Canon s' l) : s = s' := by
  obtain ⟨w, rfl, hw, hf, ht, hs⟩ := h
  obtain ⟨w', rfl, hw', hf', ht', _⟩ := h'
  have : w = w' := by
    apply Nat.le_antisymm
    · rcases ht with rfl | ⟨x, hx, e⟩
      · omega
      · have := (hf' x hx).1; omega
    · rcases ht' with rfl | ⟨x, hx, e⟩
      · omega
      · have := (hf x hx).1; omega
  rw [this]
theorem Canon.good {s : ByteArray} {l : List Int} (h : Canon s l) (hl : l.length ≤ 1048576) : Good s ∧ els s = l := by
  obtain ⟨w, rfl, hw, hf, ht, hs⟩ := h
  exact ⟨enc_good w hw l hf hl hs, enc_els w hw l hf hl⟩
theorem Canon.add {s : ByteArray} {l : List Int} (h : Canon s l) (hl : l.length < 1048576) (x : Int) (h1 : -9223372036854775808 ≤ x) (h2 : x ≤ 9223372036854775807) :
    ∃ l', Canon (addS s x).1 l' ∧ (∀ y, y ∈ l' ↔ y = x ∨ y ∈ l) ∧ l'.length ≤ l.length + 1 := by
  obtain ⟨hg, he⟩ := h.good (by omega)
  have hN : N s = l.length := by rw [← els_length, he]
  unfold addS
  rw [if_pos hg, he]
  by_cases ht : there l x = true
  · rw [if_pos ht]
    refine ⟨l, h, fun y => ⟨fun hy => .inr hy, ?_⟩, by omega⟩
    rintro (rfl | hy)
    · exact there_mem y l ht
    · exact hy
  · rw [if_neg ht, if_neg (by omega)]
    refine ⟨addL l x, ?_, fun y => mem_addL x y l, by rw [addL_length]; omega⟩
    obtain ⟨w, hs, hw, hf, htw, hp⟩ := h
    have hW : W s = w := by rw [hs]; exact enc_W w (by omega) l
    rw [hW]
    have hx := needsI_or x
    refine ⟨max w (needsI x), rfl, (by rcases Nat.le_total w (needsI x) with h | h; (rw [Nat.max_eq_right h]; exact hx); (rw [Nat.max_eq_left h]; exact hw)), ?_, ?_, addL_sorted x l hp (by simpa using ht)⟩
    · intro y hy
      rcases (mem_addL x y l).mp hy with rfl | hy
      · exact ⟨Nat.le_max_right _ _, h1, h2⟩
      · exact ⟨Nat.le_trans (hf y hy).1 (Nat.le_max_left _ _), (hf y hy).2⟩
    · rcases Nat.le_total w (needsI x) with hle | hle
      · right
        exact ⟨x, (mem_addL x x l).mpr (.inl rfl), (Nat.max_eq_right hle).symm⟩
      · rw [Nat.max_eq_left hle]
        rcases htw with e | ⟨y, hy, e⟩
        · exact .inl e
        · exact .inr ⟨y, (mem_addL x y l).mpr (.inr hy), e⟩
theorem canon0 : Canon (strOfNums (encI 2 [])) [] := ⟨2, rfl, .inl rfl, (fun x hx => by cases hx), .inl rfl, List.Pairwise.nil⟩
end Go.Proofs.Ytdadggaecgkhfaa.IM
