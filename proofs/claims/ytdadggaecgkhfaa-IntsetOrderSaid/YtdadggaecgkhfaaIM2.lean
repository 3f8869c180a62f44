/- Plain facts on the texts of an intset: what 'put', the document's 'little', 'Text', 'needs', 'Add' and 'Drop' come to; no program beyond the printed functions; conditions as typed. -/
import Derived.Test.YtdadggaecgkhfaaIM
import Derived.Test.YtdadggaecgkhfaaQ1
namespace Go.Proofs.Ytdadggaecgkhfaa.IM
open Go.RowKit Go.Proofs.YtdadggaecgkhfaaW.PrintWords Go.Proofs.YtdadggaecgkhfaaW.PrintMore
open Go.Proofs.Ytdadggaecgkhfaa.PIntsetPlays
set_option linter.unusedVariables false
set_option linter.unusedSimpArgs false
/-- a number as so many bytes, the lowest first -/
def lebI (v : Int) (w : Nat) : List Int := (List.range w).map fun i => v / 256 ^ i % 256
theorem lebI_length (v : Int) (w : Nat) : (lebI v w).length = w := by simp [lebI]
theorem lebI_succ (v : Int) (w : Nat) : lebI v (w + 1) = lebI v w ++ [v / 256 ^ w % 256] := by simp [lebI, List.range_succ]
theorem div_pow_succ (v : Int) (i : Nat) : v / 256 ^ i / 256 = v / 256 ^ (i + 1) := by
  have h : (0 : Int) ≤ 256 ^ i := Int.le_of_lt (Int.pow_pos (by decide))
  rw [Int.ediv_ediv_of_nonneg h, Int.pow_succ]
theorem put_loop (xs : List Int) (v : Int) (w : Nat) (hx : xs.length + w < 140737488355328) (d : Nat) : ∀ i, i ≤ w → w - i = d →
    Ev (fun k => intset_put.l0 k (xs ++ lebI v i) (v / 256 ^ i) w i) (xs ++ lebI v w) := by
  induction d with
  | zero =>
    intro i hi hd
    have e : i = w := by omega
    subst e
    refine Ev.step (f := fun _ => some _) (fun k => ?_) (Ev.now _)
    simp only [intset_put.l0]
    rw [if_neg (by omega)]
  | succ d ih =>
    intro i hi hd
    have c0 : (i : Int) < (w : Int) := by omega
    have c1 : (xs ++ lebI v i).length < 140737488355328 := by rw [List.length_append, lebI_length]; omega
    have b1 : -9223372036854775808 ≤ (i : Int) + 1 ∧ (i : Int) + 1 ≤ 9223372036854775807 := by omega
    refine Ev.step (f := fun k => intset_put.l0 k (xs ++ lebI v (i + 1)) (v / 256 ^ (i + 1)) w ((i + 1 : Nat) : Int)) (fun k => ?_) (ih (i + 1) (by omega) (by omega))
    simp only [intset_put.l0]
    rw [if_pos c0, if_pos c1, w64 _ b1, div_pow_succ, lebI_succ, List.append_assoc]
    rfl
theorem put_ev (xs : List Int) (v : Int) (w : Nat) (hx : xs.length + w < 140737488355328) : Ev (fun k => intset_put.f k xs v w) (xs ++ lebI v w) := by
  have h := put_loop xs v w hx w 0 (by omega) (by omega)
  have e : lebI v 0 = [] := rfl
  rw [e, List.append_nil, Int.pow_zero, Int.ediv_one] at h
  exact h
def lebU (u : Int) (w : Nat) : List Int := (List.range w).map fun i => u / 256 ^ i % 256
theorem lebU_eq (v : Int) (w : Nat) (hw : w ≤ 8) : lebI (v % 18446744073709551616) w = lebI v w := by
  unfold lebI
  apply List.map_congr_left
  intro i hi
  have : i < 8 := by have : i < w := by simpa using hi
                     omega
  match i, this with
  | 0, _ => simp only [Int.pow_zero]; omega
  | 1, _ => omega
  | 2, _ => omega
  | 3, _ => omega
  | 4, _ => omega
  | 5, _ => omega
  | 6, _ => omega
  | 7, _ => omega
theorem little_r_loop (u : Int) (hu0 : 0 ≤ u) (hu : u < 18446744073709551616) (w : Nat) (hw : w ≤ 8) (d : Nat) : ∀ i, i ≤ w → w - i = d →
    Ev (fun k => cisternref05_little.l0 k w (lebI u i) (u / 256 ^ i) i) (strOfNums (lebI u w)) := by
  induction d with
  | zero =>
    intro i hi hd
    have e : i = w := by omega
    subst e
    refine Ev.step (f := fun _ => some _) (fun k => ?_) (Ev.now _)
    simp only [cisternref05_little.l0]
    rw [if_neg (by omega)]
  | succ d ih =>
    intro i hi hd
    have c0 : (i : Int) < (w : Int) := by omega
    have c1 : (lebI u i).length < 140737488355328 := by rw [lebI_length]; omega
    have b1 : -9223372036854775808 ≤ (i : Int) + 1 ∧ (i : Int) + 1 ≤ 9223372036854775807 := by omega
    have h0 : 0 ≤ u / 256 ^ i := Int.ediv_nonneg hu0 (Int.le_of_lt (Int.pow_pos (by decide)))
    have h1 : u / 256 ^ i ≤ u := Int.ediv_le_self _ hu0
    have e1 : (Int.tmod (u / 256 ^ i) 256) % 256 = u / 256 ^ i % 256 := by
      rw [Int.tmod_eq_emod_of_nonneg h0]; omega
    have e2 : IntKind.u64.wrap (Int.tdiv (u / 256 ^ i) 256) = u / 256 ^ (i + 1) := by
      rw [← div_pow_succ, Int.tdiv_eq_ediv_of_nonneg h0, IntKind.wrap_u64]; omega
    refine Ev.step (f := fun k => cisternref05_little.l0 k w (lebI u (i + 1)) (u / 256 ^ (i + 1)) ((i + 1 : Nat) : Int)) (fun k => ?_) (ih (i + 1) (by omega) (by omega))
    simp only [cisternref05_little.l0]
    rw [if_pos c0, if_pos c1, w64 _ b1, e1, e2, lebI_succ]
    rfl
theorem little_r_ev (v : Int) (w : Nat) (hw : w ≤ 8) : Ev (fun k => cisternref05_little.f k v w) (strOfNums (lebI v w)) := by
  have h := little_r_loop (v % 18446744073709551616) (by omega) (by omega) w hw w 0 (by omega) (by omega)
  have e : ∀ u, lebI u 0 = [] := fun _ => rfl
  rw [e, Int.pow_zero, Int.ediv_one, lebU_eq v w hw] at h
  refine Ev.congr (fun k => ?_) h
  unfold cisternref05_little.f
  rw [IntKind.wrap_u64]
  rfl
theorem str_append (a b : List Int) : strOfNums a ++ strOfNums b = strOfNums (a ++ b) := by
  unfold strOfNums
  rw [ByteArray.mk_append_mk, List.map_append]
theorem bytes_str (a : List Int) (h : ∀ x ∈ a, 0 ≤ x ∧ x < 256) : bytesOf (strOfNums a) = a := by
  unfold bytesOf
  rw [strOfNums_data, List.map_map]
  conv => rhs; rw [← List.map_id a]
  apply List.map_congr_left
  intro x hx
  obtain ⟨h0, h1⟩ := h x hx
  simp [UInt8.toNat_ofNat']
  omega
theorem lebI_byte (v : Int) (w : Nat) : ∀ x ∈ lebI v w, 0 ≤ x ∧ x < 256 := by
  intro x hx
  simp only [lebI, List.mem_map] at hx
  obtain ⟨i, _, rfl⟩ := hx
  omega
/-- the text of rising numbers -/
def encI (w : Nat) (l : List Int) : List Int := lebI w 4 ++ lebI l.length 4 ++ l.flatMap fun n => lebI n w
theorem flat_length (w : Nat) (l : List Int) : (l.flatMap fun n => lebI n w).length = l.length * w := by
  induction l with
  | nil => simp
  | cons x r ih => rw [List.flatMap_cons, List.length_append, ih, lebI_length, List.length_cons, Nat.add_mul]; omega
theorem text_loop (w : Nat) (hw : w ≤ 8) (l : List Int) (hl : l.length ≤ 1048577) (hd8 : List Int) (hh : hd8.length = 8) (d : Nat) : ∀ i, i ≤ l.length → l.length - i = d →
    Ev (fun k => cisternref05_Text.l0 k w l (strOfNums hd8) ((l.take i).flatMap fun n => lebI n w) i) (strOfNums (hd8 ++ l.flatMap fun n => lebI n w)) := by
  induction d with
  | zero =>
    intro i hi hd
    have e : i = l.length := by omega
    subst e
    have hf := flat_length w l
    have hm := Nat.mul_le_mul hl hw
    have c : (strOfNums hd8).size + (strOfNums ((l.take l.length).flatMap fun n => lebI n w)).size ≤ 9223372036854775807 := by
      rw [strOfNums_size, strOfNums_size, List.take_length, hf, hh]; omega
    refine Ev.step (f := fun _ => some _) (fun k => ?_) (Ev.now _)
    simp only [cisternref05_Text.l0]
    rw [if_neg (by omega), if_pos c, List.take_length, str_append]
  | succ d ih =>
    intro i hi hd
    have hlt : i < l.length := by omega
    have c0 : (i : Int) < (l.length : Int) := by omega
    have c1 : (0 : Int) ≤ (i : Int) := by omega
    have b1 : -9223372036854775808 ≤ (i : Int) + 1 ∧ (i : Int) + 1 ≤ 9223372036854775807 := by omega
    have hf := flat_length w (l.take i)
    have hm := Nat.mul_le_mul (show (l.take i).length ≤ 1048577 by simp; omega) hw
    have hsz : (strOfNums (lebI l[i] w)).size = w := by rw [strOfNums_size, lebI_length]
    have c2 : ((l.take i).flatMap fun n => lebI n w).length + (strOfNums (lebI l[i] w)).size < 140737488355328 := by rw [hf, hsz]; omega
    have hrd : rd l (i : Int) = l[i] := by unfold rd; simp [List.getD, hlt]
    have hnext := ih (i + 1) (by omega) (by omega)
    refine Ev.step (f := fun k => (cisternref05_little.f k l[i] w).bind fun t => if ((l.take i).flatMap fun n => lebI n w).length + t.size < 140737488355328 then cisternref05_Text.l0 k w l (strOfNums hd8) (((l.take i).flatMap fun n => lebI n w) ++ bytesOf t) ((i + 1 : Nat) : Int) else none) (fun k => ?_) ?_
    · simp only [cisternref05_Text.l0]
      rw [if_pos c0, if_pos c1, hrd, w64 _ b1]
      rfl
    · refine Ev.bind (little_r_ev l[i] w hw) ?_
      simp only [if_pos c2]
      rw [bytes_str _ (lebI_byte _ _)]
      rw [List.take_succ_eq_append_getElem hlt, List.flatMap_append] at hnext
      simp only [List.flatMap_cons, List.flatMap_nil, List.append_nil] at hnext
      exact hnext
theorem text_ev (w : Nat) (hw : w ≤ 8) (l : List Int) (hl : l.length ≤ 1048577) : Ev (fun k => cisternref05_Text.f k w l) (strOfNums (encI w l)) := by
  unfold cisternref05_Text.f
  refine Ev.bind (little_r_ev w 4 (by decide)) (Ev.bind (little_r_ev l.length 4 (by decide)) ?_)
  have c : (strOfNums (lebI (w : Int) 4)).size + (strOfNums (lebI (l.length : Int) 4)).size ≤ 9223372036854775807 := by
    rw [strOfNums_size, strOfNums_size, lebI_length, lebI_length]; omega
  simp only [if_pos c]
  rw [str_append]
  have h := text_loop w hw l hl (lebI (w : Int) 4 ++ lebI (l.length : Int) 4) (by rw [List.length_append, lebI_length, lebI_length]) l.length 0 (by omega) (by omega)
  exact h
/-- the width that a number needs -/
def needsI (n : Int) : Nat := if -32768 ≤ n ∧ n ≤ 32767 then 2 else if -2147483648 ≤ n ∧ n ≤ 2147483647 then 4 else 8
theorem needsI_le (n : Int) : needsI n ≤ 8 := by unfold needsI; split; omega; split <;> omega
theorem needs_ev (n : Int) : Ev (fun k => cisternref05_needs.f k n) (needsI n : Int) := by
  have hj : ∀ b, Ev (fun k => cisternref05_needs.j0 k n b) (if b = true then 2 else if n ≥ -2147483648 then (if n ≤ 2147483647 then 4 else 8) else 8) := fun b => by
    refine Ev.step (f := fun _ => some _) (fun k => ?_) (Ev.now _)
    simp only [cisternref05_needs.j0]
    by_cases hb : b = true
    · rw [if_pos hb, if_pos hb]
    · rw [if_neg hb, if_neg hb]
      split
      · split <;> rfl
      · rfl
  unfold cisternref05_needs.f
  by_cases h1 : n ≥ -32768
  · simp only [if_pos h1]
    have := hj (decide (n ≤ 32767))
    have e : (if decide (n ≤ 32767) = true then 2 else if n ≥ -2147483648 then (if n ≤ 2147483647 then 4 else 8) else 8 : Int) = (needsI n : Int) := by
      unfold needsI
      simp only [decide_eq_true_eq]
      repeat' split
      all_goals (first | contradiction | omega)
    rwa [e] at this
  · simp only [if_neg h1]
    have := hj false
    have e : (if false = true then 2 else if n ≥ -2147483648 then (if n ≤ 2147483647 then 4 else 8) else 8 : Int) = (needsI n : Int) := by
      unfold needsI
      simp only [Bool.false_eq_true]
      repeat' split
      all_goals (first | contradiction | omega)
    rwa [e] at this
abbrev Res := ByteArray × Bool × Int
/-- the list with a number, without one -/
def addL (l : List Int) (n : Int) : List Int := l.take (pos l n) ++ [n] ++ l.drop (pos l n)
def dropL (l : List Int) (n : Int) : List Int := l.take (pos l n) ++ l.drop (pos l n + 1)
open Classical in
/-- what Add answers -/
noncomputable def addS (p : ByteArray) (n : Int) : Res :=
  if Good p then (if there (els p) n = true then (p, false, 0) else if 1048576 ≤ N p then ((⟨#[]⟩ : ByteArray), false, 3) else (strOfNums (encI (max (W p) (needsI n)) (addL (els p) n)), true, 0)) else ((⟨#[]⟩ : ByteArray), false, 50)
open Classical in
noncomputable def dropS (p : ByteArray) (n : Int) : Res :=
  if Good p then (if there (els p) n = true then (strOfNums (encI (W p) (dropL (els p) n)), true, 0) else (p, false, 0)) else ((⟨#[]⟩ : ByteArray), false, 50)
theorem els_pos_le (p : ByteArray) (n : Int) : pos (els p) n ≤ N p := by have := pos_le (els p) n; rwa [els_length] at this
theorem radd_ev (p : ByteArray) (n : Int) : Ev (fun k => cisternref05_Add.f k p n) (addS p n) := by
  unfold cisternref05_Add.f addS
  by_cases hg : Good p
  · rw [if_pos hg]
    have hN := hg.1.2.2.1
    have hW := hg.1.2.1
    have hl : (els p).length ≤ 1048576 := by rw [els_length]; exact hN
    refine Ev.bind (rread_yes p hg) ?_
    simp only [if_true]
    refine Ev.bind (rat_ev (els p) n hl) ?_
    by_cases ht : there (els p) n = true
    · simp only [ht, if_true]
      exact Ev.now _
    · rw [if_neg ht]
      simp only [if_neg ht, els_length]
      by_cases hf : 1048576 ≤ N p
      · have c : ((N p : Nat) : Int) ≥ 1048576 := by omega
        rw [if_pos hf]
        simp only [if_pos c]
        exact Ev.now _
      · have hp := els_pos_le p n
        have c : ¬ (((N p : Nat) : Int) ≥ 1048576) := by omega
        have c1 : (0 : Int) ≤ ((pos (els p) n : Nat) : Int) := by omega
        have c2 : ((pos (els p) n : Nat) : Int) ≤ (N p : Int) := by omega
        have c3 : ([] : List Int).length + ((els p).take (pos (els p) n)).length < 17592186044416 := by simp; omega
        have c4 : (([] : List Int) ++ (els p).take (pos (els p) n)).length < 17592186044416 := by simp; omega
        have c5 : (([] : List Int) ++ (els p).take (pos (els p) n) ++ [n]).length + ((els p).drop (pos (els p) n)).length < 17592186044416 := by simp [els_length]; omega
        rw [if_neg hf]
        simp only [if_neg c, if_pos c1, if_pos c2, Int.toNat_natCast, Option.bind_some, if_pos c3, if_pos c4, if_pos c5]
        refine Ev.bind (needs_ev n) ?_
        have e : mx (W p : Int) (needsI n : Int) = ((max (W p) (needsI n) : Nat) : Int) := by unfold mx; omega
        simp only [e, List.nil_append]
        have hnl := needsI_le n
        refine Ev.bind (text_ev (max (W p) (needsI n)) (by omega) (addL (els p) n) (by unfold addL; simp [els_length]; omega)) ?_
        exact Ev.now _
  · rw [if_neg hg]
    refine Ev.bind (rread_no p hg) ?_
    simp only [Bool.false_eq_true, if_false]
    exact Ev.now _
theorem there_lt (l : List Int) (n : Int) (h : there l n = true) : pos l n < l.length := by
  unfold there at h
  have := of_decide_eq_true h
  rcases Nat.lt_or_ge (pos l n) l.length with h1 | h1
  · exact h1
  · rw [List.getElem?_eq_none h1] at this; cases this
theorem rdrop_ev (p : ByteArray) (n : Int) : Ev (fun k => cisternref05_Drop.f k p n) (dropS p n) := by
  unfold cisternref05_Drop.f dropS
  by_cases hg : Good p
  · rw [if_pos hg]
    have hN := hg.1.2.2.1
    have hW := hg.1.2.1
    have hl : (els p).length ≤ 1048576 := by rw [els_length]; exact hN
    refine Ev.bind (rread_yes p hg) ?_
    simp only [if_true]
    refine Ev.bind (rat_ev (els p) n hl) ?_
    by_cases ht : there (els p) n = true
    · have hp := there_lt _ _ ht
      rw [els_length] at hp
      have c1 : (0 : Int) ≤ ((pos (els p) n : Nat) : Int) := by omega
      have c2 : ((pos (els p) n : Nat) : Int) ≤ (N p : Int) := by omega
      have c3 : ([] : List Int).length + ((els p).take (pos (els p) n)).length < 17592186044416 := by simp; omega
      have b1 : -9223372036854775808 ≤ ((pos (els p) n : Nat) : Int) + 1 ∧ ((pos (els p) n : Nat) : Int) + 1 ≤ 9223372036854775807 := by omega
      have c6 : (0 : Int) ≤ ((pos (els p) n : Nat) : Int) + 1 := by omega
      have c7 : ((pos (els p) n : Nat) : Int) + 1 ≤ (N p : Int) := by omega
      have t1 : (((pos (els p) n : Nat) : Int) + 1).toNat = pos (els p) n + 1 := by omega
      have c5 : (([] : List Int) ++ (els p).take (pos (els p) n)).length + ((els p).drop (pos (els p) n + 1)).length < 17592186044416 := by simp [els_length]; omega
      simp only [ht, if_true, els_length, if_pos c1, if_pos c2, Int.toNat_natCast, Option.bind_some, if_pos c3, w64 _ b1, if_pos c6, if_pos c7, t1, if_pos c5]
      simp only [List.nil_append]
      refine Ev.bind (text_ev (W p) (by omega) (dropL (els p) n) (by unfold dropL; simp [els_length]; omega)) ?_
      exact Ev.now _
    · rw [if_neg ht]
      simp only [if_neg ht]
      exact Ev.now _
  · rw [if_neg hg]
    refine Ev.bind (rread_no p hg) ?_
    simp only [Bool.false_eq_true, if_false]
    exact Ev.now _
end Go.Proofs.Ytdadggaecgkhfaa.IM
