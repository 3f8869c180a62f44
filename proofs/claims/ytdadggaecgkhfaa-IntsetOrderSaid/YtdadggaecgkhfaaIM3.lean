/- Plain facts: what the printed Valid, Len, At, Range, Has and sameInts come to; conditions: as each has them. -/
import Derived.Test.YtdadggaecgkhfaaIM2
import Derived.Test.YtdadggaecgkhfaaQ2
import Derived.Test.YtdadggaecgkhfaaQ3
namespace Go.Proofs.Ytdadggaecgkhfaa.IM
open Go.RowKit Go.Proofs.YtdadggaecgkhfaaW.PrintWords Go.Proofs.YtdadggaecgkhfaaW.PrintMore
open Go.Proofs.Ytdadggaecgkhfaa.PIntsetPlays
set_option linter.unusedVariables false
open Classical in
noncomputable def validS (p : ByteArray) : Int := if Good p then 0 else 50
open Classical in
noncomputable def lenS (p : ByteArray) : Int × Int := if Good p then ((N p : Int), 0) else (0, 50)
open Classical in
noncomputable def atS (p : ByteArray) (i : Int) : Int × Bool := if Good p ∧ 0 ≤ i ∧ i < (N p : Int) then (el p (W p) i.toNat, true) else (0, false)
open Classical in
noncomputable def readS (p : ByteArray) : Int × List Int × Bool := if Good p then ((W p : Int), els p, true) else noRead
open Classical in
noncomputable def hasS (p : ByteArray) (x : Int) : Bool := if Good p then there (els p) x else false
def upto (l : List Int) (b : Int) : Nat := pos l b + (if there l b = true then 1 else 0)
open Classical in
noncomputable def rangeS (p : ByteArray) (a b : Int) : Int × Int := if Good p ∧ a ≤ b then ((pos (els p) a : Int), ((upto (els p) b : Int) - (pos (els p) a : Int))) else (0, 0)
theorem valid_ev (p : ByteArray) : Ev (fun k => intset_Valid.f k p) (validS p) := by
  unfold intset_Valid.f validS
  by_cases h : Good p
  · rw [if_pos h]
    refine Ev.bind (read_yes p h) ?_
    exact Ev.now _
  · rw [if_neg h]
    refine Ev.bind (read_no p h) ?_
    exact Ev.now _
theorem len_ev (p : ByteArray) : Ev (fun k => intset_Len.f k p) (lenS p) := by
  unfold intset_Len.f lenS
  by_cases h : Good p
  · rw [if_pos h]
    refine Ev.bind (read_yes p h) ?_
    exact Ev.now _
  · rw [if_neg h]
    refine Ev.bind (read_no p h) ?_
    exact Ev.now _
theorem rvalid_ev (p : ByteArray) : Ev (fun k => cisternref05_Valid.f k p) (validS p) := by
  unfold cisternref05_Valid.f validS
  by_cases h : Good p
  · rw [if_pos h]
    refine Ev.bind (rread_yes p h) ?_
    exact Ev.now _
  · rw [if_neg h]
    refine Ev.bind (rread_no p h) ?_
    exact Ev.now _
theorem rreadS_ev (p : ByteArray) : Ev (fun k => cisternref05_Read.f k p) (readS p) := by
  unfold readS
  by_cases h : Good p
  · rw [if_pos h]; exact rread_yes p h
  · rw [if_neg h]; exact rread_no p h
theorem iat_ev (p : ByteArray) (i : Int) : Ev (fun k => intset_At.f k p i) (atS p i) := by
  unfold intset_At.f atS
  by_cases h : Good p
  · refine Ev.bind (read_yes p h) ?_
    simp only [if_true]
    by_cases h0 : i < 0
    · rw [if_neg (by omega)]
      simp only [if_pos h0]
      exact Ev.now _
    · by_cases h1 : i < (N p : Int)
      · rw [if_pos ⟨h, by omega, h1⟩]
        simp only [if_neg h0, if_neg (show ¬ (i ≥ (N p : Int)) by omega)]
        have hs := h.1
        obtain ⟨j, rfl⟩ : ∃ j : Nat, i = (j : Int) := ⟨i.toNat, by omega⟩
        refine Ev.bind (at_ev p (W p) (N p) j hs.2.1 (hs.room j (by omega)) hs.small) ?_
        exact Ev.now _
      · rw [if_neg (by omega)]
        simp only [if_neg h0, if_pos (show i ≥ (N p : Int) by omega)]
        exact Ev.now _
  · rw [if_neg (fun e => h e.1)]
    refine Ev.bind (read_no p h) ?_
    exact Ev.now _
theorem els_rd (p : ByteArray) (j : Nat) (h : j < N p) : rd (els p) (j : Int) = el p (W p) j := elsTo_rd p (N p) j h
theorem riat_ev (p : ByteArray) (i : Int) : Ev (fun k => cisternref05_At.f k p i) (atS p i) := by
  unfold cisternref05_At.f atS
  by_cases h : Good p
  · refine Ev.bind (rread_yes p h) ?_
    simp only [if_true, els_length]
    by_cases h0 : i < 0
    · rw [if_neg (show ¬ (Good p ∧ 0 ≤ i ∧ i < (N p : Int)) from fun e => absurd e.2.1 (by omega))]
      simp only [if_pos h0]
      exact Ev.now _
    · by_cases h1 : i < (N p : Int)
      · rw [if_pos (show Good p ∧ 0 ≤ i ∧ i < (N p : Int) from ⟨h, by omega, h1⟩)]
        simp only [if_neg h0, if_neg (show ¬ (i ≥ (N p : Int)) by omega), if_pos (show 0 ≤ i by omega), if_pos h1]
        obtain ⟨j, rfl⟩ : ∃ j : Nat, i = (j : Int) := ⟨i.toNat, by omega⟩
        rw [els_rd p j (by omega)]
        exact Ev.now _
      · rw [if_neg (show ¬ (Good p ∧ 0 ≤ i ∧ i < (N p : Int)) from fun e => h1 e.2.2)]
        simp only [if_neg h0, if_pos (show i ≥ (N p : Int) by omega)]
        exact Ev.now _
  · rw [if_neg (fun e => h e.1)]
    refine Ev.bind (rread_no p h) ?_
    exact Ev.now _
theorem els_le (p : ByteArray) (h : Good p) : (els p).length ≤ 1048576 := by rw [els_length]; exact h.1.2.2.1
theorem rhas_ev (p : ByteArray) (x : Int) : Ev (fun k => cisternref05_Has.f k p x) (hasS p x) := by
  unfold cisternref05_Has.f hasS
  by_cases h : Good p
  · rw [if_pos h]
    refine Ev.bind (rread_yes p h) (Ev.bind (rat_ev _ x (els_le p h)) ?_)
    exact Ev.now _
  · rw [if_neg h]
    refine Ev.bind (rread_no p h) (Ev.bind (rat_ev _ x (by simp)) ?_)
    exact Ev.now _
theorem pos_lo (n : Int) : ∀ (l : List Int) (t : Nat) (y : Int), t < pos l n → l[t]? = some y → y < n := by
  intro l
  induction l with
  | nil => intro t y h; simp [pos] at h
  | cons x r ih =>
    intro t y h hy
    simp only [pos] at h
    split at h
    · omega
    · next hx =>
      cases t with
      | zero => simp at hy; omega
      | succ t => exact ih t y (by omega) (by simpa using hy)
theorem pos_hi (n : Int) : ∀ (l : List Int) (y : Int), l[pos l n]? = some y → n ≤ y := by
  intro l
  induction l with
  | nil => intro y h; simp [pos] at h
  | cons x r ih =>
    intro y hy
    simp only [pos] at hy
    split at hy
    · simp at hy; omega
    · exact ih y (by simpa using hy)
theorem there_iff (l : List Int) (n : Int) : there l n = true ↔ l[pos l n]? = some n := by unfold there; simp
def Sorted (l : List Int) : Prop := ∀ i x y, l[i]? = some x → l[i + 1]? = some y → x < y
theorem els_sorted (p : ByteArray) (h : Good p) : Sorted (els p) := by
  intro i x y hx hy
  have hi : i + 1 < (els p).length := by
    rcases Nat.lt_or_ge (i + 1) (els p).length with h1 | h1
    · exact h1
    · rw [List.getElem?_eq_none h1] at hy; cases hy
  rw [els_length] at hi
  have e1 : (els p)[i]? = some (el p (W p) i) := by simp [els, show i < N p by omega]
  have e2 : (els p)[i + 1]? = some (el p (W p) (i + 1)) := by simp [els, hi]
  rw [e1] at hx
  rw [e2] at hy
  injection hx with hx
  injection hy with hy
  subst hx hy
  exact h.2 (i + 1) (by omega) hi
theorem upto_le (l : List Int) (b : Int) : upto l b ≤ l.length := by
  unfold upto
  split
  · next h => exact there_lt l b h
  · have := pos_le l b; omega
theorem upto_lo (l : List Int) (b : Int) (t : Nat) (y : Int) (ht : t < upto l b) (hy : l[t]? = some y) : y ≤ b := by
  unfold upto at ht
  split at ht
  · next h =>
    by_cases e : t = pos l b
    · subst e
      rw [(there_iff l b).mp h] at hy
      injection hy with hy
      omega
    · have := pos_lo b l t y (by omega) hy
      omega
  · have := pos_lo b l t y (by omega) hy
    omega
theorem upto_hi (l : List Int) (hs : Sorted l) (b : Int) (y : Int) (hy : l[upto l b]? = some y) : b < y := by
  unfold upto at hy
  split at hy
  · next h => exact hs (pos l b) b y ((there_iff l b).mp h) hy
  · next h =>
    have h1 := pos_hi b l y (by simpa using hy)
    have h2 : y ≠ b := by
      intro e
      subst e
      exact h ((there_iff l y).mpr (by simpa using hy))
    omega
theorem pos_upto (l : List Int) (hs : Sorted l) (a b : Int) (h : a ≤ b) : pos l a ≤ upto l b := by
  rcases Nat.lt_or_ge (upto l b) (pos l a) with h1 | h1
  · have hl : upto l b < l.length := Nat.lt_of_lt_of_le h1 (pos_le l a)
    have e := List.getElem?_eq_getElem hl
    have h2 := upto_hi l hs b _ e
    have h3 := pos_lo a l _ _ h1 e
    omega
  · exact h1
theorem rrange_loop (l : List Int) (hs : Sorted l) (hl : l.length ≤ 1048576) (b x11 : Int) (d : Nat) : ∀ i c : Nat, i ≤ upto l b → upto l b - i = d → c ≤ i →
    Ev (fun k => cisternref05_Range.l0 k b l x11 c i) (x11, ((c + d : Nat) : Int)) := by
  have hu := upto_le l b
  induction d with
  | zero =>
    intro i c hi hd hc
    have e : i = upto l b := by omega
    refine Ev.step (f := fun _ => some _) (fun k => ?_) (Ev.now _)
    simp only [cisternref05_Range.l0]
    by_cases hlt : i < l.length
    · have hrd : rd l (i : Int) = l[i] := by unfold rd; simp [List.getD, hlt]
      have h2 := upto_hi l hs b l[i] (by rw [← e]; exact List.getElem?_eq_getElem hlt)
      rw [if_pos (by omega), if_pos (by omega), hrd, if_neg (by omega)]
      rfl
    · rw [if_neg (by omega)]
      rfl
  | succ d ih =>
    intro i c hi hd hc
    have hlt : i < l.length := by omega
    have hrd : rd l (i : Int) = l[i] := by unfold rd; simp [List.getD, hlt]
    have h2 := upto_lo l b i l[i] (by omega) (List.getElem?_eq_getElem hlt)
    have hnext := ih (i + 1) (c + 1) (by omega) (by omega) (by omega)
    refine Ev.step (f := fun k => cisternref05_Range.l0 k b l x11 ((c + 1 : Nat) : Int) ((i + 1 : Nat) : Int)) (fun k => ?_) ?_
    · simp only [cisternref05_Range.l0]
      rw [if_pos (by omega), if_pos (by omega), hrd, if_pos h2, w64 ((c : Int) + 1) (by omega), w64 ((i : Int) + 1) (by omega)]
      rfl
    · rw [show c + (d + 1) = c + 1 + d from by omega]
      exact hnext
theorem rrange_ev (p : ByteArray) (a b : Int) : Ev (fun k => cisternref05_Range.f k p a b) (rangeS p a b) := by
  unfold cisternref05_Range.f rangeS
  by_cases h : Good p
  · refine Ev.bind (rread_yes p h) ?_
    simp only [if_true]
    by_cases hab : a ≤ b
    · rw [if_pos ⟨h, hab⟩, decide_eq_false (show ¬ (a > b) by omega)]
      refine Ev.step (f := fun k => (cisternref05_at.f k (els p) a).bind fun bt180 => (cisternref05_Range.l0 k b (els p) bt180.1 0 bt180.1)) (fun k => ?_) ?_
      · simp only [cisternref05_Range.j0]
        rfl
      · refine Ev.bind (rat_ev _ a (els_le p h)) ?_
        have hpu := pos_upto _ (els_sorted p h) a b hab
        have := rrange_loop (els p) (els_sorted p h) (els_le p h) b (pos (els p) a : Int) _ (pos (els p) a) 0 hpu rfl (by omega)
        rw [show ((upto (els p) b : Int) - (pos (els p) a : Int)) = ((0 + (upto (els p) b - pos (els p) a) : Nat) : Int) from by omega]
        exact this
    · rw [if_neg (fun e => hab e.2), decide_eq_true (show a > b by omega)]
      refine Ev.step (f := fun _ => some _) (fun k => ?_) (Ev.now _)
      simp only [cisternref05_Range.j0, if_true]
  · rw [if_neg (fun e => h e.1)]
    refine Ev.bind (rread_no p h) ?_
    refine Ev.step (f := fun _ => some _) (fun k => ?_) (Ev.now _)
    simp only [cisternref05_Range.j0]
    rfl
theorem same_loop (l : List Int) (hl : l.length ≤ 1048576) (d : Nat) : ∀ i : Nat, i ≤ l.length → l.length - i = d → Ev (fun k => cisternlaw05_sameInts.l0 k l l i) true := by
  induction d with
  | zero =>
    intro i hi hd
    refine Ev.step (f := fun _ => some _) (fun k => ?_) (Ev.now _)
    simp only [cisternlaw05_sameInts.l0]
    rw [if_neg (by omega)]
  | succ d ih =>
    intro i hi hd
    refine Ev.step (f := fun k => cisternlaw05_sameInts.l0 k l l ((i + 1 : Nat) : Int)) (fun k => ?_) (ih (i + 1) (by omega) (by omega))
    simp only [cisternlaw05_sameInts.l0]
    rw [if_pos (by omega), if_pos (by omega), if_pos (by omega), if_true, w64 ((i : Int) + 1) (by omega)]
    rfl
theorem same_ev (l : List Int) (hl : l.length ≤ 1048576) : Ev (fun k => cisternlaw05_sameInts.f k l l) true := by
  unfold cisternlaw05_sameInts.f
  simp only [if_true]
  exact same_loop l hl _ 0 (by omega) rfl
end Go.Proofs.Ytdadggaecgkhfaa.IM
