/- Plain facts on the document's Unpack: it comes to the same as the program's; what both answer; conditions: the text within reach. -/
import Derived.Test.YtdadggaecgkhfaaL2
import Derived.Test.YtdadggaecgkhfaaL3
namespace Go.Proofs.Ytdadggaecgkhfaa.LZ
open Go.RowKit Go.Proofs.YtdadggaecgkhfaaW.PrintWords Go.Proofs.YtdadggaecgkhfaaW.PrintMore
open Go.Proofs.Ytdadggaecgkhfaa.PLzfUnpacks IM
set_option linter.unusedVariables false
set_option linter.unusedSimpArgs false
theorem ref_copy (x : ByteArray) (n x7 : Int) (r : Ans) (d : Nat) (hd : 0 < d) (len : Nat) : ∀ (m j : Nat) (out : List Int), j + m = len → d ≤ out.length → out.length + m ≤ 524288 → len ≤ 524288 →
    Ev (fun k => cisternref03_Unpack.l0 k x n (grow d m out) x7) r → Ev (fun k => cisternref03_Unpack.l1 k x n out x7 (len : Int) (d : Int) (j : Int)) r := by
  intro m
  induction m with
  | zero =>
    intro j out hj hdo hl hn h
    refine Ev.step (f := fun k => cisternref03_Unpack.l0 k x n out x7) (fun k => ?_) h
    simp only [cisternref03_Unpack.l1]
    rw [if_neg (by omega)]
  | succ m ih =>
    intro j out hj hdo hl hn h
    refine Ev.step (f := fun k => cisternref03_Unpack.l1 k x n (out ++ [rd out ((out.length - d : Nat) : Int)]) x7 (len : Int) (d : Int) ((j + 1 : Nat) : Int)) (fun k => ?_) ?_
    · simp only [cisternref03_Unpack.l1]
      have e : wrap64 ((out.length : Int) - (d : Int)) = ((out.length - d : Nat) : Int) := by rw [w64 _ (by omega)]; omega
      rw [if_pos (by omega), e, if_pos (by omega), if_pos (by omega), if_pos (by omega), w64 ((j : Int) + 1) (by omega)]
      rfl
    · exact ih (j + 1) _ (by omega) (by simp; omega) (by simp; omega) hn h
theorem num_dist (b c : Nat) (hb : b < 256) (hc : c < 256) :
    wrap64 ((wrap64 ((wrap64 ((Int.tmod (b : Int) 32) * 256)) + (c : Int))) + 1) = ((b % 32 * 256 + c + 1 : Nat) : Int) := by
  have e : Int.tmod (b : Int) 32 = ((b % 32 : Nat) : Int) := by rw [Int.tmod_eq_emod_of_nonneg (by omega)]; omega
  rw [e, w64 (((b % 32 : Nat) : Int) * 256) (by omega), w64 (((b % 32 : Nat) : Int) * 256 + (c : Int)) (by omega), w64 _ (by omega)]
  omega
theorem num_div (b : Nat) (hb : b < 256) : wrap64 (Int.tdiv (b : Int) 32) = ((b / 32 : Nat) : Int) := by
  have e : Int.tdiv (b : Int) 32 = ((b / 32 : Nat) : Int) := by rw [Int.tdiv_eq_ediv_of_nonneg (by omega)]; omega
  rw [e]
  exact num1 _ (by omega)
theorem bt_nat (p : ByteArray) (i : Nat) (h : i < p.size) : bt p (i : Int) = (p[i].toNat : Int) := bt_eq p i h
theorem ref_back (p : ByteArray) (n : Nat) (hn : n ≤ 524288) (hp : p.size ≤ 140737488355328) (f : Nat)
    (ih : ∀ i out, i ≤ p.size → p.size - i < f → out.length ≤ n → Ev (fun k => cisternref03_Unpack.l0 k p n out (i : Int)) (unp n f (p.data.toList.drop i) out))
    (i : Nat) (hi : i ≤ p.size) (hf : p.size - i ≤ f) (out : List Int) (ho : out.length ≤ n) (b len : Nat) (hb : b < 256) (hlen : len ≤ 1000) :
    Ev (fun k => cisternref03_Unpack.j2 k p n out (i : Int) (b : Int) (len : Int)) (back n (unp n f) b len out (p.data.toList.drop i)) := by
  by_cases h0 : p.size ≤ i
  · rw [drop_nil p i h0, back_nil]
    refine Ev.step (f := fun k => some (nay 20)) (fun k => ?_) (Ev.now _)
    simp only [cisternref03_Unpack.j2]
    rw [if_pos (by omega)]
  · have hlt : i < p.size := by omega
    rw [drop_cons p i hlt, back_cons]
    have hc : p[i].toNat < 256 := p[i].toNat_lt
    have hB := bt_nat p i hlt
    have g0 : ¬ ((i : Int) ≥ (p.size : Int)) := by omega
    have g1 : (0 : Int) ≤ (i : Int) := by omega
    have g2 : (i : Int) < (p.size : Int) := by omega
    have hnx := ih (i + 1)
    clear ih
    generalize p[i] = c at *
    by_cases h1 : n < out.length + len
    · rw [if_pos h1]
      refine Ev.step (f := fun k => some (nay 31)) (fun k => ?_) (Ev.now _)
      simp only [cisternref03_Unpack.j2]
      rw [if_neg g0, if_pos g1, if_pos g2, num2 _ _ (by omega), if_pos (show ((out.length + len : Nat) : Int) > (n : Int) by omega)]
    · rw [if_neg h1]
      by_cases h2 : out.length < b % 32 * 256 + c.toNat + 1
      · rw [if_pos h2]
        refine Ev.step (f := fun k => some (nay 30)) (fun k => ?_) (Ev.now _)
        simp only [cisternref03_Unpack.j2]
        rw [if_neg g0, if_pos g1, if_pos g2, num2 _ _ (by omega), if_neg (show ¬ ((out.length + len : Nat) : Int) > (n : Int) by omega), hB, num1 c.toNat (by omega), num_dist _ _ hb hc,
          if_pos (show ((b % 32 * 256 + c.toNat + 1 : Nat) : Int) > (out.length : Int) by omega)]
      · rw [if_neg h2]
        refine Ev.step (f := fun k => cisternref03_Unpack.l1 k p n out ((i + 1 : Nat) : Int) (len : Int) ((b % 32 * 256 + c.toNat + 1 : Nat) : Int) ((0 : Nat) : Int)) (fun k => ?_) ?_
        · simp only [cisternref03_Unpack.j2]
          rw [if_neg g0, if_pos g1, if_pos g2, num2 _ _ (by omega), if_neg (show ¬ ((out.length + len : Nat) : Int) > (n : Int) by omega), hB, num1 c.toNat (by omega), num_dist _ _ hb hc,
            if_neg (show ¬ ((b % 32 * 256 + c.toNat + 1 : Nat) : Int) > (out.length : Int) by omega), num3 i (by omega)]
          rfl
        · refine ref_copy p n _ _ (b % 32 * 256 + c.toNat + 1) (by omega) len len 0 out (by omega) (by omega) (by omega) (by omega) ?_
          exact hnx _ (by omega) (by omega) (by rw [grow_length]; omega)
theorem ref_l0 (p : ByteArray) (n : Nat) (hn : n ≤ 524288) (hp : p.size ≤ 140737488355328) : ∀ (f i : Nat) (out : List Int), i ≤ p.size → p.size - i < f → out.length ≤ n →
    Ev (fun k => cisternref03_Unpack.l0 k p n out (i : Int)) (unp n f (p.data.toList.drop i) out) := by
  intro f
  induction f with
  | zero => intro i out _ h; omega
  | succ f ih =>
    intro i out hi hf ho
    by_cases h0 : p.size ≤ i
    · rw [drop_nil p i h0, unp_nil]
      by_cases h1 : out.length = n
      · rw [if_pos h1]
        refine Ev.step (f := fun k => some (strOfNums out, 0)) (fun k => ?_) (Ev.now _)
        simp only [cisternref03_Unpack.l0]
        rw [if_neg (by omega), if_neg (by omega)]
      · rw [if_neg h1]
        refine Ev.step (f := fun k => some (nay 31)) (fun k => ?_) (Ev.now _)
        simp only [cisternref03_Unpack.l0]
        rw [if_neg (by omega), if_pos (by omega)]
    · have hlt : i < p.size := by omega
      have hdl : (p.data.toList.drop (i + 1)).length = p.size - (i + 1) := by rw [List.length_drop, data_length]
      have hbk := fun j hj1 hj2 => ref_back p n hn hp f ih j hj1 hj2 out ho
      rw [drop_cons p i hlt]
      have hb : p[i].toNat < 256 := p[i].toNat_lt
      have hB := bt_nat p i hlt
      have g1 : (i : Int) < (p.size : Int) := by omega
      have g2 : (0 : Int) ≤ (i : Int) := by omega
      generalize p[i] = b at *
      by_cases h32 : b.toNat < 32
      · rw [unp_lit n f out b _ h32, hdl]
        have g3 : ((b.toNat : Nat) : Int) < 32 := by omega
        by_cases h1 : n < out.length + b.toNat + 1
        · rw [if_pos h1]
          refine Ev.step (f := fun k => some (nay 31)) (fun k => ?_) (Ev.now _)
          simp only [cisternref03_Unpack.l0]
          rw [if_pos g1, if_pos g2, hB, num1 b.toNat (by omega), if_pos g3, num2 _ _ (by omega), num3 _ (by omega), if_pos (show ((out.length + b.toNat + 1 : Nat) : Int) > (n : Int) by omega)]
        · rw [if_neg h1]
          have g4 : ¬ ((out.length + b.toNat + 1 : Nat) : Int) > (n : Int) := by omega
          by_cases h2 : p.size - (i + 1) < b.toNat + 1
          · rw [if_pos h2]
            refine Ev.step (f := fun k => some (nay 20)) (fun k => ?_) (Ev.now _)
            simp only [cisternref03_Unpack.l0]
            rw [if_pos g1, if_pos g2, hB, num1 b.toNat (by omega), if_pos g3, num2 out.length _ (by omega), num3 (out.length + b.toNat) (by omega), if_neg g4, num3 i (by omega), num2 (i + 1) _ (by omega), num3 (i + 1 + b.toNat) (by omega), if_pos (by omega)]
          · rw [if_neg h2]
            have hnx := ih (i + 1 + b.toNat + 1) (out ++ ((p.data.toList.drop (i + 1)).take (b.toNat + 1)).map fun u => (u.toNat : Int)) (by omega) (by omega) (by simp only [List.length_append, List.length_map, List.length_take, hdl]; omega)
            have htk : bytesOf (p.extract (i + 1) (i + 1 + b.toNat + 1)) = ((p.data.toList.drop (i + 1)).take (b.toNat + 1)).map fun u => (u.toNat : Int) := by
              unfold bytesOf
              rw [extract_list _ _ _ (by omega), show i + 1 + b.toNat + 1 - (i + 1) = b.toNat + 1 from by omega]
            have hts : (p.extract (i + 1) (i + 1 + b.toNat + 1)).size ≤ 32 := by simp only [ByteArray.size_extract]; omega
            rw [List.drop_drop, show i + 1 + (b.toNat + 1) = i + 1 + b.toNat + 1 from by omega]
            clear ih hbk
            refine Ev.step (fun k => ?_) hnx
            simp only [cisternref03_Unpack.l0]
            rw [if_pos g1, if_pos g2, hB, num1 b.toNat (by omega), if_pos g3, num2 out.length _ (by omega), num3 (out.length + b.toNat) (by omega), if_neg g4, num3 i (by omega), num2 (i + 1) _ (by omega), num3 (i + 1 + b.toNat) (by omega), if_neg (by omega), if_pos (by omega), if_pos (by omega), if_pos (by omega), Int.toNat_natCast, Int.toNat_natCast, if_pos (by omega), htk]
      · have g3 : ¬ ((b.toNat : Nat) : Int) < 32 := by omega
        have e5 := num_div b.toNat hb
        by_cases h7 : b.toNat / 32 = 7
        · have g7 : ((b.toNat / 32 : Nat) : Int) = 7 := by omega
          by_cases h3 : p.size ≤ i + 1
          · rw [drop_nil p (i + 1) h3, unp_end n f out b h32 h7]
            refine Ev.step (f := fun k => some (nay 20)) (fun k => ?_) (Ev.now _)
            simp only [cisternref03_Unpack.l0]
            rw [if_pos g1, if_pos g2, hB, num1 b.toNat (by omega), if_neg g3, e5, if_pos g7, num3 i (by omega), if_pos (by omega)]
          · have hlt1 : i + 1 < p.size := by omega
            rw [drop_cons p (i + 1) hlt1, unp_far n f out b _ _ h32 h7]
            have hc1 : p[i + 1].toNat < 256 := p[i + 1].toNat_lt
            have hB1 := bt_nat p (i + 1) hlt1
            have hnx := hbk (i + 1 + 1) (by omega) (by omega) b.toNat (b.toNat / 32 + 2 + p[i + 1].toNat) (by omega) (by omega)
            clear ih hbk
            generalize p[i + 1] = c at *
            refine Ev.step (fun k => ?_) hnx
            simp only [cisternref03_Unpack.l0]
            rw [if_pos g1, if_pos g2, hB, num1 b.toNat (by omega), if_neg g3, e5, if_pos g7, num3 i (by omega), if_neg (by omega), if_pos (by omega), if_pos (by omega), num3 (i + 1) (by omega), num4 (b.toNat / 32) (by omega), hB1, num1 c.toNat (by omega), num2 _ _ (by omega)]
        · have g7 : ¬ ((b.toNat / 32 : Nat) : Int) = 7 := by omega
          rw [unp_near n f out b _ h32 h7]
          have hnx := hbk (i + 1) (by omega) (by omega) b.toNat (b.toNat / 32 + 2) (by omega) (by omega)
          clear ih hbk
          refine Ev.step (fun k => ?_) hnx
          simp only [cisternref03_Unpack.l0]
          rw [if_pos g1, if_pos g2, hB, num1 b.toNat (by omega), if_neg g3, e5, if_neg g7, num3 i (by omega), num4 (b.toNat / 32) (by omega)]
theorem runpack_ev (p : ByteArray) (n : Int) (hp : p.size ≤ 140737488355328) : Ev (fun k => cisternref03_Unpack.f k p n) (unpS p n) := by
  unfold cisternref03_Unpack.f unpS
  by_cases h1 : n < 1
  · simp only [if_pos h1]
    rw [if_pos (.inl h1)]
    refine Ev.step (f := fun k => some (nay 1)) (fun k => ?_) (Ev.now _)
    simp only [cisternref03_Unpack.j0, if_true]
  · simp only [if_neg h1]
    by_cases h2 : 524288 < n
    · rw [if_pos (.inr h2), decide_eq_true (show n > 524288 from h2)]
      refine Ev.step (f := fun k => some (nay 1)) (fun k => ?_) (Ev.now _)
      simp only [cisternref03_Unpack.j0, if_true]
    · rw [if_neg (by omega), decide_eq_false (show ¬ (n > 524288) from h2)]
      obtain ⟨m, rfl⟩ : ∃ m : Nat, n = (m : Int) := ⟨n.toNat, by omega⟩
      have h := ref_l0 p m (by omega) hp (p.size + 1) 0 [] (by omega) (by omega) (by simp)
      rw [List.drop_zero] at h
      refine Ev.step (f := fun k => cisternref03_Unpack.l0 k p m [] ((0 : Nat) : Int)) (fun k => ?_) h
      simp only [cisternref03_Unpack.j0]
      rfl
/-- a text of the size told, or nothing -/
def Fair (n : Nat) (r : Ans) : Prop := (r.2 = 0 ∧ r.1.size = n) ∨ (r.2 ≠ 0 ∧ r.1 = ⟨#[]⟩)
theorem nay_fair (n : Nat) (e : Int) (h : e ≠ 0) : Fair n (nay e) := .inr ⟨h, rfl⟩
theorem str_size (l : List Int) : (strOfNums l).size = l.length := by rw [← data_length, strOfNums_data, List.length_map]
theorem back_fair (n : Nat) (go : List UInt8 → List Int → Ans) (b len : Nat) (out : List Int) (r : List UInt8) (h : ∀ r' o', r'.length < r.length → Fair n (go r' o')) : Fair n (back n go b len out r) := by
  cases r with
  | nil => exact nay_fair n 20 (by decide)
  | cons c r =>
    rw [back_cons]
    split
    · exact nay_fair n 31 (by decide)
    · split
      · exact nay_fair n 30 (by decide)
      · exact h _ _ (by simp)
theorem unp_fair (n : Nat) : ∀ (f : Nat) (l : List UInt8) (out : List Int), l.length < f → Fair n (unp n f l out) := by
  intro f
  induction f with
  | zero => intro l out h; omega
  | succ f ih =>
    intro l out h
    cases l with
    | nil =>
      rw [unp_nil]
      split
      · next he => exact .inl ⟨rfl, by rw [str_size, he]⟩
      · exact nay_fair n 31 (by decide)
    | cons b r =>
      rw [List.length_cons] at h
      by_cases h32 : b.toNat < 32
      · rw [unp_lit n f out b r h32]
        split
        · exact nay_fair n 31 (by decide)
        · split
          · exact nay_fair n 20 (by decide)
          · exact ih _ _ (by rw [List.length_drop]; omega)
      · by_cases h7 : b.toNat / 32 = 7
        · cases r with
          | nil => rw [unp_end n f out b h32 h7]; exact nay_fair n 20 (by decide)
          | cons c r =>
            rw [unp_far n f out b c r h32 h7]
            rw [List.length_cons] at h
            exact back_fair n _ _ _ _ r (fun r' o' h' => ih r' o' (by omega))
        · rw [unp_near n f out b r h32 h7]
          exact back_fair n _ _ _ _ r (fun r' o' h' => ih r' o' (by omega))
theorem unpS_fair (p : ByteArray) (n : Int) : ((unpS p n).2 = 0 ∧ ((unpS p n).1.size : Int) = n ∧ 1 ≤ n ∧ n ≤ 524288) ∨ ((unpS p n).2 ≠ 0 ∧ (unpS p n).1 = ⟨#[]⟩) := by
  unfold unpS
  split
  · exact .inr ⟨by decide, rfl⟩
  · next h =>
    rcases unp_fair n.toNat (p.size + 1) p.data.toList [] (by rw [data_length]; omega) with ⟨h1, h2⟩ | ⟨h1, h2⟩
    · exact .inl ⟨h1, by omega, by omega, by omega⟩
    · exact .inr ⟨h1, h2⟩
end Go.Proofs.Ytdadggaecgkhfaa.LZ
