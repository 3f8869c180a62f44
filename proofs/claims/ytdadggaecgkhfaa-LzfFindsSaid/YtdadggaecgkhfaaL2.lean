/- Plain facts on Unpack: what the printed Unpack comes to, on lists; conditions: the text within reach. -/
import Derived.Test.YtdadggaecgkhfaaL1
import Derived.Test.YtdadggaecgkhfaaIM
namespace Go.Proofs.Ytdadggaecgkhfaa.LZ
open Go.RowKit Go.Proofs.YtdadggaecgkhfaaW.PrintWords Go.Proofs.YtdadggaecgkhfaaW.PrintMore
open Go.Proofs.Ytdadggaecgkhfaa.PLzfUnpacks IM
set_option linter.unusedVariables false
set_option linter.unusedSimpArgs false
theorem toList_loop (bs : ByteArray) : ∀ (d i : Nat) (r : List UInt8), bs.size - i = d → ByteArray.toList.loop bs i r = r.reverse ++ bs.data.toList.drop i := by
  intro d
  induction d with
  | zero =>
    intro i r h
    unfold ByteArray.toList.loop
    rw [if_neg (by omega), List.drop_of_length_le (by rw [data_length]; omega), List.append_nil]
  | succ d ih =>
    intro i r h
    unfold ByteArray.toList.loop
    rw [if_pos (by omega), ih (i + 1) _ (by omega), drop_cons bs i (by omega)]
    have hg : bs.get! i = bs[i]'(by omega) := by
      have h1 : i < bs.size := by omega
      show bs.data[i]! = bs.data[i]'_
      exact getElem!_pos bs.data i h1
    rw [hg]
    simp
theorem toList_data (bs : ByteArray) : bs.toList = bs.data.toList := by
  unfold ByteArray.toList
  rw [toList_loop bs _ 0 [] rfl]
  simp
theorem toList_nil (bs : ByteArray) : bs.toList = ([] : List UInt8) ↔ bs.size = 0 := by
  rw [toList_data, ← data_length, List.length_eq_zero_iff]
/-- so many bytes once more, from so far back -/
def grow (d : Nat) : Nat → List Int → List Int
  | 0, out => out
  | n + 1, out => grow d n (out ++ [rd out ((out.length - d : Nat) : Int)])
theorem grow_length (d : Nat) : ∀ (n : Nat) (out : List Int), (grow d n out).length = out.length + n := by
  intro n
  induction n with
  | zero => intro out; rfl
  | succ n ih => intro out; simp only [grow]; rw [ih]; simp; omega
abbrev Ans := ByteArray × Int
abbrev nay (e : Int) : Ans := ((⟨#[]⟩ : ByteArray), e)
/-- a copy's last byte, then on -/
def back (n : Nat) (go : List UInt8 → List Int → Ans) (b len : Nat) (out : List Int) : List UInt8 → Ans
  | [] => nay 20
  | c :: r => if n < out.length + len then nay 31 else if out.length < b % 32 * 256 + c.toNat + 1 then nay 30 else go r (grow (b % 32 * 256 + c.toNat + 1) len out)
/-- Unpack on lists -/
def unp (n : Nat) : Nat → List UInt8 → List Int → Ans
  | 0, _, _ => nay 0
  | _ + 1, [], out => if out.length = n then (strOfNums out, 0) else nay 31
  | f + 1, b :: r, out =>
    if b.toNat < 32 then
      if n < out.length + b.toNat + 1 then nay 31
      else if r.length < b.toNat + 1 then nay 20
      else unp n f (r.drop (b.toNat + 1)) (out ++ (r.take (b.toNat + 1)).map fun u => (u.toNat : Int))
    else if b.toNat / 32 = 7 then
      match r with
      | [] => nay 20
      | c :: r' => back n (unp n f) b.toNat (b.toNat / 32 + 2 + c.toNat) out r'
    else back n (unp n f) b.toNat (b.toNat / 32 + 2) out r
theorem back_nil (n : Nat) (go : List UInt8 → List Int → Ans) (b len : Nat) (out : List Int) : back n go b len out [] = nay 20 := rfl
theorem back_cons (n : Nat) (go : List UInt8 → List Int → Ans) (b len : Nat) (out : List Int) (c : UInt8) (r : List UInt8) : back n go b len out (c :: r) =
    if n < out.length + len then nay 31 else if out.length < b % 32 * 256 + c.toNat + 1 then nay 30 else go r (grow (b % 32 * 256 + c.toNat + 1) len out) := rfl
theorem unp_nil (n f : Nat) (out : List Int) : unp n (f + 1) [] out = if out.length = n then (strOfNums out, 0) else nay 31 := rfl
theorem unp_lit (n f : Nat) (out : List Int) (b : UInt8) (r : List UInt8) (h : b.toNat < 32) : unp n (f + 1) (b :: r) out =
    if n < out.length + b.toNat + 1 then nay 31 else if r.length < b.toNat + 1 then nay 20 else unp n f (r.drop (b.toNat + 1)) (out ++ (r.take (b.toNat + 1)).map fun u => (u.toNat : Int)) := if_pos h
theorem unp_far (n f : Nat) (out : List Int) (b c : UInt8) (r : List UInt8) (h : ¬ b.toNat < 32) (h7 : b.toNat / 32 = 7) : unp n (f + 1) (b :: c :: r) out = back n (unp n f) b.toNat (b.toNat / 32 + 2 + c.toNat) out r := by
  rw [unp.eq_def]; simp only [if_neg h, if_pos h7]
theorem unp_end (n f : Nat) (out : List Int) (b : UInt8) (h : ¬ b.toNat < 32) (h7 : b.toNat / 32 = 7) : unp n (f + 1) [b] out = nay 20 := by
  rw [unp.eq_def]; simp only [if_neg h, if_pos h7]
theorem unp_near (n f : Nat) (out : List Int) (b : UInt8) (r : List UInt8) (h : ¬ b.toNat < 32) (h7 : ¬ b.toNat / 32 = 7) : unp n (f + 1) (b :: r) out = back n (unp n f) b.toNat (b.toNat / 32 + 2) out r := by
  rw [unp.eq_def]; simp only [if_neg h, if_neg h7]
theorem num1 (a : Nat) (h : a ≤ 562949953421312) : wrap64 (a : Int) = (a : Int) := w64 _ (by omega)
theorem num2 (a b : Nat) (h : a + b ≤ 562949953421312) : wrap64 ((a : Int) + (b : Int)) = ((a + b : Nat) : Int) := by rw [w64 _ (by omega)]; omega
theorem num3 (a : Nat) (h : a < 562949953421312) : wrap64 ((a : Int) + 1) = ((a + 1 : Nat) : Int) := num2 a 1 (by omega)
theorem num4 (a : Nat) (h : a + 1 < 562949953421312) : wrap64 ((a : Int) + 2) = ((a + 2 : Nat) : Int) := num2 a 2 (by omega)
theorem num_back (L b c : Nat) (hL : L ≤ 524288) (hb : b < 256) (hc : c < 256) :
    wrap64 ((wrap64 ((wrap64 ((L : Int) - (wrap64 (((b % 32 : Nat) : Int) * 256)))) - (c : Int))) - 1) = (L : Int) - ((b % 32 * 256 + c + 1 : Nat) : Int) := by
  rw [w64 (((b % 32 : Nat) : Int) * 256) (by omega), w64 ((L : Int) - ((b % 32 : Nat) : Int) * 256) (by omega), w64 ((L : Int) - ((b % 32 : Nat) : Int) * 256 - (c : Int)) (by omega), w64 _ (by omega)]
  omega
/-- what is left of a text -/
abbrev rest (p : ByteArray) (i : Nat) : ByteArray := p.extract i p.size
theorem rest_size (p : ByteArray) (i : Nat) : (rest p i).size = p.size - i := by simp
theorem rest_rest (p : ByteArray) (i j : Nat) : (rest p i).extract j (rest p i).size = rest p (i + j) := by
  rw [ByteArray.extract_extract, rest_size]
  congr 1
  omega
theorem rest_first (p : ByteArray) (i : Nat) (h : i < p.size) : bt (rest p i) 0 = (p[i].toNat : Int) := by
  have h2 : 0 < (rest p i).size := by rw [rest_size]; omega
  have e := bt_eq (rest p i) 0 h2
  rw [show bt (rest p i) 0 = bt (rest p i) ((0 : Nat) : Int) from rfl, e]
  simp [ByteArray.getElem_extract]
theorem rest_take (p : ByteArray) (i k : Nat) (h : i ≤ p.size) : bytesOf ((rest p i).extract 0 k) = ((p.data.toList.drop i).take k).map fun u => (u.toNat : Int) := by
  unfold bytesOf
  rw [extract_list _ _ _ (by omega), extract_list _ _ _ h, List.drop_zero, Nat.sub_zero]
  rw [List.take_of_length_le (l := p.data.toList.drop i) (by rw [List.length_drop, data_length]; omega)]
theorem drop_nil (p : ByteArray) (i : Nat) (h : p.size ≤ i) : p.data.toList.drop i = [] := List.drop_of_length_le (by rw [data_length]; exact h)
theorem lzf_copy (x : ByteArray) (n : Nat) (r : Ans) (d : Nat) (hd : 0 < d) (len o : Nat) : ∀ (m j : Nat) (out : List Int), j + m = len → d ≤ out.length → o + j = out.length - d → out.length + m ≤ 524288 →
    Ev (fun k => lzf_Unpack.l0 k x n (grow d m out)) r → Ev (fun k => lzf_Unpack.l1 k x n out (o : Int) (len : Int) (j : Int)) r := by
  intro m
  induction m with
  | zero =>
    intro j out hj hdo ho hl h
    refine Ev.step (f := fun k => lzf_Unpack.l0 k x n out) (fun k => ?_) h
    simp only [lzf_Unpack.l1]
    rw [if_neg (by omega)]
  | succ m ih =>
    intro j out hj hdo ho hl h
    refine Ev.step (f := fun k => lzf_Unpack.l1 k x n (out ++ [rd out ((out.length - d : Nat) : Int)]) (o : Int) (len : Int) ((j + 1 : Nat) : Int)) (fun k => ?_) ?_
    · simp only [lzf_Unpack.l1]
      have e : wrap64 ((o : Int) + (j : Int)) = ((out.length - d : Nat) : Int) := by rw [w64 _ (by omega)]; omega
      rw [if_pos (by omega), e, if_pos (by omega), if_pos (by omega), if_pos (by omega), w64 ((j : Int) + 1) (by omega)]
      rfl
    · exact ih (j + 1) _ (by omega) (by simp; omega) (by simp; omega) (by simp; omega) h
theorem and31 (b : Nat) (h : b < 256) : Go.bits .and .i64 (b : Int) 31 = ((b % 32 : Nat) : Int) := by
  have : ∀ b : Fin 256, Go.bits .and .i64 ((b.val : Nat) : Int) 31 = ((b.val % 32 : Nat) : Int) := by decide +kernel
  exact this ⟨b, h⟩
theorem lzf_back (p : ByteArray) (n : Nat) (hn : n ≤ 524288) (hp : p.size ≤ 140737488355328) (f : Nat)
    (ih : ∀ i out, i ≤ p.size → p.size - i < f → out.length ≤ n → Ev (fun k => lzf_Unpack.l0 k (rest p i) n out) (unp n f (p.data.toList.drop i) out))
    (i : Nat) (hi : i ≤ p.size) (hf : p.size - i ≤ f) (out : List Int) (ho : out.length ≤ n) (b len : Nat) (hb : b < 256) (hlen : len ≤ 1000) :
    Ev (fun k => lzf_Unpack.j2 k (rest p i) n out (b : Int) (len : Int)) (back n (unp n f) b len out (p.data.toList.drop i)) := by
  by_cases h0 : p.size ≤ i
  · rw [drop_nil p i h0, back_nil]
    refine Ev.step (f := fun k => some (nay 20)) (fun k => ?_) (Ev.now _)
    simp only [lzf_Unpack.j2]
    rw [if_pos ((toList_nil _).mpr (by rw [rest_size]; omega))]
  · have hlt : i < p.size := by omega
    rw [drop_cons p i hlt, back_cons]
    have hc : p[i].toNat < 256 := p[i].toNat_lt
    have hB := rest_first p i hlt
    have hsz := rest_size p i
    have hr := rest_rest p i 1
    have hne : ¬ ((rest p i).toList = ([] : List UInt8)) := fun e => by have := (toList_nil _).mp e; omega
    have g1 : (0 : Int) < ((rest p i).size : Int) := by omega
    have g2 : (1 : Int) ≤ ((rest p i).size : Int) := by omega
    have hnx := ih (i + 1)
    clear ih
    generalize p[i] = c at *
    generalize rest p i = x at *
    generalize rest p (i + 1) = y at *
    by_cases h1 : n < out.length + len
    · rw [if_pos h1]
      refine Ev.step (f := fun k => some (nay 31)) (fun k => ?_) (Ev.now _)
      simp only [lzf_Unpack.j2]
      rw [if_neg hne, if_pos g1, if_pos g2, num2 _ _ (by omega), if_pos (show ((out.length + len : Nat) : Int) > (n : Int) by omega)]
    · rw [if_neg h1]
      by_cases h2 : out.length < b % 32 * 256 + c.toNat + 1
      · rw [if_pos h2]
        refine Ev.step (f := fun k => some (nay 30)) (fun k => ?_) (Ev.now _)
        simp only [lzf_Unpack.j2]
        rw [if_neg hne, if_pos g1, if_pos g2, num2 _ _ (by omega), if_neg (show ¬ ((out.length + len : Nat) : Int) > (n : Int) by omega), and31 b hb, hB, num1 c.toNat (by omega), num_back _ _ _ (by omega) hb hc,
          if_pos (show (out.length : Int) - ((b % 32 * 256 + c.toNat + 1 : Nat) : Int) < 0 by omega)]
      · rw [if_neg h2]
        refine Ev.step (f := fun k => lzf_Unpack.l1 k y n out ((out.length - (b % 32 * 256 + c.toNat + 1) : Nat) : Int) (len : Int) ((0 : Nat) : Int)) (fun k => ?_) ?_
        · simp only [lzf_Unpack.j2]
          rw [if_neg hne, if_pos g1, if_pos g2, num2 _ _ (by omega), if_neg (show ¬ ((out.length + len : Nat) : Int) > (n : Int) by omega), and31 b hb, hB, num1 c.toNat (by omega), num_back _ _ _ (by omega) hb hc,
            if_neg (show ¬ (out.length : Int) - ((b % 32 * 256 + c.toNat + 1 : Nat) : Int) < 0 by omega), hr]
          rw [show (out.length : Int) - ((b % 32 * 256 + c.toNat + 1 : Nat) : Int) = ((out.length - (b % 32 * 256 + c.toNat + 1) : Nat) : Int) from by omega]
          rfl
        · refine lzf_copy _ n _ (b % 32 * 256 + c.toNat + 1) (by omega) len (out.length - (b % 32 * 256 + c.toNat + 1)) len 0 out (by omega) (by omega) (by omega) (by omega) ?_
          exact hnx _ (by omega) (by omega) (by rw [grow_length]; omega)
theorem lzf_l0 (p : ByteArray) (n : Nat) (hn : n ≤ 524288) (hp : p.size ≤ 140737488355328) : ∀ (f i : Nat) (out : List Int), i ≤ p.size → p.size - i < f → out.length ≤ n →
    Ev (fun k => lzf_Unpack.l0 k (rest p i) n out) (unp n f (p.data.toList.drop i) out) := by
  intro f
  induction f with
  | zero => intro i out _ h; omega
  | succ f ih =>
    intro i out hi hf ho
    by_cases h0 : p.size ≤ i
    · rw [drop_nil p i h0, unp_nil]
      have e0 : (rest p i).toList = ([] : List UInt8) := (toList_nil _).mpr (by rw [rest_size]; omega)
      by_cases h1 : out.length = n
      · rw [if_pos h1]
        refine Ev.step (f := fun k => some (strOfNums out, 0)) (fun k => ?_) (Ev.now _)
        simp only [lzf_Unpack.l0]
        rw [if_pos e0, if_pos (by omega)]
      · rw [if_neg h1]
        refine Ev.step (f := fun k => some (nay 31)) (fun k => ?_) (Ev.now _)
        simp only [lzf_Unpack.l0]
        rw [if_pos e0, if_neg (by omega)]
    · have hlt : i < p.size := by omega
      have hdl : (p.data.toList.drop (i + 1)).length = p.size - (i + 1) := by rw [List.length_drop, data_length]
      have hbk := fun j hj1 hj2 => lzf_back p n hn hp f ih j hj1 hj2 out ho
      rw [drop_cons p i hlt]
      have hb : p[i].toNat < 256 := p[i].toNat_lt
      have hB := rest_first p i hlt
      have hsz := rest_size p i
      have hsz1 := rest_size p (i + 1)
      have hr := rest_rest p i 1
      have hne : ¬ ((rest p i).toList = ([] : List UInt8)) := fun e => by have := (toList_nil _).mp e; omega
      have g1 : (0 : Int) < ((rest p i).size : Int) := by omega
      have g2 : (1 : Int) ≤ ((rest p i).size : Int) := by omega
      generalize p[i] = b at *
      generalize hx : rest p i = x at *
      by_cases h32 : b.toNat < 32
      · rw [unp_lit n f out b _ h32, hdl]
        have g3 : ((b.toNat : Nat) : Int) < 32 := by omega
        by_cases h1 : n < out.length + b.toNat + 1
        · rw [if_pos h1]
          refine Ev.step (f := fun k => some (nay 31)) (fun k => ?_) (Ev.now _)
          simp only [lzf_Unpack.l0]
          rw [if_neg hne, if_pos g1, if_pos g2, hB, num1 b.toNat (by omega), if_pos g3, num2 _ _ (by omega), num3 _ (by omega), if_pos (show ((out.length + b.toNat + 1 : Nat) : Int) > (n : Int) by omega)]
        · rw [if_neg h1]
          have g4 : ¬ ((out.length + b.toNat + 1 : Nat) : Int) > (n : Int) := by omega
          by_cases h2 : p.size - (i + 1) < b.toNat + 1
          · rw [if_pos h2]
            refine Ev.step (f := fun k => some (nay 20)) (fun k => ?_) (Ev.now _)
            simp only [lzf_Unpack.l0]
            rw [if_neg hne, if_pos g1, if_pos g2, hB, num1 b.toNat (by omega), if_pos g3, num2 _ _ (by omega), num3 _ (by omega), if_neg g4, hr, num3 b.toNat (by omega), if_pos (by omega)]
          · rw [if_neg h2]
            have hnx := ih (i + 1 + (b.toNat + 1)) (out ++ ((p.data.toList.drop (i + 1)).take (b.toNat + 1)).map fun u => (u.toNat : Int)) (by omega) (by omega) (by simp only [List.length_append, List.length_map, List.length_take, hdl]; omega)
            have htk := rest_take p (i + 1) (b.toNat + 1) (by omega)
            have hrr := rest_rest p (i + 1) (b.toNat + 1)
            have hts : ((rest p (i + 1)).extract 0 (b.toNat + 1)).size ≤ 32 := by simp only [ByteArray.size_extract]; omega
            rw [List.drop_drop]
            clear ih hbk
            generalize rest p (i + 1) = y at *
            refine Ev.step (fun k => ?_) hnx
            simp only [lzf_Unpack.l0]
            rw [if_neg hne, if_pos g1, if_pos g2, hB, num1 b.toNat (by omega), if_pos g3, num2 _ _ (by omega), num3 _ (by omega), if_neg g4, hr, num3 b.toNat (by omega), if_neg (by omega), if_pos (by omega), if_pos (by omega), Int.toNat_natCast, if_pos (by omega), htk, hrr]
      · have g3 : ¬ ((b.toNat : Nat) : Int) < 32 := by omega
        have e5 : (b.toNat : Int) / 32 = ((b.toNat / 32 : Nat) : Int) := by omega
        by_cases h7 : b.toNat / 32 = 7
        · have g7 : ((b.toNat / 32 : Nat) : Int) = 7 := by omega
          by_cases h3 : p.size ≤ i + 1
          · rw [drop_nil p (i + 1) h3, unp_end n f out b h32 h7]
            refine Ev.step (f := fun k => some (nay 20)) (fun k => ?_) (Ev.now _)
            simp only [lzf_Unpack.l0]
            rw [if_neg hne, if_pos g1, if_pos g2, hB, num1 b.toNat (by omega), if_neg g3, e5, if_pos g7, hr, if_pos ((toList_nil _).mpr (by omega))]
          · have hlt1 : i + 1 < p.size := by omega
            rw [drop_cons p (i + 1) hlt1, unp_far n f out b _ _ h32 h7]
            have hc1 : p[i + 1].toNat < 256 := p[i + 1].toNat_lt
            have hB1 := rest_first p (i + 1) hlt1
            have hr1 := rest_rest p (i + 1) 1
            have hne1 : ¬ ((rest p (i + 1)).toList = ([] : List UInt8)) := fun e => by have := (toList_nil _).mp e; omega
            have g4 : (0 : Int) < ((rest p (i + 1)).size : Int) := by omega
            have g5 : (1 : Int) ≤ ((rest p (i + 1)).size : Int) := by omega
            have hnx := hbk (i + 1 + 1) (by omega) (by omega) b.toNat (b.toNat / 32 + 2 + p[i + 1].toNat) (by omega) (by omega)
            clear ih hbk
            generalize p[i + 1] = c at *
            generalize rest p (i + 1) = y at *
            refine Ev.step (fun k => ?_) hnx
            simp only [lzf_Unpack.l0]
            rw [if_neg hne, if_pos g1, if_pos g2, hB, num1 b.toNat (by omega), if_neg g3, e5, if_pos g7, hr, if_neg hne1, if_pos g4, if_pos g5, hr1, num4 _ (by omega), hB1, num1 c.toNat (by omega), num2 _ _ (by omega)]
        · have g7 : ¬ ((b.toNat / 32 : Nat) : Int) = 7 := by omega
          rw [unp_near n f out b _ h32 h7]
          have hnx := hbk (i + 1) (by omega) (by omega) b.toNat (b.toNat / 32 + 2) (by omega) (by omega)
          clear ih hbk
          refine Ev.step (fun k => ?_) hnx
          simp only [lzf_Unpack.l0]
          rw [if_neg hne, if_pos g1, if_pos g2, hB, num1 b.toNat (by omega), if_neg g3, e5, if_neg g7, hr, num4 _ (by omega)]
open Classical in
/-- what Unpack answers -/
noncomputable def unpS (p : ByteArray) (n : Int) : Ans := if n < 1 ∨ 524288 < n then nay 1 else unp n.toNat (p.size + 1) p.data.toList []
theorem unpack_ev (p : ByteArray) (n : Int) (hp : p.size ≤ 140737488355328) : Ev (fun k => lzf_Unpack.f k p n) (unpS p n) := by
  unfold lzf_Unpack.f unpS
  by_cases h1 : n < 1
  · simp only [if_pos h1]
    rw [if_pos (.inl h1)]
    refine Ev.step (f := fun k => some (nay 1)) (fun k => ?_) (Ev.now _)
    simp only [lzf_Unpack.j0, if_true]
  · simp only [if_neg h1]
    by_cases h2 : 524288 < n
    · rw [if_pos (.inr h2), decide_eq_true (show n > 524288 from h2)]
      refine Ev.step (f := fun k => some (nay 1)) (fun k => ?_) (Ev.now _)
      simp only [lzf_Unpack.j0, if_true]
    · rw [if_neg (by omega), decide_eq_false (show ¬ (n > 524288) from h2)]
      obtain ⟨m, rfl⟩ : ∃ m : Nat, n = (m : Int) := ⟨n.toNat, by omega⟩
      have h := lzf_l0 p m (by omega) hp (p.size + 1) 0 [] (by omega) (by omega) (by simp)
      rw [List.drop_zero, show rest p 0 = p from by simp] at h
      refine Ev.step (f := fun k => lzf_Unpack.l0 k p m []) (fun k => ?_) h
      simp only [lzf_Unpack.j0]
      rfl
end Go.Proofs.Ytdadggaecgkhfaa.LZ
