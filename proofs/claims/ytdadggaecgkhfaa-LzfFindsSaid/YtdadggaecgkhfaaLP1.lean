/- Plain facts: what Unpack makes of the packer's runs and copies; no program. -/
import Derived.Test.YtdadggaecgkhfaaL7
namespace Go.Proofs.Ytdadggaecgkhfaa.LZ
open Go.RowKit Go.Proofs.YtdadggaecgkhfaaW.PrintWords Go.Proofs.YtdadggaecgkhfaaW.PrintMore
open Go.Proofs.Ytdadggaecgkhfaa.PLzfUnpacks IM
set_option linter.unusedVariables false
set_option linter.unusedSimpArgs false
theorem back_congr (n : Nat) (go go' : List UInt8 → List Int → Ans) (b len : Nat) (out : List Int) (r : List UInt8) (h : ∀ r' o', r'.length < r.length → go r' o' = go' r' o') : back n go b len out r = back n go' b len out r := by
  match r with
  | [] => rfl
  | c :: r' =>
    rw [back_cons, back_cons, h r' _ (by simp)]
theorem unp_fuel (n : Nat) : ∀ (f g : Nat) (l : List UInt8) (out : List Int), l.length < f → l.length < g → unp n f l out = unp n g l out := by
  intro f
  induction f with
  | zero => intro g l out h; omega
  | succ f ih =>
    intro g l out hf hg
    obtain ⟨g, rfl⟩ : ∃ k, g = k + 1 := ⟨g - 1, by omega⟩
    match l with
    | [] => rfl
    | b :: r =>
      simp only [List.length_cons] at hf hg
      by_cases h32 : b.toNat < 32
      · rw [unp_lit n f out b r h32, unp_lit n g out b r h32, ih g _ _ (by rw [List.length_drop]; omega) (by rw [List.length_drop]; omega)]
      · by_cases h7 : b.toNat / 32 = 7
        · match r with
          | [] => rw [unp_end n f out b h32 h7, unp_end n g out b h32 h7]
          | c :: r' =>
            simp only [List.length_cons] at hf hg
            rw [unp_far n f out b c r' h32 h7, unp_far n g out b c r' h32 h7]
            exact back_congr n _ _ _ _ _ _ (fun r1 o1 h1 => ih g r1 o1 (by omega) (by omega))
        · rw [unp_near n f out b r h32 h7, unp_near n g out b r h32 h7]
          exact back_congr n _ _ _ _ _ _ (fun r1 o1 h1 => ih g r1 o1 (by omega) (by omega))
/-- Unpack on a list, with fuel enough -/
def upw (n : Nat) (l : List UInt8) (out : List Int) : Ans := unp n (l.length + 1) l out
theorem upw_nil (n : Nat) (out : List Int) : upw n [] out = if out.length = n then (strOfNums out, 0) else nay 31 := rfl
theorem upw_lit (n : Nat) (out : List Int) (b : UInt8) (c r : List UInt8) (h : b.toNat < 32) (hc : c.length = b.toNat + 1) (hn : out.length + c.length ≤ n) :
    upw n (b :: (c ++ r)) out = upw n r (out ++ c.map fun u => (u.toNat : Int)) := by
  unfold upw
  rw [unp_lit n _ out b _ h, if_neg (by omega), if_neg (by rw [List.length_append]; omega), ← hc, List.drop_left, List.take_left]
  exact unp_fuel n _ _ _ _ (by simp only [List.length_cons, List.length_append]; omega) (by omega)
theorem upw_near (n : Nat) (out : List Int) (b c : UInt8) (r : List UInt8) (h : ¬ b.toNat < 32) (h7 : ¬ b.toNat / 32 = 7) (hn : out.length + (b.toNat / 32 + 2) ≤ n) (hd : b.toNat % 32 * 256 + c.toNat + 1 ≤ out.length) :
    upw n (b :: c :: r) out = upw n r (grow (b.toNat % 32 * 256 + c.toNat + 1) (b.toNat / 32 + 2) out) := by
  unfold upw
  rw [unp_near n _ out b _ h h7, back_cons, if_neg (by omega), if_neg (by omega)]
  exact unp_fuel n _ _ _ _ (by simp only [List.length_cons]; omega) (by omega)
theorem upw_far (n : Nat) (out : List Int) (b m c : UInt8) (r : List UInt8) (h7 : b.toNat / 32 = 7) (hn : out.length + (b.toNat / 32 + 2 + m.toNat) ≤ n) (hd : b.toNat % 32 * 256 + c.toNat + 1 ≤ out.length) :
    upw n (b :: m :: c :: r) out = upw n r (grow (b.toNat % 32 * 256 + c.toNat + 1) (b.toNat / 32 + 2 + m.toNat) out) := by
  unfold upw
  rw [unp_far n _ out b m _ (by omega) h7, back_cons, if_neg (by omega), if_neg (by omega)]
  exact unp_fuel n _ _ _ _ (by simp only [List.length_cons]; omega) (by omega)
/-- numbers as bytes -/
def bs (xs : List Int) : List UInt8 := xs.map fun n => UInt8.ofNat n.toNat
theorem bs_append (xs ys : List Int) : bs (xs ++ ys) = bs xs ++ bs ys := List.map_append
theorem bs_bytes (l : List UInt8) : bs (l.map fun u => (u.toNat : Int)) = l := by
  unfold bs
  rw [List.map_map]
  conv => rhs; rw [← List.map_id l]
  apply List.map_congr_left
  intro u _
  simp
theorem u8_nat (k : Nat) (h : k < 256) : (UInt8.ofNat k).toNat = k := by
  rw [UInt8.toNat_ofNat']
  exact Nat.mod_eq_of_lt h
theorem byte_nat (k : Nat) (h : k < 256) : (UInt8.ofNat ((k : Nat) : Int).toNat).toNat = k := by
  rw [Int.toNat_natCast, u8_nat k h]
/-- xs reads, whatever stands behind it, as out -/
def Says (n : Nat) (xs : List Int) (out : List Int) : Prop := ∀ r, upw n (bs xs ++ r) [] = upw n r out
theorem Says.nil (n : Nat) : Says n [] [] := fun r => rfl
theorem Says.app {n : Nat} {xs ys out out' : List Int} (h : Says n xs out) (h' : ∀ r, upw n (bs ys ++ r) out = upw n r out') : Says n (xs ++ ys) out' := fun r => by
  rw [bs_append, List.append_assoc, h, h']
theorem Says.end_ {n : Nat} {xs out : List Int} (h : Says n xs out) (ho : out.length = n) : upw n (bs xs) [] = (strOfNums out, 0) := by
  have := h []
  rw [List.append_nil, upw_nil, if_pos ho] at this
  exact this
theorem Says.fl {n : Nat} : ∀ (f : Nat) (l : List UInt8) (xs out : List Int), l.length < f → out.length + l.length ≤ n → Says n xs out → Says n (fl f l xs) (out ++ l.map fun u => (u.toNat : Int)) := by
  intro f
  induction f with
  | zero => intro l xs out h; omega
  | succ f ih =>
    intro l xs out hf hn h
    rw [LZ.fl]
    split
    · next e => subst e; simpa using h
    · next hne =>
      have h0 : 0 < l.length := List.length_pos_iff.mpr hne
      obtain ⟨m, hm⟩ : ∃ m, m = min 32 l.length := ⟨_, rfl⟩
      rw [← hm]
      have hml : (l.take m).length = m := by rw [List.length_take]; omega
      have e : out ++ l.map (fun u => (u.toNat : Int)) = (out ++ (l.take m).map fun u => (u.toNat : Int)) ++ (l.drop m).map fun u => (u.toNat : Int) := by
        rw [List.append_assoc, ← List.map_append, List.take_append_drop]
      rw [e]
      refine ih (l.drop m) _ _ (by rw [List.length_drop]; omega) (by rw [List.length_append, List.length_map, hml, List.length_drop]; omega) ?_
      rw [List.append_assoc]
      refine h.app (fun r => ?_)
      rw [bs_append, bs_bytes]
      have hb : (UInt8.ofNat ((m : Int) - 1).toNat).toNat = m - 1 := by
        rw [show ((m : Int) - 1).toNat = m - 1 by omega, u8_nat _ (by omega)]
      exact upw_lit n out (UInt8.ofNat ((m : Int) - 1).toNat) (l.take m) r (by omega) (by omega) (by omega)
theorem Says.cp {n : Nat} {xs out : List Int} (d m : Nat) (hd1 : 1 ≤ d) (hd2 : d ≤ 8192) (hm1 : 3 ≤ m) (hm2 : m ≤ 264) (hdo : d ≤ out.length) (hn : out.length + m ≤ n) (h : Says n xs out) : Says n (xs ++ cp d m) (grow d m out) := by
  refine h.app (fun r => ?_)
  unfold LZ.cp
  have ec := byte_nat ((d - 1) % 256) (by omega)
  split
  · have eb := byte_nat ((m - 2) * 32 + (d - 1) / 256) (by omega)
    have := upw_near n out (UInt8.ofNat (((m - 2) * 32 + (d - 1) / 256 : Nat) : Int).toNat) (UInt8.ofNat (((d - 1) % 256 : Nat) : Int).toNat) r (by omega) (by omega) (by omega) (by omega)
    rw [eb, ec, show ((m - 2) * 32 + (d - 1) / 256) % 32 * 256 + (d - 1) % 256 + 1 = d by omega, show ((m - 2) * 32 + (d - 1) / 256) / 32 + 2 = m by omega] at this
    exact this
  · have eb := byte_nat (224 + (d - 1) / 256) (by omega)
    have em := byte_nat (m - 9) (by omega)
    have := upw_far n out (UInt8.ofNat ((224 + (d - 1) / 256 : Nat) : Int).toNat) (UInt8.ofNat ((m - 9 : Nat) : Int).toNat) (UInt8.ofNat (((d - 1) % 256 : Nat) : Int).toNat) r (by omega) (by omega) (by omega)
    rw [eb, ec, em, show (224 + (d - 1) / 256) % 32 * 256 + (d - 1) % 256 + 1 = d by omega, show (224 + (d - 1) / 256) / 32 + 2 + (m - 9) = m by omega] at this
    exact this
theorem fl_length : ∀ (f : Nat) (l : List UInt8) (xs : List Int), (fl f l xs).length ≤ xs.length + 2 * l.length := by
  intro f
  induction f with
  | zero => intro l xs; simp [fl]
  | succ f ih =>
    intro l xs
    rw [fl]
    split
    · omega
    · next hl =>
      have := ih (l.drop (min 32 l.length)) (xs ++ [((min 32 l.length : Nat) : Int) - 1] ++ (l.take (min 32 l.length)).map fun u => (u.toNat : Int))
      have h0 : 0 < l.length := List.length_pos_iff.mpr hl
      simp only [List.length_append, List.length_map, List.length_take, List.length_drop, List.length_cons, List.length_nil] at this
      omega
theorem fl_empty (f : Nat) (xs : List Int) : fl (f + 1) (⟨#[]⟩ : ByteArray).data.toList xs = xs := by rw [fl, if_pos rfl]
end Go.Proofs.Ytdadggaecgkhfaa.LZ
