/- Plain facts on the numbers of an intset: what bytes mean, what the printed functions 'little', 'at', 'number' and 'put' come to; no program beyond the printed functions; conditions as typed. -/
import Derived.Test.YtdadggaecgkhfaaPIntsetPlaysx1
import Derived.Test.YtdadggaecgkhfaaPIntsetPlaysx2
import Derived.Test.YtdadggaecgkhfaaPIntsetPlaysx3
import Derived.Laws.BitsAllLaws
namespace Go.Proofs.Ytdadggaecgkhfaa.IM
open Go.RowKit Go.Proofs.YtdadggaecgkhfaaW.PrintWords Go.Proofs.YtdadggaecgkhfaaW.PrintMore
open Go.Proofs.Ytdadggaecgkhfaa.PIntsetPlays
set_option linter.unusedVariables false
set_option linter.unusedSimpArgs false
/-- bytes as one number, the first lowest -/
def leI : List UInt8 → Nat
  | [] => 0
  | b :: l => b.toNat + 256 * leI l
theorem leI_lt (l : List UInt8) : leI l < 256 ^ l.length := by
  induction l with
  | nil => decide
  | cons b l ih =>
    have hb := b.toNat_lt
    rw [List.length_cons, Nat.pow_succ]
    simp only [leI]
    omega
/-- a number of so many bytes, its sign taken -/
def sx (w : Nat) (u : Nat) : Int := if w = 2 then IntKind.i16.wrap u else if w = 4 then IntKind.i32.wrap u else IntKind.i64.wrap u
theorem wrap64_eq (x : Int) : wrap64 x = (x + 9223372036854775808) % 18446744073709551616 - 9223372036854775808 := by unfold wrap64; omega
theorem w64 (x : Int) (h : -9223372036854775808 ≤ x ∧ x ≤ 9223372036854775807) : wrap64 x = x := by rw [wrap64_eq]; omega
theorem ofInt64 (x : Int) : ((BitVec.ofInt 64 x).toNat : Int) = x % 18446744073709551616 := by
  rw [BitVec.toNat_ofInt]
  omega
theorem or64 (u b : Nat) (hu : u < 72057594037927936) (hb : b < 256) : Go.bits .or .i64 (wrap64 ((u : Int) * 256)) (wrap64 (b : Int)) = wrap64 ((b + 256 * u : Nat) : Int) := by
  show IntKind.i64.wrap ((BitVec.ofInt 64 (wrap64 ((u : Int) * 256)) ||| BitVec.ofInt 64 (wrap64 (b : Int))).toNat : Int) = _
  have h1 : (BitVec.ofInt 64 (wrap64 ((u : Int) * 256))).toNat = u * 256 := by
    have := ofInt64 (wrap64 ((u : Int) * 256))
    rw [wrap64_eq] at this ⊢
    omega
  have h2 : (BitVec.ofInt 64 (wrap64 (b : Int))).toNat = b := by
    have := ofInt64 (wrap64 (b : Int))
    rw [wrap64_eq] at this ⊢
    omega
  rw [BitVec.toNat_or, h1, h2, nat_join 8 (u * 256) b (by omega) (by omega), IntKind.wrap_i64, wrap64_eq]
  omega
theorem bt_eq (a : ByteArray) (i : Nat) (h : i < a.size) : bt a (i : Int) = (a[i].toNat : Int) := by
  unfold bt
  simp [h]
theorem drop_cons (a : ByteArray) (i : Nat) (h : i < a.size) : a.data.toList.drop i = a[i] :: a.data.toList.drop (i + 1) := by
  rw [List.drop_eq_getElem_cons (by simpa using h)]; rfl
theorem little_loop (a : ByteArray) (ha : a.size ≤ 8) : ∀ i : Nat, i ≤ a.size → Ev (fun k => intset_little.l0 k a (wrap64 (leI (a.data.toList.drop i))) ((i : Int) - 1)) (wrap64 (leI a.data.toList)) := by
  intro i
  induction i with
  | zero =>
    intro _
    refine Ev.step (f := fun _ => some (wrap64 (leI a.data.toList))) (fun k => ?_) (Ev.now _)
    simp only [intset_little.l0]
    rw [if_neg (by omega)]
    rfl
  | succ i ih =>
    intro hi
    refine Ev.step (f := fun k => intset_little.l0 k a (wrap64 (leI (a.data.toList.drop i))) ((i : Int) - 1)) (fun k => ?_) (ih (by omega))
    simp only [intset_little.l0]
    have hlt : i < a.size := by omega
    have hl := leI_lt (a.data.toList.drop (i + 1))
    have hp : 256 ^ (a.data.toList.drop (i + 1)).length ≤ 256 ^ 7 := Nat.pow_le_pow_right (by decide) (by simp; omega)
    have hu : leI (a.data.toList.drop (i + 1)) < 72057594037927936 := Nat.lt_of_lt_of_le hl hp
    have hw : wrap64 ((leI (a.data.toList.drop (i + 1)) : Nat) : Int) = (leI (a.data.toList.drop (i + 1)) : Nat) := by rw [wrap64_eq]; omega
    rw [if_pos (by omega), if_pos (by omega), if_pos (by omega), show ((i + 1 : Nat) : Int) - 1 = (i : Int) from by omega, bt_eq a i hlt, hw, or64 _ _ hu a[i].toNat_lt, drop_cons a i hlt]
    have : wrap64 ((i : Int) - 1) = (i : Int) - 1 := by rw [wrap64_eq]; omega
    rw [this]
    rfl
theorem little_ev (a : ByteArray) (ha : a.size ≤ 8) : Ev (fun k => intset_little.f k a) (wrap64 (leI a.data.toList)) := by
  have h := little_loop a ha a.size (Nat.le_refl _)
  rw [List.drop_of_length_le (by simp)] at h
  refine Ev.congr (fun k => ?_) h
  unfold intset_little.f
  rw [show wrap64 ((a.size : Int) - 1) = (a.size : Int) - 1 from by rw [wrap64_eq]; omega, show wrap64 ((leI [] : Nat) : Int) = 0 from by rw [wrap64_eq]; decide]
theorem i16_wrap (n : Int) : IntKind.i16.wrap n = (n + 32768) % 65536 - 32768 := by
  simp [IntKind.wrap, IntKind.bits, IntKind.signed]
  omega
theorem sx_at (w u : Nat) (hw : w = 2 ∨ w = 4 ∨ w = 8) (hu : u < 256 ^ w) : shr .i64 (shl .i64 (wrap64 u) (64 - 8 * (w : Int))) (64 - 8 * (w : Int)) = sx w u := by
  unfold shr shl sx
  rcases hw with rfl | rfl | rfl
  · rw [if_pos rfl, i16_wrap, show min ((64 : Int) - 8 * ((2 : Nat) : Int)).toNat IntKind.i64.bits = 48 from rfl, wrap64_eq, IntKind.wrap_i64]
    omega
  · rw [if_neg (by decide), if_pos rfl, IntKind.wrap_i32, show min ((64 : Int) - 8 * ((4 : Nat) : Int)).toNat IntKind.i64.bits = 32 from rfl, wrap64_eq, IntKind.wrap_i64]
    omega
  · rw [if_neg (by decide), if_neg (by decide), show min ((64 : Int) - 8 * ((8 : Nat) : Int)).toNat IntKind.i64.bits = 0 from rfl, wrap64_eq, IntKind.wrap_i64, IntKind.wrap_i64]
    omega
/-- the bytes of the number at place i, and the number -/
def cut (p : ByteArray) (w i : Nat) : List UInt8 := (p.data.toList.drop (8 + i * w)).take w
def el (p : ByteArray) (w i : Nat) : Int := sx w (leI (cut p w i))
theorem extract_list (p : ByteArray) (a b : Nat) (h : a ≤ b) : (p.extract a b).data.toList = (p.data.toList.drop a).take (b - a) := by
  simp [ByteArray.data_extract, Array.toList_extract, List.extract_eq_take_drop]
theorem cut_length (p : ByteArray) (w i : Nat) (h : 8 + (i + 1) * w ≤ p.size) : (cut p w i).length = w := by
  have : (i + 1) * w = i * w + w := by rw [Nat.add_mul, Nat.one_mul]
  simp [cut]
  omega
theorem leI_take_lt (l : List UInt8) (w : Nat) : leI (l.take w) < 256 ^ w :=
  Nat.lt_of_lt_of_le (leI_lt _) (Nat.pow_le_pow_right (by decide) (List.length_take_le _ _))
theorem at_ev (p : ByteArray) (w n i : Nat) (hw : w = 2 ∨ w = 4 ∨ w = 8) (h : 8 + (i + 1) * w ≤ p.size) (hp : p.size ≤ 140737488355328) : Ev (fun k => intset_set_at.f k p w n i) (el p w i) := by
  have e1 : (i + 1) * w = i * w + w := by rw [Nat.add_mul, Nat.one_mul]
  have hi : i ≤ i * w := Nat.le_mul_of_pos_right _ (by omega)
  have m1 : ((i : Int) * (w : Int)) = ((i * w : Nat) : Int) := by simp
  have m2 : ((i : Int) + 1) * (w : Int) = ((i * w + w : Nat) : Int) := by rw [← e1]; simp
  have hx : (p.extract (8 + i * w) (8 + i * w + w)).data.toList = cut p w i := by
    rw [extract_list p _ _ (by omega), show 8 + i * w + w - (8 + i * w) = w from by omega]; rfl
  have hsz : (p.extract (8 + i * w) (8 + i * w + w)).size ≤ 8 := by
    have : (p.extract (8 + i * w) (8 + i * w + w)).size = w := by simp; omega
    omega
  have hl := little_ev _ hsz
  rw [hx] at hl
  have c1 : (0 : Int) ≤ ((8 + i * w : Nat) : Int) := by omega
  have c2 : ((8 + i * w : Nat) : Int) ≤ ((8 + i * w + w : Nat) : Int) := by omega
  have c3 : ((8 + i * w + w : Nat) : Int) ≤ (p.size : Int) := by omega
  have c4 : (0 : Int) ≤ 64 - 8 * (w : Int) := by omega
  have b1 : -9223372036854775808 ≤ ((i * w : Nat) : Int) ∧ ((i * w : Nat) : Int) ≤ 9223372036854775807 := by omega
  have b2 : -9223372036854775808 ≤ (8 + ((i * w : Nat) : Int)) ∧ (8 + ((i * w : Nat) : Int)) ≤ 9223372036854775807 := by omega
  have b3 : -9223372036854775808 ≤ (i : Int) + 1 ∧ (i : Int) + 1 ≤ 9223372036854775807 := by omega
  have b4 : -9223372036854775808 ≤ ((i * w + w : Nat) : Int) ∧ ((i * w + w : Nat) : Int) ≤ 9223372036854775807 := by omega
  have b5 : -9223372036854775808 ≤ (8 + ((i * w + w : Nat) : Int)) ∧ (8 + ((i * w + w : Nat) : Int)) ≤ 9223372036854775807 := by omega
  have b6 : -9223372036854775808 ≤ 8 * (w : Int) ∧ 8 * (w : Int) ≤ 9223372036854775807 := by omega
  have b7 : -9223372036854775808 ≤ 64 - 8 * (w : Int) ∧ 64 - 8 * (w : Int) ≤ 9223372036854775807 := by omega
  have t1 : (8 + ((i * w : Nat) : Int)).toNat = 8 + i * w := by omega
  have t2 : (8 + ((i * w + w : Nat) : Int)).toNat = 8 + i * w + w := by omega
  have c1 : (0 : Int) ≤ 8 + ((i * w : Nat) : Int) := by omega
  have c2 : 8 + ((i * w : Nat) : Int) ≤ 8 + ((i * w + w : Nat) : Int) := by omega
  have c3 : 8 + ((i * w + w : Nat) : Int) ≤ (p.size : Int) := by omega
  unfold intset_set_at.f
  simp only [m1, w64 _ b1, w64 _ b2, w64 _ b3, m2, w64 _ b4, w64 _ b5, w64 _ b6, w64 _ b7]
  simp only [if_pos c1, if_pos c2, if_pos c3, if_pos c4, t1, t2]
  refine Ev.bind hl ?_
  have hc : leI (cut p w i) < 256 ^ w := leI_take_lt _ _
  rw [sx_at w _ hw hc]
  exact Ev.now _
/-- the head's two numbers -/
def W (p : ByteArray) : Nat := leI (p.data.toList.take 4)
def N (p : ByteArray) : Nat := leI ((p.data.toList.drop 4).take 4)
theorem W_lt (p : ByteArray) : W p < 4294967296 := leI_take_lt _ 4
theorem N_lt (p : ByteArray) : N p < 4294967296 := leI_take_lt _ 4
/-- the numbers rise from place i on -/
def Rise (p : ByteArray) (i : Nat) : Prop := ∀ j, i ≤ j → j < N p → el p (W p) (j - 1) < el p (W p) j
def Shape (p : ByteArray) : Prop := 8 ≤ p.size ∧ (W p = 2 ∨ W p = 4 ∨ W p = 8) ∧ N p ≤ 1048576 ∧ p.size = 8 + N p * W p
/-- it is an intset -/
def Good (p : ByteArray) : Prop := Shape p ∧ Rise p 1
theorem Shape.room {p : ByteArray} (h : Shape p) (i : Nat) (hi : i < N p) : 8 + (i + 1) * W p ≤ p.size := by
  obtain ⟨_, _, _, h⟩ := h
  have := Nat.mul_le_mul_right (W p) (show i + 1 ≤ N p from hi)
  omega
theorem Shape.small {p : ByteArray} (h : Shape p) : p.size ≤ 140737488355328 := by
  obtain ⟨_, hw, hn, h⟩ := h
  have := Nat.mul_le_mul hn (show W p ≤ 8 by omega)
  omega
theorem read_loop_yes {p : ByteArray} (h : Shape p) (d : Nat) : ∀ i, 1 ≤ i → N p - i ≤ d → Rise p i → Ev (fun k => intset_read.l0 k i p (W p) (N p)) (p, (W p : Int), (N p : Int), true) := by
  induction d with
  | zero =>
    intro i h1 hd hr
    refine Ev.step (f := fun _ => some (p, (W p : Int), (N p : Int), true)) (fun k => ?_) (Ev.now _)
    simp only [intset_read.l0]
    rw [if_neg (by omega)]
  | succ d ih =>
    intro i h1 hd hr
    by_cases hlt : i < N p
    · have hn := h.2.2.1
      have e1 : ((i : Int) - 1) = ((i - 1 : Nat) : Int) := by omega
      have b1 : -9223372036854775808 ≤ ((i - 1 : Nat) : Int) ∧ ((i - 1 : Nat) : Int) ≤ 9223372036854775807 := by omega
      have b2 : -9223372036854775808 ≤ (i : Int) + 1 ∧ (i : Int) + 1 ≤ 9223372036854775807 := by omega
      have c1 : (i : Int) < (N p : Int) := by omega
      have hel := hr i (Nat.le_refl _) hlt
      refine Ev.step (f := fun k => (intset_set_at.f k p (W p) (N p) ((i - 1 : Nat) : Int)).bind fun a => (intset_set_at.f k p (W p) (N p) (i : Int)).bind fun b => if a ≥ b then some ((⟨#[]⟩ : ByteArray), 0, 0, false) else intset_read.l0 k ((i + 1 : Nat) : Int) p (W p) (N p)) (fun k => ?_) ?_
      · simp only [intset_read.l0, e1, w64 _ b1, w64 _ b2, if_pos c1]
        rfl
      · refine Ev.bind (at_ev p _ _ _ h.2.1 (h.room (i - 1) (by omega)) h.small) (Ev.bind (at_ev p _ _ _ h.2.1 (h.room i hlt) h.small) ?_)
        simp only [if_neg (show ¬ (el p (W p) (i - 1) ≥ el p (W p) i) by omega)]
        exact ih (i + 1) (by omega) (by omega) (fun j hj hjn => hr j (by omega) hjn)
    · refine Ev.step (f := fun _ => some (p, (W p : Int), (N p : Int), true)) (fun k => ?_) (Ev.now _)
      simp only [intset_read.l0]
      rw [if_neg (by omega)]
theorem read_loop_no {p : ByteArray} (h : Shape p) (d : Nat) : ∀ i, 1 ≤ i → N p - i ≤ d → ¬ Rise p i → Ev (fun k => intset_read.l0 k i p (W p) (N p)) ((⟨#[]⟩ : ByteArray), (0 : Int), (0 : Int), false) := by
  induction d with
  | zero =>
    intro i h1 hd hr
    exact absurd (fun j hj hjn => absurd hjn (by omega)) hr
  | succ d ih =>
    intro i h1 hd hr
    by_cases hlt : i < N p
    · have hn := h.2.2.1
      have e1 : ((i : Int) - 1) = ((i - 1 : Nat) : Int) := by omega
      have b1 : -9223372036854775808 ≤ ((i - 1 : Nat) : Int) ∧ ((i - 1 : Nat) : Int) ≤ 9223372036854775807 := by omega
      have b2 : -9223372036854775808 ≤ (i : Int) + 1 ∧ (i : Int) + 1 ≤ 9223372036854775807 := by omega
      have c1 : (i : Int) < (N p : Int) := by omega
      refine Ev.step (f := fun k => (intset_set_at.f k p (W p) (N p) ((i - 1 : Nat) : Int)).bind fun a => (intset_set_at.f k p (W p) (N p) (i : Int)).bind fun b => if a ≥ b then some ((⟨#[]⟩ : ByteArray), 0, 0, false) else intset_read.l0 k ((i + 1 : Nat) : Int) p (W p) (N p)) (fun k => ?_) ?_
      · simp only [intset_read.l0, e1, w64 _ b1, w64 _ b2, if_pos c1]
        rfl
      · refine Ev.bind (at_ev p _ _ _ h.2.1 (h.room (i - 1) (by omega)) h.small) (Ev.bind (at_ev p _ _ _ h.2.1 (h.room i hlt) h.small) ?_)
        by_cases hel : el p (W p) (i - 1) < el p (W p) i
        · simp only [if_neg (show ¬ (el p (W p) (i - 1) ≥ el p (W p) i) by omega)]
          refine ih (i + 1) (by omega) (by omega) (fun hr2 => hr fun j hj hjn => ?_)
          by_cases e : j = i
          · subst e; exact hel
          · exact hr2 j (by omega) hjn
        · simp only [if_pos (show el p (W p) (i - 1) ≥ el p (W p) i by omega)]
          exact Ev.now _
    · exact absurd (fun j hj hjn => absurd hjn (by omega)) hr
theorem head_W (p : ByteArray) (h : 8 ≤ p.size) : Ev (fun k => intset_little.f k (p.extract 0 4)) (W p : Int) := by
  have hb : -9223372036854775808 ≤ ((W p : Nat) : Int) ∧ ((W p : Nat) : Int) ≤ 9223372036854775807 := by have := W_lt p; omega
  have h1 := little_ev (p.extract 0 4) (by simp; omega)
  rw [extract_list p 0 4 (by omega)] at h1
  have e : leI ((p.data.toList.drop 0).take (4 - 0)) = W p := rfl
  rw [e, w64 _ hb] at h1
  exact h1
theorem head_N (p : ByteArray) (h : 8 ≤ p.size) : Ev (fun k => intset_little.f k (p.extract 4 8)) (N p : Int) := by
  have hb : -9223372036854775808 ≤ ((N p : Nat) : Int) ∧ ((N p : Nat) : Int) ≤ 9223372036854775807 := by have := N_lt p; omega
  have h1 := little_ev (p.extract 4 8) (by simp; omega)
  rw [extract_list p 4 8 (by omega)] at h1
  have e : leI ((p.data.toList.drop 4).take (8 - 4)) = N p := rfl
  rw [e, w64 _ hb] at h1
  exact h1
abbrev noSet : ByteArray × Int × Int × Bool := ((⟨#[]⟩ : ByteArray), (0 : Int), (0 : Int), false)
theorem j0_true (a : ByteArray) (x y : Int) : Ev (fun k => intset_read.j0 k true a x y) noSet :=
  Ev.step (f := fun _ => some noSet) (fun k => by simp only [intset_read.j0, if_true]) (Ev.now _)
theorem j0_false (a : ByteArray) (x y : Int) (r : ByteArray × Int × Int × Bool) (h : Ev (fun k => intset_read.l0 k 1 a x y) r) : Ev (fun k => intset_read.j0 k false a x y) r :=
  Ev.step (f := fun k => intset_read.l0 k 1 a x y) (fun k => by simp only [intset_read.j0]; rfl) h
/-- what 'read' does once the head is read, whatever it is -/
theorem read_head (p : ByteArray) (h : 8 ≤ p.size) (r : ByteArray × Int × Int × Bool)
    (hr : Ev (fun k => if ((W p : Nat) : Int) = 2 then (if ((N p : Nat) : Int) > 1048576 then (intset_read.j0 k true p (W p) (N p)) else (intset_read.j0 k ((p.size : Int) != (wrap64 (8 + (wrap64 ((N p : Int) * (W p : Int)))))) p (W p) (N p))) else (if ((W p : Nat) : Int) = 4 then (if ((N p : Nat) : Int) > 1048576 then (intset_read.j0 k true p (W p) (N p)) else (intset_read.j0 k ((p.size : Int) != (wrap64 (8 + (wrap64 ((N p : Int) * (W p : Int)))))) p (W p) (N p))) else (if ((W p : Nat) : Int) = 8 then (if ((N p : Nat) : Int) > 1048576 then (intset_read.j0 k true p (W p) (N p)) else (intset_read.j0 k ((p.size : Int) != (wrap64 (8 + (wrap64 ((N p : Int) * (W p : Int)))))) p (W p) (N p))) else (intset_read.j0 k true p (W p) (N p))))) r) :
    Ev (fun k => intset_read.f k p) r := by
  have c0 : ¬ ((p.size : Int) < 8) := by omega
  have c1 : (4 : Int) ≤ (p.size : Int) := by omega
  have c2 : (8 : Int) ≤ (p.size : Int) := by omega
  have c3 : (0 : Int) ≤ 4 := by omega
  have c4 : (4 : Int) ≤ 8 := by omega
  unfold intset_read.f
  simp only [if_neg c0, if_pos c1, if_pos c2, if_pos c3, if_pos c4]
  exact Ev.bind (head_W p h) (Ev.bind (head_N p h) hr)
theorem len_test (p : ByteArray) (hw : W p ≤ 8) (hn : N p ≤ 1048576) : wrap64 (8 + (wrap64 ((N p : Int) * (W p : Int)))) = ((8 + N p * W p : Nat) : Int) := by
  have hm := Nat.mul_le_mul hn hw
  have m1 : ((N p : Int) * (W p : Int)) = ((N p * W p : Nat) : Int) := by simp
  have b1 : -9223372036854775808 ≤ ((N p * W p : Nat) : Int) ∧ ((N p * W p : Nat) : Int) ≤ 9223372036854775807 := by omega
  have b2 : -9223372036854775808 ≤ 8 + ((N p * W p : Nat) : Int) ∧ 8 + ((N p * W p : Nat) : Int) ≤ 9223372036854775807 := by omega
  rw [m1, w64 _ b1, w64 _ b2]
  omega
theorem read_yes (p : ByteArray) (h : Good p) : Ev (fun k => intset_read.f k p) (p, (W p : Int), (N p : Int), true) := by
  obtain ⟨hs, hr⟩ := h
  have hl := read_loop_yes hs (N p) 1 (Nat.le_refl _) (by omega) hr
  have hj := j0_false p (W p) (N p) _ hl
  obtain ⟨h8, hw, hn, hsz⟩ := hs
  refine read_head p h8 _ ?_
  have ht := len_test p (by omega) hn
  have hne : ((p.size : Int) != (wrap64 (8 + (wrap64 ((N p : Int) * (W p : Int)))))) = false := by rw [ht, bne_eq_false_iff_eq]; omega
  have c : ¬ (((N p : Nat) : Int) > 1048576) := by omega
  simp only [hne, if_neg c]
  rcases hw with hw | hw | hw
  all_goals
    rw [hw] at hj ⊢
    exact hj
theorem read_no (p : ByteArray) (h : ¬ Good p) : Ev (fun k => intset_read.f k p) noSet := by
  by_cases h8 : 8 ≤ p.size
  · by_cases hw : W p = 2 ∨ W p = 4 ∨ W p = 8
    · by_cases hn : N p ≤ 1048576
      · have ht := len_test p (by omega) hn
        have c : ¬ (((N p : Nat) : Int) > 1048576) := by omega
        by_cases hsz : p.size = 8 + N p * W p
        · have hs : Shape p := ⟨h8, hw, hn, hsz⟩
          have hl := read_loop_no hs (N p) 1 (Nat.le_refl _) (by omega) (fun hr => h ⟨hs, hr⟩)
          have hj := j0_false p (W p) (N p) _ hl
          refine read_head p h8 _ ?_
          have hne : ((p.size : Int) != (wrap64 (8 + (wrap64 ((N p : Int) * (W p : Int)))))) = false := by rw [ht, bne_eq_false_iff_eq]; omega
          simp only [hne, if_neg c]
          rcases hw with hw | hw | hw
          all_goals
            rw [hw] at hj ⊢
            exact hj
        · refine read_head p h8 _ ?_
          have hne : ((p.size : Int) != (wrap64 (8 + (wrap64 ((N p : Int) * (W p : Int)))))) = true := by rw [ht, bne_iff_ne]; omega
          simp only [hne, if_neg c, ite_self]
          exact j0_true _ _ _
      · refine read_head p h8 _ ?_
        have c : ((N p : Nat) : Int) > 1048576 := by omega
        simp only [if_pos c, ite_self]
        exact j0_true _ _ _
    · refine read_head p h8 _ ?_
      have c1 : ¬ (((W p : Nat) : Int) = 2) := by omega
      have c2 : ¬ (((W p : Nat) : Int) = 4) := by omega
      have c3 : ¬ (((W p : Nat) : Int) = 8) := by omega
      simp only [if_neg c1, if_neg c2, if_neg c3]
      exact j0_true _ _ _
  · refine Ev.congr (f := fun _ => some noSet) (fun k => ?_) (Ev.now _)
    unfold intset_read.f
    rw [if_pos (by omega)]
/-! the document's side -/
theorem wrap32_eq (x : Int) : wrap32 x = (x + 2147483648) % 4294967296 - 2147483648 := by unfold wrap32; omega
theorem number_loop (a : ByteArray) (ha : a.size ≤ 8) : ∀ i : Nat, i ≤ a.size → Ev (fun k => cisternref05_number.l0 k a (leI (a.data.toList.drop i) : Nat) ((i : Int) - 1))
    (if (a.size : Int) = 2 then wrap64 (IntKind.i16.wrap (leI a.data.toList : Nat)) else if (a.size : Int) = 4 then wrap64 (wrap32 (leI a.data.toList : Nat)) else wrap64 (leI a.data.toList : Nat)) := by
  intro i
  induction i with
  | zero =>
    intro _
    refine Ev.step (f := fun _ => some _) (fun k => ?_) (Ev.now _)
    simp only [cisternref05_number.l0]
    rw [if_neg (by omega)]
    by_cases h2 : (a.size : Int) = 2
    · rw [if_pos h2, if_pos h2]; rfl
    · rw [if_neg h2, if_neg h2]
      by_cases h4 : (a.size : Int) = 4
      · rw [if_pos h4, if_pos h4]; rfl
      · rw [if_neg h4, if_neg h4]; rfl
  | succ i ih =>
    intro hi
    have hlt : i < a.size := by omega
    have hl := leI_lt (a.data.toList.drop i)
    have hp : 256 ^ (a.data.toList.drop i).length ≤ 256 ^ 8 := Nat.pow_le_pow_right (by decide) (by simp; omega)
    have hu : leI (a.data.toList.drop i) < 18446744073709551616 := Nat.lt_of_lt_of_le hl hp
    have hb := a[i].toNat_lt
    have b1 : -9223372036854775808 ≤ (i : Int) - 1 ∧ (i : Int) - 1 ≤ 9223372036854775807 := by omega
    have hd := drop_cons a i hlt
    have hle : leI (a.data.toList.drop i) = a[i].toNat + 256 * leI (a.data.toList.drop (i + 1)) := by rw [hd]; rfl
    have hx : IntKind.u64.wrap (IntKind.u64.wrap ((leI (a.data.toList.drop (i + 1)) : Nat) * 256) + IntKind.u64.wrap (a[i].toNat : Int)) = ((leI (a.data.toList.drop i) : Nat) : Int) := by
      rw [IntKind.wrap_u64, IntKind.wrap_u64, IntKind.wrap_u64]
      omega
    refine Ev.step (f := fun k => cisternref05_number.l0 k a (leI (a.data.toList.drop i) : Nat) ((i : Int) - 1)) (fun k => ?_) (ih (by omega))
    simp only [cisternref05_number.l0]
    rw [if_pos (by omega), if_pos (by omega), if_pos (by omega), show ((i + 1 : Nat) : Int) - 1 = (i : Int) from by omega, bt_eq a i hlt, hx, w64 _ b1]
theorem number_ev (a : ByteArray) (w : Nat) (hw : w = 2 ∨ w = 4 ∨ w = 8) (ha : a.size = w) : Ev (fun k => cisternref05_number.f k a) (sx w (leI a.data.toList)) := by
  have h := number_loop a (by omega) a.size (Nat.le_refl _)
  rw [List.drop_of_length_le (by simp)] at h
  have b1 : -9223372036854775808 ≤ (a.size : Int) - 1 ∧ (a.size : Int) - 1 ≤ 9223372036854775807 := by omega
  have hu : leI a.data.toList < 256 ^ w := by
    have := leI_lt a.data.toList
    rwa [show a.data.toList.length = w from by simpa using ha] at this
  generalize leI a.data.toList = u at *
  have e : (if (a.size : Int) = 2 then wrap64 (IntKind.i16.wrap (u : Nat)) else if (a.size : Int) = 4 then wrap64 (wrap32 (u : Nat)) else wrap64 (u : Nat)) = sx w u := by
    rw [ha]
    unfold sx
    rcases hw with rfl | rfl | rfl
    · rw [if_pos (show ((2 : Nat) : Int) = 2 from rfl), if_pos rfl, i16_wrap, wrap64_eq]; omega
    · rw [if_neg (show ¬ ((4 : Nat) : Int) = 2 by decide), if_pos (show ((4 : Nat) : Int) = 4 from rfl), if_neg (by decide), if_pos rfl, wrap32_eq, IntKind.wrap_i32, wrap64_eq]; omega
    · rw [if_neg (show ¬ ((8 : Nat) : Int) = 2 by decide), if_neg (show ¬ ((8 : Nat) : Int) = 4 by decide), if_neg (by decide), if_neg (by decide), IntKind.wrap_i64, wrap64_eq]
  rw [e] at h
  refine Ev.congr (fun k => ?_) h
  unfold cisternref05_number.f
  rw [w64 _ b1]
  rfl
/-- its numbers -/
def els (p : ByteArray) : List Int := (List.range (N p)).map (el p (W p))
theorem els_length (p : ByteArray) : (els p).length = N p := by simp [els]
def elsTo (p : ByteArray) (i : Nat) : List Int := (List.range i).map (el p (W p))
theorem elsTo_succ (p : ByteArray) (i : Nat) : elsTo p (i + 1) = elsTo p i ++ [el p (W p) i] := by simp [elsTo, List.range_succ]
theorem elsTo_length (p : ByteArray) (i : Nat) : (elsTo p i).length = i := by simp [elsTo]
theorem elsTo_rd (p : ByteArray) (i j : Nat) (h : j < i) : rd (elsTo p i) (j : Int) = el p (W p) j := by
  unfold rd elsTo
  simp [List.getD, h]
abbrev noRead : Int × List Int × Bool := ((0 : Int), ([] : List Int), false)
theorem cut_ev (p : ByteArray) (h : Shape p) (i : Nat) (hi : i < N p) : Ev (fun k => cisternref05_number.f k (p.extract (8 + i * W p) (8 + i * W p + W p))) (el p (W p) i) := by
  have hr := h.room i hi
  have e1 : (i + 1) * W p = i * W p + W p := by rw [Nat.add_mul, Nat.one_mul]
  have hx : (p.extract (8 + i * W p) (8 + i * W p + W p)).data.toList = cut p (W p) i := by
    rw [extract_list p _ _ (by omega), show 8 + i * W p + W p - (8 + i * W p) = W p from by omega]; rfl
  have hsz : (p.extract (8 + i * W p) (8 + i * W p + W p)).size = W p := by simp; omega
  have hn := number_ev _ (W p) h.2.1 hsz
  rw [hx] at hn
  exact hn
/-- one round of the document's Read -/
theorem rread_round (p : ByteArray) (h : Shape p) (i : Nat) (hi : i < N p) (k : Nat) :
    cisternref05_Read.l0 (k + 1) p (W p) (N p) (elsTo p i) i = (cisternref05_number.f k (p.extract (8 + i * W p) (8 + i * W p + W p))).bind fun t =>
      if 0 < i then (if el p (W p) (i - 1) ≥ t then some noRead else cisternref05_Read.l0 k p (W p) (N p) (elsTo p i ++ [t]) ((i + 1 : Nat) : Int)) else cisternref05_Read.l0 k p (W p) (N p) (elsTo p i ++ [t]) ((i + 1 : Nat) : Int) := by
  have hr := h.room i hi
  have hs := h.small
  have hn := h.2.2.1
  have e1 : (i + 1) * W p = i * W p + W p := by rw [Nat.add_mul, Nat.one_mul]
  have m1 : ((i : Int) * (W p : Int)) = ((i * W p : Nat) : Int) := by simp
  have b1 : -9223372036854775808 ≤ ((i * W p : Nat) : Int) ∧ ((i * W p : Nat) : Int) ≤ 9223372036854775807 := by omega
  have b2 : -9223372036854775808 ≤ (8 + ((i * W p : Nat) : Int)) ∧ (8 + ((i * W p : Nat) : Int)) ≤ 9223372036854775807 := by omega
  have b3 : -9223372036854775808 ≤ (8 + ((i * W p : Nat) : Int)) + (W p : Int) ∧ (8 + ((i * W p : Nat) : Int)) + (W p : Int) ≤ 9223372036854775807 := by omega
  have b4 : -9223372036854775808 ≤ (i : Int) + 1 ∧ (i : Int) + 1 ≤ 9223372036854775807 := by omega
  have b5 : -9223372036854775808 ≤ (i : Int) - 1 ∧ (i : Int) - 1 ≤ 9223372036854775807 := by omega
  have c0 : (i : Int) < (N p : Int) := by omega
  have c1 : (0 : Int) ≤ 8 + ((i * W p : Nat) : Int) := by omega
  have c2 : 8 + ((i * W p : Nat) : Int) ≤ 8 + ((i * W p : Nat) : Int) + (W p : Int) := by omega
  have c3 : 8 + ((i * W p : Nat) : Int) + (W p : Int) ≤ (p.size : Int) := by omega
  have t1 : (8 + ((i * W p : Nat) : Int)).toNat = 8 + i * W p := by omega
  have t2 : (8 + ((i * W p : Nat) : Int) + (W p : Int)).toNat = 8 + i * W p + W p := by omega
  have c5 : (elsTo p i).length < 17592186044416 := by rw [elsTo_length]; omega
  have e2 : ((i + 1 : Nat) : Int) = (i : Int) + 1 := by omega
  simp only [cisternref05_Read.l0]
  rw [if_pos c0, m1, w64 _ b1, w64 _ b2, w64 _ b3, if_pos c1, if_pos c2, if_pos c3, t1, t2, w64 _ b4, w64 _ b5, e2]
  congr 1
  funext t
  by_cases h0 : 0 < i
  · have c6 : (0 : Int) ≤ (i : Int) - 1 := by omega
    have c7 : (i : Int) - 1 < ((elsTo p i).length : Int) := by rw [elsTo_length]; omega
    have c8 : (i : Int) > 0 := by omega
    rw [if_pos c8, if_pos c6, if_pos c7, if_pos c5, if_pos h0, show ((i : Int) - 1) = ((i - 1 : Nat) : Int) from by omega, elsTo_rd p i (i - 1) (by omega)]
  · have c8 : ¬ ((i : Int) > 0) := by omega
    rw [if_neg c8, if_pos c5, if_neg h0]
theorem rread_loop_yes {p : ByteArray} (h : Shape p) (hr : Rise p 1) (d : Nat) : ∀ i, i ≤ N p → N p - i = d → Ev (fun k => cisternref05_Read.l0 k p (W p) (N p) (elsTo p i) i) ((W p : Int), els p, true) := by
  induction d with
  | zero =>
    intro i hi hd
    have e : i = N p := by omega
    subst e
    refine Ev.step (f := fun _ => some ((W p : Int), els p, true)) (fun k => ?_) (Ev.now _)
    simp only [cisternref05_Read.l0]
    rw [if_neg (by omega)]
    rfl
  | succ d ih =>
    intro i hi hd
    have hlt : i < N p := by omega
    refine Ev.step (rread_round p h i hlt) (Ev.bind (cut_ev p h i hlt) ?_)
    have hnext := ih (i + 1) (by omega) (by omega)
    rw [elsTo_succ] at hnext
    by_cases h0 : 0 < i
    · have := hr i h0 hlt
      simp only [if_pos h0, if_neg (show ¬ (el p (W p) (i - 1) ≥ el p (W p) i) by omega)]
      exact hnext
    · simp only [if_neg h0]
      exact hnext
theorem rread_loop_no {p : ByteArray} (h : Shape p) (d : Nat) : ∀ i, i ≤ N p → N p - i = d → (¬ ∀ j, i ≤ j → 0 < j → j < N p → el p (W p) (j - 1) < el p (W p) j) → Ev (fun k => cisternref05_Read.l0 k p (W p) (N p) (elsTo p i) i) noRead := by
  induction d with
  | zero =>
    intro i hi hd hr
    exact absurd (fun j hj _ hjn => absurd hjn (by omega)) hr
  | succ d ih =>
    intro i hi hd hr
    have hlt : i < N p := by omega
    refine Ev.step (rread_round p h i hlt) (Ev.bind (cut_ev p h i hlt) ?_)
    by_cases h0 : 0 < i
    · by_cases hel : el p (W p) (i - 1) < el p (W p) i
      · simp only [if_pos h0, if_neg (show ¬ (el p (W p) (i - 1) ≥ el p (W p) i) by omega)]
        have hnext := ih (i + 1) (by omega) (by omega) (fun h2 => hr fun j hj hj0 hjn => by
          by_cases e : j = i
          · subst e; exact hel
          · exact h2 j (by omega) hj0 hjn)
        rw [elsTo_succ] at hnext
        exact hnext
      · simp only [if_pos h0, if_pos (show el p (W p) (i - 1) ≥ el p (W p) i by omega)]
        exact Ev.now _
    · simp only [if_neg h0]
      have hnext := ih (i + 1) (by omega) (by omega) (fun h2 => hr fun j hj hj0 hjn => h2 j (by omega) hj0 hjn)
      rw [elsTo_succ] at hnext
      exact hnext
theorem rj0_true (a : ByteArray) (x y : Int) : Ev (fun k => cisternref05_Read.j0 k a x y true) noRead :=
  Ev.step (f := fun _ => some noRead) (fun k => by simp only [cisternref05_Read.j0, if_true]) (Ev.now _)
theorem rj0_false (a : ByteArray) (x y : Int) (r : Int × List Int × Bool) (h : Ev (fun k => cisternref05_Read.l0 k a x y ([] : List Int) 0) r) : Ev (fun k => cisternref05_Read.j0 k a x y false) r :=
  Ev.step (f := fun k => cisternref05_Read.l0 k a x y ([] : List Int) 0) (fun k => by simp only [cisternref05_Read.j0]; rfl) h
theorem number4 (a : ByteArray) (ha : a.size = 4) : Ev (fun k => cisternref05_number.f k a) (IntKind.i32.wrap (leI a.data.toList : Nat)) := by
  have h := number_ev a 4 (.inr (.inl rfl)) ha
  unfold sx at h
  rwa [if_neg (by decide), if_pos rfl] at h
theorem i32_back (u : Nat) (h : u < 4294967296) : (IntKind.i32.wrap (u : Nat)) % 4294967296 = (u : Int) := by
  rw [IntKind.wrap_i32]; omega
theorem rread_head (p : ByteArray) (h : 8 ≤ p.size) (r : Int × List Int × Bool)
    (hr : Ev (fun k => if ((W p : Nat) : Int) = 2 then (if ((N p : Nat) : Int) > 1048576 then (cisternref05_Read.j0 k p (W p) (N p) true) else (cisternref05_Read.j0 k p (W p) (N p) ((p.size : Int) != (wrap64 (8 + (wrap64 ((N p : Int) * (W p : Int)))))))) else (if ((W p : Nat) : Int) = 4 then (if ((N p : Nat) : Int) > 1048576 then (cisternref05_Read.j0 k p (W p) (N p) true) else (cisternref05_Read.j0 k p (W p) (N p) ((p.size : Int) != (wrap64 (8 + (wrap64 ((N p : Int) * (W p : Int)))))))) else (if ((W p : Nat) : Int) = 8 then (if ((N p : Nat) : Int) > 1048576 then (cisternref05_Read.j0 k p (W p) (N p) true) else (cisternref05_Read.j0 k p (W p) (N p) ((p.size : Int) != (wrap64 (8 + (wrap64 ((N p : Int) * (W p : Int)))))))) else (cisternref05_Read.j0 k p (W p) (N p) true)))) r) :
    Ev (fun k => cisternref05_Read.f k p) r := by
  have c0 : ¬ ((p.size : Int) < 8) := by omega
  have c1 : (4 : Int) ≤ (p.size : Int) := by omega
  have c2 : (8 : Int) ≤ (p.size : Int) := by omega
  have c3 : (0 : Int) ≤ 4 := by omega
  have c4 : (4 : Int) ≤ 8 := by omega
  have e1 := extract_list p 0 4 (by omega)
  have e2 := extract_list p 4 8 (by omega)
  have n1 := number4 (p.extract 0 4) (by simp; omega)
  have n2 := number4 (p.extract 4 8) (by simp; omega)
  rw [e1, show leI ((p.data.toList.drop 0).take (4 - 0)) = W p from rfl] at n1
  rw [e2, show leI ((p.data.toList.drop 4).take (8 - 4)) = N p from rfl] at n2
  unfold cisternref05_Read.f
  simp only [if_neg c0, if_pos c1, if_pos c2, if_pos c3, if_pos c4]
  refine Ev.bind n1 (Ev.bind n2 ?_)
  simp only [i32_back _ (W_lt p), i32_back _ (N_lt p)]
  exact hr
theorem rread_yes (p : ByteArray) (h : Good p) : Ev (fun k => cisternref05_Read.f k p) ((W p : Int), els p, true) := by
  obtain ⟨hs, hr⟩ := h
  have hl := rread_loop_yes hs hr (N p) 0 (by omega) (by omega)
  have hj := rj0_false p (W p) (N p) _ hl
  obtain ⟨h8, hw, hn, hsz⟩ := hs
  refine rread_head p h8 _ ?_
  have ht := len_test p (by omega) hn
  have hne : ((p.size : Int) != (wrap64 (8 + (wrap64 ((N p : Int) * (W p : Int)))))) = false := by rw [ht, bne_eq_false_iff_eq]; omega
  have c : ¬ (((N p : Nat) : Int) > 1048576) := by omega
  simp only [hne, if_neg c]
  rcases hw with hw | hw | hw
  all_goals
    rw [hw] at hj ⊢
    exact hj
theorem rread_no (p : ByteArray) (h : ¬ Good p) : Ev (fun k => cisternref05_Read.f k p) noRead := by
  by_cases h8 : 8 ≤ p.size
  · by_cases hw : W p = 2 ∨ W p = 4 ∨ W p = 8
    · by_cases hn : N p ≤ 1048576
      · have ht := len_test p (by omega) hn
        have c : ¬ (((N p : Nat) : Int) > 1048576) := by omega
        by_cases hsz : p.size = 8 + N p * W p
        · have hs : Shape p := ⟨h8, hw, hn, hsz⟩
          have hl := rread_loop_no hs (N p) 0 (by omega) (by omega) (fun hr => h ⟨hs, fun j hj hjn => hr j (by omega) hj hjn⟩)
          have hj := rj0_false p (W p) (N p) _ hl
          refine rread_head p h8 _ ?_
          have hne : ((p.size : Int) != (wrap64 (8 + (wrap64 ((N p : Int) * (W p : Int)))))) = false := by rw [ht, bne_eq_false_iff_eq]; omega
          simp only [hne, if_neg c]
          rcases hw with hw | hw | hw
          all_goals
            rw [hw] at hj ⊢
            exact hj
        · refine rread_head p h8 _ ?_
          have hne : ((p.size : Int) != (wrap64 (8 + (wrap64 ((N p : Int) * (W p : Int)))))) = true := by rw [ht, bne_iff_ne]; omega
          simp only [hne, if_neg c, ite_self]
          exact rj0_true _ _ _
      · refine rread_head p h8 _ ?_
        have c : ((N p : Nat) : Int) > 1048576 := by omega
        simp only [if_pos c, ite_self]
        exact rj0_true _ _ _
    · refine rread_head p h8 _ ?_
      have c1 : ¬ (((W p : Nat) : Int) = 2) := by omega
      have c2 : ¬ (((W p : Nat) : Int) = 4) := by omega
      have c3 : ¬ (((W p : Nat) : Int) = 8) := by omega
      simp only [if_neg c1, if_neg c2, if_neg c3]
      exact rj0_true _ _ _
  · refine Ev.congr (f := fun _ => some noRead) (fun k => ?_) (Ev.now _)
    unfold cisternref05_Read.f
    rw [if_pos (by omega)]
/-- the place of the first number that is not below n -/
def pos : List Int → Int → Nat
  | [], _ => 0
  | x :: r, n => if n ≤ x then 0 else pos r n + 1
theorem pos_le (l : List Int) (n : Int) : pos l n ≤ l.length := by
  induction l with
  | nil => simp [pos]
  | cons x r ih => simp only [pos, List.length_cons]; split <;> omega
def there (l : List Int) (n : Int) : Bool := decide (l[pos l n]? = some n)
theorem rat_loop (l : List Int) (n : Int) (hl : l.length ≤ 1048576) (d : Nat) : ∀ i, i ≤ l.length → l.length - i = d → (∀ j x, j < i → l[j]? = some x → x < n) →
    Ev (fun k => cisternref05_at.l0 k l n i) (((i + pos (l.drop i) n : Nat) : Int), decide ((l.drop i)[pos (l.drop i) n]? = some n)) := by
  induction d with
  | zero =>
    intro i hi hd _
    have e : i = l.length := by omega
    subst e
    refine Ev.step (f := fun _ => some _) (fun k => ?_) (Ev.now _)
    simp only [cisternref05_at.l0]
    rw [if_neg (by omega), List.drop_length]
    simp [pos]
  | succ d ih =>
    intro i hi hd hb
    have hlt : i < l.length := by omega
    have b1 : -9223372036854775808 ≤ (i : Int) + 1 ∧ (i : Int) + 1 ≤ 9223372036854775807 := by omega
    have c0 : (i : Int) < (l.length : Int) := by omega
    have c1 : (0 : Int) ≤ (i : Int) := by omega
    have hrd : rd l (i : Int) = l[i] := by unfold rd; simp [List.getD, hlt]
    have hdr : l.drop i = l[i] :: l.drop (i + 1) := List.drop_eq_getElem_cons hlt
    by_cases hge : n ≤ l[i]
    · refine Ev.step (f := fun _ => some _) (fun k => ?_) (Ev.now _)
      simp only [cisternref05_at.l0]
      rw [if_pos c0, if_pos c1, hrd, if_pos hge, hdr]
      simp only [pos, if_pos hge, Nat.add_zero, List.getElem?_cons_zero, Option.some.injEq]
      rfl
    · have hnext := ih (i + 1) (by omega) (by omega) (fun j x hj hx => by
        by_cases e : j = i
        · subst e
          rw [List.getElem?_eq_getElem hlt] at hx
          injection hx with hx
          omega
        · exact hb j x (by omega) hx)
      refine Ev.step (f := fun k => cisternref05_at.l0 k l n ((i + 1 : Nat) : Int)) (fun k => ?_) ?_
      · simp only [cisternref05_at.l0]
        rw [if_pos c0, if_pos c1, hrd, if_neg hge, w64 _ b1]
        rfl
      · rw [hdr]
        simp only [pos, if_neg hge, List.getElem?_cons_succ]
        rw [show i + (pos (l.drop (i + 1)) n + 1) = i + 1 + pos (l.drop (i + 1)) n from by omega]
        exact hnext
theorem rat_ev (l : List Int) (n : Int) (hl : l.length ≤ 1048576) : Ev (fun k => cisternref05_at.f k l n) ((pos l n : Int), there l n) := by
  have h := rat_loop l n hl l.length 0 (by omega) (by omega) (fun j x hj => absurd hj (by omega))
  simp only [List.drop_zero, Nat.zero_add] at h
  exact h
end Go.Proofs.Ytdadggaecgkhfaa.IM
