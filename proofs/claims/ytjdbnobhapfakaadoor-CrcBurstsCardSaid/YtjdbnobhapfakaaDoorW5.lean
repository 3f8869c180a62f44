/- Walks of both 'times': a matrix whose rows are what N turns make of each bit answers, for a sum, what N turns make of it. -/
import Derived.Test.YtjdbnobhapfakaaDoorW4
namespace Go.Proofs.YtjdbnobhapfakaaDoor
open Go.RowKit
open CrcM
set_option linter.unusedVariables false
def Mat (w : World) (b N : Nat) : Prop := ∀ i, i < 64 → w.cell? ⟨b, i, none⟩ = some (.int .u64 (row N i : Nat))
set_option maxHeartbeats 1000000 in
theorem times_any (b N v : Nat) (w : World) (hv : v < 18446744073709551616) (hm : Mat w b N) :
    Calls Tryd.prog 21 #[.pointer (some ⟨b, 0, none⟩), .int .u64 v] w fun e w' => e = .returned (.int .u64 (halfs N v : Nat)) ∧ w = w' := by
  go_enter Tryd.func21, Tryd.ntmps21
  go_wp2
  go_loop [1, 5, 6] (fun x o i => ∃ k : Nat, k ≤ 64 ∧ i = .int .i64 k ∧ x = .int .u64 (v / 2 ^ k : Nat) ∧ o = .int .u64 (halfs N (v % 2 ^ k) : Nat)) (fun _ _ i => 64 - (intOf i).toNat)
  case atStart => exact ⟨0, Nat.zero_le _, rfl, by simp, by simp [Nat.mod_one, halfs_zero]⟩
  case round =>
    obtain ⟨k, hk, rfl, rfl, rfl⟩ := hrel
    have ho := halfs_lt N (Nat.lt_of_le_of_lt (Nat.mod_le v (2 ^ k)) hv)
    by_cases h0 : v / 2 ^ k = 0
    · have hlt : v < 2 ^ k := by
        rcases Nat.lt_or_ge v (2 ^ k) with h | h
        · exact h
        · have := Nat.div_pos h (Nat.two_pow_pos k); omega
      have hmod : v % 2 ^ k = v := Nat.mod_eq_of_lt hlt
      rw [hmod] at *
      have H0 := Lib.hid h0
      have hne : (((v / 2 ^ k : Nat) : Int) != 0) = false := by rw [h0]; rfl
      clear h0 hlt hmod
      generalize v / 2 ^ k = x at *
      go_wp2
      go_ret
      exact ⟨rfl, rfl⟩
    · have hk64 : k < 64 := by
        rcases Nat.lt_or_ge k 64 with h | h
        · exact h
        · exact absurd (Nat.div_eq_of_lt (Nat.lt_of_lt_of_le hv (by rw [show (18446744073709551616 : Nat) = 2 ^ 64 from rfl]; exact Nat.pow_le_pow_right (by decide) h))) h0
      have hx : v / 2 ^ k < 18446744073709551616 := Nat.lt_of_le_of_lt (Nat.div_le_self _ _) hv
      have hstep := times_step N v k
      have hne : (((v / 2 ^ k : Nat) : Int) != 0) = true := by rw [bne_iff_ne]; omega
      have hnx : v / 2 ^ k / 2 = v / 2 ^ (k + 1) := by rw [Nat.div_div_eq_div_mul, Nat.pow_succ]
      have HN := Lib.hid hnx
      clear hnx
      have ha : bits .and .u64 ((v / 2 ^ k : Nat) : Int) 1 = ((v / 2 ^ k % 2 : Nat) : Int) := by
        have := u64_and_nat (v / 2 ^ k) 1 hx (by decide)
        rwa [nat_mask1] at this
      have hc := hm k hk64
      have hr := row_lt N k hk64
      have hxor := xor64 _ _ ho hr
      clear hm h0
      rcases Nat.mod_two_eq_zero_or_one (v / 2 ^ k) with hb | hb
      · rw [hb, if_neg (by decide)] at hstep
        rw [hb] at ha
        have HS := Lib.hid hstep
        clear hstep hb
        generalize halfs N (v % 2 ^ k) = o at *
        generalize v / 2 ^ k = x at *
        go_wp2
        go_round
        case rel => exact ⟨k + 1, by omega, by go_num, by rw [← HN.out]; go_num, by rw [HS.out]⟩
        case measure => simp [intOf]; omega
      · rw [hb, if_pos rfl] at hstep
        rw [hb] at ha
        generalize halfs N (v % 2 ^ k) ^^^ row N k = r at *
        have HS := Lib.hid hstep
        clear hstep hb
        generalize halfs N (v % 2 ^ k) = o at *
        generalize row N k = rw' at *
        generalize v / 2 ^ k = x at *
        go_wp2
        go_round
        case rel => exact ⟨k + 1, by omega, by go_num, by rw [← HN.out]; go_num, by rw [HS.out]⟩
        case measure => simp [intOf]; omega
def mrow (N : Nat) : Array Value := ((List.range 64).map fun i => Value.int .u64 (row N i : Nat)).toArray
theorem mrow_size (N : Nat) : (mrow N).size = 64 := by simp [mrow]
theorem mrow_at (N i : Nat) (h : i < 64) : (mrow N)[i]? = some (.int .u64 (row N i : Nat)) := by simp [mrow, h]
set_option maxHeartbeats 1000000 in
theorem rtimes_any (N v : Nat) (w : World) (hv : v < 18446744073709551616) :
    Calls Tryd.prog 22 #[.agg (mrow N), .int .u64 v] w fun e w' => e = .returned (.int .u64 (halfs N v : Nat)) ∧ Below w.heap.size w w' := by
  have hat := mrow_at N
  generalize mrow N = A at *
  go_enter Tryd.func22, Tryd.ntmps22
  go_wp2
  go_loop [5, 6] (fun o i => ∃ k : Nat, k ≤ 64 ∧ i = .int .i64 k ∧ o = .int .u64 (halfs N (v % 2 ^ k) : Nat)) (fun _ i => 64 - (intOf i).toNat)
  case atStart => exact ⟨0, Nat.zero_le _, rfl, by simp [Nat.mod_one, halfs_zero]⟩
  case round =>
    obtain ⟨k, hk, rfl, rfl⟩ := hrel
    have ho := halfs_lt N (Nat.lt_of_le_of_lt (Nat.mod_le v (2 ^ k)) hv)
    by_cases hlt : k < 64
    · have hstep := times_step N v k
      have hc := hat k hlt
      have hr := row_lt N k hlt
      have hxor := xor64 _ _ ho hr
      clear hat
      have hcast : ((v : Int) / 2 ^ k).tmod 2 = ((v / 2 ^ k % 2 : Nat) : Int) := by
        rw [show ((v : Int) / 2 ^ k) = ((v / 2 ^ k : Nat) : Int) from by simp]; rfl
      rcases Nat.mod_two_eq_zero_or_one (v / 2 ^ k) with hb | hb
      · rw [hb, if_neg (by decide)] at hstep
        rw [hb] at hcast
        have HS := Lib.hid hstep
        clear hstep hb hxor
        generalize halfs N (v % 2 ^ k) = o at *
        go_wp2
        go_round
        case rel => exact ⟨k + 1, by omega, by go_num, by rw [HS.out]⟩
        case measure => simp [intOf]; omega
      · rw [hb, if_pos rfl] at hstep
        rw [hb] at hcast
        generalize halfs N (v % 2 ^ k) ^^^ row N k = r at *
        have HS := Lib.hid hstep
        clear hstep hb
        generalize halfs N (v % 2 ^ k) = o at *
        generalize row N k = rw' at *
        go_wp2
        go_round
        case rel => exact ⟨k + 1, by omega, by go_num, by rw [HS.out]⟩
        case measure => simp [intOf]; omega
    · have e : k = 64 := by omega
      subst e
      have hmod : v % 2 ^ 64 = v := Nat.mod_eq_of_lt hv
      rw [hmod]
      clear hmod
      go_wp2
      go_ret
      exact ⟨rfl, (Below.refl _ _).alloc (Nat.le_refl _) _⟩
end Go.Proofs.YtjdbnobhapfakaaDoor
