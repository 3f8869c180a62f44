/- Walks of the reference's Update, of both Sums, both Reads, both Texts: what each call answers; conditions as typed. -/
import Derived.Test.YtjdbnobhapfakaaDoorW1
namespace Go.Proofs.YtjdbnobhapfakaaDoor
open Go.RowKit
open CrcM
set_option maxHeartbeats 1000000 in
theorem rupd_any (c : Nat) (s : ByteArray) (w : World) (hc : c < 18446744073709551616) (hs : s.size ≤ maxLen) :
    Calls Tryd.prog 12 #[.int .u64 c, .string s] w fun e w' => e = .returned (.int .u64 (upd c s.data.toList : Nat)) ∧ w = w' := by
  unfold maxLen at hs
  go_enter Tryd.func12, Tryd.ntmps12
  go_wp2
  go_loop [0, 5] (fun v i => ∃ k : Nat, k ≤ s.size ∧ i = .int .i64 k ∧ v = .int .u64 (upd c (s.data.toList.take k) : Nat)) (fun _ i => s.size - (intOf i).toNat)
  case atStart => exact ⟨0, Nat.zero_le _, rfl, rfl⟩
  case round =>
    obtain ⟨k, hk, rfl, rfl⟩ := hrel
    by_cases hlt : k < s.size
    · have hcu := upd_lt (s.data.toList.take k) hc
      have hnext : upd c (s.data.toList.take (k + 1)) = byte (upd c (s.data.toList.take k)) s[k] := by
        rw [List.take_succ_eq_append_getElem (by simpa using hlt), upd_snoc]; rfl
      unfold byte at hnext
      generalize upd c (s.data.toList.take k) = cu at *
      have hb := s[k].toNat_lt
      have hw : IntKind.u64.wrap (s[k].toNat : Int) = (s[k].toNat : Int) := by rw [IntKind.wrap_u64]; omega
      have hx1 := xor64 cu s[k].toNat hcu (by omega)
      have hd := Nat.xor_lt_two_pow (n := 64) hcu (show s[k].toNat < 2 ^ 64 by omega)
      have H := Lib.hid hnext
      clear hnext
      generalize cu ^^^ s[k].toNat = d at *
      go_wp2
      go_loop [0, 6] (fun v i => ∃ j : Nat, j ≤ 8 ∧ i = .int .i64 j ∧ v = .int .u64 (halfs j d : Nat)) (fun _ i => 8 - (intOf i).toNat)
      case atStart => exact ⟨0, Nat.zero_le _, rfl, rfl⟩
      case round =>
        obtain ⟨j, hj, rfl, rfl⟩ := hrel
        by_cases hjl : j < 8
        · have hh := halfs_lt j hd
          have hs1 := Lib.hid (halfs_succ j d)
          generalize halfs j d = x at *
          go_wp2_with (go_at_call 20; refine (half_any _ _ hh).mono ?_; rintro e w' ⟨rfl, rfl⟩)
          go_round
          case rel => exact ⟨j + 1, by omega, by go_num, by rw [hs1.out]⟩
          case measure => simp [intOf]; omega
        · have e8 : j = 8 := by omega
          subst e8
          go_wp2
          go_round
          case rel => exact ⟨k + 1, by omega, by go_num, by rw [H.out]⟩
          case measure => simp [intOf]; omega
    · go_wp2
      go_ret
      exact ⟨ret_int (by rw [List.take_of_length_le (by simp; omega)]), rfl⟩
theorem sum_any (s : ByteArray) (w : World) (hs : s.size ≤ maxLen) (ht : Tab w) :
    Calls Tryd.prog 9 #[.string s] w fun e w' => e = .returned (.int .u64 (upd 0 s.data.toList : Nat)) ∧ w = w' := by
  go_enter Tryd.func9, Tryd.ntmps9
  go_wp2_with (go_at_call 11; refine (upd_any 0 _ _ (by decide) hs ht).mono ?_; rintro e w' ⟨rfl, rfl⟩)
  go_ret
  exact ⟨rfl, rfl⟩
theorem rsum_any (s : ByteArray) (w : World) (hs : s.size ≤ maxLen) :
    Calls Tryd.prog 10 #[.string s] w fun e w' => e = .returned (.int .u64 (upd 0 s.data.toList : Nat)) ∧ w = w' := by
  go_enter Tryd.func10, Tryd.ntmps10
  go_wp2_with (go_at_call 12; refine (rupd_any 0 _ _ (by decide) hs).mono ?_; rintro e w' ⟨rfl, rfl⟩)
  go_ret
  exact ⟨rfl, rfl⟩
end Go.Proofs.YtjdbnobhapfakaaDoor
