/- Walks. -/
import Derived.Test.YtjdbnobhapfakaaDoorProg
import Derived.Test.YtjdbnobhapfakaaDoorMath
import Derived.WalkKit
import Derived.WalkSpells
import Derived.WalkLawsBesides
import Derived.Lib.Hide
namespace Go.Proofs.YtjdbnobhapfakaaDoor
open Go.RowKit
open CrcM
theorem ret_int {k : IntKind} {a b : Int} (h : a = b) : Ending.returned (.int k a) = .returned (.int k b) := by rw [h]
theorem xor64 (a b : Nat) (ha : a < 18446744073709551616) (hb : b < 18446744073709551616) : bits .xor .u64 (a : Int) (b : Int) = ((a ^^^ b : Nat) : Int) := u64_xor_nat a b ha hb
set_option maxHeartbeats 400000 in
theorem half_any (c : Nat) (w : World) (hc : c < 18446744073709551616) :
    Calls Tryd.prog 20 #[.int .u64 c] w fun e w' => e = .returned (.int .u64 (half c : Nat)) ∧ w = w' := by
  by_cases h : c % 2 = 1
  · have h1 : ((c : Int) % 2 == 1) = true := by simp; omega
    have hx : bits .xor .u64 ((c : Int) / 2) 10785157014839085493 = ((c / 2 ^^^ P : Nat) : Int) := xor64 (c / 2) P (by omega) (by decide)
    have hf : half c = (c / 2 ^^^ P) := by unfold half; rw [if_pos h]
    rw [hf]
    generalize c / 2 ^^^ P = r at *
    clear hf
    go_enter Tryd.func20, Tryd.ntmps20
    go_wp2
    go_ret
    exact ⟨rfl, rfl⟩
  · have h1 : ((c : Int) % 2 == 1) = false := by simp; omega
    have hf : half c = (c / 2) := by unfold half; rw [if_neg h]
    rw [hf]
    clear hf
    go_enter Tryd.func20, Tryd.ntmps20
    go_wp2
    go_ret
    exact ⟨rfl, rfl⟩
def Tab (w : World) : Prop := ∀ i, i < 16 → w.cell? ⟨0, i, none⟩ = some (.int .u64 (tab.getD i 0 : Nat))
set_option maxHeartbeats 400000 in
theorem upd_any (c : Nat) (s : ByteArray) (w : World) (hc : c < 18446744073709551616) (hs : s.size ≤ maxLen) (ht : Tab w) :
    Calls Tryd.prog 11 #[.int .u64 c, .string s] w fun e w' => e = .returned (.int .u64 (upd c s.data.toList : Nat)) ∧ w = w' := by
  unfold maxLen at hs
  go_enter Tryd.func11, Tryd.ntmps11
  go_wp2
  go_loop [0, 8] (fun v i => ∃ k : Nat, k ≤ s.size ∧ i = .int .i64 k ∧ v = .int .u64 (upd c (s.data.toList.take k) : Nat)) (fun _ i => s.size - (intOf i).toNat)
  case atStart => exact ⟨0, Nat.zero_le _, rfl, rfl⟩
  case round =>
    obtain ⟨k, hk, rfl, rfl⟩ := hrel
    by_cases hlt : k < s.size
    · have hcu := upd_lt (s.data.toList.take k) hc
      have hnext : upd c (s.data.toList.take (k + 1)) = byte (upd c (s.data.toList.take k)) s[k] := by
        rw [List.take_succ_eq_append_getElem (by simpa using hlt), upd_snoc]; rfl
      rw [byte_tab] at hnext
      dsimp only at hnext
      generalize upd c (s.data.toList.take k) = cu at *
      have hb := s[k].toNat_lt
      have hw : IntKind.u64.wrap (s[k].toNat : Int) = (s[k].toNat : Int) := by rw [IntKind.wrap_u64]; omega
      have hx1 := xor64 cu s[k].toNat hcu (by omega)
      have hd := Nat.xor_lt_two_pow (n := 64) hcu (show s[k].toNat < 2 ^ 64 by omega)
      generalize cu ^^^ s[k].toNat = d at *
      have ha1 : bits .and .u64 (d : Int) 15 = ((d % 16 : Nat) : Int) := by
        have := u64_and_nat d 15 hd (by decide)
        rwa [nat_mask4] at this
      have hi1 : d % 16 < 16 := by omega
      have hc1 := ht (d % 16) hi1
      have hl1 := tab_lt (d % 16)
      have hx2 : bits .xor .u64 (tab.getD (d % 16) 0 : Nat) ((d : Int) / 16) = ((tab.getD (d % 16) 0 ^^^ (d / 16) : Nat) : Int) := xor64 (tab.getD (d % 16) 0) (d / 16) hl1 (by omega)
      have he := Nat.xor_lt_two_pow (n := 64) hl1 (show d / 16 < 2 ^ 64 by omega)
      generalize hg1 : tab.getD (d % 16) 0 ^^^ (d / 16) = e at *
      generalize tab.getD (d % 16) 0 = t1 at *
      generalize d % 16 = i1 at *
      have ha2 : bits .and .u64 (e : Int) 15 = ((e % 16 : Nat) : Int) := by
        have := u64_and_nat e 15 he (by decide)
        rwa [nat_mask4] at this
      have hi2 : e % 16 < 16 := by omega
      have hc2 := ht (e % 16) hi2
      have hl2 := tab_lt (e % 16)
      have hx3 : bits .xor .u64 (tab.getD (e % 16) 0 : Nat) ((e : Int) / 16) = ((tab.getD (e % 16) 0 ^^^ (e / 16) : Nat) : Int) := xor64 (tab.getD (e % 16) 0) (e / 16) hl2 (by omega)
      have H := Lib.hid hnext
      clear hnext hg1
      generalize tab.getD (e % 16) 0 ^^^ (e / 16) = r at *
      generalize tab.getD (e % 16) 0 = t2 at *
      generalize e % 16 = i2 at *
      clear ht
      go_wp2
      go_round
      case rel => exact ⟨k + 1, by omega, by go_num, by rw [H.out]⟩
      case measure => simp [intOf]; omega
    · go_wp2
      go_ret
      exact ⟨ret_int (by rw [List.take_of_length_le (by simp; omega)]), rfl⟩
end Go.Proofs.YtjdbnobhapfakaaDoor
