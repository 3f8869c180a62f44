/- Walks of 'sure' and of five laws on the sum: each answers true in every world that holds the table; conditions: the numbers fit their kinds, the strings' sizes are Go's. -/
import Derived.Test.YtjdbnobhapfakaaDoorW7
namespace Go.Proofs.YtjdbnobhapfakaaDoor
open Go.RowKit
open CrcM
set_option linter.unusedVariables false
theorem Tab.below {w w' : World} (h : Tab w) (h0 : 0 < w.heap.size) (hb : Below w.heap.size w w') : Tab w' := fun i hi => by
  rw [hb.cell (by exact h0)]; exact h i hi
theorem check1 : upd 0 (ByteArray.mk #[49, 50, 51, 52, 53, 54, 55, 56, 57]).data.toList = 16845390139448941002 := by decide +kernel
theorem check2 : text 258 = [2, 1, 0, 0, 0, 0, 0, 0] := by decide +kernel
set_option maxHeartbeats 1000000 in
theorem sure_any (w : World) (ht : Tab w) :
    Calls Tryd.prog 13 #[] w fun e w' => e = .returned (.bool true) ∧ Below w.heap.size w w' := by
  have h1 := sum_any ⟨#[49, 50, 51, 52, 53, 54, 55, 56, 57]⟩ w (by decide) ht
  rw [check1] at h1
  have H1 := Lib.hid h1
  have h2 := sum_any ⟨#[]⟩ w (by decide) ht
  have H2 := Lib.hid h2
  have h3 := text_any 258 w (by decide)
  rw [check2] at h3
  have H3 := Lib.hid h3
  clear h1 h2 h3
  go_enter Tryd.func13, Tryd.ntmps13
  go_wp2_with fail
  refine H1.out.mono ?_; rintro e w' ⟨rfl, rfl⟩
  go_wp2_with fail
  refine H2.out.mono ?_; rintro e w' ⟨rfl, rfl⟩
  go_wp2_with fail
  refine H3.out.mono ?_; rintro e w' ⟨rfl, hb⟩
  go_wp2_with fail
  go_ret
  exact ⟨rfl, hb⟩
set_option maxHeartbeats 1000000 in
theorem law_sums (c : Nat) (s : ByteArray) (w : World) (hc : c < 18446744073709551616) (hs : s.size ≤ maxLen) (ht : Tab w) :
    Calls Tryd.prog 3 #[.int .u64 c, .string s] w fun e w' => e = .returned (.bool true) ∧ Below w.heap.size w w' := by
  have H1 := Lib.hid (sum_any s w hs ht)
  have H2 := Lib.hid (rsum_any s w hs)
  have H3 := Lib.hid (upd_any c s w hc hs ht)
  have H4 := Lib.hid (rupd_any c s w hc hs)
  have H5 := Lib.hid (sure_any w ht)
  clear ht
  go_enter Tryd.func3, Tryd.ntmps3
  go_wp2_with (first | (go_at_call 9; refine H1.out.mono ?_; rintro e w' ⟨rfl, rfl⟩) | (go_at_call 10; refine H2.out.mono ?_; rintro e w' ⟨rfl, rfl⟩) | (go_at_call 11; refine H3.out.mono ?_; rintro e w' ⟨rfl, rfl⟩) | (go_at_call 12; refine H4.out.mono ?_; rintro e w' ⟨rfl, rfl⟩) | (go_at_call 13; refine H5.out.mono ?_; rintro e w' ⟨rfl, hb⟩))
  go_ret
  exact ⟨rfl, hb⟩
set_option maxHeartbeats 1000000 in
theorem law_joins (a b : Nat) (n : Int) (w : World) (ha : a < 18446744073709551616) (hb : b < 18446744073709551616) (hn1 : -9223372036854775808 ≤ n) (hn2 : n ≤ 9223372036854775807) (ht : Tab w) (h0 : 0 < w.heap.size) :
    Calls Tryd.prog 6 #[.int .u64 a, .int .u64 b, .int .i64 n] w fun e w' => e = .returned (.bool true) ∧ Below w.heap.size w w' := by
  have H1 := Lib.hid (join_any a b n w ha hb hn1 hn2 ht h0)
  have H2 := fun w => Lib.hid (rjoin_any a b n w ha hb hn1 hn2)
  have HT := Lib.hid ht
  clear ht
  go_enter Tryd.func6, Tryd.ntmps6
  go_wp2_with fail
  refine H1.out.mono ?_; rintro e w1 ⟨rfl, hb1⟩
  have HT1 := Lib.hid (HT.out.below h0 hb1)
  go_wp2_with fail
  refine (H2 w1).out.mono ?_; rintro e w2 ⟨rfl, hb2⟩
  have hb3 := hb1.trans (hb2.mono hb1.size)
  have hT2 := HT.out.below h0 hb3
  have H3 := Lib.hid (sure_any w2 hT2)
  clear hT2
  go_wp2_with fail
  refine H3.out.mono ?_; rintro e w3 ⟨rfl, hb4⟩
  go_wp2_with fail
  go_ret
  exact ⟨rfl, hb3.trans (hb4.mono hb3.size)⟩
set_option maxHeartbeats 1000000 in
theorem law_linear (a b : Nat) (s : ByteArray) (w : World) (ha : a < 18446744073709551616) (hb : b < 18446744073709551616) (hs : s.size ≤ maxLen) (ht : Tab w) (h0 : 0 < w.heap.size) :
    Calls Tryd.prog 8 #[.int .u64 a, .int .u64 b, .string s] w fun e w' => e = .returned (.bool true) ∧ Below w.heap.size w w' := by
  have hab : a ^^^ b < 18446744073709551616 := Nat.xor_lt_two_pow (n := 64) ha hb
  have hs' : (s.size : Int) ≤ 9223372036854775807 := by unfold maxLen at hs; omega
  have H1 := Lib.hid (upd_any a s w ha hs ht)
  have H2 := Lib.hid (upd_any b s w hb hs ht)
  have h3 := join_any (a ^^^ b) 0 s.size w hab (by decide) (by omega) hs' ht h0
  have hl := join_linear a b s.data.toList
  have hsz : s.data.toList.length = s.size := by simp
  rw [hsz] at hl
  rw [Int.toNat_natCast, ← hl] at h3
  have H3 := Lib.hid h3
  have hx1 := xor64 (upd a s.data.toList) (upd b s.data.toList) (upd_lt _ ha) (upd_lt _ hb)
  have hx2 := xor64 a b ha hb
  have HT := Lib.hid ht
  clear h3 hl hsz ht
  generalize a ^^^ b = x at *
  go_enter Tryd.func8, Tryd.ntmps8
  go_wp2_with fail
  refine H1.out.mono ?_; rintro e w1 ⟨rfl, rfl⟩
  go_wp2_with fail
  refine H2.out.mono ?_; rintro e w1 ⟨rfl, rfl⟩
  go_wp2_with fail
  refine H3.out.mono ?_; rintro e w1 ⟨rfl, hb1⟩
  have H4 := Lib.hid (sure_any w1 (HT.out.below h0 hb1))
  go_wp2_with fail
  refine H4.out.mono ?_; rintro e w2 ⟨rfl, hb2⟩
  go_wp2_with fail
  go_ret
  exact ⟨rfl, hb1.trans (hb2.mono hb1.size)⟩
end Go.Proofs.YtjdbnobhapfakaaDoor
