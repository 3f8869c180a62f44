/- Walks of the laws CrcPieces and CrcTexts: each answers true in every world that holds the table; conditions: the numbers fit their kinds, the strings together are no longer than a string may be. -/
import Derived.Test.YtjdbnobhapfakaaDoorW8
namespace Go.Proofs.YtjdbnobhapfakaaDoor
open Go.RowKit
open CrcM
set_option linter.unusedVariables false
theorem data_append (s t : ByteArray) : (s ++ t).data.toList = s.data.toList ++ t.data.toList := by simp
set_option maxHeartbeats 1000000 in
theorem law_pieces (s t : ByteArray) (w : World) (hst : s.size + t.size + 8 ≤ 9223372036854775807) (ht : Tab w) (h0 : 0 < w.heap.size) :
    Calls Tryd.prog 7 #[.string s, .string t] w fun e w' => e = .returned (.bool true) ∧ Below w.heap.size w w' := by
  have hlen : t.data.toList.length = t.size := by simp
  have ha := upd_lt s.data.toList (c := 0) (by decide)
  have hb := upd_lt t.data.toList (c := 0) (by decide)
  have hsz8 : (ByteArray.mk (text (upd 0 s.data.toList)).toArray).size = 8 := by show (text _).toArray.size = 8; simp [text_length]
  have h1 := sum_any s w (by unfold maxLen; omega) ht
  have h2 := sum_any (s ++ t) w (by unfold maxLen; simp [ByteArray.size_append]; omega) ht
  have h3 := upd_any (upd 0 s.data.toList) t w ha (by unfold maxLen; omega) ht
  have h4 := sum_any t w (by unfold maxLen; omega) ht
  have h5 := join_any (upd 0 s.data.toList) (upd 0 t.data.toList) t.size w ha hb (by omega) (by omega) ht h0
  have h6 := fun w => text_any (upd 0 s.data.toList) w ha
  have h7 := fun w (h : Tab w) => sum_any (s ++ ⟨(text (upd 0 s.data.toList)).toArray⟩) w (by unfold maxLen; rw [ByteArray.size_append, hsz8]; omega) h
  have e0 : upd 0 (s ++ ⟨(text (upd 0 s.data.toList)).toArray⟩).data.toList = 0 := by
    rw [data_append, upd_append]
    exact upd_text _ ha
  rw [Int.toNat_natCast, ← hlen, join_pieces, ← data_append] at h5
  rw [← upd_append, ← data_append] at h3
  rw [hlen] at h5
  simp only [e0] at h7
  have H1 := Lib.hid h1
  have H2 := Lib.hid h2
  have H3 := Lib.hid h3
  have H4 := Lib.hid h4
  have H5 := Lib.hid h5
  have H6 := Lib.hid h6
  have H7 := Lib.hid h7
  have HT := Lib.hid ht
  have hz1 : (s.size : Int) + 8 ≤ 9223372036854775807 := by omega
  have hz2 : (s.size : Int) + (t.size : Int) ≤ 9223372036854775807 := by omega
  have hz3 : s.size + t.size ≤ 9223372036854775807 := by omega
  have hz4 : s.size + 8 ≤ 9223372036854775807 := by omega
  clear h1 h2 h3 h4 h5 h6 h7 ht e0 hlen
  generalize upd 0 (s ++ t).data.toList = U at *
  generalize upd 0 s.data.toList = a at *
  generalize upd 0 t.data.toList = b at *
  generalize ByteArray.mk (text a).toArray = ta at *
  go_enter Tryd.func7, Tryd.ntmps7
  go_wp2_with fail
  refine H1.out.mono ?_; rintro e w1 ⟨rfl, rfl⟩
  go_wp2_with fail
  refine H2.out.mono ?_; rintro e w1 ⟨rfl, rfl⟩
  go_wp2_with fail
  refine H3.out.mono ?_; rintro e w1 ⟨rfl, rfl⟩
  go_wp2_with fail
  refine H4.out.mono ?_; rintro e w1 ⟨rfl, rfl⟩
  go_wp2_with fail
  refine H5.out.mono ?_; rintro e w1 ⟨rfl, hb1⟩
  have HT1 := Lib.hid (HT.out.below h0 hb1)
  go_wp2_with fail
  refine (H6.out w1).mono ?_; rintro e w2 ⟨rfl, hb2⟩
  have hb3 := hb1.trans (hb2.mono hb1.size)
  have HT2 := Lib.hid (HT.out.below h0 hb3)
  go_wp2_with fail
  refine (H7.out w2 HT2.out).mono ?_; rintro e w3 ⟨rfl, rfl⟩
  have H8 := Lib.hid (sure_any w2 HT2.out)
  go_wp2_with fail
  refine H8.out.mono ?_; rintro e w3 ⟨rfl, hb4⟩
  go_wp2_with fail
  go_ret
  exact ⟨rfl, hb3.trans (hb4.mono hb3.size)⟩
set_option maxHeartbeats 1000000 in
theorem law_texts (c : Nat) (s : ByteArray) (w : World) (hc : c < 18446744073709551616) (hs : s.size ≤ maxLen) (ht : Tab w) (h0 : 0 < w.heap.size) :
    Calls Tryd.prog 5 #[.int .u64 c, .string s] w fun e w' => e = .returned (.bool true) ∧ Below w.heap.size w w' := by
  have hsz8 : (ByteArray.mk (text c).toArray).size = 8 := by show (text _).toArray.size = 8; simp [text_length]
  have h3 := fun w => read_yes ⟨(text c).toArray⟩ w hsz8
  have e3 : le (ByteArray.mk (text c).toArray).data.toList = c := le_text c hc
  simp only [e3] at h3
  have h1 : ∃ (x : Nat) (b : Bool), (Calls Tryd.prog 14 #[.string s] w fun e w' => e = .returned (.tuple #[.int .u64 (x : Nat), .bool b]) ∧ w = w') ∧ (Calls Tryd.prog 15 #[.string s] w fun e w' => e = .returned (.tuple #[.int .u64 (x : Nat), .bool b]) ∧ w = w') := by
    by_cases h8 : s.size = 8
    · exact ⟨_, _, read_yes s w h8, rread_yes s w h8⟩
    · exact ⟨0, false, read_no s w h8 hs, rread_no s w h8 hs⟩
  obtain ⟨x, b, h1, h2⟩ := h1
  have H1 := Lib.hid h1
  have H2 := Lib.hid h2
  have H3 := Lib.hid h3
  have H4 := Lib.hid (fun w => text_any c w hc)
  have H5 := Lib.hid (fun w => rtext_any c w hc)
  have HT := Lib.hid ht
  clear h1 h2 h3 e3 ht
  generalize ByteArray.mk (text c).toArray = tc at *
  go_enter Tryd.func5, Tryd.ntmps5
  go_wp2_with fail
  refine H1.out.mono ?_; rintro e w1 ⟨rfl, rfl⟩
  go_wp2_with fail
  refine H2.out.mono ?_; rintro e w1 ⟨rfl, rfl⟩
  go_wp2_with fail
  refine (H4.out _).mono ?_; rintro e w1 ⟨rfl, hb1⟩
  go_wp2_with fail
  refine (H3.out _).mono ?_; rintro e w2 ⟨rfl, rfl⟩
  go_wp2_with fail
  refine (H4.out _).mono ?_; rintro e w2 ⟨rfl, hb2⟩
  have hb3 := hb1.trans (hb2.mono hb1.size)
  go_wp2_with fail
  refine (H5.out _).mono ?_; rintro e w3 ⟨rfl, hb4⟩
  have hb5 := hb3.trans (hb4.mono hb3.size)
  have H8 := Lib.hid (sure_any w3 (HT.out.below h0 hb5))
  go_wp2_with fail
  refine H8.out.mono ?_; rintro e w4 ⟨rfl, hb6⟩
  go_wp2_with fail
  go_ret
  exact ⟨rfl, hb5.trans (hb6.mono hb5.size)⟩
end Go.Proofs.YtjdbnobhapfakaaDoor
