/- Walks. -/
import Derived.Test.YtjdbnobhapfakaaDoorW2
import Derived.Laws.BytesArg
import Derived.Laws.Rows
import Derived.Below
import Derived.Laws.OwnMore
namespace Go.Proofs.YtjdbnobhapfakaaDoor
open Go.RowKit
open CrcM
set_option linter.unusedVariables false
theorem read_next (s : ByteArray) (k : Nat) (hk : k < 8) (h : 8 ≤ s.size) : le (s.data.toList.drop (8 - (k + 1))) = s[7 - k].toNat + 256 * le (s.data.toList.drop (8 - k)) := by
  have e : 8 - (k + 1) = 7 - k := by omega
  have e2 : 8 - k = 7 - k + 1 := by omega
  rw [e, e2, List.drop_eq_getElem_cons (by simp; omega)]
  rfl
theorem read_no (s : ByteArray) (w : World) (h8 : s.size ≠ 8) (hs : s.size ≤ maxLen) :
    Calls Tryd.prog 14 #[.string s] w fun e w' => e = .returned (.tuple #[.int .u64 0, .bool false]) ∧ w = w' := by
  unfold maxLen at hs
  have hne : ((s.size : Int) != 8) = true := by simp; omega
  clear h8
  go_enter Tryd.func14, Tryd.ntmps14
  go_wp2
  go_ret2
  exact ⟨rfl, rfl⟩
theorem rread_no (s : ByteArray) (w : World) (h8 : s.size ≠ 8) (hs : s.size ≤ maxLen) :
    Calls Tryd.prog 15 #[.string s] w fun e w' => e = .returned (.tuple #[.int .u64 0, .bool false]) ∧ w = w' := by
  unfold maxLen at hs
  have hne : ((s.size : Int) != 8) = true := by simp; omega
  clear h8
  go_enter Tryd.func15, Tryd.ntmps15
  go_wp2
  go_ret2
  exact ⟨rfl, rfl⟩
set_option maxHeartbeats 1000000 in
theorem read_yes (s : ByteArray) (w : World) (h8 : s.size = 8) :
    Calls Tryd.prog 14 #[.string s] w fun e w' => e = .returned (.tuple #[.int .u64 (le s.data.toList : Nat), .bool true]) ∧ w = w' := by
  have hne : ((s.size : Int) != 8) = false := by simp [h8]
  have hsz1 : 8 ≤ s.size := by omega
  have hsz2 : s.size ≤ 8 := by omega
  clear h8
  go_enter Tryd.func14, Tryd.ntmps14
  go_wp2
  go_loop [4, 5] (fun v i => ∃ k : Nat, k ≤ 8 ∧ i = .int .i64 (7 - (k : Int)) ∧ v = .int .u64 (le (s.data.toList.drop (8 - k)) : Nat)) (fun _ i => (intOf i + 1).toNat)
  case atStart => exact ⟨0, by omega, rfl, by rw [List.drop_of_length_le (by simp; omega)]; rfl⟩
  case round =>
    obtain ⟨k, hk, rfl, rfl⟩ := hrel
    by_cases hlt : k < 8
    · have hl := le_lt (s.data.toList.drop (8 - k))
      generalize hcg : le (s.data.toList.drop (8 - k)) = cu at *
      have HC := Lib.hid hcg
      clear hcg
      have hlk : cu < 2 ^ 56 := Nat.lt_of_lt_of_le hl (Nat.pow_le_pow_right (by decide) (by simp; omega))
      clear hl
      have hb := s[7 - k].toNat_lt
      have hw : IntKind.u64.wrap (s[7 - k].toNat : Int) = (s[7 - k].toNat : Int) := by rw [IntKind.wrap_u64]; omega
      have hor : bits .or .u64 ((cu : Int) * 256) (s[7 - k].toNat : Int) = ((s[7 - k].toNat + 256 * cu : Nat) : Int) := by
        have := u64_or_nat (cu * 256) s[7 - k].toNat (by omega) (by omega)
        rw [nat_join 8 _ _ (by omega) (by omega)] at this
        rw [show ((cu : Int) * 256) = ((cu * 256 : Nat) : Int) from by simp, this]
        congr 1
        omega
      go_wp2
      go_round
      case rel => exact ⟨k + 1, by omega, by go_num, by rw [read_next s k hlt hsz1, HC.out]; go_num⟩
      case measure => simp [intOf]; omega
    · have e8 : k = 8 := by omega
      subst e8
      go_wp2
      go_ret2
      exact ⟨rfl, rfl⟩
set_option maxHeartbeats 1000000 in
theorem rread_yes (s : ByteArray) (w : World) (h8 : s.size = 8) :
    Calls Tryd.prog 15 #[.string s] w fun e w' => e = .returned (.tuple #[.int .u64 (le s.data.toList : Nat), .bool true]) ∧ w = w' := by
  have hne : ((s.size : Int) != 8) = false := by simp [h8]
  have hsz1 : 8 ≤ s.size := by omega
  have hsz2 : s.size ≤ 8 := by omega
  clear h8
  go_enter Tryd.func15, Tryd.ntmps15
  go_wp2
  go_loop [4, 5] (fun v i => ∃ k : Nat, k ≤ 8 ∧ i = .int .i64 (7 - (k : Int)) ∧ v = .int .u64 (le (s.data.toList.drop (8 - k)) : Nat)) (fun _ i => (intOf i + 1).toNat)
  case atStart => exact ⟨0, by omega, rfl, by rw [List.drop_of_length_le (by simp; omega)]; rfl⟩
  case round =>
    obtain ⟨k, hk, rfl, rfl⟩ := hrel
    by_cases hlt : k < 8
    · have hl := le_lt (s.data.toList.drop (8 - k))
      generalize hcg : le (s.data.toList.drop (8 - k)) = cu at *
      have HC := Lib.hid hcg
      clear hcg
      have hlk : cu < 2 ^ 56 := Nat.lt_of_lt_of_le hl (Nat.pow_le_pow_right (by decide) (by simp; omega))
      clear hl
      have hb := s[7 - k].toNat_lt
      have hw : IntKind.u64.wrap (s[7 - k].toNat : Int) = (s[7 - k].toNat : Int) := by rw [IntKind.wrap_u64]; omega
      go_wp2
      go_round
      case rel => exact ⟨k + 1, by omega, by go_num, by rw [read_next s k hlt hsz1, HC.out]; go_num⟩
      case measure => simp [intOf]; omega
    · have e8 : k = 8 := by omega
      subst e8
      go_wp2
      go_ret2
      exact ⟨rfl, rfl⟩
def txt (c k : Nat) : Array Value := ((List.range 8).map fun i => Value.int .u8 (if i < k then (c / 2 ^ (8 * i) % 256 : Nat) else (0 : Nat) : Nat)).toArray
theorem txt_size (c k : Nat) : (txt c k).size = 8 := by simp [txt]
theorem txt_at (c k : Nat) (h : k < 8) : (txt c k)[k]? = some (.int .u8 0) := by simp [txt, h]
theorem txt_next (c k : Nat) (h : k < 8) : (txt c k).setIfInBounds k (.int .u8 (c / 2 ^ (8 * k) % 256 : Nat)) = txt c (k + 1) := by
  apply Array.ext'
  apply List.ext_getElem?
  intro i
  simp only [txt, Array.toList_setIfInBounds, List.getElem?_set, List.length_map, List.length_range, List.getElem?_map]
  by_cases hi : k = i
  · subst hi; simp [h]
  · simp only [hi, if_false]
    by_cases h8 : i < 8
    · have : (i < k + 1) = (i < k) := by simp; omega
      simp [h8, this]
    · rw [List.getElem?_eq_none (by simp; omega)]; rfl
theorem txt_cells (c : Nat) (w : World) : ∀ i, i < 8 → (w.alloc (.cells (txt c 8) 39)).cell? ⟨w.heap.size, 0 + i, none⟩ = some (.int .u8 (((List.range 8).map fun i => ((c / 2 ^ (8 * i) % 256 : Nat) : Int)).getD i 0)) := by
  intro i hi
  rw [Nat.zero_add, cell_of_row _ _ _ _ _ _ (heap_alloc_new w _)]
  simp [txt, hi]
theorem str_text (c : Nat) : strOfNums ((List.range 8).map fun i => ((c / 2 ^ (8 * i) % 256 : Nat) : Int)) = ⟨(text c).toArray⟩ := by
  unfold strOfNums text
  rw [List.map_map]
  rfl
set_option maxHeartbeats 1000000 in
theorem text_any (c : Nat) (w : World) (hc : c < 18446744073709551616) :
    Calls Tryd.prog 16 #[.int .u64 c] w fun e w' => e = .returned (.string ⟨(text c).toArray⟩) ∧ Below w.heap.size w w' := by
  go_enter Tryd.func16, Tryd.ntmps16
  go_wp2
  go_loopw [5] (fun i wr => ∃ k : Nat, k ≤ 8 ∧ i = .int .i64 k ∧ wr = w.alloc (.cells (txt c k) 39)) (fun i _ => 8 - (intOf i).toNat)
  case atStart => exact ⟨0, by omega, rfl, rfl⟩
  case round =>
    obtain ⟨k, hk, rfl, rfl⟩ := hrel
    by_cases hlt : k < 8
    · have hA := txt_at c k hlt
      have hn := Lib.hid (txt_next c k hlt)
      have hsz := txt_size c k
      generalize txt c k = A at *
      go_wp2
      go_roundw
      case rel => exact ⟨k + 1, by omega, by go_num, by rw [← hn.out]; simp⟩
      case measure => simp [intOf]; omega
    · have e8 : k = 8 := by omega
      subst e8
      have hconv := run_convert_bytes_arg (P := Tryd.prog) (w.alloc (.cells (txt c 8) 39)) 27 5 Tryd.underlying27 Tryd.underlying5 w.heap.size 0 8 8 ((List.range 8).map fun i => ((c / 2 ^ (8 * i) % 256 : Nat) : Int)) rfl (txt_cells c w) 9 Tryd.underlying9
      rw [str_text c] at hconv
      generalize txt c 8 = A at *
      go_wp2
      go_ret
      exact ⟨rfl, (Below.refl _ _).alloc (Nat.le_refl _) _⟩
end Go.Proofs.YtjdbnobhapfakaaDoor
