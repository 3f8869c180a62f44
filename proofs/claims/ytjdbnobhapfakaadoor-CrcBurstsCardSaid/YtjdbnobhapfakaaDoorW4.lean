/- Walk of the reference's Text: the eight bytes of a sum, appended one by one; condition: the sum fits 64 bits. -/
import Derived.Test.YtjdbnobhapfakaaDoorW3
import Derived.Laws.AppendOwn
import Derived.Deep.AppendLies
import Derived.OwnWalk
import Derived.Maps.AppendAt
namespace Go.Proofs.YtjdbnobhapfakaaDoor
open Go.RowKit
open CrcM
set_option linter.unusedVariables false
theorem info5 : (Tryd.prog.info? 5).map (fun i => (i.zero, i.size, i.bytes)) = some (some (.int .u8 0), 1, 1) := by kernel_rfl
/-- the first k bytes as numbers -/
def nums (c k : Nat) : List Value := (List.range k).map fun i => Value.int .u8 (c / 2 ^ (8 * i) % 256 : Nat)
theorem nums_length (c k : Nat) : (nums c k).length = k := by simp [nums]
theorem nums_next (c k : Nat) : nums c (k + 1) = nums c k ++ [Value.int .u8 (c / 2 ^ (8 * k) % 256 : Nat)] := by simp [nums, List.range_succ]
theorem nums_get (c i : Nat) (h : i < 8) : (nums c 8)[i]? = some (.int .u8 (((List.range 8).map fun i => ((c / 2 ^ (8 * i) % 256 : Nat) : Int)).getD i 0)) := by simp [nums, h]
set_option maxHeartbeats 1000000 in
theorem rtext_any (c : Nat) (w : World) (hc : c < 18446744073709551616) :
    Calls Tryd.prog 17 #[.int .u64 c] w fun e w' => e = .returned (.string ⟨(text c).toArray⟩) ∧ Below w.heap.size w w' := by
  obtain ⟨i0, hi, hz0, hz1, hz2⟩ := info_parts info5
  go_enter Tryd.func17, Tryd.ntmps17
  go_wp2
  go_loopw [0, 3, 4] (fun cv v i wr => ∃ k : Nat, k ≤ 8 ∧ i = .int .i64 k ∧ cv = .int .u64 (c / 2 ^ (8 * k) : Nat) ∧ wr.ownsRow w.heap.size 5 1 v k (nums c k) ∧ Below w.heap.size w wr) (fun _ _ i _ => 8 - (intOf i).toNat)
  case atStart => exact ⟨0, by omega, rfl, by simp, ⟨by simp [nums], .inl ⟨rfl, rfl⟩⟩, Below.refl _ _⟩
  case round =>
    obtain ⟨k, hk, rfl, rfl, hown, hb⟩ := hrel
    by_cases hlt : k < 8
    · have hn := Lib.hid (nums_next c k)
      have hdv : c / 2 ^ (8 * k) / 256 = c / 2 ^ (8 * (k + 1)) := by rw [Nat.div_div_eq_div_mul, Nat.mul_add, Nat.pow_add]
      have hD := Lib.hid hdv
      clear hdv
      have hlx : c / 2 ^ (8 * k) < 18446744073709551616 := Nat.lt_of_le_of_lt (Nat.div_le_self _ _) hc
      generalize c / 2 ^ (8 * k) = x at *
      have hsz := hb.size
      go_wp2_with (at_builtin; refine wpList_append_own _ rfl _ _ 27 rfl w.heap.size 5 i0 (.int .u8 0) 1 1 Tryd.underlying27 hi hz0 hz1 hz2 rfl (by decide) _ _ _ rfl (hown.alloc _) ⟨wr.heap.size, 0, none⟩ 1 1 [.int .u8 (x % 256 : Nat)] rfl rfl ?c1 ?c2 ?c3 ?c4 ?c5 ?_)
      case c1 => exact cell_one_new _ _ _
      case c2 => intro u hu; simp at hu; subst hu; rfl
      case c3 => unfold maxLen; omega
      case c4 => omega
      case c5 => simp; omega
      intro v' w1 hown1 hg1 _
      have hb1 := (hb.alloc hsz _).grown hg1 (by simp; omega) (fun k h => (hown.lt k h).1)
      clear hg1 hown hb
      go_wp2
      go_roundw
      case rel => exact ⟨k + 1, by omega, by go_num, by rw [← hD.out]; go_num, by rw [hn.out]; exact hown1, hb1⟩
      case measure => simp [intOf]; omega
    · have e8 : k = 8 := by omega
      subst e8
      obtain ⟨g, cap, rfl, hg1, hg2⟩ := hown.form (by decide)
      have hconv := run_convert_bytes_arg (P := Tryd.prog) wr 27 5 Tryd.underlying27 Tryd.underlying5 g 0 8 cap ((List.range 8).map fun i => ((c / 2 ^ (8 * i) % 256 : Nat) : Int)) rfl (fun i hi8 => by rw [Nat.zero_add, hown.cellAt i (by omega)]; exact nums_get c i hi8) 9 Tryd.underlying9
      rw [str_text c] at hconv
      clear hown
      go_wp2
      go_ret
      exact ⟨rfl, hb⟩
end Go.Proofs.YtjdbnobhapfakaaDoor
