/- Walks of the program's needs, find and what they call: what each call answers; conditions as typed. -/
import Derived.Test.YtdadggaecgkhfaaIM2
import Derived.WalkKit
import Derived.WalkSpells
import Derived.WalkLawsBesides
import Derived.Lib.Hide
import Derived.Deep.RegionHeld3
import Derived.Deep.DrawnRows
import Derived.Deep.QuietTactic
import Derived.BigQuiet
namespace Go.Proofs.Ytdadggaecgkhfaa
open Go.RowKit Go.Proofs.YtdadggaecgkhfaaW.PrintWords Go.Proofs.YtdadggaecgkhfaaW.PrintMore
open IM PIntsetPlays
set_option linter.unusedVariables false
attribute [local go_sem ↓] Go.wp_at_zero Go.wp_at_succ
theorem ret_int {k : IntKind} {a b : Int} (h : a = b) : Ending.returned (.int k a) = .returned (.int k b) := by rw [h]
theorem at_any (p : ByteArray) (w n i : Nat) (hw : w = 2 ∨ w = 4 ∨ w = 8) (h : 8 + (i + 1) * w ≤ p.size) (hp : p.size ≤ 140737488355328) (W : World) :
    Calls Try.prog 42 #[.agg #[.string p, .int .i64 w, .int .i64 n], .int .i64 i] W fun e w' => e = .returned (.int .i64 (el p w i)) ∧ Below W.heap.size W w' := by
  obtain ⟨k, hk⟩ := (at_ev p w n i hw h hp).rounds
  exact intset_set_at.calls k p w n i _ W hk
set_option maxHeartbeats 400000 in
theorem needs_any (n : Int) (w : World) (h1 : -9223372036854775808 ≤ n) (h2 : n ≤ 9223372036854775807) :
    Calls Try.prog 40 #[.int .i64 n] w fun e w' => e = .returned (.int .i64 (needsI n : Nat)) ∧ w = w' := by
  have i0 : ∀ w, (Instr.index 79 (.agg #[.int .i64 2, .int .i64 4]) (.int .i64 0)).run Try.prog w = .ok (.int .i64 2) w := fun _ => by kernel_rfl
  have i1 : ∀ w, (Instr.index 79 (.agg #[.int .i64 2, .int .i64 4]) (.int .i64 1)).run Try.prog w = .ok (.int .i64 4) w := fun _ => by kernel_rfl
  have e2 : (-32768 ≤ n ∧ n ≤ 32767) → needsI n = 2 := fun h => by unfold needsI; rw [if_pos h]
  have e4 : ¬ (-32768 ≤ n ∧ n ≤ 32767) → (-2147483648 ≤ n ∧ n ≤ 2147483647) → needsI n = 4 := fun h h' => by unfold needsI; rw [if_neg h, if_pos h']
  have e8 : ¬ (-32768 ≤ n ∧ n ≤ 32767) → ¬ (-2147483648 ≤ n ∧ n ≤ 2147483647) → needsI n = 8 := fun h h' => by unfold needsI; rw [if_neg h, if_neg h']
  go_enter Try.func40, Try.ntmps40
  go_wp2
  go_loop [7] (fun i => ∃ k : Nat, k ≤ 2 ∧ i = .int .i64 k ∧ (1 ≤ k → ¬ (-32768 ≤ n ∧ n ≤ 32767)) ∧ (2 ≤ k → ¬ (-2147483648 ≤ n ∧ n ≤ 2147483647))) (fun i => 2 - (intOf i).toNat)
  case atStart => exact ⟨0, by omega, rfl, fun h => absurd h (by omega), fun h => absurd h (by omega)⟩
  case round =>
    obtain ⟨k, hk, rfl, hk1, hk2⟩ := hrel
    match k, hk with
    | 0, _ =>
      clear hk1 hk2 e8
      by_cases hin : -32768 ≤ n ∧ n ≤ 32767
      · have h := e2 hin
        obtain ⟨hl, hr⟩ := hin
        have hr' : n < 32768 := by omega
        have H := Lib.hid h
        clear e2 e4 h
        go_wp2
        go_ret
        exact ⟨ret_int (by rw [H.out]; rfl), rfl⟩
      · have HN := Lib.hid hin
        by_cases hl : -32768 ≤ n
        · have hr : ¬ (n < 32768) := by omega
          clear hin e2 e4
          go_wp2
          go_round
          case rel => exact ⟨1, by omega, rfl, fun _ => HN.out, fun h => absurd h (by omega)⟩
          case measure => simp [intOf]
        · clear hin e2 e4
          go_wp2
          go_round
          case rel => exact ⟨1, by omega, rfl, fun _ => HN.out, fun h => absurd h (by omega)⟩
          case measure => simp [intOf]
    | 1, _ =>
      have hn1 := hk1 (by omega)
      have HN1 := Lib.hid hn1
      have e4' := e4 hn1
      clear hk1 hk2 e8 e2 e4 hn1
      by_cases hin : -2147483648 ≤ n ∧ n ≤ 2147483647
      · have h := e4' hin
        obtain ⟨hl, hr⟩ := hin
        have hr' : n < 2147483648 := by omega
        have H := Lib.hid h
        clear e4' h
        go_wp2
        go_ret
        exact ⟨ret_int (by rw [H.out]; rfl), rfl⟩
      · have HN := Lib.hid hin
        by_cases hl : -2147483648 ≤ n
        · have hr : ¬ (n < 2147483648) := by omega
          clear hin e4'
          go_wp2
          go_round
          case rel => exact ⟨2, by omega, rfl, fun _ => HN1.out, fun _ => HN.out⟩
          case measure => simp [intOf]
        · clear hin e4'
          go_wp2
          go_round
          case rel => exact ⟨2, by omega, rfl, fun _ => HN1.out, fun _ => HN.out⟩
          case measure => simp [intOf]
    | 2, _ =>
      have h := e8 (hk1 (by omega)) (hk2 (by omega))
      have H := Lib.hid h
      clear h e2 e4 e8 hk1 hk2
      go_wp2
      go_ret
      exact ⟨ret_int (by rw [H.out]; rfl), rfl⟩
end Go.Proofs.Ytdadggaecgkhfaa
