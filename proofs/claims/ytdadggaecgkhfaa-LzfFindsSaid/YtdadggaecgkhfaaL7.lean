/- Walk of the packer's twice: a text that is one half said two times is written as one half and copies of it; conditions: within reach. -/
import Derived.Test.YtdadggaecgkhfaaL6
namespace Go.Proofs.Ytdadggaecgkhfaa.LZ
open Go.RowKit Go.Proofs.YtdadggaecgkhfaaW.PrintWords Go.Proofs.YtdadggaecgkhfaaW.PrintMore
open Go.Proofs.Ytdadggaecgkhfaa.PLzfUnpacks IM Go.Proofs.Ytdadggaecgkhfaa
set_option linter.unusedVariables false
attribute [local go_sem ↓] Go.wp_at_zero Go.wp_at_succ
attribute [local go_sem] max2_int min2_int max_two min_two
/-- how long the next copy is -/
def nxt (left : Nat) : Nat := if left - min 264 left = 1 ∨ left - min 264 left = 2 then min 264 left - 3 else min 264 left
/-- copies at one distance till so much is said -/
def tw (h : Nat) : Nat → Nat → List Int → List Int
  | 0, _, xs => xs
  | f + 1, left, xs => if left = 0 then xs else tw h f (left - nxt left) (xs ++ cp h (nxt left))
theorem nxt_ok (left : Nat) (h : 3 ≤ left) : 3 ≤ nxt left ∧ nxt left ≤ 264 ∧ nxt left ≤ left ∧ (left - nxt left = 0 ∨ 3 ≤ left - nxt left) := by
  unfold nxt
  split <;> omega
theorem cp_length (d n : Nat) : (cp d n).length ≤ 3 := by unfold cp; split <;> simp
set_option maxHeartbeats 1000000 in
set_option maxRecDepth 8000 in
theorem twice_no (w0 W : World) (g : Nat) (x : ByteArray) (hx : x.size ≤ 140737488355328) (h : x.size < 64 ∨ 8192 < x.size / 2) :
    Calls Try.prog 50 #[.pointer (some ⟨g, 0, none⟩), .string x] W fun e w' => e = .returned (.tuple #[]) ∧ ∃ n, w' = W.drewN n := by
  have e1 : Int.tdiv (x.size : Int) 2 = ((x.size / 2 : Nat) : Int) := by rw [Int.tdiv_eq_ediv_of_nonneg (by omega)]; omega
  have e2 : (x.size : Int) / 2 = ((x.size / 2 : Nat) : Int) := by omega
  rcases Nat.lt_or_ge x.size 64 with hs | hs
  · have h1 : (x.size : Int) < 64 := by omega
    have h2 : decide ((x.size : Int) < 64) = true := decide_eq_true h1
    have e3 : IntKind.i64.wrap ((x.size / 2 : Nat) : Int) = ((x.size / 2 : Nat) : Int) := by rw [IntKind.wrap_i64]; omega
    clear h hs hx
    generalize x.size / 2 = hh at *
    go_enter Try.func50, Try.ntmps50
    go_wp2_with fail
    go_quiet (fail)
    go_wp2_with fail
    ((try simp only [Exit.inBlock, Exit.then]); refine bodyPost_ret (results_none rfl _ _ _) rfl ?_)
    exact ⟨rfl, _, rfl⟩
  · have h0 : 8192 < x.size / 2 := by omega
    have h1 : ¬ ((x.size : Int) < 64) := by omega
    have h2 : decide ((x.size : Int) < 64) = false := decide_eq_false h1
    have h3 : (8192 : Int) < ((x.size / 2 : Nat) : Int) := by omega
    have h4 : decide ((8192 : Int) < ((x.size / 2 : Nat) : Int)) = true := decide_eq_true h3
    have e3 : IntKind.i64.wrap ((x.size / 2 : Nat) : Int) = ((x.size / 2 : Nat) : Int) := by rw [IntKind.wrap_i64]; omega
    have h5 : decide (x.size < 64) = false := decide_eq_false (by omega)
    have h6 : decide (8192 < x.size / 2) = true := decide_eq_true h0
    clear h hs hx
    generalize x.size / 2 = hh at *
    go_enter Try.func50, Try.ntmps50
    go_wp2_with fail
    go_quiet (fail)
    go_wp2_with fail
    ((try simp only [Exit.inBlock, Exit.then]); refine bodyPost_ret (results_none rfl _ _ _) rfl ?_)
    exact ⟨rfl, _, rfl⟩
theorem str_ne (a b : ByteArray) (h : a ≠ b) : a.toList ≠ b.toList := by
  intro e
  rw [toList_data, toList_data] at e
  exact h (ByteArray.ext (Array.toList_inj.mp e))
set_option maxHeartbeats 1000000 in
set_option maxRecDepth 8000 in
theorem twice_differs (W : World) (g : Nat) (x : ByteArray) (h1 : 64 ≤ x.size) (h2 : x.size / 2 ≤ 8192) (h : x.extract 0 (x.size / 2) ≠ x.extract (x.size - x.size / 2) x.size ∨ x.size ≠ 2 * (x.size / 2)) :
    Calls Try.prog 50 #[.pointer (some ⟨g, 0, none⟩), .string x] W fun e w' => e = .returned (.tuple #[]) ∧ ∃ n, w' = W.drewN n := by
  have e1 : Int.tdiv (x.size : Int) 2 = ((x.size / 2 : Nat) : Int) := by rw [Int.tdiv_eq_ediv_of_nonneg (by omega)]; omega
  have e2 : (x.size : Int) / 2 = ((x.size / 2 : Nat) : Int) := by omega
  have e3 : IntKind.i64.wrap ((x.size / 2 : Nat) : Int) = ((x.size / 2 : Nat) : Int) := by rw [IntKind.wrap_i64]; omega
  have e4 : IntKind.i64.wrap ((x.size : Int) - ((x.size / 2 : Nat) : Int)) = ((x.size - x.size / 2 : Nat) : Int) := by rw [IntKind.wrap_i64]; omega
  have e5 : IntKind.i64.wrap (2 * ((x.size / 2 : Nat) : Int)) = ((2 * (x.size / 2) : Nat) : Int) := by rw [IntKind.wrap_i64]; omega
  have a1 : ¬ ((x.size : Int) < 64) := by omega
  have a2 : decide ((x.size : Int) < 64) = false := decide_eq_false a1
  have a3 : decide (x.size < 64) = false := decide_eq_false (by omega)
  have b1 : ¬ ((8192 : Int) < ((x.size / 2 : Nat) : Int)) := by omega
  have b2 : decide ((8192 : Int) < ((x.size / 2 : Nat) : Int)) = false := decide_eq_false b1
  have b3 : decide (8192 < x.size / 2) = false := decide_eq_false (by omega)
  have s0 : (0 : Int) ≤ ((x.size / 2 : Nat) : Int) := by omega
  have s1 : ((x.size / 2 : Nat) : Int) ≤ (x.size : Int) := by omega
  have s2 : (0 : Int) ≤ ((x.size - x.size / 2 : Nat) : Int) := by omega
  have s3 : ((x.size - x.size / 2 : Nat) : Int) ≤ (x.size : Int) := by omega
  by_cases hd : x.extract 0 (x.size / 2) = x.extract (x.size - x.size / 2) x.size
  · have hne : x.size ≠ 2 * (x.size / 2) := h.resolve_left (fun e => e hd)
    have d1 : ((x.extract 0 (x.size / 2)).toList == (x.extract (x.size - x.size / 2) x.size).toList) = true := by rw [hd]; simp
    have d2 : ((x.extract 0 (x.size / 2)).toList != (x.extract (x.size - x.size / 2) x.size).toList) = false := by rw [hd]; simp
    have f1 : ¬ ((x.size : Int) = ((2 * (x.size / 2) : Nat) : Int)) := by omega
    have f2 : ((x.size : Int) == ((2 * (x.size / 2) : Nat) : Int)) = false := by simpa using f1
    have f3 : ((x.size : Int) != ((2 * (x.size / 2) : Nat) : Int)) = true := by simpa using f1
    clear h h1 h2 hne hd
    generalize 2 * (x.size / 2) = h2 at *
    generalize x.size - x.size / 2 = kk at *
    generalize x.size / 2 = hh at *
    go_enter Try.func50, Try.ntmps50
    go_wp2_with fail
    go_quiet (fail)
    go_wp2_with fail
    ((try simp only [Exit.inBlock, Exit.then]); refine bodyPost_ret (results_none rfl _ _ _) rfl ?_)
    exact ⟨rfl, _, rfl⟩
  · have d1 : ((x.extract 0 (x.size / 2)).toList == (x.extract (x.size - x.size / 2) x.size).toList) = false := beq_eq_false_iff_ne.mpr (str_ne _ _ hd)
    have d2 : ((x.extract 0 (x.size / 2)).toList != (x.extract (x.size - x.size / 2) x.size).toList) = true := bne_iff_ne.mpr (str_ne _ _ hd)
    clear h h1 h2 hd
    generalize x.size - x.size / 2 = kk at *
    generalize x.size / 2 = hh at *
    go_enter Try.func50, Try.ntmps50
    go_wp2_with fail
    go_quiet (fail)
    go_wp2_with fail
    ((try simp only [Exit.inBlock, Exit.then]); refine bodyPost_ret (results_none rfl _ _ _) rfl ?_)
    exact ⟨rfl, _, rfl⟩
end Go.Proofs.Ytdadggaecgkhfaa.LZ
