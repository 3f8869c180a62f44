/- Walks of the program's Has and Range: what each call answers; conditions: none. -/
import Derived.Test.YtdadggaecgkhfaaH8
import Derived.Test.YtdadggaecgkhfaaIM3
namespace Go.Proofs.Ytdadggaecgkhfaa
open Go.RowKit Go.Proofs.YtdadggaecgkhfaaW.PrintWords Go.Proofs.YtdadggaecgkhfaaW.PrintMore
open IM PIntsetPlays
set_option linter.unusedVariables false
attribute [local go_sem ↓] Go.wp_at_zero Go.wp_at_succ
set_option maxHeartbeats 1000000 in
theorem has_any (p : ByteArray) (x : Int) (w : World) :
    Calls Try.prog 20 #[.string p, .int .i64 x] w fun e w' => e = .returned (.bool (hasS p x)) ∧ Below w.heap.size w w' := by
  by_cases hg : IM.Good p
  · have hS : hasS p x = there (els p) x := by unfold hasS; rw [if_pos hg]
    rw [hS]
    clear hS
    have HR := Lib.hid (fun w => read_any p hg w)
    have HFI := Lib.hid (fun w => find_any p x hg w)
    clear hg
    go_enter Try.func20, Try.ntmps20
    go_wp2_with fail
    refine (HR.out _).mono ?_
    rintro e w1 ⟨rfl, hb1⟩
    have hb2 := hb1.alloc hb1.size (.cells #[.string p, .int .i64 (IM.W p : Nat), .int .i64 (IM.N p : Nat)] 58)
    have F1 := Lib.hid hb2
    clear hb1 hb2
    go_wp2_with fail
    refine (HFI.out _).mono ?_
    rintro e w2 ⟨rfl, hb4⟩
    have hb5 := F1.out.trans (hb4.mono F1.out.size)
    have F2 := Lib.hid hb5
    clear hb4 hb5
    go_wp2
    go_ret
    exact ⟨rfl, F2.out⟩
  · have hS : hasS p x = false := by unfold hasS; rw [if_neg hg]
    rw [hS]
    clear hS
    have HR := Lib.hid (fun w => read_bad p hg w)
    clear hg
    go_enter Try.func20, Try.ntmps20
    go_wp2_with fail
    refine (HR.out _).mono ?_
    rintro e w1 ⟨rfl, hb1⟩
    go_wp2_with fail
    go_ret
    exact ⟨rfl, hb1.alloc hb1.size _⟩
set_option maxHeartbeats 1000000 in
theorem range_any (p : ByteArray) (a b : Int) (w : World) :
    Calls Try.prog 30 #[.string p, .int .i64 a, .int .i64 b] w fun e w' => e = .returned (.tuple #[.int .i64 (rangeS p a b).1, .int .i64 (rangeS p a b).2]) ∧ Below w.heap.size w w' := by
  by_cases hg : IM.Good p
  · by_cases hab : a ≤ b
    · have hS : rangeS p a b = ((pos (els p) a : Int), ((upto (els p) b : Int) - (pos (els p) a : Int))) := by unfold rangeS; rw [if_pos ⟨hg, hab⟩]
      rw [hS]
      clear hS
      have HR := Lib.hid (fun w => read_any p hg w)
      have HFI := Lib.hid (fun w => find_any p a hg w)
      have HFJ := Lib.hid (fun w => find_any p b hg w)
      have hpu := pos_upto _ (els_sorted p hg) a b hab
      have hu := upto_le (els p) b
      have hl := els_le p hg
      have hpl := pos_le (els p) b
      have hd : decide (b < a) = false := decide_eq_false (by omega)
      have hsub : IntKind.i64.wrap ((upto (els p) b : Int) - (pos (els p) a : Int)) = ((upto (els p) b : Int) - (pos (els p) a : Int)) := by rw [IntKind.wrap_i64]; omega
      by_cases ht : there (els p) b = true
      · have e1 : (upto (els p) b : Int) = ((pos (els p) b : Nat) : Int) + 1 := by unfold upto; rw [if_pos ht]; omega
        have hw : IntKind.i64.wrap (((pos (els p) b : Nat) : Int) + 1) = (upto (els p) b : Int) := by rw [e1, IntKind.wrap_i64]; omega
        rw [ht] at HFJ
        clear hpu hu hl hpl e1 hg ht hab
        generalize (upto (els p) b) = u at *
        generalize (pos (els p) b) = j at *
        generalize (pos (els p) a) = i at *
        go_enter Try.func30, Try.ntmps30
        go_wp2_with fail
        refine (HR.out _).mono ?_
        rintro e w1 ⟨rfl, hb1⟩
        have hb2 := hb1.alloc hb1.size (.cells #[.string p, .int .i64 (IM.W p : Nat), .int .i64 (IM.N p : Nat)] 58)
        have hA : SetIn (w1.alloc (.cells #[.string p, .int .i64 (IM.W p : Nat), .int .i64 (IM.N p : Nat)] 58)) w1.heap.size p := Blk.new w1 58 _
        have F1 := Lib.hid (And.intro hb2 hA)
        clear hb1 hb2 hA
        go_wp2_with fail
        refine (HFI.out _).mono ?_
        rintro e w2 ⟨rfl, hb4⟩
        have hb5 := F1.out.1.trans (hb4.mono F1.out.1.size)
        have hA2 : SetIn w2 w1.heap.size p := Blk.below F1.out.2 hb4 (Blk.lt F1.out.2)
        have F2 := Lib.hid hb5
        have c0 := hA2.c0
        have c1 := hA2.c1
        have c2 := hA2.c2
        clear hb4 hb5 hA2
        go_wp2_with fail
        refine (HFJ.out _).mono ?_
        rintro e w3 ⟨rfl, hb6⟩
        have hb7 := F2.out.trans (hb6.mono F2.out.size)
        have F3 := Lib.hid hb7
        clear hb6 hb7
        go_wp2_with fail
        go_ret2
        exact ⟨by first | rfl | simp [*], F3.out⟩
      · have e1 : (upto (els p) b : Int) = ((pos (els p) b : Nat) : Int) := by unfold upto; rw [if_neg ht]; omega
        replace ht := Bool.eq_false_iff.mpr ht
        rw [ht] at HFJ
        rw [e1] at hsub ⊢
        clear hpu hu hl hpl e1 hg ht hab
        generalize (pos (els p) b) = j at *
        generalize (pos (els p) a) = i at *
        go_enter Try.func30, Try.ntmps30
        go_wp2_with fail
        refine (HR.out _).mono ?_
        rintro e w1 ⟨rfl, hb1⟩
        have hb2 := hb1.alloc hb1.size (.cells #[.string p, .int .i64 (IM.W p : Nat), .int .i64 (IM.N p : Nat)] 58)
        have hA : SetIn (w1.alloc (.cells #[.string p, .int .i64 (IM.W p : Nat), .int .i64 (IM.N p : Nat)] 58)) w1.heap.size p := Blk.new w1 58 _
        have F1 := Lib.hid (And.intro hb2 hA)
        clear hb1 hb2 hA
        go_wp2_with fail
        refine (HFI.out _).mono ?_
        rintro e w2 ⟨rfl, hb4⟩
        have hb5 := F1.out.1.trans (hb4.mono F1.out.1.size)
        have hA2 : SetIn w2 w1.heap.size p := Blk.below F1.out.2 hb4 (Blk.lt F1.out.2)
        have F2 := Lib.hid hb5
        have c0 := hA2.c0
        have c1 := hA2.c1
        have c2 := hA2.c2
        clear hb4 hb5 hA2
        go_wp2_with fail
        refine (HFJ.out _).mono ?_
        rintro e w3 ⟨rfl, hb6⟩
        have hb7 := F2.out.trans (hb6.mono F2.out.size)
        have F3 := Lib.hid hb7
        clear hb6 hb7
        go_wp2_with fail
        go_ret2
        exact ⟨by first | rfl | simp [*], F3.out⟩
    · have hS : rangeS p a b = (0, 0) := by unfold rangeS; rw [if_neg (fun e => hab e.2)]
      rw [hS]
      clear hS
      have HR := Lib.hid (fun w => read_any p hg w)
      have hd : decide (b < a) = true := decide_eq_true (by omega)
      clear hg hab
      go_enter Try.func30, Try.ntmps30
      go_wp2_with fail
      refine (HR.out _).mono ?_
      rintro e w1 ⟨rfl, hb1⟩
      have hb2 := hb1.alloc hb1.size (.cells #[.string p, .int .i64 (IM.W p : Nat), .int .i64 (IM.N p : Nat)] 58)
      have F1 := Lib.hid hb2
      clear hb1 hb2
      go_wp2_with fail
      go_ret2
      exact ⟨rfl, F1.out⟩
  · have hS : rangeS p a b = (0, 0) := by unfold rangeS; rw [if_neg (fun e => hg e.1)]
    rw [hS]
    clear hS
    have HR := Lib.hid (fun w => read_bad p hg w)
    clear hg
    go_enter Try.func30, Try.ntmps30
    go_wp2_with fail
    refine (HR.out _).mono ?_
    rintro e w1 ⟨rfl, hb1⟩
    have hb2 := hb1.alloc hb1.size (.cells #[.string ⟨#[]⟩, .int .i64 0, .int .i64 0] 58)
    have F1 := Lib.hid hb2
    clear hb1 hb2
    go_wp2_with fail
    go_ret2
    exact ⟨rfl, F1.out⟩
end Go.Proofs.Ytdadggaecgkhfaa
