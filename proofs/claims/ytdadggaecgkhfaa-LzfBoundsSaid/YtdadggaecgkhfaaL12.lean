/- Walks of the laws LzfUnpacks and LzfBounds: each answers true; conditions: the text within reach. -/
import Derived.Test.YtdadggaecgkhfaaL11
namespace Go.Proofs.Ytdadggaecgkhfaa.LZ
open Go.RowKit Go.Proofs.YtdadggaecgkhfaaW.PrintWords Go.Proofs.YtdadggaecgkhfaaW.PrintMore
open Go.Proofs.Ytdadggaecgkhfaa.PLzfUnpacks IM Go.Proofs.Ytdadggaecgkhfaa
set_option linter.unusedVariables false
attribute [local go_sem ↓] Go.wp_at_zero Go.wp_at_succ
attribute [local go_sem] max2_int min2_int max_two min_two
set_option maxHeartbeats 1000000 in
theorem law_unpacks (p : ByteArray) (n : Int) (W : World) (hp : p.size ≤ 140737488355328) :
    Calls Try.prog 8 #[.string p, .int .i64 n] W fun e w' => e = .returned (.bool true) ∧ Below W.heap.size W w' := by
  have H1 := Lib.hid (fun w => unpack_any p n hp w)
  have H2 := Lib.hid (fun w => runpack_any p n hp w)
  have H3 := Lib.hid (fun w => sure_any w)
  clear hp
  generalize unpS p n = r at *
  obtain ⟨r1, r2⟩ := r
  go_enter Try.func8, Try.ntmps8
  go_wp2_with fail
  refine (H1.out _).mono ?_
  rintro e w1 ⟨rfl, hb1⟩
  go_wp2_with fail
  refine (H2.out _).mono ?_
  rintro e w2 ⟨rfl, hb2⟩
  have hb3 := hb1.trans (hb2.mono hb1.size)
  clear hb1 hb2
  go_wp2_with fail
  refine (H3.out _).mono ?_
  rintro e w3 ⟨rfl, hb4⟩
  go_wp2_with fail
  go_ret
  exact ⟨rfl, hb3.trans (hb4.mono hb3.size)⟩
set_option maxHeartbeats 1000000 in
theorem law_bounds (p : ByteArray) (n : Int) (W : World) (hp : p.size ≤ 140737488355328) :
    Calls Try.prog 12 #[.string p, .int .i64 n] W fun e w' => e = .returned (.bool true) ∧ Below W.heap.size W w' := by
  have H1 := Lib.hid (fun w => unpack_any p n hp w)
  have H3 := Lib.hid (fun w => sure_any w)
  have hf := unpS_fair p n
  clear hp
  generalize unpS p n = r at *
  obtain ⟨r1, r2⟩ := r
  rcases hf with ⟨h1, h2, h3, h4⟩ | ⟨h1, h2⟩
  · replace h1 : r2 = 0 := h1
    replace h2 : (r1.size : Int) = n := h2
    subst h1 h2
    have k1 : decide ((1 : Int) ≤ (r1.size : Int)) = true := decide_eq_true h3
    have k2 : decide (1 ≤ r1.size) = true := decide_eq_true (by omega)
    have k3 : decide ((r1.size : Int) ≤ 524288) = true := decide_eq_true h4
    have k4 : decide (r1.size ≤ 524288) = true := decide_eq_true (by omega)
    have k5 : decide (0 < r1.size) = true := decide_eq_true (by omega)
    go_enter Try.func12, Try.ntmps12
    go_wp2_with fail
    refine (H1.out _).mono ?_
    rintro e w1 ⟨rfl, hb1⟩
    go_wp2_with fail
    refine (H3.out _).mono ?_
    rintro e w3 ⟨rfl, hb4⟩
    go_wp2_with fail
    go_ret
    exact ⟨rfl, hb1.trans (hb4.mono hb1.size)⟩
  · replace h1 : r2 ≠ 0 := h1
    replace h2 : r1 = ⟨#[]⟩ := h2
    subst h2
    have k1 : (r2 != 0) = true := bne_iff_ne.mpr h1
    have k2 : (r2 == 0) = false := beq_eq_false_iff_ne.mpr h1
    have k3 : ¬ r2 = 0 := h1
    clear h1
    go_enter Try.func12, Try.ntmps12
    go_wp2_with fail
    refine (H1.out _).mono ?_
    rintro e w1 ⟨rfl, hb1⟩
    go_wp2_with fail
    refine (H3.out _).mono ?_
    rintro e w3 ⟨rfl, hb4⟩
    go_wp2_with fail
    go_ret
    exact ⟨rfl, hb1.trans (hb4.mono hb1.size)⟩
end Go.Proofs.Ytdadggaecgkhfaa.LZ
