/- Walks of 'sure' and of the laws IntsetAdds and IntsetDrops: each answers true; conditions: the number fits its kind. -/
import Derived.Test.YtdadggaecgkhfaaH7
import Derived.Test.YtdadggaecgkhfaaQ3
namespace Go.Proofs.Ytdadggaecgkhfaa
open Go.RowKit Go.Proofs.YtdadggaecgkhfaaW.PrintWords Go.Proofs.YtdadggaecgkhfaaW.PrintMore
open IM PIntsetPlays
set_option linter.unusedVariables false
attribute [local go_sem ↓] Go.wp_at_zero Go.wp_at_succ
theorem C_of_blk {w : World} {g : Nat} {xs : List Int} (h : Blk w g 3 (nums .i64 xs).toArray) (hl : xs.length ≤ 9223372036854775807) : Kd.C (Kd.int .i64) w (some ⟨g, 0, none⟩) xs.length xs := by
  refine ⟨rfl, hl, fun _ => ⟨_, rfl, fun j p hj => ⟨[.int .i64 p], rfl, rfl, fun i u hu => ?_⟩⟩⟩
  cases i with
  | succ i => simp at hu
  | zero =>
    simp at hu
    subst hu
    have hadd : (⟨g, 0, none⟩ : Addr).add (j * 1 + 0) = ⟨g, j, none⟩ := by unfold Addr.add; split <;> simp_all
    show w.cell? ((⟨g, 0, none⟩ : Addr).add (j * 1 + 0)) = _
    rw [hadd, h.cell j]
    simp [nums, hj]
def s0 : ByteArray := ⟨#[2, 0, 0, 0, 0, 0, 0, 0]⟩
def s1 : ByteArray := ⟨#[2, 0, 0, 0, 1, 0, 0, 0, 5, 0]⟩
def s2 : ByteArray := ⟨#[2, 0, 0, 0, 2, 0, 0, 0, 255, 255, 5, 0]⟩
theorem good0 : IM.Good s0 := ⟨⟨by decide +kernel, by decide +kernel, by decide +kernel, by decide +kernel⟩, fun j h1 h2 => absurd h2 (by rw [show IM.N s0 = 0 from by decide +kernel]; omega)⟩
theorem good1 : IM.Good s1 := ⟨⟨by decide +kernel, by decide +kernel, by decide +kernel, by decide +kernel⟩, fun j h1 h2 => absurd h2 (by rw [show IM.N s1 = 1 from by decide +kernel]; omega)⟩
theorem good2 : IM.Good s2 := ⟨⟨by decide +kernel, by decide +kernel, by decide +kernel, by decide +kernel⟩, fun j h1 h2 => by
  have : IM.N s2 = 2 := by decide +kernel
  obtain rfl : j = 1 := by omega
  decide +kernel⟩
open Classical in
theorem add0 : addS s0 5 = (s1, true, 0) := by
  unfold addS
  rw [if_pos good0, if_neg (by decide +kernel), if_neg (by decide +kernel)]
  have : strOfNums (encI (max (IM.W s0) (needsI 5)) (addL (els s0) 5)) = s1 := by decide +kernel
  rw [this]
open Classical in
theorem add1 : addS s1 (-1) = (s2, true, 0) := by
  unfold addS
  rw [if_pos good1, if_neg (by decide +kernel), if_neg (by decide +kernel)]
  have : strOfNums (encI (max (IM.W s1) (needsI (-1))) (addL (els s1) (-1))) = s2 := by decide +kernel
  rw [this]
theorem els2 : els s2 = [-1, 5] := by decide +kernel
theorem new_any (w : World) : Calls Try.prog 16 #[] w fun e w' => e = .returned (.string s0) ∧ Drawn0 w w' := intset_New.calls s0 w rfl
theorem same_pair (w : World) (A0 A1 : Option Addr) (c0 c1 : Nat) (h0 : Kd.C (Kd.int .i64) w A0 2 [-1, 5]) (hc0 : 2 ≤ c0) (h1 : Kd.C (Kd.int .i64) w A1 2 [-1, 5]) (hc1 : 2 ≤ c1) :
    Calls Try.prog 27 #[.slice A0 2 c0, .slice A1 2 c1] w fun e w' => e = .returned (.bool true) ∧ Drawn0 w w' :=
  cisternlaw05_sameInts.calls 5 A0 c0 [-1, 5] A1 c1 [-1, 5] true w h0 hc0 h1 hc1 (by decide +kernel)
set_option maxHeartbeats 1000000 in
theorem sure_any (w : World) : Calls Try.prog 15 #[] w fun e w' => e = .returned (.bool true) ∧ Below w.heap.size w w' := by
  have h1 := fun w => add_any s0 5 w (by decide) (by decide)
  have h2 := fun w => add_any s1 (-1) w (by decide) (by decide)
  have h3 := fun w => all_good s2 good2 w
  have H1 := Lib.hid h1
  have H2 := Lib.hid h2
  have H3 := Lib.hid h3
  have H0 := Lib.hid (fun w => new_any w)
  have H4 := Lib.hid same_pair
  clear h1 h2 h3
  go_enter Try.func15, Try.ntmps15
  go_wp2_with fail
  refine (H0.out _).mono ?_
  rintro e w1 ⟨rfl, ⟨n1, rfl⟩⟩
  go_wp2_with fail
  refine (H1.out _).mono ?_
  rintro e w2 ⟨he, hb2⟩
  rw [add0] at he
  subst he
  have hb3 := (below_drewN (Below.refl w.heap.size w) n1).trans hb2
  clear hb2
  go_wp2_with fail
  refine (H2.out _).mono ?_
  rintro e w3 ⟨he, hb4⟩
  rw [add1] at he
  subst he
  have hb5 := hb3.trans (hb4.mono hb3.size)
  clear hb4 hb3
  go_wp2_with fail
  refine (H3.out _).mono ?_
  rintro e w4 ⟨g, rfl, hB, hg, hb6⟩
  have hb7 := hb5.trans (hb6.mono hb5.size)
  rw [els2] at hB
  have hN : IM.N s2 = 2 := by decide +kernel
  have F := Lib.hid (And.intro hB hb7)
  have hk : (s1.toList == [2, 0, 0, 0, 1, 0, 0, 0, 5, 0]) = true := by decide +kernel
  clear hB hb5 hb6 hb7 hg
  rw [hN]
  clear hN
  have b1 := Blk.alloc F.out.1 (.cells #[.int .i64 (-1), .int .i64 5] 3)
  have b2 := Blk.new w4 3 #[.int .i64 (-1), .int .i64 5]
  have H5 := Lib.hid (H4.out _ _ _ 2 2 (C_of_blk b1 (by decide)) (Nat.le_refl _) (C_of_blk (xs := [-1, 5]) b2 (by decide)) (Nat.le_refl _))
  clear b1 b2
  go_wp2_with fail
  refine H5.out.mono ?_
  rintro e w5 ⟨rfl, ⟨n2, rfl⟩⟩
  go_wp2_with fail
  go_ret
  exact ⟨rfl, below_drewN (F.out.2.alloc F.out.2.size _) _⟩
set_option maxHeartbeats 1000000 in
theorem law_adds (p : ByteArray) (x : Int) (w : World) (h1 : -9223372036854775808 ≤ x) (h2 : x ≤ 9223372036854775807) :
    Calls Try.prog 3 #[.string p, .int .i64 x] w fun e w' => e = .returned (.bool true) ∧ Below w.heap.size w w' := by
  have H1 := Lib.hid (add_any p x w h1 h2)
  have H2 := Lib.hid (fun w => radd_any p x w)
  have H3 := Lib.hid (fun w => sure_any w)
  generalize addS p x = r at *
  obtain ⟨r1, r2, r3⟩ := r
  go_enter Try.func3, Try.ntmps3
  go_wp2_with fail
  refine H1.out.mono ?_
  rintro e w1 ⟨rfl, hb1⟩
  go_wp2_with fail
  refine (H2.out _).mono ?_
  rintro e w2 ⟨rfl, hb2⟩
  have hb3 := hb1.trans (hb2.mono hb1.size)
  clear hb1 hb2
  go_wp2_with fail
  refine (H3.out _).mono ?_
  rintro e w3 ⟨rfl, hb4⟩
  go_wp2_with fail
  go_ret
  exact ⟨rfl, hb3.trans (hb4.mono hb3.size)⟩
set_option maxHeartbeats 1000000 in
theorem law_drops (p : ByteArray) (x : Int) (w : World) :
    Calls Try.prog 5 #[.string p, .int .i64 x] w fun e w' => e = .returned (.bool true) ∧ Below w.heap.size w w' := by
  have H1 := Lib.hid (drop_any p x w)
  have H2 := Lib.hid (fun w => rdrop_any p x w)
  have H3 := Lib.hid (fun w => sure_any w)
  generalize dropS p x = r at *
  obtain ⟨r1, r2, r3⟩ := r
  go_enter Try.func5, Try.ntmps5
  go_wp2_with fail
  refine H1.out.mono ?_
  rintro e w1 ⟨rfl, hb1⟩
  go_wp2_with fail
  refine (H2.out _).mono ?_
  rintro e w2 ⟨rfl, hb2⟩
  have hb3 := hb1.trans (hb2.mono hb1.size)
  clear hb1 hb2
  go_wp2_with fail
  refine (H3.out _).mono ?_
  rintro e w3 ⟨rfl, hb4⟩
  go_wp2_with fail
  go_ret
  exact ⟨rfl, hb3.trans (hb4.mono hb3.size)⟩
end Go.Proofs.Ytdadggaecgkhfaa
