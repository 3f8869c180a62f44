/- What Pack, Unpack, the document's Unpack and 'sure' answer, as contracts; conditions: within reach. -/
import Derived.Test.YtdadggaecgkhfaaL10
namespace Go.Proofs.Ytdadggaecgkhfaa.LZ
open Go.RowKit Go.Proofs.YtdadggaecgkhfaaW.PrintWords Go.Proofs.YtdadggaecgkhfaaW.PrintMore
open Go.Proofs.Ytdadggaecgkhfaa.PLzfUnpacks IM Go.Proofs.Ytdadggaecgkhfaa
set_option linter.unusedVariables false
attribute [local go_sem ↓] Go.wp_at_zero Go.wp_at_succ
attribute [local go_sem] max2_int min2_int max_two min_two
theorem pack_any (W : World) (x : ByteArray) (hx : x.size ≤ 140737488355328) :
    Calls Try.prog 36 #[.string x] W fun e w' => e = .returned (.tuple #[.string (packS x).1, .bool (packS x).2]) ∧ Below W.heap.size W w' := by
  by_cases h1 : 524288 < x.size
  · have hp : packS x = (⟨#[]⟩, false) := by unfold packS; rw [if_pos (.inl h1)]
    have a1 : (524288 : Int) < (x.size : Int) := by omega
    have a2 : decide ((524288 : Int) < (x.size : Int)) = true := decide_eq_true a1
    have a3 : decide (524288 < x.size) = true := decide_eq_true h1
    have HP := Lib.hid hp
    clear hp
    go_enter Try.func36, Try.ntmps36
    go_wp2_with fail
    go_ret2
    exact ⟨by rw [HP.out]; rfl, Below.refl _ _⟩
  · by_cases h2 : x.size < 8
    · have hp : packS x = (⟨#[]⟩, false) := by unfold packS; rw [if_pos (.inr h2)]
      have a1 : ¬ (524288 : Int) < (x.size : Int) := by omega
      have a2 : decide ((524288 : Int) < (x.size : Int)) = false := decide_eq_false a1
      have a3 : decide (524288 < x.size) = false := decide_eq_false h1
      have b1 : (x.size : Int) < 8 := by omega
      have b2 : decide ((x.size : Int) < 8) = true := decide_eq_true b1
      have b3 : decide (x.size < 8) = true := decide_eq_true h2
      have HP := Lib.hid hp
      clear hp
      go_enter Try.func36, Try.ntmps36
      go_wp2_with fail
      go_ret2
      exact ⟨by rw [HP.out]; rfl, Below.refl _ _⟩
    · exact pack_mid W x (by omega) (by omega)
theorem unpack_any (p : ByteArray) (n : Int) (hp : p.size ≤ 140737488355328) (w : World) :
    Calls Try.prog 33 #[.string p, .int .i64 n] w fun e w' => e = .returned (.tuple #[.string (unpS p n).1, .int .i64 (unpS p n).2]) ∧ Below w.heap.size w w' := by
  obtain ⟨k, hk⟩ := (unpack_ev p n hp).rounds
  exact lzf_Unpack.calls k p n _ _ w hk
theorem runpack_any (p : ByteArray) (n : Int) (hp : p.size ≤ 140737488355328) (w : World) :
    Calls Try.prog 34 #[.string p, .int .i64 n] w fun e w' => e = .returned (.tuple #[.string (unpS p n).1, .int .i64 (unpS p n).2]) ∧ Below w.heap.size w w' := by
  obtain ⟨k, hk⟩ := (runpack_ev p n hp).rounds
  exact cisternref03_Unpack.calls k p n _ _ w hk
theorem packS_size (x : ByteArray) : (packS x).1.size ≤ x.size := by
  by_cases h : (packS x).2 = true
  · have := (packS_back x h).2.1; omega
  · rw [packS_nay x (by simpa using h)]; exact Nat.zero_le _
/-- 24 bytes 'a' -/
def a24 : ByteArray := ⟨#[97, 97, 97, 97, 97, 97, 97, 97, 97, 97, 97, 97, 97, 97, 97, 97, 97, 97, 97, 97, 97, 97, 97, 97]⟩
theorem a24_mono : Mono a24 := by
  intro i j hi hj
  have hs : a24.size = 24 := rfl
  rw [hs] at hi hj
  have : ∀ i : Fin 24, a24.data.toList[i.val]? = some 97 := by decide
  unfold eqAt
  rw [this ⟨i, hi⟩, this ⟨j, hj⟩]
def a9 : ByteArray := ⟨#[97, 97, 97, 97, 97, 97, 97, 97, 97]⟩
def p9 : ByteArray := ⟨#[0, 97, 192, 0]⟩
theorem unp_p9 : unpS p9 9 = (a9, 0) := by
  unfold unpS
  rw [if_neg (by omega)]
  decide +kernel
set_option maxHeartbeats 1000000 in
theorem sure_any (W : World) : Calls Try.prog 35 #[] W fun e w' => e = .returned (.bool true) ∧ Below W.heap.size W w' := by
  have ha : (packS a24).2 = true := packS_mono a24 a24_mono (by decide) (by decide)
  have hb : unpS (packS a24).1 24 = (a24, 0) := (packS_back a24 ha).1
  have hs := packS_size a24
  rw [show a24.size = 24 from rfl] at hs
  have H1 := Lib.hid (fun w => unpack_any p9 9 (by decide) w)
  have H2 := Lib.hid (fun w => pack_any w a24 (by decide))
  have H3 := Lib.hid (fun w => unpack_any (packS a24).1 24 (by omega) w)
  rw [unp_p9] at H1
  rw [hb] at H3
  rw [ha] at H2
  clear ha hb hs
  generalize (packS a24).1 = q at *
  unfold a24 a9 p9 at *
  go_enter Try.func35, Try.ntmps35
  go_wp2_with fail
  refine (H1.out _).mono ?_
  rintro e w1 ⟨rfl, hb1⟩
  go_wp2_with fail
  refine (H2.out _).mono ?_
  rintro e w2 ⟨rfl, hb2⟩
  have hb3 := hb1.trans (hb2.mono hb1.size)
  clear hb1 hb2
  go_wp2_with fail
  refine (H3.out _).mono ?_
  rintro e w3 ⟨rfl, hb4⟩
  go_wp2_with fail
  go_ret
  exact ⟨rfl, hb3.trans (hb4.mono hb3.size)⟩
end Go.Proofs.Ytdadggaecgkhfaa.LZ
