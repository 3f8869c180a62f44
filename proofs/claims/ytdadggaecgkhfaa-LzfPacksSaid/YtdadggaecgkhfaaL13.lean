/- Walks of the laws LzfPacks and LzfBack: each answers true; conditions: the text within reach. -/
import Derived.Test.YtdadggaecgkhfaaL11
namespace Go.Proofs.Ytdadggaecgkhfaa.LZ
open Go.RowKit Go.Proofs.YtdadggaecgkhfaaW.PrintWords Go.Proofs.YtdadggaecgkhfaaW.PrintMore
open Go.Proofs.Ytdadggaecgkhfaa.PLzfUnpacks IM Go.Proofs.Ytdadggaecgkhfaa
set_option linter.unusedVariables false
attribute [local go_sem ↓] Go.wp_at_zero Go.wp_at_succ
attribute [local go_sem] max2_int min2_int max_two min_two
theorem back_same (n n' : Nat) (go go' : List UInt8 → List Int → Ans) (b len : Nat) (out : List Int) (r : List UInt8) (hgo : ∀ r' o', (go r' o').2 = 0 → (go' r' o').2 = 0 → (go r' o').1 = (go' r' o').1)
    (h : (back n go b len out r).2 = 0) (h' : (back n' go' b len out r).2 = 0) : (back n go b len out r).1 = (back n' go' b len out r).1 := by
  match r with
  | [] => rfl
  | c :: r' =>
    rw [back_cons] at h h' ⊢
    rw [back_cons]
    by_cases h1 : n < out.length + len
    · rw [if_pos h1] at h; simp at h
    · rw [if_neg h1] at h ⊢
      by_cases h2 : n' < out.length + len
      · rw [if_pos h2] at h'; simp at h'
      · rw [if_neg h2] at h' ⊢
        by_cases h3 : out.length < b % 32 * 256 + c.toNat + 1
        · rw [if_pos h3] at h; simp at h
        · rw [if_neg h3] at h h' ⊢
          rw [if_neg h3]
          exact hgo _ _ h h'
theorem unp_same (n n' : Nat) : ∀ (f : Nat) (l : List UInt8) (out : List Int), (unp n f l out).2 = 0 → (unp n' f l out).2 = 0 → (unp n f l out).1 = (unp n' f l out).1 := by
  intro f
  induction f with
  | zero => intro l out _ _; rfl
  | succ f ih =>
    intro l out h h'
    match l with
    | [] =>
      rw [unp_nil] at h h' ⊢
      rw [unp_nil]
      by_cases h1 : out.length = n
      · rw [if_pos h1]
        by_cases h2 : out.length = n'
        · rw [if_pos h2]
        · rw [if_neg h2] at h'; simp at h'
      · rw [if_neg h1] at h; simp at h
    | b :: r =>
      by_cases h32 : b.toNat < 32
      · rw [unp_lit n f out b r h32] at h ⊢
        rw [unp_lit n' f out b r h32] at h' ⊢
        by_cases h1 : n < out.length + b.toNat + 1
        · rw [if_pos h1] at h; simp at h
        · rw [if_neg h1] at h ⊢
          by_cases h2 : n' < out.length + b.toNat + 1
          · rw [if_pos h2] at h'; simp at h'
          · rw [if_neg h2] at h' ⊢
            by_cases h3 : r.length < b.toNat + 1
            · rw [if_pos h3] at h; simp at h
            · rw [if_neg h3] at h h' ⊢
              rw [if_neg h3]
              exact ih _ _ h h'
      · by_cases h7 : b.toNat / 32 = 7
        · match r with
          | [] => rw [unp_end n f out b h32 h7] at h; simp at h
          | c :: r' =>
            rw [unp_far n f out b c r' h32 h7] at h ⊢
            rw [unp_far n' f out b c r' h32 h7] at h' ⊢
            exact back_same n n' _ _ _ _ _ _ (fun r1 o1 => ih r1 o1) h h'
        · rw [unp_near n f out b r h32 h7] at h ⊢
          rw [unp_near n' f out b r h32 h7] at h' ⊢
          exact back_same n n' _ _ _ _ _ _ (fun r1 o1 => ih r1 o1) h h'
theorem unpS_one (p : ByteArray) (n m : Int) (hn : (unpS p n).2 = 0) (hm : (unpS p m).2 = 0) : n = m := by
  rcases unpS_fair p n with ⟨_, a1, a2, a3⟩ | ⟨a, _⟩
  · rcases unpS_fair p m with ⟨_, b1, b2, b3⟩ | ⟨b, _⟩
    · rw [← a1, ← b1]
      unfold unpS at *
      rw [if_neg (by omega)] at hn hm ⊢
      rw [if_neg (by omega)]
      rw [unp_same _ _ _ _ _ hn hm]
    · exact absurd hm b
  · exact absurd hn a
set_option maxHeartbeats 1000000 in
theorem law_packs (x : ByteArray) (W : World) (hx : x.size ≤ 140737488355328) :
    Calls Try.prog 9 #[.string x] W fun e w' => e = .returned (.bool true) ∧ Below W.heap.size W w' := by
  have hq := packS_size x
  have H1 := Lib.hid (fun w => pack_any w x hx)
  have H2 := Lib.hid (fun w => runpack_any (packS x).1 x.size (by omega) w)
  have H3 := Lib.hid (fun w => sure_any w)
  by_cases hk : (packS x).2 = true
  · obtain ⟨k1, k2, k3, k4⟩ := packS_back x hk
    rw [k1] at H2
    rw [hk] at H1
    clear hk hq k1 hx
    generalize (packS x).1 = q at *
    have e1 : IntKind.i64.wrap ((q.size : Int) + 4) = (q.size : Int) + 4 := by rw [IntKind.wrap_i64]; omega
    have e2 : (q.size : Int) + 4 ≤ (x.size : Int) := by omega
    have e3 : decide ((q.size : Int) + 4 ≤ (x.size : Int)) = true := decide_eq_true e2
    clear k2 k3 k4
    go_enter Try.func9, Try.ntmps9
    go_wp2_with fail
    refine (H1.out _).mono ?_
    rintro e w1 ⟨rfl, hb1⟩
    go_wp2_with fail
    refine (H1.out _).mono ?_
    rintro e w2 ⟨rfl, hb2⟩
    have hb3 := hb1.trans (hb2.mono hb1.size)
    clear hb1 hb2
    go_wp2_with fail
    refine (H2.out _).mono ?_
    rintro e w3 ⟨rfl, hb4⟩
    have hb5 := hb3.trans (hb4.mono hb3.size)
    clear hb3 hb4
    go_wp2_with fail
    refine (H3.out _).mono ?_
    rintro e w4 ⟨rfl, hb6⟩
    go_wp2_with fail
    go_ret
    exact ⟨rfl, hb5.trans (hb6.mono hb5.size)⟩
  · have hk' : (packS x).2 = false := by simpa using hk
    rw [hk', packS_nay x hk'] at H1
    clear hk hk' hq hx
    go_enter Try.func9, Try.ntmps9
    go_wp2_with fail
    refine (H1.out _).mono ?_
    rintro e w1 ⟨rfl, hb1⟩
    go_wp2_with fail
    refine (H1.out _).mono ?_
    rintro e w2 ⟨rfl, hb2⟩
    have hb3 := hb1.trans (hb2.mono hb1.size)
    clear hb1 hb2
    go_wp2_with fail
    refine (H3.out _).mono ?_
    rintro e w4 ⟨rfl, hb6⟩
    go_wp2_with fail
    go_ret
    exact ⟨rfl, hb3.trans (hb6.mono hb3.size)⟩
set_option maxHeartbeats 1000000 in
theorem law_back (x : ByteArray) (n : Int) (W : World) (hx : x.size ≤ 140737488355328) :
    Calls Try.prog 11 #[.string x, .int .i64 n] W fun e w' => e = .returned (.bool true) ∧ Below W.heap.size W w' := by
  have hq := packS_size x
  have H1 := Lib.hid (fun w => pack_any w x hx)
  have H2 := Lib.hid (fun w => unpack_any (packS x).1 x.size (by omega) w)
  have H4 := Lib.hid (fun w => unpack_any (packS x).1 n (by omega) w)
  have H3 := Lib.hid (fun w => sure_any w)
  by_cases hk : (packS x).2 = true
  · obtain ⟨k1, k2, k3, k4⟩ := packS_back x hk
    have hone := unpS_one (packS x).1 n x.size
    have hfair := unpS_fair (packS x).1 n
    rw [k1] at H2 hone
    rw [hk] at H1
    by_cases hn : n = x.size
    · subst hn
      rw [k1] at H4
      clear hk hq k1 hx hone hfair k2 k3 k4
      generalize (packS x).1 = q at *
      go_enter Try.func11, Try.ntmps11
      go_wp2_with fail
      refine (H1.out _).mono ?_
      rintro e w1 ⟨rfl, hb1⟩
      go_wp2_with fail
      refine (H2.out _).mono ?_
      rintro e w2 ⟨rfl, hb2⟩
      have hb3 := hb1.trans (hb2.mono hb1.size)
      clear hb1 hb2
      go_wp2_with fail
      refine (H4.out _).mono ?_
      rintro e w3 ⟨rfl, hb4⟩
      have hb5 := hb3.trans (hb4.mono hb3.size)
      clear hb3 hb4
      go_wp2_with fail
      refine (H3.out _).mono ?_
      rintro e w4 ⟨rfl, hb6⟩
      go_wp2_with fail
      go_ret
      exact ⟨rfl, hb5.trans (hb6.mono hb5.size)⟩
    · have h0 : (unpS (packS x).1 n).2 ≠ 0 := fun e => hn (hone e rfl)
      have h1 : (unpS (packS x).1 n).1 = ⟨#[]⟩ := by
        rcases hfair with ⟨a, _⟩ | ⟨_, b⟩
        · exact absurd a h0
        · exact b
      rw [h1] at H4
      generalize (unpS (packS x).1 n).2 = r2 at *
      have k1 : (r2 != 0) = true := bne_iff_ne.mpr h0
      have k2 : (r2 == 0) = false := beq_eq_false_iff_ne.mpr h0
      have k3 : ¬ r2 = 0 := h0
      have k5 : (n == (x.size : Int)) = false := beq_eq_false_iff_ne.mpr hn
      have k6 : ¬ n = (x.size : Int) := hn
      clear h0 h1 hn hk hq hx hone hfair
      generalize (packS x).1 = q at *
      go_enter Try.func11, Try.ntmps11
      go_wp2_with fail
      refine (H1.out _).mono ?_
      rintro e w1 ⟨rfl, hb1⟩
      go_wp2_with fail
      refine (H2.out _).mono ?_
      rintro e w2 ⟨rfl, hb2⟩
      have hb3 := hb1.trans (hb2.mono hb1.size)
      clear hb1 hb2
      go_wp2_with fail
      refine (H4.out _).mono ?_
      rintro e w3 ⟨rfl, hb4⟩
      have hb5 := hb3.trans (hb4.mono hb3.size)
      clear hb3 hb4
      go_wp2_with fail
      refine (H3.out _).mono ?_
      rintro e w4 ⟨rfl, hb6⟩
      go_wp2_with fail
      go_ret
      exact ⟨rfl, hb5.trans (hb6.mono hb5.size)⟩
  · have hk' : (packS x).2 = false := by simpa using hk
    rw [hk', packS_nay x hk'] at H1
    clear hk hk' hq hx
    go_enter Try.func11, Try.ntmps11
    go_wp2_with fail
    refine (H1.out _).mono ?_
    rintro e w1 ⟨rfl, hb1⟩
    go_wp2_with fail
    refine (H3.out _).mono ?_
    rintro e w4 ⟨rfl, hb6⟩
    go_wp2_with fail
    go_ret
    exact ⟨rfl, hb1.trans (hb6.mono hb1.size)⟩
end Go.Proofs.Ytdadggaecgkhfaa.LZ
