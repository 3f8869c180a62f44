/- Walk of the law IntsetAsks: it answers true; conditions: none. -/
import Derived.Test.YtdadggaecgkhfaaH9
namespace Go.Proofs.Ytdadggaecgkhfaa
open Go.RowKit Go.Proofs.YtdadggaecgkhfaaW.PrintWords Go.Proofs.YtdadggaecgkhfaaW.PrintMore
open IM PIntsetPlays
set_option linter.unusedVariables false
attribute [local go_sem ↓] Go.wp_at_zero Go.wp_at_succ
/-- the numbers of a text, none where it is no set -/
noncomputable def numsS (p : ByteArray) : List Int := (readS p).2.1
theorem numsS_good (p : ByteArray) (h : IM.Good p) : numsS p = els p := by unfold numsS readS; rw [if_pos h]
theorem numsS_bad (p : ByteArray) (h : ¬ IM.Good p) : numsS p = [] := by unfold numsS readS; rw [if_neg h]
theorem numsS_len (p : ByteArray) : (numsS p).length ≤ 1048576 := by
  by_cases h : IM.Good p
  · rw [numsS_good p h]; exact els_le p h
  · rw [numsS_bad p h]; simp
theorem len_any (p : ByteArray) (w : World) : Calls Try.prog 24 #[.string p] w fun e w' => e = .returned (.tuple #[.int .i64 (numsS p).length, .int .i64 (validS p)]) ∧ Below w.heap.size w w' := by
  obtain ⟨k, hk⟩ := (len_ev p).rounds
  by_cases hg : IM.Good p
  · have e1 : lenS p = ((IM.N p : Int), 0) := by unfold lenS; rw [if_pos hg]
    have e2 : validS p = 0 := by unfold validS; rw [if_pos hg]
    rw [e1] at hk
    rw [numsS_good p hg, els_length, e2]
    exact intset_Len.calls k p _ _ w hk
  · have e1 : lenS p = (0, 50) := by unfold lenS; rw [if_neg hg]
    have e2 : validS p = 50 := by unfold validS; rw [if_neg hg]
    rw [e1] at hk
    rw [numsS_bad p hg, e2]
    exact intset_Len.calls k p _ _ w hk
theorem valid_any (p : ByteArray) (w : World) : Calls Try.prog 18 #[.string p] w fun e w' => e = .returned (.int .i64 (validS p)) ∧ Below w.heap.size w w' := by
  obtain ⟨k, hk⟩ := (valid_ev p).rounds
  exact intset_Valid.calls k p _ w hk
theorem rvalid_any (p : ByteArray) (w : World) : Calls Try.prog 26 #[.string p] w fun e w' => e = .returned (.int .i64 (validS p)) ∧ Below w.heap.size w w' := by
  obtain ⟨k, hk⟩ := (rvalid_ev p).rounds
  exact cisternref05_Valid.calls k p _ w hk
theorem iat_any (p : ByteArray) (i : Int) (w : World) : Calls Try.prog 28 #[.string p, .int .i64 i] w fun e w' => e = .returned (.tuple #[.int .i64 (atS p i).1, .bool (atS p i).2]) ∧ Below w.heap.size w w' := by
  obtain ⟨k, hk⟩ := (iat_ev p i).rounds
  exact intset_At.calls k p i _ _ w hk
theorem riat_any (p : ByteArray) (i : Int) (w : World) : Calls Try.prog 29 #[.string p, .int .i64 i] w fun e w' => e = .returned (.tuple #[.int .i64 (atS p i).1, .bool (atS p i).2]) ∧ Below w.heap.size w w' := by
  obtain ⟨k, hk⟩ := (riat_ev p i).rounds
  exact cisternref05_At.calls k p i _ _ w hk
theorem rrange_any (p : ByteArray) (a b : Int) (w : World) : Calls Try.prog 31 #[.string p, .int .i64 a, .int .i64 b] w fun e w' => e = .returned (.tuple #[.int .i64 (rangeS p a b).1, .int .i64 (rangeS p a b).2]) ∧ Below w.heap.size w w' := by
  obtain ⟨k, hk⟩ := (rrange_ev p a b).rounds
  exact cisternref05_Range.calls k p a b _ _ w hk
theorem rhas_any (p : ByteArray) (x : Int) (w : World) : Calls Try.prog 32 #[.string p, .int .i64 x] w fun e w' => e = .returned (.bool (hasS p x)) ∧ Below w.heap.size w w' := by
  obtain ⟨k, hk⟩ := (rhas_ev p x).rounds
  exact cisternref05_Has.calls k p x _ w hk
/-- a row that is there to be read -/
def RowIn (w : World) (A : Option Addr) (c : Nat) (l : List Int) : Prop := Kd.C (Kd.int .i64) w A l.length l ∧ l.length ≤ c
theorem rread_any (p : ByteArray) (w : World) : Calls Try.prog 25 #[.string p] w fun e w' => ∃ (n : Int) (A : Option Addr) (c : Nat), e = .returned (.tuple #[.int .i64 n, .slice A (numsS p).length c, .bool (decide (validS p = 0))]) ∧ RowIn w' A c (numsS p) ∧ Below w.heap.size w w' := by
  obtain ⟨k, hk⟩ := (rreadS_ev p).rounds
  have hd : (readS p).2.2 = decide (validS p = 0) := by
    unfold readS validS
    by_cases hg : IM.Good p
    · rw [if_pos hg, if_pos hg]; rfl
    · rw [if_neg hg, if_neg hg]; rfl
  have hn : numsS p = (readS p).2.1 := rfl
  rw [hn]
  generalize readS p = t at *
  obtain ⟨r1, r2, r3⟩ := t
  replace hd : r3 = decide (validS p = 0) := hd
  subst hd
  refine (cisternref05_Read.calls k p _ _ _ w hk).mono ?_
  rintro e w' ⟨v, rfl, hR, hb⟩
  obtain ⟨A, c, rfl⟩ := Kd.R_slice hR
  have h2 := Kd.R_reads' hR
  exact ⟨_, A, c, rfl, ⟨h2.2.2, h2.2.1⟩, hb⟩
theorem all_any (p : ByteArray) (w : World) : Calls Try.prog 17 #[.string p] w fun e w' => ∃ (A : Option Addr) (c : Nat), e = .returned (.tuple #[.slice A (numsS p).length c, .int .i64 (validS p)]) ∧ RowIn w' A c (numsS p) ∧ Below w.heap.size w w' := by
  by_cases hg : IM.Good p
  · refine (all_good p hg w).mono ?_
    rintro e w' ⟨g, rfl, hB, hge, hb⟩
    rw [numsS_good p hg]
    have hl := els_le p hg
    refine ⟨_, _, ?_, ⟨C_of_blk hB (by omega), by rw [els_length]; exact Nat.le_refl _⟩, hb⟩
    unfold validS
    rw [if_pos hg, els_length]
  · refine (all_bad p hg w).mono ?_
    rintro e w' ⟨rfl, hb⟩
    rw [numsS_bad p hg]
    refine ⟨none, 0, ?_, ⟨Kd.C_nil _ _, by simp⟩, hb⟩
    unfold validS
    rw [if_neg hg]
    rfl
theorem RowIn.below {w w' : World} {A : Option Addr} {c : Nat} {l : List Int} (h : RowIn w A c l) (hb : Below w.heap.size w w') : RowIn w' A c l :=
  ⟨(Kd.heap_int .i64).C (fun k hlt => hb.block k hlt) h.1, h.2⟩
theorem same_any (l : List Int) (hl : l.length ≤ 1048576) (A0 A1 : Option Addr) (c0 c1 : Nat) (w : World) (h0 : RowIn w A0 c0 l) (h1 : RowIn w A1 c1 l) :
    Calls Try.prog 27 #[.slice A0 l.length c0, .slice A1 l.length c1] w fun e w' => e = .returned (.bool true) ∧ Drawn0 w w' := by
  obtain ⟨k, hk⟩ := (same_ev l hl).rounds
  exact cisternlaw05_sameInts.calls k A0 c0 l A1 c1 l true w h0.1 h0.2 h1.1 h1.2 hk
set_option maxHeartbeats 1000000 in
theorem law_asks (p : ByteArray) (a b : Int) (w : World) :
    Calls Try.prog 7 #[.string p, .int .i64 a, .int .i64 b] w fun e w' => e = .returned (.bool true) ∧ Below w.heap.size w w' := by
  have hl := numsS_len p
  have hv : validS p = 0 ∨ validS p = 50 := by unfold validS; split <;> simp
  have HLen := Lib.hid (len_any p w)
  have HRd := Lib.hid (fun w => rread_any p w)
  have HAll := Lib.hid (fun w => all_any p w)
  have HVr := Lib.hid (fun w => rvalid_any p w)
  have HV := Lib.hid (fun w => valid_any p w)
  have HA := Lib.hid (fun w => iat_any p a w)
  have HAr := Lib.hid (fun w => riat_any p a w)
  have HG := Lib.hid (fun w => range_any p a b w)
  have HGr := Lib.hid (fun w => rrange_any p a b w)
  have HH := Lib.hid (fun w => has_any p a w)
  have HHr := Lib.hid (fun w => rhas_any p a w)
  have HS := Lib.hid (fun w => sure_any w)
  generalize numsS p = l at *
  have HSm := Lib.hid (same_any l hl)
  clear hl
  generalize validS p = v at *
  generalize atS p a = ra at *
  obtain ⟨a1, a2⟩ := ra
  generalize rangeS p a b = rg at *
  obtain ⟨g1, g2⟩ := rg
  generalize hasS p a = h1 at *
  generalize hn : l.length = n at *
  have HN := Lib.hid hn
  clear hn
  rcases hv with rfl | rfl
  all_goals
    go_enter Try.func7, Try.ntmps7
    go_wp2_with fail
    refine HLen.out.mono ?_
    rintro e w1 ⟨rfl, hb1⟩
    have B1 := Lib.hid hb1
    clear hb1
    go_wp2_with fail
    refine (HRd.out _).mono ?_
    rintro e w2 ⟨rn, A, c, rfl, hR, hb2⟩
    have B2 := Lib.hid (And.intro hR (B1.out.trans (hb2.mono B1.out.size)))
    clear hb2 hR
    go_wp2_with fail
    refine (HAll.out _).mono ?_
    rintro e w3 ⟨A2, c2, rfl, hR3, hb3⟩
    have B3 := Lib.hid (And.intro (B2.out.1.below hb3) (And.intro hR3 (B2.out.2.trans (hb3.mono B2.out.2.size))))
    clear hb3 hR3
    go_wp2_with fail
    refine (HVr.out _).mono ?_
    rintro e w4 ⟨rfl, hb4⟩
    have B4 := Lib.hid (And.intro (B3.out.1.below hb4) (And.intro (B3.out.2.1.below hb4) (B3.out.2.2.trans (hb4.mono B3.out.2.2.size))))
    clear hb4
    go_wp2_with fail
    refine (HV.out _).mono ?_
    rintro e w5 ⟨rfl, hb5⟩
    have B5 := Lib.hid (And.intro (B4.out.1.below hb5) (And.intro (B4.out.2.1.below hb5) (B4.out.2.2.trans (hb5.mono B4.out.2.2.size))))
    clear hb5
    go_wp2_with fail
    refine (HSm.out _ _ _ _ _ B5.out.2.1 B5.out.1).mono ?_
    rintro e w6 ⟨rfl, ⟨n6, rfl⟩⟩
    have B6 := Lib.hid (below_drewN B5.out.2.2 n6)
    clear B1 B2 B3 B4 B5
    go_wp2_with fail
    refine (HA.out _).mono ?_
    rintro e w7 ⟨rfl, hb7⟩
    have B7 := Lib.hid (B6.out.trans (hb7.mono B6.out.size))
    clear hb7
    go_wp2_with fail
    refine (HAr.out _).mono ?_
    rintro e w8 ⟨rfl, hb8⟩
    have B8 := Lib.hid (B7.out.trans (hb8.mono B7.out.size))
    clear hb8
    go_wp2_with fail
    refine (HG.out _).mono ?_
    rintro e w9 ⟨rfl, hb9⟩
    have B9 := Lib.hid (B8.out.trans (hb9.mono B8.out.size))
    clear hb9
    go_wp2_with fail
    refine (HGr.out _).mono ?_
    rintro e w10 ⟨rfl, hb10⟩
    have B10 := Lib.hid (B9.out.trans (hb10.mono B9.out.size))
    clear hb10
    go_wp2_with fail
    refine (HH.out _).mono ?_
    rintro e w11 ⟨rfl, hb11⟩
    have B11 := Lib.hid (B10.out.trans (hb11.mono B10.out.size))
    clear hb11
    go_wp2_with fail
    refine (HHr.out _).mono ?_
    rintro e w12 ⟨rfl, hb12⟩
    have B12 := Lib.hid (B11.out.trans (hb12.mono B11.out.size))
    clear hb12
    go_wp2_with fail
    refine (HS.out _).mono ?_
    rintro e w13 ⟨rfl, hb13⟩
    have B13 := Lib.hid (B12.out.trans (hb13.mono B12.out.size))
    clear hb13
    go_wp2_with fail
    go_ret
    exact ⟨rfl, B13.out⟩
end Go.Proofs.Ytdadggaecgkhfaa
