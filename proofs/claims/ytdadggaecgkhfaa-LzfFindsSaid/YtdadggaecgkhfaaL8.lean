/- Walk of the packer's twice where the text is one half said two times; conditions: within reach. -/
import Derived.Test.YtdadggaecgkhfaaLP1
namespace Go.Proofs.Ytdadggaecgkhfaa.LZ
open Go.RowKit Go.Proofs.YtdadggaecgkhfaaW.PrintWords Go.Proofs.YtdadggaecgkhfaaW.PrintMore
open Go.Proofs.Ytdadggaecgkhfaa.PLzfUnpacks IM Go.Proofs.Ytdadggaecgkhfaa
set_option linter.unusedVariables false
attribute [local go_sem ↓] Go.wp_at_zero Go.wp_at_succ
attribute [local go_sem] max2_int min2_int max_two min_two
def TwRest (hh left : Nat) (ys : List Int) (lt : ByteArray) (R : List Int) : Prop :=
  lt.size ≤ hh ∧ ys.length + 2 * lt.size ≤ 20000 + 3 * (hh - left) ∧ (left = 0 ∨ 3 ≤ left) ∧ left ≤ hh ∧ (left = 0 → lt = ⟨#[]⟩) ∧ ∃ q, left < q ∧ tw hh q left (fl (hh + 1) lt.data.toList ys) = R
def TwRel (w0 : World) (g hh : Nat) (R : List Int) (i : Value) (wr : World) : Prop :=
  ∃ (left : Nat) (ys : List Int) (lt : ByteArray), i = .int .i64 left ∧ Wr w0 wr g ys lt ∧ TwRest hh left ys lt R
theorem TwRel.mk {w0 wr : World} {g hh left : Nat} {ys R : List Int} {lt : ByteArray} (h : Wr w0 wr g ys lt) (h2 : TwRest hh left ys lt R) : TwRel w0 g hh R (.int .i64 left) wr := ⟨left, ys, lt, rfl, h, h2⟩
set_option maxHeartbeats 6000000 in
set_option maxRecDepth 8000 in
theorem twice_yes (w0 W : World) (g : Nat) (xs : List Int) (lit x : ByteArray) (hw : Wr w0 W g xs lit) (h1 : 64 ≤ x.size) (h2 : x.size / 2 ≤ 8192) (hd : x.extract 0 (x.size / 2) = x.extract (x.size - x.size / 2) x.size) (hs : x.size = 2 * (x.size / 2)) :
    Calls Try.prog 50 #[.pointer (some ⟨g, 0, none⟩), .string x] W fun e w' => e = .returned (.tuple #[]) ∧
      Wr w0 w' g (tw (x.size / 2) (x.size / 2 + 1) (x.size / 2) (fl (x.size / 2 + 1) (x.extract 0 (x.size / 2)).data.toList [])) ⟨#[]⟩ := by
  generalize hR : tw (x.size / 2) (x.size / 2 + 1) (x.size / 2) (fl (x.size / 2 + 1) (x.extract 0 (x.size / 2)).data.toList []) = R
  have e1 : Int.tdiv (x.size : Int) 2 = ((x.size / 2 : Nat) : Int) := by rw [Int.tdiv_eq_ediv_of_nonneg (by omega)]; omega
  have e2 : (x.size : Int) / 2 = ((x.size / 2 : Nat) : Int) := by omega
  have e3 : IntKind.i64.wrap ((x.size / 2 : Nat) : Int) = ((x.size / 2 : Nat) : Int) := by rw [IntKind.wrap_i64]; omega
  have e4 : IntKind.i64.wrap ((x.size : Int) - ((x.size / 2 : Nat) : Int)) = ((x.size - x.size / 2 : Nat) : Int) := by rw [IntKind.wrap_i64]; omega
  have e5 : IntKind.i64.wrap (2 * ((x.size / 2 : Nat) : Int)) = (x.size : Int) := by rw [IntKind.wrap_i64]; omega
  have a1 : ¬ ((x.size : Int) < 64) := by omega
  have a2 : decide ((x.size : Int) < 64) = false := decide_eq_false a1
  have a3 : decide (x.size < 64) = false := decide_eq_false (by omega)
  have b1 : ¬ ((8192 : Int) < ((x.size / 2 : Nat) : Int)) := by omega
  have b2 : decide ((8192 : Int) < ((x.size / 2 : Nat) : Int)) = false := decide_eq_false b1
  have b3 : decide (8192 < x.size / 2) = false := decide_eq_false (by omega)
  have s0 : (0 : Int) ≤ ((x.size / 2 : Nat) : Int) := by omega
  have s1 : ((x.size / 2 : Nat) : Int) ≤ (x.size : Int) := by omega
  have s2 : (0 : Int) ≤ ((x.size - x.size / 2 : Nat) : Int) := by omega
  have s3 : ((x.size - x.size / 2 : Nat) : Int) ≤ (x.size : Int) := by omega
  have d1 : ((x.extract 0 (x.size / 2)).toList == (x.extract (x.size - x.size / 2) x.size).toList) = true := by rw [hd]; simp
  have d2 : ((x.extract 0 (x.size / 2)).toList != (x.extract (x.size - x.size / 2) x.size).toList) = false := by rw [hd]; simp
  have HH := Lib.hid (And.intro (show 3 ≤ x.size / 2 by omega) (And.intro h2 hR))
  have HX := Lib.hid (show (x.extract 0 (x.size / 2)).size = x.size / 2 by simp only [ByteArray.size_extract]; omega)
  clear h1 h2 hd hs hR
  generalize x.size - x.size / 2 = kk at *
  generalize hhe : x.size / 2 = hh at *
  clear hhe
  obtain ⟨v, h1, h2, h3, h4⟩ := hw
  have c0 := Blk.cell h1 0
  have c1 := Blk.cell h1 1
  simp only [List.getElem?_toArray, List.getElem?_cons_zero, List.getElem?_cons_succ] at c0 c1
  have f0 := Blk.frozen h1 0
  have f1 := Blk.frozen h1 1
  have HW := Lib.hid (And.intro h1 (And.intro h2 (And.intro h3 h4)))
  clear h1 h2 h3 h4
  go_enter Try.func50, Try.ntmps50
  go_wp2_with fail
  go_quiet (fail)
  go_wp2_with fail
  have HW1 : Wr w0 (((W.drewN nq).setCell ⟨g, 0, none⟩ (.slice none 0 0)).setCell ⟨g, 1, none⟩ (.string (x.extract 0 hh))) g [] (x.extract 0 hh) :=
    Wr.wait (Wr.put (w0 := w0) (xs := []) (ys := []) (v1 := .slice none 0 0) (Blk.drewN HW.out.1 nq) ⟨rfl, .inl ⟨rfl, rfl⟩⟩ (below_drewN HW.out.2.2.1 nq) HW.out.2.2.2) _
  generalize ((W.drewN nq).setCell ⟨g, 0, none⟩ (.slice none 0 0)).setCell ⟨g, 1, none⟩ (.string (x.extract 0 hh)) = W3 at *
  have HW2 := Lib.hid HW1
  clear HW1 c0 c1 f0 f1
  go_loopw [5] (fun i wr => TwRel w0 g hh R i wr) (fun i _ => (intOf i).toNat)
  case atStart =>
    have q1 := HH.out.1
    have q2 := HH.out.2.1
    have q3 := HX.out
    exact TwRel.mk HW2.out ⟨by omega, by simp only [List.length_nil]; omega, .inr q1, Nat.le_refl _, by omega, hh + 1, by omega, HH.out.2.2⟩
  case round =>
    obtain ⟨left, ys, lt, rfl, hw, hlt, hys, h03, hlh, hle, q, hq, hR⟩ := hrel
    have q1 := HH.out.1
    have q2 := HH.out.2.1
    clear e1 e2 e3 e4 e5 a1 a2 a3 b1 b2 b3 s0 s1 s2 s3 d1 d2
    by_cases h0 : left = 0
    · have e0 := hle h0
      subst e0
      have hRR : ys = R := by
        obtain ⟨q', rfl⟩ : ∃ q', q = q' + 1 := ⟨q - 1, by omega⟩
        rw [fl_empty, tw, if_pos h0] at hR
        exact hR
      subst hRR
      have F := Lib.hid hw
      have g1 : ¬ ((0 : Int) < (left : Int)) := by omega
      have g2 : decide ((0 : Int) < (left : Int)) = false := decide_eq_false g1
      have g3 : decide (0 < left) = false := decide_eq_false (by omega)
      clear hw hlt hys h03 hlh hle hq hR h0 q1 q2
      go_wp2_with fail
      go_end0
      exact ⟨rfl, F.out⟩
    · have h3 : 3 ≤ left := h03.resolve_left h0
      obtain ⟨n1, n2, n3, n4⟩ := nxt_ok left h3
      have hfl := fl_length (hh + 1) lt.data.toList ys
      rw [data_length] at hfl
      have HCP := Lib.hid (copy_any w0 wr g ys lt hh (nxt left) hw (by omega) (hh + 1) (by omega) (by omega) q2 n1 n2 (by omega))
      have hcl := cp_length hh (nxt left)
      have hz : tw hh (q - 1) (left - nxt left) (fl (hh + 1) (⟨#[]⟩ : ByteArray).data.toList (fl (hh + 1) lt.data.toList ys ++ cp hh (nxt left))) = R := by
        obtain ⟨q', rfl⟩ : ∃ q', q = q' + 1 := ⟨q - 1, by omega⟩
        rw [tw, if_neg h0] at hR
        rw [fl_empty]
        exact hR
      have HREL := Lib.hid (show TwRest hh (left - nxt left) (fl (hh + 1) lt.data.toList ys ++ cp hh (nxt left)) ⟨#[]⟩ R from
        ⟨Nat.zero_le _, by simp only [List.length_append, show (⟨#[]⟩ : ByteArray).size = 0 from rfl]; omega, n4, by omega, fun _ => rfl, q - 1, by omega, hz⟩)
      have HNX := Lib.hid (And.intro n1 n3)
      generalize hzz : fl (hh + 1) lt.data.toList ys ++ cp hh (nxt left) = zz at *
      have hnx := nxt.eq_1 left
      generalize nxt left = nx at *
      obtain ⟨n0, hn0⟩ : ∃ n0, n0 = min 264 left := ⟨_, rfl⟩
      rw [← hn0] at hnx
      have hmin : (if (left : Int) < 264 then (left : Int) else 264) = (n0 : Int) := by split <;> omega
      have hl1 : IntKind.i64.wrap ((left : Int) - (nx : Int)) = ((left - nx : Nat) : Int) := by rw [IntKind.wrap_i64]; omega
      have g1 : (0 : Int) < (left : Int) := by omega
      have g2 : decide ((0 : Int) < (left : Int)) = true := decide_eq_true g1
      have g3 : decide (0 < left) = true := decide_eq_true (by omega)
      by_cases hr1 : left - n0 = 1
      · rw [if_pos (.inl hr1)] at hnx
        have hs1 : IntKind.i64.wrap ((left : Int) - (n0 : Int)) = 1 := by rw [IntKind.wrap_i64]; omega
        have hs3 : IntKind.i64.wrap ((n0 : Int) - 3) = (nx : Int) := by rw [IntKind.wrap_i64]; omega
        clear hw hlt hys h03 hlh hle hq hR h0 q1 q2 h3 n1 n2 n3 n4 hfl hcl hz hnx hn0 hr1 hzz
        go_wp2_with fail
        refine HCP.out.mono ?_
        rintro e w5 ⟨rfl, hw5⟩
        have F5 := Lib.hid hw5
        clear hw5
        go_wp2_with fail
        go_roundw
        case rel =>
          exact TwRel.mk F5.out HREL.out
        case measure => have := HNX.out; simp [intOf]; omega
      · by_cases hr2 : left - n0 = 2
        · rw [if_pos (.inr hr2)] at hnx
          have hs1 : IntKind.i64.wrap ((left : Int) - (n0 : Int)) = 2 := by rw [IntKind.wrap_i64]; omega
          have hs3 : IntKind.i64.wrap ((n0 : Int) - 3) = (nx : Int) := by rw [IntKind.wrap_i64]; omega
          clear hw hlt hys h03 hlh hle hq hR h0 q1 q2 h3 n1 n2 n3 n4 hfl hcl hz hnx hn0 hr1 hr2 hzz
          go_wp2_with fail
          refine HCP.out.mono ?_
          rintro e w5 ⟨rfl, hw5⟩
          have F5 := Lib.hid hw5
          clear hw5
          go_wp2_with fail
          go_roundw
          case rel =>
            exact TwRel.mk F5.out HREL.out
          case measure => have := HNX.out; simp [intOf]; omega
        · rw [if_neg (by omega)] at hnx
          subst hnx
          have kk1 : ¬ (left - nx = 1) := hr1
          have kk2 : ¬ (left - nx = 2) := hr2
          clear hcl hz
          have HRL' : ∃ r, r = left - nx := ⟨_, rfl⟩
          obtain ⟨r, hr⟩ := HRL'
          have HRL := Lib.hid hr
          rw [← hr] at hl1 HREL kk1 kk2
          clear hr
          have k1 : ¬ ((r : Int) = 1) := by omega
          have k2 : ¬ ((r : Int) = 2) := by omega
          have k3 : ((r : Int) == 1) = false := by simpa using k1
          have k4 : ((r : Int) == 2) = false := by simpa using k2
          have k5 : decide ((r : Int) = 1) = false := decide_eq_false k1
          have k6 : decide ((r : Int) = 2) = false := decide_eq_false k2
          have k7 : ¬ (r = 1) := by omega
          have k8 : ¬ (r = 2) := by omega
          clear hw hlt hys h03 hlh hle hq hR h0 q1 q2 h3 n1 n2 n3 n4 hfl hn0 hr1 hr2 hzz kk1 kk2
          go_wp2_with fail
          refine HCP.out.mono ?_
          rintro e w5 ⟨rfl, hw5⟩
          have F5 := Lib.hid hw5
          clear hw5
          go_wp2_with fail
          go_roundw
          case rel =>
            exact TwRel.mk F5.out HREL.out
          case measure => have := HNX.out; have := HRL.out; simp [intOf]; omega
end Go.Proofs.Ytdadggaecgkhfaa.LZ
