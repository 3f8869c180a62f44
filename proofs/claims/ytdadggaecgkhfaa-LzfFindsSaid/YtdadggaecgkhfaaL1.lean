/- Unpack in plain Lean and its contract: the section that the kit's print.sh has written for this seat; one row is mine: the simp law of a cut text's size is laid aside, without which the contract falls. -/
import Derived.Test.YtdadggaecgkhfaaPLzfUnpacksx0
namespace Go.Proofs.Ytdadggaecgkhfaa.PLzfUnpacks
open Go.RowKit Go.Proofs.YtdadggaecgkhfaaW.PrintWords Go.Proofs.YtdadggaecgkhfaaW.PrintLast Go.Proofs.YtdadggaecgkhfaaW.PrintMore
attribute [local go_sem] max2_int min2_int max_two min_two max_three min_three max_four min_four   -- for this text's walks alone
set_option linter.unusedVariables false
set_option linter.unusedSimpArgs false

attribute [-simp] ByteArray.size_extract
/-! ### lzf_Unpack: function 33 -/
mutual
def lzf_Unpack.j0 : Nat → ByteArray → Int → Bool → Option (ByteArray × Int)
  | 0, _, _, _ => none
  | k + 1, x0, x1, x16 => if x16 = true then (some ((⟨#[]⟩ : ByteArray), 1)) else (lzf_Unpack.l0 k x0 x1 ([] : List Int))
def lzf_Unpack.l0 : Nat → ByteArray → Int → List Int → Option (ByteArray × Int)
  | 0, _, _, _ => none
  | k + 1, x0, x1, x6 => if x0.toList = ([] : List UInt8) then (if (x6.length : Int) = x1 then (some (strOfNums x6, 0)) else (some ((⟨#[]⟩ : ByteArray), 31))) else (if 0 < (x0.size : Int) then (if 1 ≤ (x0.size : Int) then (if (wrap64 (bt x0 0)) < 32 then (if (wrap64 ((wrap64 ((x6.length : Int) + (wrap64 (bt x0 0)))) + 1)) > x1 then (some ((⟨#[]⟩ : ByteArray), 31)) else (if ((x0.extract 1 x0.size).size : Int) < (wrap64 ((wrap64 (bt x0 0)) + 1)) then (some ((⟨#[]⟩ : ByteArray), 20)) else (if 0 ≤ (wrap64 ((wrap64 (bt x0 0)) + 1)) then (if (wrap64 ((wrap64 (bt x0 0)) + 1)) ≤ ((x0.extract 1 x0.size).size : Int) then (if x6.length + ((x0.extract 1 x0.size).extract 0 ((wrap64 ((wrap64 (bt x0 0)) + 1)) : Int).toNat).size < 140737488355328 then (lzf_Unpack.l0 k ((x0.extract 1 x0.size).extract ((wrap64 ((wrap64 (bt x0 0)) + 1)) : Int).toNat (x0.extract 1 x0.size).size) x1 (x6 ++ bytesOf ((x0.extract 1 x0.size).extract 0 ((wrap64 ((wrap64 (bt x0 0)) + 1)) : Int).toNat))) else (none)) else (none)) else (none)))) else (if ((wrap64 (bt x0 0)) / 32) = 7 then (if (x0.extract 1 x0.size).toList = ([] : List UInt8) then (some ((⟨#[]⟩ : ByteArray), 20)) else (if 0 < ((x0.extract 1 x0.size).size : Int) then (if 1 ≤ ((x0.extract 1 x0.size).size : Int) then (lzf_Unpack.j2 k ((x0.extract 1 x0.size).extract 1 (x0.extract 1 x0.size).size) x1 x6 (wrap64 (bt x0 0)) (wrap64 ((wrap64 (((wrap64 (bt x0 0)) / 32) + 2)) + (wrap64 (bt (x0.extract 1 x0.size) 0))))) else (none)) else (none))) else (lzf_Unpack.j2 k (x0.extract 1 x0.size) x1 x6 (wrap64 (bt x0 0)) (wrap64 (((wrap64 (bt x0 0)) / 32) + 2))))) else (none)) else (none))
def lzf_Unpack.j2 : Nat → ByteArray → Int → List Int → Int → Int → Option (ByteArray × Int)
  | 0, _, _, _, _, _ => none
  | k + 1, x0, x1, x6, x7, x8 => if x0.toList = ([] : List UInt8) then (some ((⟨#[]⟩ : ByteArray), 20)) else (if 0 < (x0.size : Int) then (if 1 ≤ (x0.size : Int) then (if (wrap64 ((x6.length : Int) + x8)) > x1 then (some ((⟨#[]⟩ : ByteArray), 31)) else (if (wrap64 ((wrap64 ((wrap64 ((x6.length : Int) - (wrap64 ((Go.bits .and .i64 x7 31) * 256)))) - (wrap64 (bt x0 0)))) - 1)) < 0 then (some ((⟨#[]⟩ : ByteArray), 30)) else (lzf_Unpack.l1 k (x0.extract 1 x0.size) x1 x6 (wrap64 ((wrap64 ((wrap64 ((x6.length : Int) - (wrap64 ((Go.bits .and .i64 x7 31) * 256)))) - (wrap64 (bt x0 0)))) - 1)) x8 0))) else (none)) else (none))
def lzf_Unpack.l1 : Nat → ByteArray → Int → List Int → Int → Int → Int → Option (ByteArray × Int)
  | 0, _, _, _, _, _, _ => none
  | k + 1, x0, x1, x6, x9, x86, x87 => if x87 < x86 then (if 0 ≤ (wrap64 (x9 + x87)) then (if (wrap64 (x9 + x87)) < (x6.length : Int) then (if x6.length < 140737488355328 then (lzf_Unpack.l1 k x0 x1 (x6 ++ [rd x6 (wrap64 (x9 + x87))]) x9 x86 (wrap64 (x87 + 1))) else (none)) else (none)) else (none)) else (lzf_Unpack.l0 k x0 x1 x6)
end
def lzf_Unpack.f (k : Nat) (a0 : ByteArray) (a1 : Int) : Option (ByteArray × Int) := if a1 < 1 then (lzf_Unpack.j0 k a0 a1 true) else (lzf_Unpack.j0 k a0 a1 (decide (a1 > 524288)))
theorem lzf_Unpack.mono_l : ∀ k, (∀ y0 y1 y2, LeO (lzf_Unpack.j0 k y0 y1 y2) (lzf_Unpack.j0 (k + 1) y0 y1 y2)) ∧ (∀ y0 y1 y2, LeO (lzf_Unpack.l0 k y0 y1 y2) (lzf_Unpack.l0 (k + 1) y0 y1 y2)) ∧ (∀ y0 y1 y2 y3 y4, LeO (lzf_Unpack.j2 k y0 y1 y2 y3 y4) (lzf_Unpack.j2 (k + 1) y0 y1 y2 y3 y4)) ∧ (∀ y0 y1 y2 y3 y4 y5, LeO (lzf_Unpack.l1 k y0 y1 y2 y3 y4 y5) (lzf_Unpack.l1 (k + 1) y0 y1 y2 y3 y4 y5))
  | 0 => ⟨fun _ _ _ r h => by simp [lzf_Unpack.j0] at h, fun _ _ _ r h => by simp [lzf_Unpack.l0] at h, fun _ _ _ _ _ r h => by simp [lzf_Unpack.j2] at h, fun _ _ _ _ _ _ r h => by simp [lzf_Unpack.l1] at h⟩
  | k + 1 => by
    obtain ⟨ih0, ih1, ih2, ih3⟩ := lzf_Unpack.mono_l k
    refine ⟨?_, ?_, ?_, ?_⟩
    · intro y0 y1 y2
      unfold lzf_Unpack.j0
      repeat' first
      | (with_reducible exact ih0 _ _ _)
      | (with_reducible exact ih1 _ _ _)
      | (with_reducible exact ih2 _ _ _ _ _)
      | (with_reducible exact ih3 _ _ _ _ _ _)
      | (with_reducible exact LeO.refl _)
      | (with_reducible exact LeO.none _)
      | (with_reducible refine LeO.ite ?_ ?_)
      | (with_reducible refine LeO.bind ?_ (fun _ => ?_))
      | exact ih0 _ _ _
      | exact ih1 _ _ _
      | exact ih2 _ _ _ _ _
      | exact ih3 _ _ _ _ _ _
      | exact LeO.none _
      | refine LeO.ite ?_ ?_
      | refine LeO.bind ?_ (fun _ => ?_)
    · intro y0 y1 y2
      unfold lzf_Unpack.l0
      repeat' first
      | (with_reducible exact ih0 _ _ _)
      | (with_reducible exact ih1 _ _ _)
      | (with_reducible exact ih2 _ _ _ _ _)
      | (with_reducible exact ih3 _ _ _ _ _ _)
      | (with_reducible exact LeO.refl _)
      | (with_reducible exact LeO.none _)
      | (with_reducible refine LeO.ite ?_ ?_)
      | (with_reducible refine LeO.bind ?_ (fun _ => ?_))
      | exact ih0 _ _ _
      | exact ih1 _ _ _
      | exact ih2 _ _ _ _ _
      | exact ih3 _ _ _ _ _ _
      | exact LeO.none _
      | refine LeO.ite ?_ ?_
      | refine LeO.bind ?_ (fun _ => ?_)
    · intro y0 y1 y2 y3 y4
      unfold lzf_Unpack.j2
      repeat' first
      | (with_reducible exact ih0 _ _ _)
      | (with_reducible exact ih1 _ _ _)
      | (with_reducible exact ih2 _ _ _ _ _)
      | (with_reducible exact ih3 _ _ _ _ _ _)
      | (with_reducible exact LeO.refl _)
      | (with_reducible exact LeO.none _)
      | (with_reducible refine LeO.ite ?_ ?_)
      | (with_reducible refine LeO.bind ?_ (fun _ => ?_))
      | exact ih0 _ _ _
      | exact ih1 _ _ _
      | exact ih2 _ _ _ _ _
      | exact ih3 _ _ _ _ _ _
      | exact LeO.none _
      | refine LeO.ite ?_ ?_
      | refine LeO.bind ?_ (fun _ => ?_)
    · intro y0 y1 y2 y3 y4 y5
      unfold lzf_Unpack.l1
      repeat' first
      | (with_reducible exact ih0 _ _ _)
      | (with_reducible exact ih1 _ _ _)
      | (with_reducible exact ih2 _ _ _ _ _)
      | (with_reducible exact ih3 _ _ _ _ _ _)
      | (with_reducible exact LeO.refl _)
      | (with_reducible exact LeO.none _)
      | (with_reducible refine LeO.ite ?_ ?_)
      | (with_reducible refine LeO.bind ?_ (fun _ => ?_))
      | exact ih0 _ _ _
      | exact ih1 _ _ _
      | exact ih2 _ _ _ _ _
      | exact ih3 _ _ _ _ _ _
      | exact LeO.none _
      | refine LeO.ite ?_ ?_
      | refine LeO.bind ?_ (fun _ => ?_)
theorem lzf_Unpack.mono : ∀ a0 a1 k, LeO (lzf_Unpack.f k a0 a1) (lzf_Unpack.f (k + 1) a0 a1) := by
  intro a0 a1 k
  obtain ⟨ih0, ih1, ih2, ih3⟩ := lzf_Unpack.mono_l k
  unfold lzf_Unpack.f
  repeat' first
      | (with_reducible exact ih0 _ _ _)
      | (with_reducible exact ih1 _ _ _)
      | (with_reducible exact ih2 _ _ _ _ _)
      | (with_reducible exact ih3 _ _ _ _ _ _)
      | (with_reducible exact LeO.refl _)
      | (with_reducible exact LeO.none _)
      | (with_reducible refine LeO.ite ?_ ?_)
      | (with_reducible refine LeO.bind ?_ (fun _ => ?_))
      | exact ih0 _ _ _
      | exact ih1 _ _ _
      | exact ih2 _ _ _ _ _
      | exact ih3 _ _ _ _ _ _
      | exact LeO.none _
      | refine LeO.ite ?_ ?_
      | refine LeO.bind ?_ (fun _ => ?_)
set_option maxHeartbeats 8000000 in
set_option maxRecDepth 100000 in
theorem lzf_Unpack.calls (k : Nat) (a0 : ByteArray) (a1 : Int) (r1 : ByteArray) (r2 : Int) (w : World) (h : lzf_Unpack.f k a0 a1 = some (r1, r2)) :
    Calls Try.prog 33 #[.string a0, .int .i64 a1] w fun e w' => e = .returned (.tuple #[.string r1, .int .i64 r2]) ∧ Below w.heap.size w w' := by
  have HB := Aside0.mk (Below.refl w.heap.size w)
  have H : (if a1 < 1 then (lzf_Unpack.j0 k a0 a1 true) else (lzf_Unpack.j0 k a0 a1 (decide (a1 > 524288)))) = some (r1, r2) := h
  clear h
  have HC3 := Aside0.mk H
  clear H
  go_enter Try.func33, Try.ntmps33
  go_upto_region 1 with (fail)
  go_cut [16] (fun v16 wc => ∃ (kq : Nat) (x16_2 : Bool), v16 = .bool x16_2 ∧ Aside0 (lzf_Unpack.j0 kq a0 a1 x16_2 = some (r1, r2)) ∧ Aside0 (kq ≤ k) ∧ Aside0 (Below w.heap.size w wc))
  case first =>
    have H := HC3.out
    clear HC3
    by_cases c4 : a1 < 1
    · rw [if_pos c4] at H
      have c4b0 : decide (a1 < 1) = true := decide_eq_true c4
      clear c4
      (first | rw [c4b0] | (simp only [i64_w, i32_w]; rw [c4b0]) | skip)
      have H' := Aside0.mk H
      clear H
      go_wp2
      go_meet
      case rel => exact ⟨_, (true), (by first | rfl | (simp; done) | (simp [*]; done)), H', ⟨by first | omega | exact Nat.le_refl _⟩, ⟨by repeat (first | (with_reducible first | exact HB.out | apply below_alloc | apply pw_below_drewN | apply below_drew1) | exact HB.out)⟩⟩
    · rw [if_neg c4] at H
      have c4b0 : decide (a1 < 1) = false := decide_eq_false c4
      clear c4
      (first | rw [c4b0] | (simp only [i64_w, i32_w]; rw [c4b0]) | skip)
      have H' := Aside0.mk H
      clear H
      go_wp2
      go_meet
      case rel => exact ⟨_, (decide (a1 > 524288)), (by first | rfl | (simp; done) | (simp [*]; done)), H', ⟨by first | omega | exact Nat.le_refl _⟩, ⟨by repeat (first | (with_reducible first | exact HB.out | apply below_alloc | apply pw_below_drewN | apply below_drew1) | exact HB.out)⟩⟩
  case rest =>
    clear HC3
    try clear p2
    try clear c3
    try clear c4
    try clear c4b0
    obtain ⟨kq, x16_2, rfl, HA, HJ2, HB⟩ := hcut
    cases kq with
    | zero => exact absurd HA.out (by simp [lzf_Unpack.j0])
    | succ kj2 =>
      have H := HA.out
      clear HA
      simp only [lzf_Unpack.j0] at H
      by_cases c5 : x16_2 = true
      · subst c5
        have H1 : (some ((⟨#[]⟩ : ByteArray), 1)) = some (r1, r2) := by rw [if_pos rfl] at H; exact H
        clear H
        have H := H1
        clear H1
        simp only [Option.some.injEq, Prod.mk.injEq] at H
        obtain ⟨rfl, rfl⟩ := H
        go_wp2
        go_ret2
        exact ⟨by first | rfl | (simp [errW_none, errW_some] <;> rfl) | (simp [*, errW_none, errW_some] <;> rfl), by repeat (first | (with_reducible first | exact HB.out | apply below_alloc | apply pw_below_drewN | apply below_drew1) | exact HB.out)⟩
      · replace c5 := Bool.eq_false_iff.mpr c5
        subst c5
        have H1 : (lzf_Unpack.l0 kj2 a0 a1 ([] : List Int)) = some (r1, r2) := by rw [if_neg (show ¬ (false = true) by decide)] at H; exact H
        clear H
        have H := H1
        clear H1
        have H' := Aside0.mk H
        clear H
        go_wp2
        go_loopg [0, 6] kj2 (fun kq v0 v6 w' => ∃ (x0_2 : ByteArray) (x6_2 : List Int), v0 = .string x0_2 ∧ Aside0 (lzf_Unpack.l0 kq x0_2 a1 x6_2 = some (r1, r2)) ∧ Aside0 (kq ≤ kj2) ∧ Aside0 (Kd.R (Kd.int .u8) 5 w' w.heap.size (fun _ => True) v6 x6_2) ∧ Aside0 (Below w.heap.size w w'))
        case atStart => exact ⟨(a0), (([] : List Int)), (by first | rfl | (simp; done) | (simp [*]; done)), H', ⟨Nat.le_refl _⟩, ⟨by first | exact Kd.R_nil _ _ _ _ _ | exact Kd.N_nil _ _ _ _ _ | exact Kd.V_nil _ _ _ _ _ | exact Kd.Q_nil _ _ _ _ _ | exact Kd.S_nil _ _ _ _ _⟩, ⟨by repeat (first | (with_reducible first | exact HB.out | apply below_alloc | apply pw_below_drewN | apply below_drew1) | exact HB.out)⟩⟩
        case round =>
          clear H'
          try clear p2
          try clear c3
          try clear c4
          try clear c4b0
          try clear c5
          try clear p2
          obtain ⟨x0_2, x6_2, rfl, HA, HK2, HO_6, HB⟩ := hrel
          cases gk with
          | zero => exact absurd HA.out (by simp [lzf_Unpack.l0])
          | succ k2 =>
            have H := HA.out
            clear HA
            simp only [lzf_Unpack.l0] at H
            by_cases c6 : x0_2.toList = ([] : List UInt8)
            · rw [if_pos c6] at H
              have c6b0 : (x0_2.toList == ([] : List UInt8)) = true := beq_iff_eq.mpr c6
              have c6b1 : (x0_2.toList != ([] : List UInt8)) = false := bne_eq_false_iff_eq.mpr c6
              clear c6
              by_cases c7 : (x6_2.length : Int) = a1
              · rw [if_pos c7] at H
                have c7b0 : ((x6_2.length : Int) == a1) = true := beq_iff_eq.mpr c7
                have c7b1 : ((x6_2.length : Int) != a1) = false := bne_eq_false_iff_eq.mpr c7
                clear c7
                simp only [Option.some.injEq, Prod.mk.injEq] at H
                obtain ⟨rfl, rfl⟩ := H
                obtain ⟨Ao8, co8, eo8⟩ := Kd.R_slice HO_6.out
                subst eo8
                have hcv9 := own_string (P := Try.prog) Try.underlying56 Try.underlying5 Try.underlying9 (Kd.own_of_R HO_6.out)
                go_wp2
                go_ret2
                exact ⟨by first | rfl | (simp [errW_none, errW_some] <;> rfl) | (simp [*, errW_none, errW_some] <;> rfl), by repeat (first | (with_reducible first | exact HB.out | apply below_alloc | apply pw_below_drewN | apply below_drew1) | exact HB.out)⟩
              · rw [if_neg c7] at H
                have c7b0 : ((x6_2.length : Int) == a1) = false := beq_eq_false_iff_ne.mpr c7
                have c7b1 : ((x6_2.length : Int) != a1) = true := bne_iff_ne.mpr c7
                simp only [Option.some.injEq, Prod.mk.injEq] at H
                obtain ⟨rfl, rfl⟩ := H
                obtain ⟨Ao10, co10, eo10⟩ := Kd.R_slice HO_6.out
                subst eo10
                go_wp2
                go_ret2
                exact ⟨by first | rfl | (simp [errW_none, errW_some] <;> rfl) | (simp [*, errW_none, errW_some] <;> rfl), by repeat (first | (with_reducible first | exact HB.out | apply below_alloc | apply pw_below_drewN | apply below_drew1) | exact HB.out)⟩
            · rw [if_neg c6] at H
              have c6b0 : (x0_2.toList == ([] : List UInt8)) = false := beq_eq_false_iff_ne.mpr c6
              have c6b1 : (x0_2.toList != ([] : List UInt8)) = true := bne_iff_ne.mpr c6
              by_cases c11 : 0 < (x0_2.size : Int)
              · rw [if_pos c11] at H
                have c11b0 : decide (0 < (x0_2.size : Int)) = true := decide_eq_true c11
                have c11b1 : decide (0 < x0_2.size) = true := decide_eq_true (by omega)
                clear c11
                by_cases c13 : 1 ≤ (x0_2.size : Int)
                · rw [if_pos c13] at H
                  have c13b0 := eq_true c13
                  have c13b1 : decide (1 ≤ (x0_2.size : Int)) = true := decide_eq_true c13
                  clear c13
                  by_cases c14 : (wrap64 (bt x0_2 0)) < 32
                  · rw [if_pos c14] at H
                    have c14b0 : decide ((wrap64 (bt x0_2 0)) < 32) = true := decide_eq_true c14
                    clear c14
                    by_cases c15 : (wrap64 ((wrap64 ((x6_2.length : Int) + (wrap64 (bt x0_2 0)))) + 1)) > a1
                    · rw [if_pos c15] at H
                      have c15b0 : decide (a1 < (wrap64 ((wrap64 ((x6_2.length : Int) + (wrap64 (bt x0_2 0)))) + 1))) = true := decide_eq_true c15
                      clear c15
                      simp only [Option.some.injEq, Prod.mk.injEq] at H
                      obtain ⟨rfl, rfl⟩ := H
                      have p12 : 0 ≤ (0 : Int) := (by omega)
                      have q12 : 0 < x0_2.size := (by have : (0 : Int) < (x0_2.size : Int) := of_decide_eq_true (by first | (with_reducible assumption) | assumption); omega)
                      have hx12 : ∀ h : 0 < x0_2.size, ((x0_2[0]'h).toNat : Int) = bt x0_2 0 := bt_at x0_2 0
                      clear p12
                      have qi12 : (0 < (x0_2.size : Int)) = True := eq_true (of_decide_eq_true (by first | (with_reducible assumption) | assumption))
                      replace q12 := eq_true q12
                      obtain ⟨Ao16, co16, eo16⟩ := Kd.R_slice HO_6.out
                      subst eo16
                      go_wp2
                      go_ret2
                      exact ⟨by first | rfl | (simp [errW_none, errW_some] <;> rfl) | (simp [*, errW_none, errW_some] <;> rfl), by repeat (first | (with_reducible first | exact HB.out | apply below_alloc | apply pw_below_drewN | apply below_drew1) | exact HB.out)⟩
                    · rw [if_neg c15] at H
                      have c15b0 : decide (a1 < (wrap64 ((wrap64 ((x6_2.length : Int) + (wrap64 (bt x0_2 0)))) + 1))) = false := decide_eq_false c15
                      clear c15
                      by_cases c17 : ((x0_2.extract 1 x0_2.size).size : Int) < (wrap64 ((wrap64 (bt x0_2 0)) + 1))
                      · rw [if_pos c17] at H
                        have c17b0 : decide (((x0_2.extract 1 x0_2.size).size : Int) < (wrap64 ((wrap64 (bt x0_2 0)) + 1))) = true := decide_eq_true c17
                        clear c17
                        simp only [Option.some.injEq, Prod.mk.injEq] at H
                        obtain ⟨rfl, rfl⟩ := H
                        have p12 : 0 ≤ (0 : Int) := (by omega)
                        have q12 : 0 < x0_2.size := (by have : (0 : Int) < (x0_2.size : Int) := of_decide_eq_true (by first | (with_reducible assumption) | assumption); omega)
                        have hx12 : ∀ h : 0 < x0_2.size, ((x0_2[0]'h).toNat : Int) = bt x0_2 0 := bt_at x0_2 0
                        clear p12
                        have qi12 : (0 < (x0_2.size : Int)) = True := eq_true (of_decide_eq_true (by first | (with_reducible assumption) | assumption))
                        replace q12 := eq_true q12
                        obtain ⟨Ao18, co18, eo18⟩ := Kd.R_slice HO_6.out
                        subst eo18
                        go_wp2
                        go_ret2
                        exact ⟨by first | rfl | (simp [errW_none, errW_some] <;> rfl) | (simp [*, errW_none, errW_some] <;> rfl), by repeat (first | (with_reducible first | exact HB.out | apply below_alloc | apply pw_below_drewN | apply below_drew1) | exact HB.out)⟩
                      · rw [if_neg c17] at H
                        have c17b0 : decide (((x0_2.extract 1 x0_2.size).size : Int) < (wrap64 ((wrap64 (bt x0_2 0)) + 1))) = false := decide_eq_false c17
                        clear c17
                        obtain ⟨ji19, hji19⟩ : ∃ j_ : Int, (wrap64 ((wrap64 (bt x0_2 0)) + 1)) = j_ := ⟨_, rfl⟩
                        replace H : (if 0 ≤ (ji19) then (if (ji19) ≤ ((x0_2.extract 1 x0_2.size).size : Int) then (if x6_2.length + ((x0_2.extract 1 x0_2.size).extract 0 ((ji19) : Int).toNat).size < 140737488355328 then (lzf_Unpack.l0 k2 ((x0_2.extract 1 x0_2.size).extract ((ji19) : Int).toNat (x0_2.extract 1 x0_2.size).size) a1 (x6_2 ++ bytesOf ((x0_2.extract 1 x0_2.size).extract 0 ((ji19) : Int).toNat))) else (none)) else (none)) else (none)) = some (r1, r2) := by first | (rw [hji19] at H; exact H) | (simp only [hji19] at H ⊢; exact H)
                        (try rw [hji19] at c17b0)
                        have hji19w : (IntKind.i64.wrap ((wrap64 (bt x0_2 0)) + 1)) = ji19 := (i64_w _).trans hji19
                        by_cases c20 : 0 ≤ (ji19)
                        · rw [if_pos c20] at H
                          have c20b0 := eq_true c20
                          have c20b1 : decide (0 ≤ (ji19)) = true := decide_eq_true c20
                          clear c20
                          by_cases c21 : (ji19) ≤ ((x0_2.extract 1 x0_2.size).size : Int)
                          · rw [if_pos c21] at H
                            have c21b0 := eq_true c21
                            have c21b1 : decide ((ji19) ≤ ((x0_2.extract 1 x0_2.size).size : Int)) = true := decide_eq_true c21
                            clear c21
                            by_cases c22 : x6_2.length + ((x0_2.extract 1 x0_2.size).extract 0 ((ji19) : Int).toNat).size < 140737488355328
                            · rw [if_pos c22] at H
                              have LMc22 := Aside0.mk c22
                              clear c22
                              obtain ⟨y101, hy101⟩ : ∃ y_ : List Int, y_ = (x6_2 ++ bytesOf ((x0_2.extract 1 x0_2.size).extract 0 ((ji19) : Int).toNat)) := ⟨_, rfl⟩
                              replace H : (lzf_Unpack.l0 k2 ((x0_2.extract 1 x0_2.size).extract ((ji19) : Int).toNat (x0_2.extract 1 x0_2.size).size) a1 y101) = some (r1, r2) := by first | (rw [hy101]; with_reducible exact H) | (have H2_ := (Option.bind_some _ _).symm.trans H; rw [hy101]; with_reducible exact H2_) | (have H2_ := (Option.bind_some _ _).symm.trans H; with_reducible exact H2_) | with_reducible exact H | (rw [hy101]; exact H) | exact H
                              have Ny101 := Aside0.mk hy101
                              clear hy101
                              have c23b0 := eq_true (of_decide_eq_true (by first | (with_reducible assumption) | assumption) : 0 ≤ (ji19))
                              have c24b0 := eq_true (of_decide_eq_true (by first | (with_reducible assumption) | assumption) : (ji19) ≤ ((x0_2.extract 1 x0_2.size).size : Int))
                              have H' := Aside0.mk H
                              clear H
                              have p12 : 0 ≤ (0 : Int) := (by omega)
                              have q12 : 0 < x0_2.size := (by have : (0 : Int) < (x0_2.size : Int) := of_decide_eq_true (by first | (with_reducible assumption) | assumption); omega)
                              have hx12 : ∀ h : 0 < x0_2.size, ((x0_2[0]'h).toNat : Int) = bt x0_2 0 := bt_at x0_2 0
                              clear p12
                              have qi12 : (0 < (x0_2.size : Int)) = True := eq_true (of_decide_eq_true (by first | (with_reducible assumption) | assumption))
                              replace q12 := eq_true q12
                              obtain ⟨Ao25, co25, eo25⟩ := Kd.R_slice HO_6.out
                              subst eo25
                              go_wp2_with (first | (at_builtin; refine print_append_str (w0 := w) w.heap.size rfl (.tmp 38) _ 56 9 5 rfl Try.underlying56 Try.underlying9 info5 (.slice Ao25 x6_2.length co25) x6_2 ((x0_2.extract 1 x0_2.size).extract 0 ((ji19) : Int).toNat) rfl rfl ?aO ?aB ?aS ?aL ?_; (case aB => exact (by repeat (first | (with_reducible first | exact HB.out | apply below_alloc | apply pw_below_drewN | apply below_drew1) | exact HB.out))); (case aO => exact (Kd.own_of_R (by (with_reducible repeat (first | apply Kd.R_alloc | apply Kd.R_drewN | apply Kd.R_drew)); exact HO_6.out))); (case aS => exact (below_size (by repeat (first | (with_reducible first | exact HB.out | apply below_alloc | apply pw_below_drewN | apply below_drew1) | exact HB.out)))); (case aL => have := LMc22.out; omega); intro v102 w26 ho0 hb hg; have ho := Kd.R_of_own (h1 := fun _ => rfl) (ok := fun _ => True) ho0 (fun _ _ => trivial); clear ho0; have hat := True.intro; rw [← Ny101.out] at ho; change Kd.R (Kd.int .u8) 5 w26 w.heap.size (fun _ => True) v102 y101 at ho; have n0_ := Aside0.mk (hb); have n1_ := Aside0.mk (ho); clear HB; clear HO_6; have HB := n0_; have HO103 := n1_; clear n0_ n1_; clear ho hb hg hat))
                              go_roundg k2
                              case measure => have := HJ2.out; have := HK2.out; omega
                              case rel => exact ⟨((x0_2.extract 1 x0_2.size).extract ((ji19) : Int).toNat (x0_2.extract 1 x0_2.size).size), (y101), (by first | rfl | (simp; done) | (simp only [← hji19] <;> (first | rfl | simp)) | (simp [*]; done)), H', ⟨by have := HJ2.out; have := HK2.out; omega⟩, ⟨by (with_reducible repeat (first | apply Kd.R_alloc | apply Kd.R_drewN | apply Kd.R_drew)); exact HO103.out⟩, ⟨by repeat (first | (with_reducible first | exact HB.out | apply below_alloc | apply pw_below_drewN | apply below_drew1) | exact HB.out)⟩⟩
                            · rw [if_neg c22] at H
                              exact absurd H (by simp)
                          · rw [if_neg c21] at H
                            exact absurd H (by simp)
                        · rw [if_neg c20] at H
                          exact absurd H (by simp)
                  · rw [if_neg c14] at H
                    have c14b0 : decide ((wrap64 (bt x0_2 0)) < 32) = false := decide_eq_false c14
                    clear c14
                    have HC27 := Aside0.mk H
                    clear H
                    have p12 : 0 ≤ (0 : Int) := (by omega)
                    have q12 : 0 < x0_2.size := (by have : (0 : Int) < (x0_2.size : Int) := of_decide_eq_true (by first | (with_reducible assumption) | assumption); omega)
                    have hx12 : ∀ h : 0 < x0_2.size, ((x0_2[0]'h).toNat : Int) = bt x0_2 0 := bt_at x0_2 0
                    clear p12
                    have qi12 : (0 < (x0_2.size : Int)) = True := eq_true (of_decide_eq_true (by first | (with_reducible assumption) | assumption))
                    replace q12 := eq_true q12
                    go_upto_if 53 with (fail)
                    go_cut [0, 8] (fun v0 v8 wc => ∃ (kq : Nat) (x0_26 : ByteArray) (x8_26 : Int), v0 = .string x0_26 ∧ v8 = .int .i64 x8_26 ∧ Aside0 (lzf_Unpack.j2 kq x0_26 a1 x6_2 (wrap64 (bt x0_2 0)) x8_26 = some (r1, r2)) ∧ Aside0 (kq ≤ k2) ∧ Aside0 (Kd.R (Kd.int .u8) 5 wc w.heap.size (fun _ => True) u6 x6_2) ∧ Aside0 (Below w.heap.size w wc))
                    case first =>
                      have H := HC27.out
                      clear HC27
                      by_cases c28 : ((wrap64 (bt x0_2 0)) / 32) = 7
                      · rw [if_pos c28] at H
                        have c28b0 : (((wrap64 (bt x0_2 0)) / 32) == 7) = true := beq_iff_eq.mpr c28
                        have c28b1 : (((wrap64 (bt x0_2 0)) / 32) != 7) = false := bne_eq_false_iff_eq.mpr c28
                        clear c28
                        (first | rw [c28b0] | (simp only [i64_w, i32_w]; rw [c28b0]) | skip)
                        by_cases c29 : (x0_2.extract 1 x0_2.size).toList = ([] : List UInt8)
                        · rw [if_pos c29] at H
                          have c29b0 : ((x0_2.extract 1 x0_2.size).toList == ([] : List UInt8)) = true := beq_iff_eq.mpr c29
                          have c29b1 : ((x0_2.extract 1 x0_2.size).toList != ([] : List UInt8)) = false := bne_eq_false_iff_eq.mpr c29
                          clear c29
                          simp only [Option.some.injEq, Prod.mk.injEq] at H
                          obtain ⟨rfl, rfl⟩ := H
                          go_wp2
                          go_ret2
                          exact ⟨by first | rfl | (simp [errW_none, errW_some] <;> rfl) | (simp [*, errW_none, errW_some] <;> rfl), by repeat (first | (with_reducible first | exact HB.out | apply below_alloc | apply pw_below_drewN | apply below_drew1) | exact HB.out)⟩
                        · rw [if_neg c29] at H
                          have c29b0 : ((x0_2.extract 1 x0_2.size).toList == ([] : List UInt8)) = false := beq_eq_false_iff_ne.mpr c29
                          have c29b1 : ((x0_2.extract 1 x0_2.size).toList != ([] : List UInt8)) = true := bne_iff_ne.mpr c29
                          by_cases c30 : 0 < ((x0_2.extract 1 x0_2.size).size : Int)
                          · rw [if_pos c30] at H
                            have c30b0 : decide (0 < ((x0_2.extract 1 x0_2.size).size : Int)) = true := decide_eq_true c30
                            have c30b1 : decide (0 < (x0_2.extract 1 x0_2.size).size) = true := decide_eq_true (by omega)
                            clear c30
                            by_cases c32 : 1 ≤ ((x0_2.extract 1 x0_2.size).size : Int)
                            · rw [if_pos c32] at H
                              have c32b0 := eq_true c32
                              have c32b1 : decide (1 ≤ ((x0_2.extract 1 x0_2.size).size : Int)) = true := decide_eq_true c32
                              clear c32
                              have H' := Aside0.mk H
                              clear H
                              have p31 : 0 ≤ (0 : Int) := (by omega)
                              have q31 : 0 < (x0_2.extract 1 x0_2.size).size := (by have : (0 : Int) < ((x0_2.extract 1 x0_2.size).size : Int) := of_decide_eq_true (by first | (with_reducible assumption) | assumption); omega)
                              have hx31 : ∀ h : 0 < (x0_2.extract 1 x0_2.size).size, (((x0_2.extract 1 x0_2.size)[0]'h).toNat : Int) = bt (x0_2.extract 1 x0_2.size) 0 := bt_at (x0_2.extract 1 x0_2.size) 0
                              clear p31
                              have qi31 : (0 < ((x0_2.extract 1 x0_2.size).size : Int)) = True := eq_true (of_decide_eq_true (by first | (with_reducible assumption) | assumption))
                              replace q31 := eq_true q31
                              go_wp2
                              go_meet
                              case rel => exact ⟨_, ((x0_2.extract 1 x0_2.size).extract 1 (x0_2.extract 1 x0_2.size).size), (wrap64 ((wrap64 (((wrap64 (bt x0_2 0)) / 32) + 2)) + (wrap64 (bt (x0_2.extract 1 x0_2.size) 0)))), (by first | rfl | (simp; done) | (simp [*]; done)), (by first | rfl | (simp; done) | (simp [*]; done)), H', ⟨by have := HJ2.out; have := HK2.out; first | omega | exact Nat.le_refl _⟩, ⟨by (with_reducible repeat (first | apply Kd.R_alloc | apply Kd.R_drewN | apply Kd.R_drew)); exact HO_6.out⟩, ⟨by repeat (first | (with_reducible first | exact HB.out | apply below_alloc | apply pw_below_drewN | apply below_drew1) | exact HB.out)⟩⟩
                            · rw [if_neg c32] at H
                              exact absurd H (by simp)
                          · rw [if_neg c30] at H
                            exact absurd H (by simp)
                      · rw [if_neg c28] at H
                        have c28b0 : (((wrap64 (bt x0_2 0)) / 32) == 7) = false := beq_eq_false_iff_ne.mpr c28
                        have c28b1 : (((wrap64 (bt x0_2 0)) / 32) != 7) = true := bne_iff_ne.mpr c28
                        (first | rw [c28b0] | (simp only [i64_w, i32_w]; rw [c28b0]) | skip)
                        have H' := Aside0.mk H
                        clear H
                        go_wp2
                        go_meet
                        case rel => exact ⟨_, (x0_2.extract 1 x0_2.size), (wrap64 (((wrap64 (bt x0_2 0)) / 32) + 2)), (by first | rfl | (simp; done) | (simp [*]; done)), (by first | rfl | (simp; done) | (simp [*]; done)), H', ⟨by have := HJ2.out; have := HK2.out; first | omega | exact Nat.le_refl _⟩, ⟨by (with_reducible repeat (first | apply Kd.R_alloc | apply Kd.R_drewN | apply Kd.R_drew)); exact HO_6.out⟩, ⟨by repeat (first | (with_reducible first | exact HB.out | apply below_alloc | apply pw_below_drewN | apply below_drew1) | exact HB.out)⟩⟩
                    case rest =>
                      clear HC27
                      try clear c1
                      try clear p1
                      try clear q1
                      try clear hx1
                      try clear qi1
                      try clear c2
                      try clear p2
                      try clear c3
                      try clear p3
                      try clear q3
                      try clear hx3
                      try clear qi3
                      try clear c4
                      try clear c4b0
                      try clear c5
                      try clear c6
                      try clear c6b0
                      try clear c6b1
                      try clear p6
                      try clear c7
                      try clear c7b0
                      try clear c7b1
                      try clear hcv9
                      try clear c11
                      try clear c11b0
                      try clear c11b1
                      try clear p12
                      try clear q12
                      try clear hx12
                      try clear qi12
                      try clear c13
                      try clear c13b0
                      try clear c13b1
                      try clear c14
                      try clear c14b0
                      try clear c15
                      try clear c15b0
                      try clear c17
                      try clear c17b0
                      try clear c20
                      try clear c20b0
                      try clear c20b1
                      try clear c21
                      try clear c21b0
                      try clear c21b1
                      try clear c22
                      try clear c23
                      try clear c23b0
                      try clear c24
                      try clear c24b0
                      try clear c28
                      try clear c28b0
                      try clear c28b1
                      try clear c29
                      try clear c29b0
                      try clear c29b1
                      try clear c30
                      try clear c30b0
                      try clear c30b1
                      try clear p31
                      try clear q31
                      try clear hx31
                      try clear qi31
                      try clear c32
                      try clear c32b0
                      try clear c32b1
                      try clear p12
                      try clear p2
                      try clear p31
                      try clear q12
                      try clear q31
                      obtain ⟨kq, x0_26, x8_26, rfl, rfl, HA, HJ26, HO_6, HB⟩ := hcut
                      cases kq with
                      | zero => exact absurd HA.out (by simp [lzf_Unpack.j2])
                      | succ kj26 =>
                        have H := HA.out
                        clear HA
                        simp only [lzf_Unpack.j2] at H
                        by_cases c33 : x0_26.toList = ([] : List UInt8)
                        · rw [if_pos c33] at H
                          have c33b0 : (x0_26.toList == ([] : List UInt8)) = true := beq_iff_eq.mpr c33
                          have c33b1 : (x0_26.toList != ([] : List UInt8)) = false := bne_eq_false_iff_eq.mpr c33
                          clear c33
                          simp only [Option.some.injEq, Prod.mk.injEq] at H
                          obtain ⟨rfl, rfl⟩ := H
                          go_wp2
                          go_ret2
                          exact ⟨by first | rfl | (simp [errW_none, errW_some] <;> rfl) | (simp [*, errW_none, errW_some] <;> rfl), by repeat (first | (with_reducible first | exact HB.out | apply below_alloc | apply pw_below_drewN | apply below_drew1) | exact HB.out)⟩
                        · rw [if_neg c33] at H
                          have c33b0 : (x0_26.toList == ([] : List UInt8)) = false := beq_eq_false_iff_ne.mpr c33
                          have c33b1 : (x0_26.toList != ([] : List UInt8)) = true := bne_iff_ne.mpr c33
                          by_cases c34 : 0 < (x0_26.size : Int)
                          · rw [if_pos c34] at H
                            have c34b0 : decide (0 < (x0_26.size : Int)) = true := decide_eq_true c34
                            have c34b1 : decide (0 < x0_26.size) = true := decide_eq_true (by omega)
                            clear c34
                            by_cases c36 : 1 ≤ (x0_26.size : Int)
                            · rw [if_pos c36] at H
                              have c36b0 := eq_true c36
                              have c36b1 : decide (1 ≤ (x0_26.size : Int)) = true := decide_eq_true c36
                              clear c36
                              by_cases c37 : (wrap64 ((x6_2.length : Int) + x8_26)) > a1
                              · rw [if_pos c37] at H
                                have c37b0 : decide (a1 < (wrap64 ((x6_2.length : Int) + x8_26))) = true := decide_eq_true c37
                                clear c37
                                simp only [Option.some.injEq, Prod.mk.injEq] at H
                                obtain ⟨rfl, rfl⟩ := H
                                obtain ⟨Ao38, co38, eo38⟩ := Kd.R_slice HO_6.out
                                subst eo38
                                have p35 : 0 ≤ (0 : Int) := (by omega)
                                have q35 : 0 < x0_26.size := (by have : (0 : Int) < (x0_26.size : Int) := of_decide_eq_true (by first | (with_reducible assumption) | assumption); omega)
                                have hx35 : ∀ h : 0 < x0_26.size, ((x0_26[0]'h).toNat : Int) = bt x0_26 0 := bt_at x0_26 0
                                clear p35
                                have qi35 : (0 < (x0_26.size : Int)) = True := eq_true (of_decide_eq_true (by first | (with_reducible assumption) | assumption))
                                replace q35 := eq_true q35
                                go_wp2
                                go_ret2
                                exact ⟨by first | rfl | (simp [errW_none, errW_some] <;> rfl) | (simp [*, errW_none, errW_some] <;> rfl), by repeat (first | (with_reducible first | exact HB.out | apply below_alloc | apply pw_below_drewN | apply below_drew1) | exact HB.out)⟩
                              · rw [if_neg c37] at H
                                have c37b0 : decide (a1 < (wrap64 ((x6_2.length : Int) + x8_26))) = false := decide_eq_false c37
                                clear c37
                                by_cases c39 : (wrap64 ((wrap64 ((wrap64 ((x6_2.length : Int) - (wrap64 ((Go.bits .and .i64 (wrap64 (bt x0_2 0)) 31) * 256)))) - (wrap64 (bt x0_26 0)))) - 1)) < 0
                                · rw [if_pos c39] at H
                                  have c39b0 : decide ((wrap64 ((wrap64 ((wrap64 ((x6_2.length : Int) - (wrap64 ((Go.bits .and .i64 (wrap64 (bt x0_2 0)) 31) * 256)))) - (wrap64 (bt x0_26 0)))) - 1)) < 0) = true := decide_eq_true c39
                                  clear c39
                                  simp only [Option.some.injEq, Prod.mk.injEq] at H
                                  obtain ⟨rfl, rfl⟩ := H
                                  obtain ⟨Ao40, co40, eo40⟩ := Kd.R_slice HO_6.out
                                  subst eo40
                                  have p35 : 0 ≤ (0 : Int) := (by omega)
                                  have q35 : 0 < x0_26.size := (by have : (0 : Int) < (x0_26.size : Int) := of_decide_eq_true (by first | (with_reducible assumption) | assumption); omega)
                                  have hx35 : ∀ h : 0 < x0_26.size, ((x0_26[0]'h).toNat : Int) = bt x0_26 0 := bt_at x0_26 0
                                  clear p35
                                  have qi35 : (0 < (x0_26.size : Int)) = True := eq_true (of_decide_eq_true (by first | (with_reducible assumption) | assumption))
                                  replace q35 := eq_true q35
                                  go_wp2
                                  go_ret2
                                  exact ⟨by first | rfl | (simp [errW_none, errW_some] <;> rfl) | (simp [*, errW_none, errW_some] <;> rfl), by repeat (first | (with_reducible first | exact HB.out | apply below_alloc | apply pw_below_drewN | apply below_drew1) | exact HB.out)⟩
                                · rw [if_neg c39] at H
                                  have c39b0 : decide ((wrap64 ((wrap64 ((wrap64 ((x6_2.length : Int) - (wrap64 ((Go.bits .and .i64 (wrap64 (bt x0_2 0)) 31) * 256)))) - (wrap64 (bt x0_26 0)))) - 1)) < 0) = false := decide_eq_false c39
                                  clear c39
                                  have H' := Aside0.mk H
                                  clear H
                                  obtain ⟨Ao41, co41, eo41⟩ := Kd.R_slice HO_6.out
                                  subst eo41
                                  have p35 : 0 ≤ (0 : Int) := (by omega)
                                  have q35 : 0 < x0_26.size := (by have : (0 : Int) < (x0_26.size : Int) := of_decide_eq_true (by first | (with_reducible assumption) | assumption); omega)
                                  have hx35 : ∀ h : 0 < x0_26.size, ((x0_26[0]'h).toNat : Int) = bt x0_26 0 := bt_at x0_26 0
                                  clear p35
                                  have qi35 : (0 < (x0_26.size : Int)) = True := eq_true (of_decide_eq_true (by first | (with_reducible assumption) | assumption))
                                  replace q35 := eq_true q35
                                  go_wp2
                                  go_loopg [6, 87] kj26 (fun kq v6 v87 w' => ∃ (x6_4 : List Int) (x87_4 : Int), v87 = .int .i64 x87_4 ∧ Aside0 (lzf_Unpack.l1 kq (x0_26.extract 1 x0_26.size) a1 x6_4 (wrap64 ((wrap64 ((wrap64 ((x6_2.length : Int) - (wrap64 ((Go.bits .and .i64 (wrap64 (bt x0_2 0)) 31) * 256)))) - (wrap64 (bt x0_26 0)))) - 1)) x8_26 x87_4 = some (r1, r2)) ∧ Aside0 (kq ≤ kj26) ∧ Aside0 (Kd.R (Kd.int .u8) 5 w' w.heap.size (fun _ => True) v6 x6_4) ∧ Aside0 (Below w.heap.size w w'))
                                  case atStart => exact ⟨(x6_2), (0), (by first | rfl | (simp; done) | (simp [*]; done)), H', ⟨Nat.le_refl _⟩, ⟨by (with_reducible repeat (first | apply Kd.R_alloc | apply Kd.R_drewN | apply Kd.R_drew)); exact HO_6.out⟩, ⟨by repeat (first | (with_reducible first | exact HB.out | apply below_alloc | apply pw_below_drewN | apply below_drew1) | exact HB.out)⟩⟩
                                  case round =>
                                    clear H'
                                    try clear c1
                                    try clear p1
                                    try clear q1
                                    try clear hx1
                                    try clear qi1
                                    try clear c2
                                    try clear p2
                                    try clear c3
                                    try clear p3
                                    try clear q3
                                    try clear hx3
                                    try clear qi3
                                    try clear c4
                                    try clear c4b0
                                    try clear c5
                                    try clear c6
                                    try clear c6b0
                                    try clear c6b1
                                    try clear p6
                                    try clear c7
                                    try clear c7b0
                                    try clear c7b1
                                    try clear hcv9
                                    try clear c11
                                    try clear c11b0
                                    try clear c11b1
                                    try clear p12
                                    try clear q12
                                    try clear hx12
                                    try clear qi12
                                    try clear c13
                                    try clear c13b0
                                    try clear c13b1
                                    try clear c14
                                    try clear c14b0
                                    try clear c15
                                    try clear c15b0
                                    try clear c17
                                    try clear c17b0
                                    try clear c20
                                    try clear c20b0
                                    try clear c20b1
                                    try clear c21
                                    try clear c21b0
                                    try clear c21b1
                                    try clear c22
                                    try clear c23
                                    try clear c23b0
                                    try clear c24
                                    try clear c24b0
                                    try clear c28
                                    try clear c28b0
                                    try clear c28b1
                                    try clear c29
                                    try clear c29b0
                                    try clear c29b1
                                    try clear c30
                                    try clear c30b0
                                    try clear c30b1
                                    try clear p31
                                    try clear q31
                                    try clear hx31
                                    try clear qi31
                                    try clear c32
                                    try clear c32b0
                                    try clear c32b1
                                    try clear c33
                                    try clear c33b0
                                    try clear c33b1
                                    try clear c34
                                    try clear c34b0
                                    try clear c34b1
                                    try clear p35
                                    try clear q35
                                    try clear hx35
                                    try clear qi35
                                    try clear c36
                                    try clear c36b0
                                    try clear c36b1
                                    try clear c37
                                    try clear c37b0
                                    try clear c39
                                    try clear c39b0
                                    try clear p1
                                    try clear p12
                                    try clear p2
                                    try clear p3
                                    try clear p31
                                    try clear p35
                                    try clear p6
                                    try clear q1
                                    try clear q12
                                    try clear q3
                                    try clear q31
                                    try clear q35
                                    obtain ⟨x6_4, x87_4, rfl, HA, HK4, HO_6, HB⟩ := hrel
                                    cases gk with
                                    | zero => exact absurd HA.out (by simp [lzf_Unpack.l1])
                                    | succ k4 =>
                                      have H := HA.out
                                      clear HA
                                      simp only [lzf_Unpack.l1] at H
                                      by_cases c42 : x87_4 < x8_26
                                      · rw [if_pos c42] at H
                                        have c42b0 : decide (x87_4 < x8_26) = true := decide_eq_true c42
                                        clear c42
                                        obtain ⟨ji43, hji43⟩ : ∃ j_ : Int, (wrap64 ((wrap64 ((wrap64 ((wrap64 ((x6_2.length : Int) - (wrap64 ((Go.bits .and .i64 (wrap64 (bt x0_2 0)) 31) * 256)))) - (wrap64 (bt x0_26 0)))) - 1)) + x87_4)) = j_ := ⟨_, rfl⟩
                                        replace H : (if 0 ≤ (ji43) then (if (ji43) < (x6_4.length : Int) then (if x6_4.length < 140737488355328 then (lzf_Unpack.l1 k4 (x0_26.extract 1 x0_26.size) a1 (x6_4 ++ [rd x6_4 (ji43)]) (wrap64 ((wrap64 ((wrap64 ((x6_2.length : Int) - (wrap64 ((Go.bits .and .i64 (wrap64 (bt x0_2 0)) 31) * 256)))) - (wrap64 (bt x0_26 0)))) - 1)) x8_26 (wrap64 (x87_4 + 1))) else (none)) else (none)) else (none)) = some (r1, r2) := by first | (rw [hji43] at H; exact H) | (simp only [hji43] at H ⊢; exact H)
                                        have hji43w : (IntKind.i64.wrap ((wrap64 ((wrap64 ((wrap64 ((x6_2.length : Int) - (wrap64 ((Go.bits .and .i64 (wrap64 (bt x0_2 0)) 31) * 256)))) - (wrap64 (bt x0_26 0)))) - 1)) + x87_4)) = ji43 := (i64_w _).trans hji43
                                        by_cases c44 : 0 ≤ (ji43)
                                        · rw [if_pos c44] at H
                                          have c44b0 : decide (0 ≤ (ji43)) = true := decide_eq_true c44
                                          clear c44
                                          by_cases c45 : (ji43) < (x6_4.length : Int)
                                          · rw [if_pos c45] at H
                                            have c45b0 : decide ((ji43) < (x6_4.length : Int)) = true := decide_eq_true c45
                                            clear c45
                                            by_cases c46 : x6_4.length < 140737488355328
                                            · rw [if_pos c46] at H
                                              have LMc46 := Aside0.mk c46
                                              clear c46
                                              obtain ⟨y105, hy105⟩ : ∃ y_ : List Int, y_ = (x6_4 ++ [rd x6_4 (ji43)]) := ⟨_, rfl⟩
                                              replace H : (lzf_Unpack.l1 k4 (x0_26.extract 1 x0_26.size) a1 y105 (wrap64 ((wrap64 ((wrap64 ((x6_2.length : Int) - (wrap64 ((Go.bits .and .i64 (wrap64 (bt x0_2 0)) 31) * 256)))) - (wrap64 (bt x0_26 0)))) - 1)) x8_26 (wrap64 (x87_4 + 1))) = some (r1, r2) := by first | (rw [hy105]; with_reducible exact H) | (have H2_ := (Option.bind_some _ _).symm.trans H; rw [hy105]; with_reducible exact H2_) | (have H2_ := (Option.bind_some _ _).symm.trans H; with_reducible exact H2_) | with_reducible exact H | (rw [hy105]; exact H) | exact H
                                              have Ny105 := Aside0.mk hy105
                                              clear hy105
                                              have H' := Aside0.mk H
                                              clear H
                                              obtain ⟨Ao47, co47, eo47⟩ := Kd.R_slice HO_6.out
                                              subst eo47
                                              have p104 : 0 ≤ ((ji43) : Int) := of_decide_eq_true (by first | (with_reducible assumption) | assumption)
                                              have q104 : (ji43) < (x6_4.length : Int) := of_decide_eq_true (by first | (with_reducible assumption) | assumption)
                                              obtain ⟨ad104, e104, hx104_0⟩ := Kd.at_int (Kd.R_reads' HO_6.out).2.2 (ji43) p104 q104
                                              cases e104
                                              replace p104 := eq_true p104
                                              replace q104 := eq_true q104
                                              go_wp2_with (first | ((with_reducible refine gate_builtin (b := .append) (xs := #[.tmp 90, .tmp 97]) rfl ?_); at_builtin; refine Kd.R_append (Kd.int .u8) (w0 := w) w.heap.size rfl (.tmp 90) (.tmp 97) 56 5 (.int .u8 0) 1 rfl Try.underlying56 info5 rfl (by decide) (by omega) (.slice (some ad104) x6_4.length co47) x6_4 (rd x6_4 (ji43)) [.int .u8 (rd x6_4 (ji43))] (fun _ => True) (fun _ => False) rfl rfl ?aP (fun _ hk => hk.elim) ?aF ?aO ?aB ?aS ?aL ?_; (case aP => exact rfl); (case aB => exact (by repeat (first | (with_reducible first | exact HB.out | apply below_alloc | apply pw_below_drewN | apply below_drew1) | exact HB.out))); (case aF => exact (fun _ _ => trivial)); (case aO => exact (by (with_reducible repeat (first | apply Kd.R_alloc | apply Kd.R_drewN | apply Kd.R_drew)); exact HO_6.out)); (case aS => exact (below_size (by repeat (first | (with_reducible first | exact HB.out | apply below_alloc | apply pw_below_drewN | apply below_drew1) | exact HB.out)))); (case aL => have := LMc46.out; omega); intro v106 w48 ho hb hg hat; rw [← Ny105.out] at ho; have n0_ := Aside0.mk (hb); have n1_ := Aside0.mk (ho); clear HB; clear HO_6; have HB := n0_; have HO107 := n1_; clear n0_ n1_; clear ho hb hg hat))
                                              go_roundg k4
                                              case measure => have := HJ2.out; have := HK2.out; have := HJ26.out; have := HK4.out; omega
                                              case rel => exact ⟨(y105), (wrap64 (x87_4 + 1)), (by first | rfl | (simp; done) | (simp [*]; done)), H', ⟨by have := HJ2.out; have := HK2.out; have := HJ26.out; have := HK4.out; omega⟩, ⟨by (with_reducible repeat (first | apply Kd.R_alloc | apply Kd.R_drewN | apply Kd.R_drew)); exact HO107.out⟩, ⟨by repeat (first | (with_reducible first | exact HB.out | apply below_alloc | apply pw_below_drewN | apply below_drew1) | exact HB.out)⟩⟩
                                            · rw [if_neg c46] at H
                                              exact absurd H (by simp)
                                          · rw [if_neg c45] at H
                                            exact absurd H (by simp)
                                        · rw [if_neg c44] at H
                                          exact absurd H (by simp)
                                      · rw [if_neg c42] at H
                                        have c42b0 : decide (x87_4 < x8_26) = false := decide_eq_false c42
                                        clear c42
                                        have H' := Aside0.mk H
                                        clear H
                                        go_wp2
                                        go_roundg k4
                                        case measure => have := HJ2.out; have := HK2.out; have := HJ26.out; have := HK4.out; omega
                                        case rel => exact ⟨((x0_26.extract 1 x0_26.size)), (x6_4), (by first | rfl | (simp; done) | (simp [*]; done)), H', ⟨by have := HJ2.out; have := HK2.out; have := HJ26.out; have := HK4.out; omega⟩, ⟨by (with_reducible repeat (first | apply Kd.R_alloc | apply Kd.R_drewN | apply Kd.R_drew)); exact HO_6.out⟩, ⟨by repeat (first | (with_reducible first | exact HB.out | apply below_alloc | apply pw_below_drewN | apply below_drew1) | exact HB.out)⟩⟩
                            · rw [if_neg c36] at H
                              exact absurd H (by simp)
                          · rw [if_neg c34] at H
                            exact absurd H (by simp)
                · rw [if_neg c13] at H
                  exact absurd H (by simp)
              · rw [if_neg c11] at H
                exact absurd H (by simp)

end Go.Proofs.Ytdadggaecgkhfaa.PLzfUnpacks
