/- The document's Unpack in plain Lean and its contract: the section that the kit's print.sh has written for this seat (its import turned to L1). -/
import Derived.Test.YtdadggaecgkhfaaPLzfUnpacksx0
namespace Go.Proofs.Ytdadggaecgkhfaa.PLzfUnpacks
open Go.RowKit Go.Proofs.YtdadggaecgkhfaaW.PrintWords Go.Proofs.YtdadggaecgkhfaaW.PrintLast Go.Proofs.YtdadggaecgkhfaaW.PrintMore
attribute [local go_sem] max2_int min2_int max_two min_two max_three min_three max_four min_four   -- for this text's walks alone
set_option linter.unusedVariables false
set_option linter.unusedSimpArgs false

/-! ### cisternref03_Unpack: function 34 -/
mutual
def cisternref03_Unpack.j0 : Nat → ByteArray → Int → Bool → Option (ByteArray × Int)
  | 0, _, _, _ => none
  | k + 1, x0, x1, x17 => if x17 = true then (some ((⟨#[]⟩ : ByteArray), 1)) else (cisternref03_Unpack.l0 k x0 x1 ([] : List Int) 0)
def cisternref03_Unpack.l0 : Nat → ByteArray → Int → List Int → Int → Option (ByteArray × Int)
  | 0, _, _, _, _ => none
  | k + 1, x0, x1, x6, x7 => if x7 < (x0.size : Int) then (if 0 ≤ x7 then (if (wrap64 (bt x0 x7)) < 32 then (if (wrap64 ((wrap64 ((x6.length : Int) + (wrap64 (bt x0 x7)))) + 1)) > x1 then (some ((⟨#[]⟩ : ByteArray), 31)) else (if (wrap64 ((wrap64 ((wrap64 (x7 + 1)) + (wrap64 (bt x0 x7)))) + 1)) > (x0.size : Int) then (some ((⟨#[]⟩ : ByteArray), 20)) else (if 0 ≤ (wrap64 (x7 + 1)) then (if (wrap64 (x7 + 1)) ≤ (wrap64 ((wrap64 ((wrap64 (x7 + 1)) + (wrap64 (bt x0 x7)))) + 1)) then (if (wrap64 ((wrap64 ((wrap64 (x7 + 1)) + (wrap64 (bt x0 x7)))) + 1)) ≤ (x0.size : Int) then (if x6.length + (x0.extract ((wrap64 (x7 + 1)) : Int).toNat ((wrap64 ((wrap64 ((wrap64 (x7 + 1)) + (wrap64 (bt x0 x7)))) + 1)) : Int).toNat).size < 140737488355328 then (cisternref03_Unpack.l0 k x0 x1 (x6 ++ bytesOf (x0.extract ((wrap64 (x7 + 1)) : Int).toNat ((wrap64 ((wrap64 ((wrap64 (x7 + 1)) + (wrap64 (bt x0 x7)))) + 1)) : Int).toNat)) (wrap64 ((wrap64 ((wrap64 (x7 + 1)) + (wrap64 (bt x0 x7)))) + 1))) else (none)) else (none)) else (none)) else (none)))) else (if (wrap64 (Int.tdiv (wrap64 (bt x0 x7)) 32)) = 7 then (if (wrap64 (x7 + 1)) ≥ (x0.size : Int) then (some ((⟨#[]⟩ : ByteArray), 20)) else (if 0 ≤ (wrap64 (x7 + 1)) then (if (wrap64 (x7 + 1)) < (x0.size : Int) then (cisternref03_Unpack.j2 k x0 x1 x6 (wrap64 ((wrap64 (x7 + 1)) + 1)) (wrap64 (bt x0 x7)) (wrap64 ((wrap64 ((wrap64 (Int.tdiv (wrap64 (bt x0 x7)) 32)) + 2)) + (wrap64 (bt x0 (wrap64 (x7 + 1))))))) else (none)) else (none))) else (cisternref03_Unpack.j2 k x0 x1 x6 (wrap64 (x7 + 1)) (wrap64 (bt x0 x7)) (wrap64 ((wrap64 (Int.tdiv (wrap64 (bt x0 x7)) 32)) + 2))))) else (none)) else (if (x6.length : Int) < x1 then (some ((⟨#[]⟩ : ByteArray), 31)) else (some (strOfNums x6, 0)))
def cisternref03_Unpack.j2 : Nat → ByteArray → Int → List Int → Int → Int → Int → Option (ByteArray × Int)
  | 0, _, _, _, _, _, _ => none
  | k + 1, x0, x1, x6, x7, x8, x9 => if x7 ≥ (x0.size : Int) then (some ((⟨#[]⟩ : ByteArray), 20)) else (if 0 ≤ x7 then (if x7 < (x0.size : Int) then (if (wrap64 ((x6.length : Int) + x9)) > x1 then (some ((⟨#[]⟩ : ByteArray), 31)) else (if (wrap64 ((wrap64 ((wrap64 ((Int.tmod x8 32) * 256)) + (wrap64 (bt x0 x7)))) + 1)) > (x6.length : Int) then (some ((⟨#[]⟩ : ByteArray), 30)) else (cisternref03_Unpack.l1 k x0 x1 x6 (wrap64 (x7 + 1)) x9 (wrap64 ((wrap64 ((wrap64 ((Int.tmod x8 32) * 256)) + (wrap64 (bt x0 x7)))) + 1)) 0))) else (none)) else (none))
def cisternref03_Unpack.l1 : Nat → ByteArray → Int → List Int → Int → Int → Int → Int → Option (ByteArray × Int)
  | 0, _, _, _, _, _, _, _ => none
  | k + 1, x0, x1, x6, x7, x9, x10, x11 => if x11 < x9 then (if 0 ≤ (wrap64 ((x6.length : Int) - x10)) then (if (wrap64 ((x6.length : Int) - x10)) < (x6.length : Int) then (if x6.length < 140737488355328 then (cisternref03_Unpack.l1 k x0 x1 (x6 ++ [rd x6 (wrap64 ((x6.length : Int) - x10))]) x7 x9 x10 (wrap64 (x11 + 1))) else (none)) else (none)) else (none)) else (cisternref03_Unpack.l0 k x0 x1 x6 x7)
end
def cisternref03_Unpack.f (k : Nat) (a0 : ByteArray) (a1 : Int) : Option (ByteArray × Int) := if a1 < 1 then (cisternref03_Unpack.j0 k a0 a1 true) else (cisternref03_Unpack.j0 k a0 a1 (decide (a1 > 524288)))
theorem cisternref03_Unpack.mono_l : ∀ k, (∀ y0 y1 y2, LeO (cisternref03_Unpack.j0 k y0 y1 y2) (cisternref03_Unpack.j0 (k + 1) y0 y1 y2)) ∧ (∀ y0 y1 y2 y3, LeO (cisternref03_Unpack.l0 k y0 y1 y2 y3) (cisternref03_Unpack.l0 (k + 1) y0 y1 y2 y3)) ∧ (∀ y0 y1 y2 y3 y4 y5, LeO (cisternref03_Unpack.j2 k y0 y1 y2 y3 y4 y5) (cisternref03_Unpack.j2 (k + 1) y0 y1 y2 y3 y4 y5)) ∧ (∀ y0 y1 y2 y3 y4 y5 y6, LeO (cisternref03_Unpack.l1 k y0 y1 y2 y3 y4 y5 y6) (cisternref03_Unpack.l1 (k + 1) y0 y1 y2 y3 y4 y5 y6))
  | 0 => ⟨fun _ _ _ r h => by simp [cisternref03_Unpack.j0] at h, fun _ _ _ _ r h => by simp [cisternref03_Unpack.l0] at h, fun _ _ _ _ _ _ r h => by simp [cisternref03_Unpack.j2] at h, fun _ _ _ _ _ _ _ r h => by simp [cisternref03_Unpack.l1] at h⟩
  | k + 1 => by
    obtain ⟨ih0, ih1, ih2, ih3⟩ := cisternref03_Unpack.mono_l k
    refine ⟨?_, ?_, ?_, ?_⟩
    · intro y0 y1 y2
      unfold cisternref03_Unpack.j0
      repeat' first
      | (with_reducible exact ih0 _ _ _)
      | (with_reducible exact ih1 _ _ _ _)
      | (with_reducible exact ih2 _ _ _ _ _ _)
      | (with_reducible exact ih3 _ _ _ _ _ _ _)
      | (with_reducible exact LeO.refl _)
      | (with_reducible exact LeO.none _)
      | (with_reducible refine LeO.ite ?_ ?_)
      | (with_reducible refine LeO.bind ?_ (fun _ => ?_))
      | exact ih0 _ _ _
      | exact ih1 _ _ _ _
      | exact ih2 _ _ _ _ _ _
      | exact ih3 _ _ _ _ _ _ _
      | exact LeO.none _
      | refine LeO.ite ?_ ?_
      | refine LeO.bind ?_ (fun _ => ?_)
    · intro y0 y1 y2 y3
      unfold cisternref03_Unpack.l0
      repeat' first
      | (with_reducible exact ih0 _ _ _)
      | (with_reducible exact ih1 _ _ _ _)
      | (with_reducible exact ih2 _ _ _ _ _ _)
      | (with_reducible exact ih3 _ _ _ _ _ _ _)
      | (with_reducible exact LeO.refl _)
      | (with_reducible exact LeO.none _)
      | (with_reducible refine LeO.ite ?_ ?_)
      | (with_reducible refine LeO.bind ?_ (fun _ => ?_))
      | exact ih0 _ _ _
      | exact ih1 _ _ _ _
      | exact ih2 _ _ _ _ _ _
      | exact ih3 _ _ _ _ _ _ _
      | exact LeO.none _
      | refine LeO.ite ?_ ?_
      | refine LeO.bind ?_ (fun _ => ?_)
    · intro y0 y1 y2 y3 y4 y5
      unfold cisternref03_Unpack.j2
      repeat' first
      | (with_reducible exact ih0 _ _ _)
      | (with_reducible exact ih1 _ _ _ _)
      | (with_reducible exact ih2 _ _ _ _ _ _)
      | (with_reducible exact ih3 _ _ _ _ _ _ _)
      | (with_reducible exact LeO.refl _)
      | (with_reducible exact LeO.none _)
      | (with_reducible refine LeO.ite ?_ ?_)
      | (with_reducible refine LeO.bind ?_ (fun _ => ?_))
      | exact ih0 _ _ _
      | exact ih1 _ _ _ _
      | exact ih2 _ _ _ _ _ _
      | exact ih3 _ _ _ _ _ _ _
      | exact LeO.none _
      | refine LeO.ite ?_ ?_
      | refine LeO.bind ?_ (fun _ => ?_)
    · intro y0 y1 y2 y3 y4 y5 y6
      unfold cisternref03_Unpack.l1
      repeat' first
      | (with_reducible exact ih0 _ _ _)
      | (with_reducible exact ih1 _ _ _ _)
      | (with_reducible exact ih2 _ _ _ _ _ _)
      | (with_reducible exact ih3 _ _ _ _ _ _ _)
      | (with_reducible exact LeO.refl _)
      | (with_reducible exact LeO.none _)
      | (with_reducible refine LeO.ite ?_ ?_)
      | (with_reducible refine LeO.bind ?_ (fun _ => ?_))
      | exact ih0 _ _ _
      | exact ih1 _ _ _ _
      | exact ih2 _ _ _ _ _ _
      | exact ih3 _ _ _ _ _ _ _
      | exact LeO.none _
      | refine LeO.ite ?_ ?_
      | refine LeO.bind ?_ (fun _ => ?_)
theorem cisternref03_Unpack.mono : ∀ a0 a1 k, LeO (cisternref03_Unpack.f k a0 a1) (cisternref03_Unpack.f (k + 1) a0 a1) := by
  intro a0 a1 k
  obtain ⟨ih0, ih1, ih2, ih3⟩ := cisternref03_Unpack.mono_l k
  unfold cisternref03_Unpack.f
  repeat' first
      | (with_reducible exact ih0 _ _ _)
      | (with_reducible exact ih1 _ _ _ _)
      | (with_reducible exact ih2 _ _ _ _ _ _)
      | (with_reducible exact ih3 _ _ _ _ _ _ _)
      | (with_reducible exact LeO.refl _)
      | (with_reducible exact LeO.none _)
      | (with_reducible refine LeO.ite ?_ ?_)
      | (with_reducible refine LeO.bind ?_ (fun _ => ?_))
      | exact ih0 _ _ _
      | exact ih1 _ _ _ _
      | exact ih2 _ _ _ _ _ _
      | exact ih3 _ _ _ _ _ _ _
      | exact LeO.none _
      | refine LeO.ite ?_ ?_
      | refine LeO.bind ?_ (fun _ => ?_)
set_option maxHeartbeats 8000000 in
set_option maxRecDepth 100000 in
theorem cisternref03_Unpack.calls (k : Nat) (a0 : ByteArray) (a1 : Int) (r1 : ByteArray) (r2 : Int) (w : World) (h : cisternref03_Unpack.f k a0 a1 = some (r1, r2)) :
    Calls Try.prog 34 #[.string a0, .int .i64 a1] w fun e w' => e = .returned (.tuple #[.string r1, .int .i64 r2]) ∧ Below w.heap.size w w' := by
  have HB := Aside0.mk (Below.refl w.heap.size w)
  have H : (if a1 < 1 then (cisternref03_Unpack.j0 k a0 a1 true) else (cisternref03_Unpack.j0 k a0 a1 (decide (a1 > 524288)))) = some (r1, r2) := h
  clear h
  have HC3 := Aside0.mk H
  clear H
  go_enter Try.func34, Try.ntmps34
  go_upto_region 1 with (fail)
  go_cut [17] (fun v17 wc => ∃ (kq : Nat) (x17_2 : Bool), v17 = .bool x17_2 ∧ Aside0 (cisternref03_Unpack.j0 kq a0 a1 x17_2 = some (r1, r2)) ∧ Aside0 (kq ≤ k) ∧ Aside0 (Below w.heap.size w wc))
  case first =>
    have H := HC3.out
    clear HC3
    by_cases c4 : a1 < 1
    · rw [if_pos c4] at H
      have c4b0 : decide (a1 < 1) = true := decide_eq_true c4
      clear c4
      (first | rw [c4b0] | (simp only [i64_w, i32_w]; rw [c4b0]) | skip)
      have H' := Aside0.mk H
      clear H
      go_wp2
      go_meet
      case rel => exact ⟨_, (true), (by first | rfl | (simp; done) | (simp [*]; done)), H', ⟨by first | omega | exact Nat.le_refl _⟩, ⟨by repeat (first | (with_reducible first | exact HB.out | apply below_alloc | apply pw_below_drewN | apply below_drew1) | exact HB.out)⟩⟩
    · rw [if_neg c4] at H
      have c4b0 : decide (a1 < 1) = false := decide_eq_false c4
      clear c4
      (first | rw [c4b0] | (simp only [i64_w, i32_w]; rw [c4b0]) | skip)
      have H' := Aside0.mk H
      clear H
      go_wp2
      go_meet
      case rel => exact ⟨_, (decide (a1 > 524288)), (by first | rfl | (simp; done) | (simp [*]; done)), H', ⟨by first | omega | exact Nat.le_refl _⟩, ⟨by repeat (first | (with_reducible first | exact HB.out | apply below_alloc | apply pw_below_drewN | apply below_drew1) | exact HB.out)⟩⟩
  case rest =>
    clear HC3
    try clear p2
    try clear c3
    try clear c4
    try clear c4b0
    obtain ⟨kq, x17_2, rfl, HA, HJ2, HB⟩ := hcut
    cases kq with
    | zero => exact absurd HA.out (by simp [cisternref03_Unpack.j0])
    | succ kj2 =>
      have H := HA.out
      clear HA
      simp only [cisternref03_Unpack.j0] at H
      by_cases c5 : x17_2 = true
      · subst c5
        have H1 : (some ((⟨#[]⟩ : ByteArray), 1)) = some (r1, r2) := by rw [if_pos rfl] at H; exact H
        clear H
        have H := H1
        clear H1
        simp only [Option.some.injEq, Prod.mk.injEq] at H
        obtain ⟨rfl, rfl⟩ := H
        go_wp2
        go_ret2
        exact ⟨by first | rfl | (simp [errW_none, errW_some] <;> rfl) | (simp [*, errW_none, errW_some] <;> rfl), by repeat (first | (with_reducible first | exact HB.out | apply below_alloc | apply pw_below_drewN | apply below_drew1) | exact HB.out)⟩
      · replace c5 := Bool.eq_false_iff.mpr c5
        subst c5
        have H1 : (cisternref03_Unpack.l0 kj2 a0 a1 ([] : List Int) 0) = some (r1, r2) := by rw [if_neg (show ¬ (false = true) by decide)] at H; exact H
        clear H
        have H := H1
        clear H1
        have H' := Aside0.mk H
        clear H
        go_wp2
        go_loopg [6, 7] kj2 (fun kq v6 v7 w' => ∃ (x6_2 : List Int) (x7_2 : Int), v7 = .int .i64 x7_2 ∧ Aside0 (cisternref03_Unpack.l0 kq a0 a1 x6_2 x7_2 = some (r1, r2)) ∧ Aside0 (kq ≤ kj2) ∧ Aside0 (Kd.R (Kd.int .u8) 5 w' w.heap.size (fun _ => True) v6 x6_2) ∧ Aside0 (Below w.heap.size w w'))
        case atStart => exact ⟨(([] : List Int)), (0), (by first | rfl | (simp; done) | (simp [*]; done)), H', ⟨Nat.le_refl _⟩, ⟨by first | exact Kd.R_nil _ _ _ _ _ | exact Kd.N_nil _ _ _ _ _ | exact Kd.V_nil _ _ _ _ _ | exact Kd.Q_nil _ _ _ _ _ | exact Kd.S_nil _ _ _ _ _⟩, ⟨by repeat (first | (with_reducible first | exact HB.out | apply below_alloc | apply pw_below_drewN | apply below_drew1) | exact HB.out)⟩⟩
        case round =>
          clear H'
          try clear p2
          try clear c3
          try clear c4
          try clear c4b0
          try clear c5
          try clear p2
          obtain ⟨x6_2, x7_2, rfl, HA, HK2, HO_6, HB⟩ := hrel
          cases gk with
          | zero => exact absurd HA.out (by simp [cisternref03_Unpack.l0])
          | succ k2 =>
            have H := HA.out
            clear HA
            simp only [cisternref03_Unpack.l0] at H
            by_cases c6 : x7_2 < (a0.size : Int)
            · rw [if_pos c6] at H
              have c6b0 : decide (x7_2 < (a0.size : Int)) = true := decide_eq_true c6
              clear c6
              by_cases c7 : 0 ≤ x7_2
              · rw [if_pos c7] at H
                have c7b0 : decide (0 ≤ x7_2) = true := decide_eq_true c7
                clear c7
                by_cases c9 : (wrap64 (bt a0 x7_2)) < 32
                · rw [if_pos c9] at H
                  have c9b0 : decide ((wrap64 (bt a0 x7_2)) < 32) = true := decide_eq_true c9
                  clear c9
                  by_cases c10 : (wrap64 ((wrap64 ((x6_2.length : Int) + (wrap64 (bt a0 x7_2)))) + 1)) > a1
                  · rw [if_pos c10] at H
                    have c10b0 : decide (a1 < (wrap64 ((wrap64 ((x6_2.length : Int) + (wrap64 (bt a0 x7_2)))) + 1))) = true := decide_eq_true c10
                    clear c10
                    simp only [Option.some.injEq, Prod.mk.injEq] at H
                    obtain ⟨rfl, rfl⟩ := H
                    have p8 : 0 ≤ (x7_2 : Int) := of_decide_eq_true (by first | (with_reducible assumption) | assumption)
                    have q8 : x7_2 < (a0.size : Int) := of_decide_eq_true (by first | (with_reducible assumption) | assumption)
                    have hx8 := bt_at a0 x7_2
                    replace p8 := eq_true p8
                    replace q8 := eq_true q8
                    obtain ⟨Ao11, co11, eo11⟩ := Kd.R_slice HO_6.out
                    subst eo11
                    go_wp2
                    go_ret2
                    exact ⟨by first | rfl | (simp [errW_none, errW_some] <;> rfl) | (simp [*, errW_none, errW_some] <;> rfl), by repeat (first | (with_reducible first | exact HB.out | apply below_alloc | apply pw_below_drewN | apply below_drew1) | exact HB.out)⟩
                  · rw [if_neg c10] at H
                    have c10b0 : decide (a1 < (wrap64 ((wrap64 ((x6_2.length : Int) + (wrap64 (bt a0 x7_2)))) + 1))) = false := decide_eq_false c10
                    clear c10
                    by_cases c12 : (wrap64 ((wrap64 ((wrap64 (x7_2 + 1)) + (wrap64 (bt a0 x7_2)))) + 1)) > (a0.size : Int)
                    · rw [if_pos c12] at H
                      have c12b0 : decide ((a0.size : Int) < (wrap64 ((wrap64 ((wrap64 (x7_2 + 1)) + (wrap64 (bt a0 x7_2)))) + 1))) = true := decide_eq_true c12
                      clear c12
                      simp only [Option.some.injEq, Prod.mk.injEq] at H
                      obtain ⟨rfl, rfl⟩ := H
                      have p8 : 0 ≤ (x7_2 : Int) := of_decide_eq_true (by first | (with_reducible assumption) | assumption)
                      have q8 : x7_2 < (a0.size : Int) := of_decide_eq_true (by first | (with_reducible assumption) | assumption)
                      have hx8 := bt_at a0 x7_2
                      replace p8 := eq_true p8
                      replace q8 := eq_true q8
                      obtain ⟨Ao13, co13, eo13⟩ := Kd.R_slice HO_6.out
                      subst eo13
                      go_wp2
                      go_ret2
                      exact ⟨by first | rfl | (simp [errW_none, errW_some] <;> rfl) | (simp [*, errW_none, errW_some] <;> rfl), by repeat (first | (with_reducible first | exact HB.out | apply below_alloc | apply pw_below_drewN | apply below_drew1) | exact HB.out)⟩
                    · rw [if_neg c12] at H
                      have c12b0 : decide ((a0.size : Int) < (wrap64 ((wrap64 ((wrap64 (x7_2 + 1)) + (wrap64 (bt a0 x7_2)))) + 1))) = false := decide_eq_false c12
                      clear c12
                      obtain ⟨ji14, hji14⟩ : ∃ j_ : Int, (wrap64 (x7_2 + 1)) = j_ := ⟨_, rfl⟩
                      replace H : (if 0 ≤ (ji14) then (if (ji14) ≤ (wrap64 ((wrap64 ((ji14) + (wrap64 (bt a0 x7_2)))) + 1)) then (if (wrap64 ((wrap64 ((ji14) + (wrap64 (bt a0 x7_2)))) + 1)) ≤ (a0.size : Int) then (if x6_2.length + (a0.extract ((ji14) : Int).toNat ((wrap64 ((wrap64 ((ji14) + (wrap64 (bt a0 x7_2)))) + 1)) : Int).toNat).size < 140737488355328 then (cisternref03_Unpack.l0 k2 a0 a1 (x6_2 ++ bytesOf (a0.extract ((ji14) : Int).toNat ((wrap64 ((wrap64 ((ji14) + (wrap64 (bt a0 x7_2)))) + 1)) : Int).toNat)) (wrap64 ((wrap64 ((ji14) + (wrap64 (bt a0 x7_2)))) + 1))) else (none)) else (none)) else (none)) else (none)) = some (r1, r2) := by first | (rw [hji14] at H; exact H) | (simp only [hji14] at H ⊢; exact H)
                      (try rw [hji14] at c12b0)
                      have hji14w : (IntKind.i64.wrap (x7_2 + 1)) = ji14 := (i64_w _).trans hji14
                      by_cases c15 : 0 ≤ (ji14)
                      · rw [if_pos c15] at H
                        have c15b0 := eq_true c15
                        have c15b1 : decide (0 ≤ (ji14)) = true := decide_eq_true c15
                        clear c15
                        by_cases c16 : (ji14) ≤ (wrap64 ((wrap64 ((ji14) + (wrap64 (bt a0 x7_2)))) + 1))
                        · rw [if_pos c16] at H
                          have c16b0 := eq_true c16
                          have c16b1 : decide ((ji14) ≤ (wrap64 ((wrap64 ((ji14) + (wrap64 (bt a0 x7_2)))) + 1))) = true := decide_eq_true c16
                          by_cases c17 : (wrap64 ((wrap64 ((ji14) + (wrap64 (bt a0 x7_2)))) + 1)) ≤ (a0.size : Int)
                          · rw [if_pos c17] at H
                            have c17b0 := eq_true c17
                            have c17b1 : decide ((wrap64 ((wrap64 ((ji14) + (wrap64 (bt a0 x7_2)))) + 1)) ≤ (a0.size : Int)) = true := decide_eq_true c17
                            by_cases c18 : x6_2.length + (a0.extract ((ji14) : Int).toNat ((wrap64 ((wrap64 ((ji14) + (wrap64 (bt a0 x7_2)))) + 1)) : Int).toNat).size < 140737488355328
                            · rw [if_pos c18] at H
                              have LMc18 := Aside0.mk c18
                              clear c18
                              obtain ⟨y108, hy108⟩ : ∃ y_ : List Int, y_ = (x6_2 ++ bytesOf (a0.extract ((ji14) : Int).toNat ((wrap64 ((wrap64 ((ji14) + (wrap64 (bt a0 x7_2)))) + 1)) : Int).toNat)) := ⟨_, rfl⟩
                              replace H : (cisternref03_Unpack.l0 k2 a0 a1 y108 (wrap64 ((wrap64 ((ji14) + (wrap64 (bt a0 x7_2)))) + 1))) = some (r1, r2) := by first | (rw [hy108]; with_reducible exact H) | (have H2_ := (Option.bind_some _ _).symm.trans H; rw [hy108]; with_reducible exact H2_) | (have H2_ := (Option.bind_some _ _).symm.trans H; with_reducible exact H2_) | with_reducible exact H | (rw [hy108]; exact H) | exact H
                              have Ny108 := Aside0.mk hy108
                              clear hy108
                              have H' := Aside0.mk H
                              clear H
                              have p8 : 0 ≤ (x7_2 : Int) := of_decide_eq_true (by first | (with_reducible assumption) | assumption)
                              have q8 : x7_2 < (a0.size : Int) := of_decide_eq_true (by first | (with_reducible assumption) | assumption)
                              have hx8 := bt_at a0 x7_2
                              replace p8 := eq_true p8
                              replace q8 := eq_true q8
                              obtain ⟨Ao19, co19, eo19⟩ := Kd.R_slice HO_6.out
                              subst eo19
                              go_wp2_with (first | (at_builtin; refine print_append_str (w0 := w) w.heap.size rfl (.tmp 44) _ 56 9 5 rfl Try.underlying56 Try.underlying9 info5 (.slice Ao19 x6_2.length co19) x6_2 (a0.extract ((ji14) : Int).toNat ((wrap64 ((wrap64 ((ji14) + (wrap64 (bt a0 x7_2)))) + 1)) : Int).toNat) rfl rfl ?aO ?aB ?aS ?aL ?_; (case aB => exact (by repeat (first | (with_reducible first | exact HB.out | apply below_alloc | apply pw_below_drewN | apply below_drew1) | exact HB.out))); (case aO => exact (Kd.own_of_R (by (with_reducible repeat (first | apply Kd.R_alloc | apply Kd.R_drewN | apply Kd.R_drew)); exact HO_6.out))); (case aS => exact (below_size (by repeat (first | (with_reducible first | exact HB.out | apply below_alloc | apply pw_below_drewN | apply below_drew1) | exact HB.out)))); (case aL => have := LMc18.out; omega); intro v109 w20 ho0 hb hg; have ho := Kd.R_of_own (h1 := fun _ => rfl) (ok := fun _ => True) ho0 (fun _ _ => trivial); clear ho0; have hat := True.intro; rw [← Ny108.out] at ho; change Kd.R (Kd.int .u8) 5 w20 w.heap.size (fun _ => True) v109 y108 at ho; have n0_ := Aside0.mk (hb); have n1_ := Aside0.mk (ho); clear HB; clear HO_6; have HB := n0_; have HO110 := n1_; clear n0_ n1_; clear ho hb hg hat))
                              go_roundg k2
                              case measure => have := HJ2.out; have := HK2.out; omega
                              case rel => exact ⟨(y108), (wrap64 ((wrap64 ((ji14) + (wrap64 (bt a0 x7_2)))) + 1)), (by first | rfl | (simp; done) | (simp only [← hji14] <;> (first | rfl | simp)) | (simp [*]; done)), H', ⟨by have := HJ2.out; have := HK2.out; omega⟩, ⟨by (with_reducible repeat (first | apply Kd.R_alloc | apply Kd.R_drewN | apply Kd.R_drew)); exact HO110.out⟩, ⟨by repeat (first | (with_reducible first | exact HB.out | apply below_alloc | apply pw_below_drewN | apply below_drew1) | exact HB.out)⟩⟩
                            · rw [if_neg c18] at H
                              exact absurd H (by simp)
                          · rw [if_neg c17] at H
                            exact absurd H (by simp)
                        · rw [if_neg c16] at H
                          exact absurd H (by simp)
                      · rw [if_neg c15] at H
                        exact absurd H (by simp)
                · rw [if_neg c9] at H
                  have c9b0 : decide ((wrap64 (bt a0 x7_2)) < 32) = false := decide_eq_false c9
                  clear c9
                  have HC21 := Aside0.mk H
                  clear H
                  have p8 : 0 ≤ (x7_2 : Int) := of_decide_eq_true (by first | (with_reducible assumption) | assumption)
                  have q8 : x7_2 < (a0.size : Int) := of_decide_eq_true (by first | (with_reducible assumption) | assumption)
                  have hx8 := bt_at a0 x7_2
                  replace p8 := eq_true p8
                  replace q8 := eq_true q8
                  go_upto_if 62 with (fail)
                  go_cut [7, 9] (fun v7 v9 wc => ∃ (kq : Nat) (x7_20 : Int) (x9_20 : Int), v7 = .int .i64 x7_20 ∧ v9 = .int .i64 x9_20 ∧ Aside0 (cisternref03_Unpack.j2 kq a0 a1 x6_2 x7_20 (wrap64 (bt a0 x7_2)) x9_20 = some (r1, r2)) ∧ Aside0 (kq ≤ k2) ∧ Aside0 (Kd.R (Kd.int .u8) 5 wc w.heap.size (fun _ => True) u6 x6_2) ∧ Aside0 (Below w.heap.size w wc))
                  case first =>
                    have H := HC21.out
                    clear HC21
                    by_cases c22 : (wrap64 (Int.tdiv (wrap64 (bt a0 x7_2)) 32)) = 7
                    · rw [if_pos c22] at H
                      have c22b0 : ((wrap64 (Int.tdiv (wrap64 (bt a0 x7_2)) 32)) == 7) = true := beq_iff_eq.mpr c22
                      have c22b1 : ((wrap64 (Int.tdiv (wrap64 (bt a0 x7_2)) 32)) != 7) = false := bne_eq_false_iff_eq.mpr c22
                      clear c22
                      (first | rw [c22b0] | (simp only [i64_w, i32_w]; rw [c22b0]) | skip)
                      by_cases c23 : (wrap64 (x7_2 + 1)) ≥ (a0.size : Int)
                      · rw [if_pos c23] at H
                        have c23b0 : decide ((a0.size : Int) ≤ (wrap64 (x7_2 + 1))) = true := decide_eq_true c23
                        clear c23
                        simp only [Option.some.injEq, Prod.mk.injEq] at H
                        obtain ⟨rfl, rfl⟩ := H
                        go_wp2
                        go_ret2
                        exact ⟨by first | rfl | (simp [errW_none, errW_some] <;> rfl) | (simp [*, errW_none, errW_some] <;> rfl), by repeat (first | (with_reducible first | exact HB.out | apply below_alloc | apply pw_below_drewN | apply below_drew1) | exact HB.out)⟩
                      · rw [if_neg c23] at H
                        have c23b0 : decide ((a0.size : Int) ≤ (wrap64 (x7_2 + 1))) = false := decide_eq_false c23
                        clear c23
                        obtain ⟨ji24, hji24⟩ : ∃ j_ : Int, (wrap64 (x7_2 + 1)) = j_ := ⟨_, rfl⟩
                        replace H : (if 0 ≤ (ji24) then (if (ji24) < (a0.size : Int) then (cisternref03_Unpack.j2 k2 a0 a1 x6_2 (wrap64 ((ji24) + 1)) (wrap64 (bt a0 x7_2)) (wrap64 ((wrap64 ((wrap64 (Int.tdiv (wrap64 (bt a0 x7_2)) 32)) + 2)) + (wrap64 (bt a0 (ji24)))))) else (none)) else (none)) = some (r1, r2) := by first | (rw [hji24] at H; exact H) | (simp only [hji24] at H ⊢; exact H)
                        (try rw [hji24] at c23b0)
                        have hji24w : (IntKind.i64.wrap (x7_2 + 1)) = ji24 := (i64_w _).trans hji24
                        by_cases c25 : 0 ≤ (ji24)
                        · rw [if_pos c25] at H
                          have c25b0 : decide (0 ≤ (ji24)) = true := decide_eq_true c25
                          clear c25
                          by_cases c26 : (ji24) < (a0.size : Int)
                          · rw [if_pos c26] at H
                            have c26b0 : decide ((ji24) < (a0.size : Int)) = true := decide_eq_true c26
                            clear c26
                            have H' := Aside0.mk H
                            clear H
                            have p27 : 0 ≤ ((ji24) : Int) := of_decide_eq_true (by first | (with_reducible assumption) | assumption)
                            have q27 : (ji24) < (a0.size : Int) := of_decide_eq_true (by first | (with_reducible assumption) | assumption)
                            have hx27 := bt_at a0 (ji24)
                            replace p27 := eq_true p27
                            replace q27 := eq_true q27
                            go_wp2
                            go_meet
                            case rel => exact ⟨_, (wrap64 ((ji24) + 1)), (wrap64 ((wrap64 ((wrap64 (Int.tdiv (wrap64 (bt a0 x7_2)) 32)) + 2)) + (wrap64 (bt a0 (ji24))))), (by first | rfl | (simp; done) | (simp only [← hji24] <;> (first | rfl | simp)) | (simp [*]; done)), (by first | rfl | (simp; done) | (simp only [← hji24] <;> (first | rfl | simp)) | (simp [*]; done)), H', ⟨by have := HJ2.out; have := HK2.out; first | omega | exact Nat.le_refl _⟩, ⟨by (with_reducible repeat (first | apply Kd.R_alloc | apply Kd.R_drewN | apply Kd.R_drew)); exact HO_6.out⟩, ⟨by repeat (first | (with_reducible first | exact HB.out | apply below_alloc | apply pw_below_drewN | apply below_drew1) | exact HB.out)⟩⟩
                          · rw [if_neg c26] at H
                            exact absurd H (by simp)
                        · rw [if_neg c25] at H
                          exact absurd H (by simp)
                    · rw [if_neg c22] at H
                      have c22b0 : ((wrap64 (Int.tdiv (wrap64 (bt a0 x7_2)) 32)) == 7) = false := beq_eq_false_iff_ne.mpr c22
                      have c22b1 : ((wrap64 (Int.tdiv (wrap64 (bt a0 x7_2)) 32)) != 7) = true := bne_iff_ne.mpr c22
                      (first | rw [c22b0] | (simp only [i64_w, i32_w]; rw [c22b0]) | skip)
                      have H' := Aside0.mk H
                      clear H
                      go_wp2
                      go_meet
                      case rel => exact ⟨_, (wrap64 (x7_2 + 1)), (wrap64 ((wrap64 (Int.tdiv (wrap64 (bt a0 x7_2)) 32)) + 2)), (by first | rfl | (simp; done) | (simp [*]; done)), (by first | rfl | (simp; done) | (simp [*]; done)), H', ⟨by have := HJ2.out; have := HK2.out; first | omega | exact Nat.le_refl _⟩, ⟨by (with_reducible repeat (first | apply Kd.R_alloc | apply Kd.R_drewN | apply Kd.R_drew)); exact HO_6.out⟩, ⟨by repeat (first | (with_reducible first | exact HB.out | apply below_alloc | apply pw_below_drewN | apply below_drew1) | exact HB.out)⟩⟩
                  case rest =>
                    clear HC21
                    try clear c1
                    try clear c2
                    try clear p2
                    try clear q2
                    try clear hx2
                    try clear c3
                    try clear c4
                    try clear c4b0
                    try clear c5
                    try clear c6
                    try clear c6b0
                    try clear p6
                    try clear c7
                    try clear c7b0
                    try clear p8
                    try clear q8
                    try clear hx8
                    try clear c9
                    try clear c9b0
                    try clear c10
                    try clear c10b0
                    try clear c12
                    try clear c12b0
                    try clear c15
                    try clear c15b0
                    try clear c15b1
                    try clear c16
                    try clear c16b0
                    try clear c16b1
                    try clear c17
                    try clear c17b0
                    try clear c17b1
                    try clear c18
                    try clear c22
                    try clear c22b0
                    try clear c22b1
                    try clear c23
                    try clear c23b0
                    try clear c25
                    try clear c25b0
                    try clear c26
                    try clear c26b0
                    try clear p27
                    try clear q27
                    try clear hx27
                    try clear p2
                    try clear p27
                    try clear p8
                    try clear q27
                    try clear q8
                    obtain ⟨kq, x7_20, x9_20, rfl, rfl, HA, HJ20, HO_6, HB⟩ := hcut
                    cases kq with
                    | zero => exact absurd HA.out (by simp [cisternref03_Unpack.j2])
                    | succ kj20 =>
                      have H := HA.out
                      clear HA
                      simp only [cisternref03_Unpack.j2] at H
                      by_cases c28 : x7_20 ≥ (a0.size : Int)
                      · rw [if_pos c28] at H
                        have c28b0 : decide ((a0.size : Int) ≤ x7_20) = true := decide_eq_true c28
                        clear c28
                        simp only [Option.some.injEq, Prod.mk.injEq] at H
                        obtain ⟨rfl, rfl⟩ := H
                        go_wp2
                        go_ret2
                        exact ⟨by first | rfl | (simp [errW_none, errW_some] <;> rfl) | (simp [*, errW_none, errW_some] <;> rfl), by repeat (first | (with_reducible first | exact HB.out | apply below_alloc | apply pw_below_drewN | apply below_drew1) | exact HB.out)⟩
                      · rw [if_neg c28] at H
                        have c28b0 : decide ((a0.size : Int) ≤ x7_20) = false := decide_eq_false c28
                        clear c28
                        by_cases c29 : 0 ≤ x7_20
                        · rw [if_pos c29] at H
                          have c29b0 : decide (0 ≤ x7_20) = true := decide_eq_true c29
                          clear c29
                          by_cases c30 : x7_20 < (a0.size : Int)
                          · rw [if_pos c30] at H
                            have c30b0 : decide (x7_20 < (a0.size : Int)) = true := decide_eq_true c30
                            clear c30
                            by_cases c32 : (wrap64 ((x6_2.length : Int) + x9_20)) > a1
                            · rw [if_pos c32] at H
                              have c32b0 : decide (a1 < (wrap64 ((x6_2.length : Int) + x9_20))) = true := decide_eq_true c32
                              clear c32
                              simp only [Option.some.injEq, Prod.mk.injEq] at H
                              obtain ⟨rfl, rfl⟩ := H
                              have p31 : 0 ≤ (x7_20 : Int) := of_decide_eq_true (by first | (with_reducible assumption) | assumption)
                              have q31 : x7_20 < (a0.size : Int) := of_decide_eq_true (by first | (with_reducible assumption) | assumption)
                              have hx31 := bt_at a0 x7_20
                              replace p31 := eq_true p31
                              replace q31 := eq_true q31
                              obtain ⟨Ao33, co33, eo33⟩ := Kd.R_slice HO_6.out
                              subst eo33
                              go_wp2
                              go_ret2
                              exact ⟨by first | rfl | (simp [errW_none, errW_some] <;> rfl) | (simp [*, errW_none, errW_some] <;> rfl), by repeat (first | (with_reducible first | exact HB.out | apply below_alloc | apply pw_below_drewN | apply below_drew1) | exact HB.out)⟩
                            · rw [if_neg c32] at H
                              have c32b0 : decide (a1 < (wrap64 ((x6_2.length : Int) + x9_20))) = false := decide_eq_false c32
                              clear c32
                              by_cases c34 : (wrap64 ((wrap64 ((wrap64 ((Int.tmod (wrap64 (bt a0 x7_2)) 32) * 256)) + (wrap64 (bt a0 x7_20)))) + 1)) > (x6_2.length : Int)
                              · rw [if_pos c34] at H
                                have c34b0 : decide ((x6_2.length : Int) < (wrap64 ((wrap64 ((wrap64 ((Int.tmod (wrap64 (bt a0 x7_2)) 32) * 256)) + (wrap64 (bt a0 x7_20)))) + 1))) = true := decide_eq_true c34
                                clear c34
                                simp only [Option.some.injEq, Prod.mk.injEq] at H
                                obtain ⟨rfl, rfl⟩ := H
                                have p31 : 0 ≤ (x7_20 : Int) := of_decide_eq_true (by first | (with_reducible assumption) | assumption)
                                have q31 : x7_20 < (a0.size : Int) := of_decide_eq_true (by first | (with_reducible assumption) | assumption)
                                have hx31 := bt_at a0 x7_20
                                replace p31 := eq_true p31
                                replace q31 := eq_true q31
                                obtain ⟨Ao35, co35, eo35⟩ := Kd.R_slice HO_6.out
                                subst eo35
                                go_wp2
                                go_ret2
                                exact ⟨by first | rfl | (simp [errW_none, errW_some] <;> rfl) | (simp [*, errW_none, errW_some] <;> rfl), by repeat (first | (with_reducible first | exact HB.out | apply below_alloc | apply pw_below_drewN | apply below_drew1) | exact HB.out)⟩
                              · rw [if_neg c34] at H
                                have c34b0 : decide ((x6_2.length : Int) < (wrap64 ((wrap64 ((wrap64 ((Int.tmod (wrap64 (bt a0 x7_2)) 32) * 256)) + (wrap64 (bt a0 x7_20)))) + 1))) = false := decide_eq_false c34
                                clear c34
                                have H' := Aside0.mk H
                                clear H
                                have p31 : 0 ≤ (x7_20 : Int) := of_decide_eq_true (by first | (with_reducible assumption) | assumption)
                                have q31 : x7_20 < (a0.size : Int) := of_decide_eq_true (by first | (with_reducible assumption) | assumption)
                                have hx31 := bt_at a0 x7_20
                                replace p31 := eq_true p31
                                replace q31 := eq_true q31
                                obtain ⟨Ao36, co36, eo36⟩ := Kd.R_slice HO_6.out
                                subst eo36
                                go_wp2
                                go_loopg [6, 11] kj20 (fun kq v6 v11 w' => ∃ (x6_4 : List Int) (x11_4 : Int), v11 = .int .i64 x11_4 ∧ Aside0 (cisternref03_Unpack.l1 kq a0 a1 x6_4 (wrap64 (x7_20 + 1)) x9_20 (wrap64 ((wrap64 ((wrap64 ((Int.tmod (wrap64 (bt a0 x7_2)) 32) * 256)) + (wrap64 (bt a0 x7_20)))) + 1)) x11_4 = some (r1, r2)) ∧ Aside0 (kq ≤ kj20) ∧ Aside0 (Kd.R (Kd.int .u8) 5 w' w.heap.size (fun _ => True) v6 x6_4) ∧ Aside0 (Below w.heap.size w w'))
                                case atStart => exact ⟨(x6_2), (0), (by first | rfl | (simp; done) | (simp [*]; done)), H', ⟨Nat.le_refl _⟩, ⟨by (with_reducible repeat (first | apply Kd.R_alloc | apply Kd.R_drewN | apply Kd.R_drew)); exact HO_6.out⟩, ⟨by repeat (first | (with_reducible first | exact HB.out | apply below_alloc | apply pw_below_drewN | apply below_drew1) | exact HB.out)⟩⟩
                                case round =>
                                  clear H'
                                  try clear c1
                                  try clear c2
                                  try clear p2
                                  try clear q2
                                  try clear hx2
                                  try clear c3
                                  try clear p3
                                  try clear q3
                                  try clear hx3
                                  try clear c4
                                  try clear c4b0
                                  try clear c5
                                  try clear c6
                                  try clear c6b0
                                  try clear p6
                                  try clear c7
                                  try clear c7b0
                                  try clear p8
                                  try clear q8
                                  try clear hx8
                                  try clear c9
                                  try clear c9b0
                                  try clear c10
                                  try clear c10b0
                                  try clear c12
                                  try clear c12b0
                                  try clear c15
                                  try clear c15b0
                                  try clear c15b1
                                  try clear c16
                                  try clear c16b0
                                  try clear c16b1
                                  try clear c17
                                  try clear c17b0
                                  try clear c17b1
                                  try clear c18
                                  try clear c22
                                  try clear c22b0
                                  try clear c22b1
                                  try clear c23
                                  try clear c23b0
                                  try clear c25
                                  try clear c25b0
                                  try clear c26
                                  try clear c26b0
                                  try clear p27
                                  try clear q27
                                  try clear hx27
                                  try clear c28
                                  try clear c28b0
                                  try clear c29
                                  try clear c29b0
                                  try clear c30
                                  try clear c30b0
                                  try clear p31
                                  try clear q31
                                  try clear hx31
                                  try clear c32
                                  try clear c32b0
                                  try clear c34
                                  try clear c34b0
                                  try clear p2
                                  try clear p27
                                  try clear p31
                                  try clear p6
                                  try clear p8
                                  try clear q2
                                  try clear q27
                                  try clear q31
                                  try clear q8
                                  obtain ⟨x6_4, x11_4, rfl, HA, HK4, HO_6, HB⟩ := hrel
                                  cases gk with
                                  | zero => exact absurd HA.out (by simp [cisternref03_Unpack.l1])
                                  | succ k4 =>
                                    have H := HA.out
                                    clear HA
                                    simp only [cisternref03_Unpack.l1] at H
                                    by_cases c37 : x11_4 < x9_20
                                    · rw [if_pos c37] at H
                                      have c37b0 : decide (x11_4 < x9_20) = true := decide_eq_true c37
                                      clear c37
                                      obtain ⟨ji38, hji38⟩ : ∃ j_ : Int, (wrap64 ((x6_4.length : Int) - (wrap64 ((wrap64 ((wrap64 ((Int.tmod (wrap64 (bt a0 x7_2)) 32) * 256)) + (wrap64 (bt a0 x7_20)))) + 1)))) = j_ := ⟨_, rfl⟩
                                      replace H : (if 0 ≤ (ji38) then (if (ji38) < (x6_4.length : Int) then (if x6_4.length < 140737488355328 then (cisternref03_Unpack.l1 k4 a0 a1 (x6_4 ++ [rd x6_4 (ji38)]) (wrap64 (x7_20 + 1)) x9_20 (wrap64 ((wrap64 ((wrap64 ((Int.tmod (wrap64 (bt a0 x7_2)) 32) * 256)) + (wrap64 (bt a0 x7_20)))) + 1)) (wrap64 (x11_4 + 1))) else (none)) else (none)) else (none)) = some (r1, r2) := by first | (rw [hji38] at H; exact H) | (simp only [hji38] at H ⊢; exact H)
                                      have hji38w : (IntKind.i64.wrap ((x6_4.length : Int) - (wrap64 ((wrap64 ((wrap64 ((Int.tmod (wrap64 (bt a0 x7_2)) 32) * 256)) + (wrap64 (bt a0 x7_20)))) + 1)))) = ji38 := (i64_w _).trans hji38
                                      by_cases c39 : 0 ≤ (ji38)
                                      · rw [if_pos c39] at H
                                        have c39b0 : decide (0 ≤ (ji38)) = true := decide_eq_true c39
                                        clear c39
                                        by_cases c40 : (ji38) < (x6_4.length : Int)
                                        · rw [if_pos c40] at H
                                          have c40b0 : decide ((ji38) < (x6_4.length : Int)) = true := decide_eq_true c40
                                          clear c40
                                          by_cases c41 : x6_4.length < 140737488355328
                                          · rw [if_pos c41] at H
                                            have LMc41 := Aside0.mk c41
                                            clear c41
                                            obtain ⟨y112, hy112⟩ : ∃ y_ : List Int, y_ = (x6_4 ++ [rd x6_4 (ji38)]) := ⟨_, rfl⟩
                                            replace H : (cisternref03_Unpack.l1 k4 a0 a1 y112 (wrap64 (x7_20 + 1)) x9_20 (wrap64 ((wrap64 ((wrap64 ((Int.tmod (wrap64 (bt a0 x7_2)) 32) * 256)) + (wrap64 (bt a0 x7_20)))) + 1)) (wrap64 (x11_4 + 1))) = some (r1, r2) := by first | (rw [hy112]; with_reducible exact H) | (have H2_ := (Option.bind_some _ _).symm.trans H; rw [hy112]; with_reducible exact H2_) | (have H2_ := (Option.bind_some _ _).symm.trans H; with_reducible exact H2_) | with_reducible exact H | (rw [hy112]; exact H) | exact H
                                            have Ny112 := Aside0.mk hy112
                                            clear hy112
                                            have H' := Aside0.mk H
                                            clear H
                                            obtain ⟨Ao42, co42, eo42⟩ := Kd.R_slice HO_6.out
                                            subst eo42
                                            have p111 : 0 ≤ ((ji38) : Int) := of_decide_eq_true (by first | (with_reducible assumption) | assumption)
                                            have q111 : (ji38) < (x6_4.length : Int) := of_decide_eq_true (by first | (with_reducible assumption) | assumption)
                                            obtain ⟨ad111, e111, hx111_0⟩ := Kd.at_int (Kd.R_reads' HO_6.out).2.2 (ji38) p111 q111
                                            cases e111
                                            replace p111 := eq_true p111
                                            replace q111 := eq_true q111
                                            go_wp2_with (first | ((with_reducible refine gate_builtin (b := .append) (xs := #[.tmp 105, .tmp 113]) rfl ?_); at_builtin; refine Kd.R_append (Kd.int .u8) (w0 := w) w.heap.size rfl (.tmp 105) (.tmp 113) 56 5 (.int .u8 0) 1 rfl Try.underlying56 info5 rfl (by decide) (by omega) (.slice (some ad111) x6_4.length co42) x6_4 (rd x6_4 (ji38)) [.int .u8 (rd x6_4 (ji38))] (fun _ => True) (fun _ => False) rfl rfl ?aP (fun _ hk => hk.elim) ?aF ?aO ?aB ?aS ?aL ?_; (case aP => exact rfl); (case aB => exact (by repeat (first | (with_reducible first | exact HB.out | apply below_alloc | apply pw_below_drewN | apply below_drew1) | exact HB.out))); (case aF => exact (fun _ _ => trivial)); (case aO => exact (by (with_reducible repeat (first | apply Kd.R_alloc | apply Kd.R_drewN | apply Kd.R_drew)); exact HO_6.out)); (case aS => exact (below_size (by repeat (first | (with_reducible first | exact HB.out | apply below_alloc | apply pw_below_drewN | apply below_drew1) | exact HB.out)))); (case aL => have := LMc41.out; omega); intro v113 w43 ho hb hg hat; rw [← Ny112.out] at ho; have n0_ := Aside0.mk (hb); have n1_ := Aside0.mk (ho); clear HB; clear HO_6; have HB := n0_; have HO114 := n1_; clear n0_ n1_; clear ho hb hg hat))
                                            go_roundg k4
                                            case measure => have := HJ2.out; have := HK2.out; have := HJ20.out; have := HK4.out; omega
                                            case rel => exact ⟨(y112), (wrap64 (x11_4 + 1)), (by first | rfl | (simp; done) | (simp [*]; done)), H', ⟨by have := HJ2.out; have := HK2.out; have := HJ20.out; have := HK4.out; omega⟩, ⟨by (with_reducible repeat (first | apply Kd.R_alloc | apply Kd.R_drewN | apply Kd.R_drew)); exact HO114.out⟩, ⟨by repeat (first | (with_reducible first | exact HB.out | apply below_alloc | apply pw_below_drewN | apply below_drew1) | exact HB.out)⟩⟩
                                          · rw [if_neg c41] at H
                                            exact absurd H (by simp)
                                        · rw [if_neg c40] at H
                                          exact absurd H (by simp)
                                      · rw [if_neg c39] at H
                                        exact absurd H (by simp)
                                    · rw [if_neg c37] at H
                                      have c37b0 : decide (x11_4 < x9_20) = false := decide_eq_false c37
                                      clear c37
                                      have H' := Aside0.mk H
                                      clear H
                                      go_wp2
                                      go_roundg k4
                                      case measure => have := HJ2.out; have := HK2.out; have := HJ20.out; have := HK4.out; omega
                                      case rel => exact ⟨(x6_4), ((wrap64 (x7_20 + 1))), (by first | rfl | (simp; done) | (simp [*]; done)), H', ⟨by have := HJ2.out; have := HK2.out; have := HJ20.out; have := HK4.out; omega⟩, ⟨by (with_reducible repeat (first | apply Kd.R_alloc | apply Kd.R_drewN | apply Kd.R_drew)); exact HO_6.out⟩, ⟨by repeat (first | (with_reducible first | exact HB.out | apply below_alloc | apply pw_below_drewN | apply below_drew1) | exact HB.out)⟩⟩
                          · rw [if_neg c30] at H
                            exact absurd H (by simp)
                        · rw [if_neg c29] at H
                          exact absurd H (by simp)
              · rw [if_neg c7] at H
                exact absurd H (by simp)
            · rw [if_neg c6] at H
              have c6b0 : decide (x7_2 < (a0.size : Int)) = false := decide_eq_false c6
              clear c6
              by_cases c44 : (x6_2.length : Int) < a1
              · rw [if_pos c44] at H
                have c44b0 : decide ((x6_2.length : Int) < a1) = true := decide_eq_true c44
                clear c44
                simp only [Option.some.injEq, Prod.mk.injEq] at H
                obtain ⟨rfl, rfl⟩ := H
                obtain ⟨Ao45, co45, eo45⟩ := Kd.R_slice HO_6.out
                subst eo45
                go_wp2
                go_ret2
                exact ⟨by first | rfl | (simp [errW_none, errW_some] <;> rfl) | (simp [*, errW_none, errW_some] <;> rfl), by repeat (first | (with_reducible first | exact HB.out | apply below_alloc | apply pw_below_drewN | apply below_drew1) | exact HB.out)⟩
              · rw [if_neg c44] at H
                have c44b0 : decide ((x6_2.length : Int) < a1) = false := decide_eq_false c44
                clear c44
                simp only [Option.some.injEq, Prod.mk.injEq] at H
                obtain ⟨rfl, rfl⟩ := H
                obtain ⟨Ao46, co46, eo46⟩ := Kd.R_slice HO_6.out
                subst eo46
                have hcv47 := own_string (P := Try.prog) Try.underlying56 Try.underlying5 Try.underlying9 (Kd.own_of_R HO_6.out)
                go_wp2
                go_ret2
                exact ⟨by first | rfl | (simp [errW_none, errW_some] <;> rfl) | (simp [*, errW_none, errW_some] <;> rfl), by repeat (first | (with_reducible first | exact HB.out | apply below_alloc | apply pw_below_drewN | apply below_drew1) | exact HB.out)⟩







end Go.Proofs.Ytdadggaecgkhfaa.PLzfUnpacks
