/- Functions of the program in plain Lean and the contracts that the Go code comes to them: sections that the kit's print.sh has written for this seat, laid apart here because the printed file as a whole falls at another function. Conditions: as each contract has them. -/
import Derived.Test.YtdadggaecgkhfaaPIntsetPlaysx3
namespace Go.Proofs.Ytdadggaecgkhfaa.PIntsetPlays
open Go.RowKit Go.Proofs.YtdadggaecgkhfaaW.PrintWords Go.Proofs.YtdadggaecgkhfaaW.PrintLast Go.Proofs.YtdadggaecgkhfaaW.PrintMore
attribute [local go_sem] max2_int min2_int max_two min_two max_three min_three max_four min_four
set_option linter.unusedVariables false
set_option linter.unusedSimpArgs false
/-! ### cisternref05_Text: function 44 -/
def cisternref05_Text.l0 : Nat → Int → List Int → ByteArray → List Int → Int → Option (ByteArray)
  | 0, _, _, _, _, _ => none
  | k + 1, x0, x1, x5, x6, x7 => if x7 < (x1.length : Int) then (if 0 ≤ x7 then ((cisternref05_little.f k (rd x1 x7) x0).bind fun t131 => (if x6.length + t131.size < 140737488355328 then (cisternref05_Text.l0 k x0 x1 x5 (x6 ++ bytesOf t131) (wrap64 (x7 + 1))) else (none))) else (none)) else (if x5.size + (strOfNums x6).size ≤ 9223372036854775807 then (some (x5 ++ (strOfNums x6))) else (none))
def cisternref05_Text.f (k : Nat) (a0 : Int) (l1 : List Int) : Option (ByteArray) := (cisternref05_little.f k a0 4).bind fun t128 => ((cisternref05_little.f k (l1.length : Int) 4).bind fun t129 => (if t128.size + t129.size ≤ 9223372036854775807 then (cisternref05_Text.l0 k a0 l1 (t128 ++ t129) ([] : List Int) 0) else (none)))
theorem cisternref05_Text.mono_l : ∀ k, (∀ y0 y1 y2 y3 y4, LeO (cisternref05_Text.l0 k y0 y1 y2 y3 y4) (cisternref05_Text.l0 (k + 1) y0 y1 y2 y3 y4))
  | 0 => fun _ _ _ _ _ r h => by simp [cisternref05_Text.l0] at h
  | k + 1 => by
    have ih0 := cisternref05_Text.mono_l k
    · intro y0 y1 y2 y3 y4
      unfold cisternref05_Text.l0
      repeat' first
      | (with_reducible exact ih0 _ _ _ _ _)
      | (with_reducible exact cisternref05_little.mono _ _ _)
      | (with_reducible exact LeO.refl _)
      | (with_reducible exact LeO.none _)
      | (with_reducible refine LeO.ite ?_ ?_)
      | (with_reducible refine LeO.bind ?_ (fun _ => ?_))
      | exact ih0 _ _ _ _ _
      | exact cisternref05_little.mono _ _ _
      | exact LeO.none _
      | refine LeO.ite ?_ ?_
      | refine LeO.bind ?_ (fun _ => ?_)
theorem cisternref05_Text.mono : ∀ a0 a1 k, LeO (cisternref05_Text.f k a0 a1) (cisternref05_Text.f (k + 1) a0 a1) := by
  intro a0 a1 k
  have ih0 := cisternref05_Text.mono_l k
  unfold cisternref05_Text.f
  repeat' first
      | (with_reducible exact ih0 _ _ _ _ _)
      | (with_reducible exact cisternref05_little.mono _ _ _)
      | (with_reducible exact LeO.refl _)
      | (with_reducible exact LeO.none _)
      | (with_reducible refine LeO.ite ?_ ?_)
      | (with_reducible refine LeO.bind ?_ (fun _ => ?_))
      | exact ih0 _ _ _ _ _
      | exact cisternref05_little.mono _ _ _
      | exact LeO.none _
      | refine LeO.ite ?_ ?_
      | refine LeO.bind ?_ (fun _ => ?_)
set_option maxHeartbeats 8000000 in
set_option maxRecDepth 100000 in
theorem cisternref05_Text.calls (k : Nat) (a0 : Int) (A1 : Option Addr) (c1 : Nat) (l1 : List Int) (r : ByteArray) (w : World) (hr1 : Kd.C (Kd.int .i64) w A1 l1.length l1) (hc1 : l1.length ≤ c1) (h : cisternref05_Text.f k a0 l1 = some r) :
    Calls Try.prog 44 #[.int .i64 a0, .slice A1 l1.length c1] w fun e w' => e = .returned (.string r) ∧ Below w.heap.size w w' := by
  have HR1 := Aside0.mk hr1
  have HC1 := Aside0.mk hc1
  clear hr1 hc1
  have HB := Aside0.mk (Below.refl w.heap.size w)
  have H : ((cisternref05_little.f k a0 4).bind fun t128 => ((cisternref05_little.f k (l1.length : Int) 4).bind fun t129 => (if t128.size + t129.size ≤ 9223372036854775807 then (cisternref05_Text.l0 k a0 l1 (t128 ++ t129) ([] : List Int) 0) else (none)))) = some r := h
  clear h
  replace H := Option.bind_eq_some_iff.mp H
  obtain ⟨t128, A30, H⟩ := H
  replace H : ((cisternref05_little.f k (l1.length : Int) 4).bind fun t129 => (if t128.size + t129.size ≤ 9223372036854775807 then (cisternref05_Text.l0 k a0 l1 (t128 ++ t129) ([] : List Int) 0) else (none))) = some r := H
  have A3 := Aside0.mk A30
  clear A30
  replace H := Option.bind_eq_some_iff.mp H
  obtain ⟨t129, A40, H⟩ := H
  replace H : (if t128.size + t129.size ≤ 9223372036854775807 then (cisternref05_Text.l0 k a0 l1 (t128 ++ t129) ([] : List Int) 0) else (none)) = some r := H
  have A4 := Aside0.mk A40
  clear A40
  by_cases c5 : t128.size + t129.size ≤ 9223372036854775807
  · rw [if_pos c5] at H
    have c5b0 := eq_true c5
    have c5b1 : decide (t128.size + t129.size ≤ 9223372036854775807) = true := decide_eq_true c5
    try have c5b2 : (9223372036854775807 < t128.size + t129.size) = False := eq_false (Nat.not_lt.2 c5)
    have H' := Aside0.mk H
    clear H
    go_enter Try.func44, Try.ntmps44
    go_wp2_with (first | ((with_reducible refine gate_callee (f := 56) rfl ?_); refine goesL_ (some 9) rfl rfl Try.func56 (by kernel_rfl) rfl #[.int .i64 a0, .int .i64 4] rfl (by (try simp only [List.map_toArray, List.map_cons, List.map_nil]); first | done | rfl | (simp only [List.length_drop, List.length_take]; rfl)) ?_; (with_reducible refine (cisternref05_little.calls k a0 4 t128 _ A3.out).mono ?_); rintro e w6 ⟨rfl, hb⟩; refine ⟨_, rfl, ?_⟩; have n0_ := Aside0.mk (below_step (by repeat (first | (with_reducible first | exact HB.out | apply below_alloc | apply pw_below_drewN | apply below_drew1) | exact HB.out)) hb); clear HB; have HB := n0_; clear n0_; (try clear hb); (try clear hb2); (try clear hk); (try clear hi)) | ((with_reducible refine gate_callee (f := 56) rfl ?_); refine goesL_ (some 12) rfl rfl Try.func56 (by kernel_rfl) rfl #[.int .i64 (l1.length : Int), .int .i64 4] rfl (by (try simp only [List.map_toArray, List.map_cons, List.map_nil]); first | done | rfl | (simp only [List.length_drop, List.length_take]; rfl)) ?_; (with_reducible refine (cisternref05_little.calls k (l1.length : Int) 4 t129 _ A4.out).mono ?_); rintro e w7 ⟨rfl, hb⟩; refine ⟨_, rfl, ?_⟩; have n0_ := Aside0.mk (below_step (by repeat (first | (with_reducible first | exact HB.out | apply below_alloc | apply pw_below_drewN | apply below_drew1) | exact HB.out)) hb); clear HB; have HB := n0_; clear n0_; (try clear hb); (try clear hb2); (try clear hk); (try clear hi)))
    go_loopg [6, 7] k (fun kq v6 v7 w' => ∃ (x6_1 : List Int) (x7_1 : Int), v7 = .int .i64 x7_1 ∧ Aside0 (cisternref05_Text.l0 kq a0 l1 (t128 ++ t129) x6_1 x7_1 = some r) ∧ Aside0 (kq ≤ k) ∧ Aside0 (Kd.R (Kd.int .u8) 5 w' w.heap.size (fun _ => True) v6 x6_1) ∧ Aside0 (Below w.heap.size w w'))
    case atStart => exact ⟨(([] : List Int)), (0), (by first | rfl | (simp; done) | (simp [*]; done)), H', ⟨Nat.le_refl _⟩, ⟨by first | exact Kd.R_nil _ _ _ _ _ | exact Kd.N_nil _ _ _ _ _ | exact Kd.V_nil _ _ _ _ _ | exact Kd.Q_nil _ _ _ _ _ | exact Kd.S_nil _ _ _ _ _⟩, ⟨by repeat (first | (with_reducible first | exact HB.out | apply below_alloc | apply pw_below_drewN | apply below_drew1) | exact HB.out)⟩⟩
    case round =>
      clear H'
      try clear c1
      try clear p2
      try clear c4
      try clear c5
      try clear c5b0
      try clear c5b1
      try clear c5b2
      obtain ⟨x6_1, x7_1, rfl, HA, HK1, HO_6, HB⟩ := hrel
      cases gk with
      | zero => exact absurd HA.out (by simp [cisternref05_Text.l0])
      | succ k1 =>
        have H := HA.out
        clear HA
        simp only [cisternref05_Text.l0] at H
        by_cases c8 : x7_1 < (l1.length : Int)
        · rw [if_pos c8] at H
          have c8b0 : decide (x7_1 < (l1.length : Int)) = true := decide_eq_true c8
          clear c8
          by_cases c9 : 0 ≤ x7_1
          · rw [if_pos c9] at H
            have c9b0 : decide (0 ≤ x7_1) = true := decide_eq_true c9
            clear c9
            replace H := Option.bind_eq_some_iff.mp H
            obtain ⟨t131, A100, H⟩ := H
            replace H : (if x6_1.length + t131.size < 140737488355328 then (cisternref05_Text.l0 k1 a0 l1 (t128 ++ t129) (x6_1 ++ bytesOf t131) (wrap64 (x7_1 + 1))) else (none)) = some r := H
            have A10 := Aside0.mk A100
            clear A100
            by_cases c11 : x6_1.length + t131.size < 140737488355328
            · rw [if_pos c11] at H
              have LMc11 := Aside0.mk c11
              clear c11
              obtain ⟨y132, hy132⟩ : ∃ y_ : List Int, y_ = (x6_1 ++ bytesOf t131) := ⟨_, rfl⟩
              replace H : (cisternref05_Text.l0 k1 a0 l1 (t128 ++ t129) y132 (wrap64 (x7_1 + 1))) = some r := by first | (rw [hy132]; with_reducible exact H) | (have H2_ := (Option.bind_some _ _).symm.trans H; rw [hy132]; with_reducible exact H2_) | (have H2_ := (Option.bind_some _ _).symm.trans H; with_reducible exact H2_) | with_reducible exact H | (rw [hy132]; exact H) | exact H
              have Ny132 := Aside0.mk hy132
              clear hy132
              have H' := Aside0.mk H
              clear H
              have p130 : 0 ≤ (x7_1 : Int) := of_decide_eq_true (by first | (with_reducible assumption) | assumption)
              have q130 : x7_1 < (l1.length : Int) := of_decide_eq_true (by first | (with_reducible assumption) | assumption)
              obtain ⟨ad130, e130, hx130_0⟩ := Kd.at_int HR1.out x7_1 p130 q130
              cases e130
              replace hx130_0 := (HB.out.cell (World.block_lt_of_cell? w _ hx130_0)).trans hx130_0
              replace p130 := eq_true p130
              replace q130 := eq_true q130
              go_wp2_with (first | ((with_reducible refine gate_callee (f := 56) rfl ?_); refine goesL_ (some 26) rfl rfl Try.func56 (by kernel_rfl) rfl #[.int .i64 (rd l1 x7_1), .int .i64 a0] rfl (by (try simp only [List.map_toArray, List.map_cons, List.map_nil]); first | done | rfl | (simp only [List.length_drop, List.length_take]; rfl)) ?_; (with_reducible refine (cisternref05_little.calls k1 (rd l1 x7_1) a0 t131 _ A10.out).mono ?_); rintro e w12 ⟨rfl, hb⟩; refine ⟨_, rfl, ?_⟩; have n0_ := Aside0.mk (Kd.R_below (by (with_reducible repeat (first | apply Kd.R_alloc | apply Kd.R_drewN | apply Kd.R_drew)); exact HO_6.out) hb); have n1_ := Aside0.mk (below_step (by repeat (first | (with_reducible first | exact HB.out | apply below_alloc | apply pw_below_drewN | apply below_drew1) | exact HB.out)) hb); clear HO_6; clear HB; have HO_6 := n0_; have HB := n1_; clear n0_ n1_; (try clear hb); (try clear hb2); (try clear hk); (try clear hi)) | (at_builtin; refine print_append_str (w0 := w) w.heap.size rfl (.tmp 20) _ 56 9 5 rfl Try.underlying56 Try.underlying9 info5 u6 x6_1 t131 rfl rfl ?aO ?aB ?aS ?aL ?_; (case aB => exact (by repeat (first | (with_reducible first | exact HB.out | apply below_alloc | apply pw_below_drewN | apply below_drew1) | exact HB.out))); (case aO => exact (Kd.own_of_R (by (with_reducible repeat (first | apply Kd.R_alloc | apply Kd.R_drewN | apply Kd.R_drew)); exact HO_6.out))); (case aS => exact (below_size (by repeat (first | (with_reducible first | exact HB.out | apply below_alloc | apply pw_below_drewN | apply below_drew1) | exact HB.out)))); (case aL => have := LMc11.out; omega); intro v133 w13 ho0 hb hg; have ho := Kd.R_of_own (h1 := fun _ => rfl) (ok := fun _ => True) ho0 (fun _ _ => trivial); clear ho0; have hat := True.intro; rw [← Ny132.out] at ho; change Kd.R (Kd.int .u8) 5 w13 w.heap.size (fun _ => True) v133 y132 at ho; have n0_ := Aside0.mk (hb); have n1_ := Aside0.mk (ho); clear HB; clear HO_6; have HB := n0_; have HO134 := n1_; clear n0_ n1_; clear ho hb hg hat))
              go_roundg k1
              case measure => have := HK1.out; omega
              case rel => exact ⟨(y132), (wrap64 (x7_1 + 1)), (by first | rfl | (simp; done) | (simp [*]; done)), H', ⟨by have := HK1.out; omega⟩, ⟨by (with_reducible repeat (first | apply Kd.R_alloc | apply Kd.R_drewN | apply Kd.R_drew)); exact HO134.out⟩, ⟨by repeat (first | (with_reducible first | exact HB.out | apply below_alloc | apply pw_below_drewN | apply below_drew1) | exact HB.out)⟩⟩
            · rw [if_neg c11] at H
              exact absurd H (by simp)
          · rw [if_neg c9] at H
            exact absurd H (by simp)
        · rw [if_neg c8] at H
          have c8b0 : decide (x7_1 < (l1.length : Int)) = false := decide_eq_false c8
          clear c8
          by_cases c14 : (t128 ++ t129).size + (strOfNums x6_1).size ≤ 9223372036854775807
          · rw [if_pos c14] at H
            have c14b0 := eq_true c14
            have c14b1 : decide ((t128 ++ t129).size + (strOfNums x6_1).size ≤ 9223372036854775807) = true := decide_eq_true c14
            try have c14b2 : (9223372036854775807 < (t128 ++ t129).size + (strOfNums x6_1).size) = False := eq_false (Nat.not_lt.2 c14)
            obtain rfl := Option.some.inj H
            have hcv15 := own_string (P := Try.prog) Try.underlying56 Try.underlying5 Try.underlying9 (Kd.own_of_R HO_6.out)
            go_wp2
            go_ret
            exact ⟨by first | rfl | (simp [errW_none, errW_some] <;> rfl) | (simp [*, errW_none, errW_some] <;> rfl), by repeat (first | (with_reducible first | exact HB.out | apply below_alloc | apply pw_below_drewN | apply below_drew1) | exact HB.out)⟩
          · rw [if_neg c14] at H
            exact absurd H (by simp)
  · rw [if_neg c5] at H
    exact absurd H (by simp)


/-! ### cisternref05_needs: function 45 -/
def cisternref05_needs.j0 : Nat → Int → Bool → Option (Int)
  | 0, _, _ => none
  | k + 1, x0, x3 => if x3 = true then (some 2) else (if x0 ≥ (-2147483648) then (if x0 ≤ 2147483647 then (some 4) else (some 8)) else (some 8))
def cisternref05_needs.f (k : Nat) (a0 : Int) : Option (Int) := if a0 ≥ (-32768) then (cisternref05_needs.j0 k a0 (decide (a0 ≤ 32767))) else (cisternref05_needs.j0 k a0 false)
theorem cisternref05_needs.mono_l : ∀ k, (∀ y0 y1, LeO (cisternref05_needs.j0 k y0 y1) (cisternref05_needs.j0 (k + 1) y0 y1))
  | 0 => fun _ _ r h => by simp [cisternref05_needs.j0] at h
  | k + 1 => by
    have ih0 := cisternref05_needs.mono_l k
    · intro y0 y1
      unfold cisternref05_needs.j0
      repeat' first
      | (with_reducible exact ih0 _ _)
      | (with_reducible exact LeO.refl _)
      | (with_reducible exact LeO.none _)
      | (with_reducible refine LeO.ite ?_ ?_)
      | (with_reducible refine LeO.bind ?_ (fun _ => ?_))
      | exact ih0 _ _
      | exact LeO.none _
      | refine LeO.ite ?_ ?_
      | refine LeO.bind ?_ (fun _ => ?_)
theorem cisternref05_needs.mono : ∀ a0 k, LeO (cisternref05_needs.f k a0) (cisternref05_needs.f (k + 1) a0) := by
  intro a0 k
  have ih0 := cisternref05_needs.mono_l k
  unfold cisternref05_needs.f
  repeat' first
      | (with_reducible exact ih0 _ _)
      | (with_reducible exact LeO.refl _)
      | (with_reducible exact LeO.none _)
      | (with_reducible refine LeO.ite ?_ ?_)
      | (with_reducible refine LeO.bind ?_ (fun _ => ?_))
      | exact ih0 _ _
      | exact LeO.none _
      | refine LeO.ite ?_ ?_
      | refine LeO.bind ?_ (fun _ => ?_)
set_option maxHeartbeats 8000000 in
set_option maxRecDepth 100000 in
theorem cisternref05_needs.calls (k : Nat) (a0 : Int) (r : Int) (w : World) (h : cisternref05_needs.f k a0 = some r) :
    Calls Try.prog 45 #[.int .i64 a0] w fun e w' => e = .returned (.int .i64 r) ∧ Drawn0 w w' := by
  have H : (if a0 ≥ (-32768) then (cisternref05_needs.j0 k a0 (decide (a0 ≤ 32767))) else (cisternref05_needs.j0 k a0 false)) = some r := h
  clear h
  have HC2 := Aside0.mk H
  clear H
  go_enter Try.func45, Try.ntmps45
  go_upto_region 1 with (fail)
  go_cut [3] (fun v3 wc => ∃ (kq : Nat) (x3_1 : Bool), v3 = .bool x3_1 ∧ Aside0 (cisternref05_needs.j0 kq a0 x3_1 = some r) ∧ Aside0 (kq ≤ k) ∧ Drawn0 w wc)
  case first =>
    have H := HC2.out
    clear HC2
    by_cases c3 : a0 ≥ (-32768)
    · rw [if_pos c3] at H
      have c3b0 : decide ((-32768) ≤ a0) = true := decide_eq_true c3
      clear c3
      (first | rw [c3b0] | (simp only [i64_w, i32_w]; rw [c3b0]) | skip)
      have H' := Aside0.mk H
      clear H
      go_wp2
      go_meet
      case rel => exact ⟨_, (decide (a0 ≤ 32767)), (by first | rfl | (simp; done) | (simp [*]; done)), H', ⟨by first | omega | exact Nat.le_refl _⟩, by repeat (first | exact Drawn0.refl _ | apply Drawn0.step)⟩
    · rw [if_neg c3] at H
      have c3b0 : decide ((-32768) ≤ a0) = false := decide_eq_false c3
      clear c3
      (first | rw [c3b0] | (simp only [i64_w, i32_w]; rw [c3b0]) | skip)
      have H' := Aside0.mk H
      clear H
      go_wp2
      go_meet
      case rel => exact ⟨_, (false), (by first | rfl | (simp; done) | (simp [*]; done)), H', ⟨by first | omega | exact Nat.le_refl _⟩, by repeat (first | exact Drawn0.refl _ | apply Drawn0.step)⟩
  case rest =>
    clear HC2
    try clear p2
    try clear c3
    try clear c3b0
    obtain ⟨kq, x3_1, rfl, HA, HJ1, ⟨mc1, rfl⟩⟩ := hcut
    cases kq with
    | zero => exact absurd HA.out (by simp [cisternref05_needs.j0])
    | succ kj1 =>
      have H := HA.out
      clear HA
      simp only [cisternref05_needs.j0] at H
      by_cases c4 : x3_1 = true
      · subst c4
        have H1 : (some 2) = some r := by rw [if_pos rfl] at H; exact H
        clear H
        have H := H1
        clear H1
        obtain rfl := Option.some.inj H
        go_wp2
        go_ret
        exact ⟨by first | rfl | (simp; done) | (simp [*]; done), by repeat (first | exact Drawn0.refl _ | apply Drawn0.step)⟩
      · replace c4 := Bool.eq_false_iff.mpr c4
        subst c4
        have H1 : (if a0 ≥ (-2147483648) then (if a0 ≤ 2147483647 then (some 4) else (some 8)) else (some 8)) = some r := by rw [if_neg (show ¬ (false = true) by decide)] at H; exact H
        clear H
        have H := H1
        clear H1
        by_cases c5 : a0 ≥ (-2147483648)
        · rw [if_pos c5] at H
          have c5b0 : decide ((-2147483648) ≤ a0) = true := decide_eq_true c5
          clear c5
          by_cases c6 : a0 ≤ 2147483647
          · rw [if_pos c6] at H
            have c6b0 : decide (a0 ≤ 2147483647) = true := decide_eq_true c6
            clear c6
            obtain rfl := Option.some.inj H
            go_wp2
            go_ret
            exact ⟨by first | rfl | (simp; done) | (simp [*]; done), by repeat (first | exact Drawn0.refl _ | apply Drawn0.step)⟩
          · rw [if_neg c6] at H
            have c6b0 : decide (a0 ≤ 2147483647) = false := decide_eq_false c6
            clear c6
            obtain rfl := Option.some.inj H
            go_wp2
            go_ret
            exact ⟨by first | rfl | (simp; done) | (simp [*]; done), by repeat (first | exact Drawn0.refl _ | apply Drawn0.step)⟩
        · rw [if_neg c5] at H
          have c5b0 : decide ((-2147483648) ≤ a0) = false := decide_eq_false c5
          clear c5
          obtain rfl := Option.some.inj H
          go_wp2
          go_ret
          exact ⟨by first | rfl | (simp; done) | (simp [*]; done), by repeat (first | exact Drawn0.refl _ | apply Drawn0.step)⟩


/-! ### cisternref05_Add: function 14 -/
def cisternref05_Add.f (k : Nat) (a0 : ByteArray) (a1 : Int) : Option (ByteArray × Bool × Int) := (cisternref05_Read.f k a0).bind fun bt135 => (if bt135.2.2 = true then ((cisternref05_at.f k bt135.2.1 a1).bind fun bt140 => (if bt140.2 = true then (some (a0, false, 0)) else (if (bt135.2.1.length : Int) ≥ 1048576 then (some ((⟨#[]⟩ : ByteArray), false, 3)) else (if 0 ≤ bt140.1 then (if bt140.1 ≤ (bt135.2.1.length : Int) then ((some (bt135.2.1.take (bt140.1 : Int).toNat : List Int)).bind fun y142 => (if ([] : List Int).length + y142.length < 17592186044416 then ((some (([] : List Int) ++ y142 : List Int)).bind fun y146 => (if y146.length < 17592186044416 then ((some (y146 ++ [a1] : List Int)).bind fun y149 => ((some (bt135.2.1.drop (bt140.1 : Int).toNat : List Int)).bind fun y152 => (if y149.length + y152.length < 17592186044416 then ((cisternref05_needs.f k a1).bind fun t159 => ((cisternref05_Text.f k (mx bt135.1 t159) (y149 ++ y152)).bind fun t160 => (some (t160, true, 0)))) else (none)))) else (none))) else (none))) else (none)) else (none))))) else (some ((⟨#[]⟩ : ByteArray), false, 50)))
theorem cisternref05_Add.mono : ∀ a0 a1 k, LeO (cisternref05_Add.f k a0 a1) (cisternref05_Add.f (k + 1) a0 a1) := by
  intro a0 a1 k
  unfold cisternref05_Add.f
  repeat' first
      | (with_reducible exact cisternref05_Read.mono _ _)
      | (with_reducible exact cisternref05_Text.mono _ _ _)
      | (with_reducible exact cisternref05_at.mono _ _ _)
      | (with_reducible exact cisternref05_needs.mono _ _)
      | (with_reducible exact LeO.refl _)
      | (with_reducible exact LeO.none _)
      | (with_reducible refine LeO.ite ?_ ?_)
      | (with_reducible refine LeO.bind ?_ (fun _ => ?_))
      | exact cisternref05_Read.mono _ _
      | exact cisternref05_Text.mono _ _ _
      | exact cisternref05_at.mono _ _ _
      | exact cisternref05_needs.mono _ _
      | exact LeO.none _
      | refine LeO.ite ?_ ?_
      | refine LeO.bind ?_ (fun _ => ?_)
set_option maxHeartbeats 8000000 in
set_option maxRecDepth 100000 in
theorem cisternref05_Add.calls (k : Nat) (a0 : ByteArray) (a1 : Int) (r1 : ByteArray) (r2 : Bool) (r3 : Int) (w : World) (h : cisternref05_Add.f k a0 a1 = some (r1, r2, r3)) :
    Calls Try.prog 14 #[.string a0, .int .i64 a1] w fun e w' => e = .returned (.tuple #[.string r1, .bool r2, .int .i64 r3]) ∧ Below w.heap.size w w' := by
  have HB := Aside0.mk (Below.refl w.heap.size w)
  have H : ((cisternref05_Read.f k a0).bind fun bt135 => (if bt135.2.2 = true then ((cisternref05_at.f k bt135.2.1 a1).bind fun bt140 => (if bt140.2 = true then (some (a0, false, 0)) else (if (bt135.2.1.length : Int) ≥ 1048576 then (some ((⟨#[]⟩ : ByteArray), false, 3)) else (if 0 ≤ bt140.1 then (if bt140.1 ≤ (bt135.2.1.length : Int) then ((some (bt135.2.1.take (bt140.1 : Int).toNat : List Int)).bind fun y142 => (if ([] : List Int).length + y142.length < 17592186044416 then ((some (([] : List Int) ++ y142 : List Int)).bind fun y146 => (if y146.length < 17592186044416 then ((some (y146 ++ [a1] : List Int)).bind fun y149 => ((some (bt135.2.1.drop (bt140.1 : Int).toNat : List Int)).bind fun y152 => (if y149.length + y152.length < 17592186044416 then ((cisternref05_needs.f k a1).bind fun t159 => ((cisternref05_Text.f k (mx bt135.1 t159) (y149 ++ y152)).bind fun t160 => (some (t160, true, 0)))) else (none)))) else (none))) else (none))) else (none)) else (none))))) else (some ((⟨#[]⟩ : ByteArray), false, 50)))) = some (r1, r2, r3) := h
  clear h
  replace H := Option.bind_eq_some_iff.mp H
  obtain ⟨⟨t135, t136, t137⟩, A30, H⟩ := H
  replace H : (if t137 = true then ((cisternref05_at.f k t136 a1).bind fun bt140 => (if bt140.2 = true then (some (a0, false, 0)) else (if (t136.length : Int) ≥ 1048576 then (some ((⟨#[]⟩ : ByteArray), false, 3)) else (if 0 ≤ bt140.1 then (if bt140.1 ≤ (t136.length : Int) then ((some (t136.take (bt140.1 : Int).toNat : List Int)).bind fun y142 => (if ([] : List Int).length + y142.length < 17592186044416 then ((some (([] : List Int) ++ y142 : List Int)).bind fun y146 => (if y146.length < 17592186044416 then ((some (y146 ++ [a1] : List Int)).bind fun y149 => ((some (t136.drop (bt140.1 : Int).toNat : List Int)).bind fun y152 => (if y149.length + y152.length < 17592186044416 then ((cisternref05_needs.f k a1).bind fun t159 => ((cisternref05_Text.f k (mx t135 t159) (y149 ++ y152)).bind fun t160 => (some (t160, true, 0)))) else (none)))) else (none))) else (none))) else (none)) else (none))))) else (some ((⟨#[]⟩ : ByteArray), false, 50))) = some (r1, r2, r3) := H
  have A3 := Aside0.mk A30
  clear A30
  by_cases c4 : t137 = true
  · subst c4
    have H1 : ((cisternref05_at.f k t136 a1).bind fun bt140 => (if bt140.2 = true then (some (a0, false, 0)) else (if (t136.length : Int) ≥ 1048576 then (some ((⟨#[]⟩ : ByteArray), false, 3)) else (if 0 ≤ bt140.1 then (if bt140.1 ≤ (t136.length : Int) then ((some (t136.take (bt140.1 : Int).toNat : List Int)).bind fun y142 => (if ([] : List Int).length + y142.length < 17592186044416 then ((some (([] : List Int) ++ y142 : List Int)).bind fun y146 => (if y146.length < 17592186044416 then ((some (y146 ++ [a1] : List Int)).bind fun y149 => ((some (t136.drop (bt140.1 : Int).toNat : List Int)).bind fun y152 => (if y149.length + y152.length < 17592186044416 then ((cisternref05_needs.f k a1).bind fun t159 => ((cisternref05_Text.f k (mx t135 t159) (y149 ++ y152)).bind fun t160 => (some (t160, true, 0)))) else (none)))) else (none))) else (none))) else (none)) else (none))))) = some (r1, r2, r3) := by rw [if_pos rfl] at H; exact H
    clear H
    have H := H1
    clear H1
    replace H := Option.bind_eq_some_iff.mp H
    obtain ⟨⟨t140, t141⟩, A50, H⟩ := H
    replace H : (if t141 = true then (some (a0, false, 0)) else (if (t136.length : Int) ≥ 1048576 then (some ((⟨#[]⟩ : ByteArray), false, 3)) else (if 0 ≤ t140 then (if t140 ≤ (t136.length : Int) then ((some (t136.take (t140 : Int).toNat : List Int)).bind fun y142 => (if ([] : List Int).length + y142.length < 17592186044416 then ((some (([] : List Int) ++ y142 : List Int)).bind fun y146 => (if y146.length < 17592186044416 then ((some (y146 ++ [a1] : List Int)).bind fun y149 => ((some (t136.drop (t140 : Int).toNat : List Int)).bind fun y152 => (if y149.length + y152.length < 17592186044416 then ((cisternref05_needs.f k a1).bind fun t159 => ((cisternref05_Text.f k (mx t135 t159) (y149 ++ y152)).bind fun t160 => (some (t160, true, 0)))) else (none)))) else (none))) else (none))) else (none)) else (none)))) = some (r1, r2, r3) := H
    have A5 := Aside0.mk A50
    clear A50
    by_cases c6 : t141 = true
    · subst c6
      have H1 : (some (a0, false, 0)) = some (r1, r2, r3) := by rw [if_pos rfl] at H; exact H
      clear H
      have H := H1
      clear H1
      simp only [Option.some.injEq, Prod.mk.injEq] at H
      obtain ⟨rfl, rfl, rfl⟩ := H
      go_enter Try.func14, Try.ntmps14
      go_wp2_with (first | ((with_reducible refine gate_callee (f := 25) rfl ?_); refine goesL_ (some 15) rfl rfl Try.func25 (by kernel_rfl) rfl #[.string a0] rfl (by (try simp only [List.map_toArray, List.map_cons, List.map_nil]); first | done | rfl | (simp only [List.length_drop, List.length_take]; rfl)) ?_; (with_reducible refine (cisternref05_Read.calls k a0 t135 t136 true _ A3.out).mono ?_); rintro e w7 ⟨v138, rfl, ho0, hb⟩; refine ⟨_, rfl, ?_⟩; have n0_ := Aside0.mk (Kd.R_lower ho0 (below_size (by repeat (first | (with_reducible first | exact HB.out | apply below_alloc | apply pw_below_drewN | apply below_drew1) | exact HB.out)))); have n1_ := Aside0.mk (below_step (by repeat (first | (with_reducible first | exact HB.out | apply below_alloc | apply pw_below_drewN | apply below_drew1) | exact HB.out)) hb); clear HB; have HO139 := n0_; have HB := n1_; clear n0_ n1_; (try clear hb); (try clear hb2); (try clear hk); (try clear hi); (try clear ho0); obtain ⟨Ao8, co8, eo8⟩ := Kd.R_slice HO139.out; subst eo8) | ((with_reducible refine gate_callee (f := 43) rfl ?_); refine goesL_ (some 24) rfl rfl Try.func43 (by kernel_rfl) rfl #[.slice Ao8 t136.length co8, .int .i64 a1] rfl (by (try simp only [List.map_toArray, List.map_cons, List.map_nil]); first | done | rfl | (simp only [List.length_drop, List.length_take]; rfl)) ?_; (with_reducible refine (cisternref05_at.calls k _ _ t136 a1 t140 true _ ?side1 ?side2 A5.out).mono ?_); (case side1 => repeat (first | exact (Kd.R_reads' HO139.out).2.2 | (with_reducible refine Kd.C_alloc ?_ _) | (with_reducible refine Kd.C_drewN ?_ _) | (with_reducible refine Kd.C_drew ?_))); (case side2 => exact (Kd.R_reads' HO139.out).2.1); rintro e w' ⟨rfl, ⟨nd, rfl⟩⟩; refine ⟨_, rfl, ?_⟩))
      go_ret3
      exact ⟨by first | rfl | (simp [errW_none, errW_some] <;> rfl) | (simp [*, errW_none, errW_some] <;> rfl), by repeat (first | (with_reducible first | exact HB.out | apply below_alloc | apply pw_below_drewN | apply below_drew1) | exact HB.out)⟩
    · replace c6 := Bool.eq_false_iff.mpr c6
      subst c6
      have H1 : (if (t136.length : Int) ≥ 1048576 then (some ((⟨#[]⟩ : ByteArray), false, 3)) else (if 0 ≤ t140 then (if t140 ≤ (t136.length : Int) then ((some (t136.take (t140 : Int).toNat : List Int)).bind fun y142 => (if ([] : List Int).length + y142.length < 17592186044416 then ((some (([] : List Int) ++ y142 : List Int)).bind fun y146 => (if y146.length < 17592186044416 then ((some (y146 ++ [a1] : List Int)).bind fun y149 => ((some (t136.drop (t140 : Int).toNat : List Int)).bind fun y152 => (if y149.length + y152.length < 17592186044416 then ((cisternref05_needs.f k a1).bind fun t159 => ((cisternref05_Text.f k (mx t135 t159) (y149 ++ y152)).bind fun t160 => (some (t160, true, 0)))) else (none)))) else (none))) else (none))) else (none)) else (none))) = some (r1, r2, r3) := by rw [if_neg (show ¬ (false = true) by decide)] at H; exact H
      clear H
      have H := H1
      clear H1
      by_cases c9 : (t136.length : Int) ≥ 1048576
      · rw [if_pos c9] at H
        have c9b0 : decide (1048576 ≤ (t136.length : Int)) = true := decide_eq_true c9
        have c9b1 : decide (1048576 ≤ t136.length) = true := decide_eq_true (by omega)
        clear c9
        simp only [Option.some.injEq, Prod.mk.injEq] at H
        obtain ⟨rfl, rfl, rfl⟩ := H
        go_enter Try.func14, Try.ntmps14
        go_wp2_with (first | ((with_reducible refine gate_callee (f := 25) rfl ?_); refine goesL_ (some 15) rfl rfl Try.func25 (by kernel_rfl) rfl #[.string a0] rfl (by (try simp only [List.map_toArray, List.map_cons, List.map_nil]); first | done | rfl | (simp only [List.length_drop, List.length_take]; rfl)) ?_; (with_reducible refine (cisternref05_Read.calls k a0 t135 t136 true _ A3.out).mono ?_); rintro e w10 ⟨v138, rfl, ho0, hb⟩; refine ⟨_, rfl, ?_⟩; have n0_ := Aside0.mk (Kd.R_lower ho0 (below_size (by repeat (first | (with_reducible first | exact HB.out | apply below_alloc | apply pw_below_drewN | apply below_drew1) | exact HB.out)))); have n1_ := Aside0.mk (below_step (by repeat (first | (with_reducible first | exact HB.out | apply below_alloc | apply pw_below_drewN | apply below_drew1) | exact HB.out)) hb); clear HB; have HO139 := n0_; have HB := n1_; clear n0_ n1_; (try clear hb); (try clear hb2); (try clear hk); (try clear hi); (try clear ho0); obtain ⟨Ao11, co11, eo11⟩ := Kd.R_slice HO139.out; subst eo11) | ((with_reducible refine gate_callee (f := 43) rfl ?_); refine goesL_ (some 24) rfl rfl Try.func43 (by kernel_rfl) rfl #[.slice Ao11 t136.length co11, .int .i64 a1] rfl (by (try simp only [List.map_toArray, List.map_cons, List.map_nil]); first | done | rfl | (simp only [List.length_drop, List.length_take]; rfl)) ?_; (with_reducible refine (cisternref05_at.calls k _ _ t136 a1 t140 false _ ?side1 ?side2 A5.out).mono ?_); (case side1 => repeat (first | exact (Kd.R_reads' HO139.out).2.2 | (with_reducible refine Kd.C_alloc ?_ _) | (with_reducible refine Kd.C_drewN ?_ _) | (with_reducible refine Kd.C_drew ?_))); (case side2 => exact (Kd.R_reads' HO139.out).2.1); rintro e w' ⟨rfl, ⟨nd, rfl⟩⟩; refine ⟨_, rfl, ?_⟩))
        go_ret3
        exact ⟨by first | rfl | (simp [errW_none, errW_some] <;> rfl) | (simp [*, errW_none, errW_some] <;> rfl), by repeat (first | (with_reducible first | exact HB.out | apply below_alloc | apply pw_below_drewN | apply below_drew1) | exact HB.out)⟩
      · rw [if_neg c9] at H
        have c9b0 : decide (1048576 ≤ (t136.length : Int)) = false := decide_eq_false c9
        have c9b1 : decide (1048576 ≤ t136.length) = false := decide_eq_false (by omega)
        clear c9
        by_cases c12 : 0 ≤ t140
        · rw [if_pos c12] at H
          have c12b0 := eq_true c12
          have c12b1 : decide (0 ≤ t140) = true := decide_eq_true c12
          clear c12
          by_cases c13 : t140 ≤ (t136.length : Int)
          · rw [if_pos c13] at H
            have c13b0 := eq_true c13
            have c13b1 : decide (t140 ≤ (t136.length : Int)) = true := decide_eq_true c13
            clear c13
            obtain ⟨y142, hy142⟩ : ∃ y_ : List Int, y_ = (t136.take (t140 : Int).toNat) := ⟨_, rfl⟩
            replace H : (if ([] : List Int).length + y142.length < 17592186044416 then ((some (([] : List Int) ++ y142 : List Int)).bind fun y146 => (if y146.length < 17592186044416 then ((some (y146 ++ [a1] : List Int)).bind fun y149 => ((some (t136.drop (t140 : Int).toNat : List Int)).bind fun y152 => (if y149.length + y152.length < 17592186044416 then ((cisternref05_needs.f k a1).bind fun t159 => ((cisternref05_Text.f k (mx t135 t159) (y149 ++ y152)).bind fun t160 => (some (t160, true, 0)))) else (none)))) else (none))) else (none)) = some (r1, r2, r3) := by first | (rw [hy142]; with_reducible exact H) | (have H2_ := (Option.bind_some _ _).symm.trans H; rw [hy142]; with_reducible exact H2_) | (have H2_ := (Option.bind_some _ _).symm.trans H; with_reducible exact H2_) | with_reducible exact H | (rw [hy142]; exact H) | exact H
            have Ny142 := Aside0.mk hy142
            clear hy142
            by_cases c14 : ([] : List Int).length + y142.length < 17592186044416
            · rw [if_pos c14] at H
              have LMc14 := Aside0.mk c14
              clear c14
              obtain ⟨y146, hy146⟩ : ∃ y_ : List Int, y_ = (([] : List Int) ++ y142) := ⟨_, rfl⟩
              replace H : (if y146.length < 17592186044416 then ((some (y146 ++ [a1] : List Int)).bind fun y149 => ((some (t136.drop (t140 : Int).toNat : List Int)).bind fun y152 => (if y149.length + y152.length < 17592186044416 then ((cisternref05_needs.f k a1).bind fun t159 => ((cisternref05_Text.f k (mx t135 t159) (y149 ++ y152)).bind fun t160 => (some (t160, true, 0)))) else (none)))) else (none)) = some (r1, r2, r3) := by first | (rw [hy146]; with_reducible exact H) | (have H2_ := (Option.bind_some _ _).symm.trans H; rw [hy146]; with_reducible exact H2_) | (have H2_ := (Option.bind_some _ _).symm.trans H; with_reducible exact H2_) | with_reducible exact H | (rw [hy146]; exact H) | exact H
              have Ny146 := Aside0.mk hy146
              clear hy146
              by_cases c15 : y146.length < 17592186044416
              · rw [if_pos c15] at H
                have LMc15 := Aside0.mk c15
                clear c15
                obtain ⟨y149, hy149⟩ : ∃ y_ : List Int, y_ = (y146 ++ [a1]) := ⟨_, rfl⟩
                replace H : ((some (t136.drop (t140 : Int).toNat : List Int)).bind fun y152 => (if y149.length + y152.length < 17592186044416 then ((cisternref05_needs.f k a1).bind fun t159 => ((cisternref05_Text.f k (mx t135 t159) (y149 ++ y152)).bind fun t160 => (some (t160, true, 0)))) else (none))) = some (r1, r2, r3) := by first | (rw [hy149]; with_reducible exact H) | (have H2_ := (Option.bind_some _ _).symm.trans H; rw [hy149]; with_reducible exact H2_) | (have H2_ := (Option.bind_some _ _).symm.trans H; with_reducible exact H2_) | with_reducible exact H | (rw [hy149]; exact H) | exact H
                have Ny149 := Aside0.mk hy149
                clear hy149
                have c16b0 := eq_true (of_decide_eq_true (by first | (with_reducible assumption) | assumption) : 0 ≤ t140)
                have c17b0 := eq_true (of_decide_eq_true (by first | (with_reducible assumption) | assumption) : t140 ≤ (t136.length : Int))
                obtain ⟨y152, hy152⟩ : ∃ y_ : List Int, y_ = (t136.drop (t140 : Int).toNat) := ⟨_, rfl⟩
                replace H : (if y149.length + y152.length < 17592186044416 then ((cisternref05_needs.f k a1).bind fun t159 => ((cisternref05_Text.f k (mx t135 t159) (y149 ++ y152)).bind fun t160 => (some (t160, true, 0)))) else (none)) = some (r1, r2, r3) := by first | (rw [hy152]; with_reducible exact H) | (have H2_ := (Option.bind_some _ _).symm.trans H; rw [hy152]; with_reducible exact H2_) | (have H2_ := (Option.bind_some _ _).symm.trans H; with_reducible exact H2_) | with_reducible exact H | (rw [hy152]; exact H) | exact H
                have Ny152 := Aside0.mk hy152
                clear hy152
                by_cases c18 : y149.length + y152.length < 17592186044416
                · rw [if_pos c18] at H
                  have LMc18 := Aside0.mk c18
                  clear c18
                  obtain ⟨y156, hy156⟩ : ∃ y_ : List Int, y_ = (y149 ++ y152) := ⟨_, rfl⟩
                  replace H : ((cisternref05_needs.f k a1).bind fun t159 => ((cisternref05_Text.f k (mx t135 t159) y156).bind fun t160 => (some (t160, true, 0)))) = some (r1, r2, r3) := by first | (rw [hy156]; with_reducible exact H) | (have H2_ := (Option.bind_some _ _).symm.trans H; rw [hy156]; with_reducible exact H2_) | (have H2_ := (Option.bind_some _ _).symm.trans H; with_reducible exact H2_) | with_reducible exact H | (rw [hy156]; exact H) | exact H
                  have Ny156 := Aside0.mk hy156
                  clear hy156
                  replace H := Option.bind_eq_some_iff.mp H
                  obtain ⟨t159, A190, H⟩ := H
                  replace H : ((cisternref05_Text.f k (mx t135 t159) y156).bind fun t160 => (some (t160, true, 0))) = some (r1, r2, r3) := H
                  have A19 := Aside0.mk A190
                  clear A190
                  obtain ⟨ji20, hji20⟩ : ∃ j_ : Int, (mx t135 t159) = j_ := ⟨_, rfl⟩
                  replace H : ((cisternref05_Text.f k (ji20) y156).bind fun t160 => (some (t160, true, 0))) = some (r1, r2, r3) := by first | (rw [hji20] at H; exact H) | (simp only [hji20] at H ⊢; exact H)
                  (try rw [hji20] at A3)
                  (try rw [hji20] at A5)
                  (try rw [hji20] at A19)
                  have hji20_ : (if t135 < t159 then t159 else t135) = ji20 := hji20
                  replace H := Option.bind_eq_some_iff.mp H
                  obtain ⟨t160, A210, H⟩ := H
                  replace H : (some (t160, true, 0)) = some (r1, r2, r3) := H
                  have A21 := Aside0.mk A210
                  clear A210
                  simp only [Option.some.injEq, Prod.mk.injEq] at H
                  obtain ⟨rfl, rfl, rfl⟩ := H
                  go_enter Try.func14, Try.ntmps14
                  go_wp2_with (first | ((with_reducible refine gate_callee (f := 25) rfl ?_); refine goesL_ (some 15) rfl rfl Try.func25 (by kernel_rfl) rfl #[.string a0] rfl (by (try simp only [List.map_toArray, List.map_cons, List.map_nil]); first | done | rfl | (simp only [List.length_drop, List.length_take]; rfl)) ?_; (with_reducible refine (cisternref05_Read.calls k a0 t135 t136 true _ A3.out).mono ?_); rintro e w22 ⟨v138, rfl, ho0, hb⟩; refine ⟨_, rfl, ?_⟩; have n0_ := Aside0.mk (Kd.R_lower ho0 (below_size (by repeat (first | (with_reducible first | exact HB.out | apply below_alloc | apply pw_below_drewN | apply below_drew1) | exact HB.out)))); have n1_ := Aside0.mk (below_step (by repeat (first | (with_reducible first | exact HB.out | apply below_alloc | apply pw_below_drewN | apply below_drew1) | exact HB.out)) hb); clear HB; have HO139 := n0_; have HB := n1_; clear n0_ n1_; (try clear hb); (try clear hb2); (try clear hk); (try clear hi); (try clear ho0); obtain ⟨Ao23, co23, eo23⟩ := Kd.R_slice HO139.out; subst eo23) | ((with_reducible refine gate_callee (f := 43) rfl ?_); refine goesL_ (some 24) rfl rfl Try.func43 (by kernel_rfl) rfl #[.slice Ao23 t136.length co23, .int .i64 a1] rfl (by (try simp only [List.map_toArray, List.map_cons, List.map_nil]); first | done | rfl | (simp only [List.length_drop, List.length_take]; rfl)) ?_; (with_reducible refine (cisternref05_at.calls k _ _ t136 a1 t140 false _ ?side1 ?side2 A5.out).mono ?_); (case side1 => repeat (first | exact (Kd.R_reads' HO139.out).2.2 | (with_reducible refine Kd.C_alloc ?_ _) | (with_reducible refine Kd.C_drewN ?_ _) | (with_reducible refine Kd.C_drew ?_))); (case side2 => exact (Kd.R_reads' HO139.out).2.1); rintro e w' ⟨rfl, ⟨nd, rfl⟩⟩; refine ⟨_, rfl, ?_⟩; have q24 : (t140 : Int) ≤ ((t136.length : Int) : Int) := of_decide_eq_true (by first | (with_reducible assumption) | assumption); obtain ⟨i024, hi024, _, hsz24, _⟩ := info_parts info3; have hroom24 : t136.length ≤ co23 := (Kd.R_reads' HO139.out).2.1; have hC24 : Kd.C (Kd.int .i64) _ Ao23 t136.length t136 := (Kd.R_reads' HO139.out).2.2; have hcut24 := cut_to (P := Try.prog) 29 3 .i64 Try.underlying29 hi024 Ao23 t136.length co23 t140 (of_decide_eq_true (by first | (with_reducible assumption) | assumption)) q24 hroom24; have hr24 := Kd.C_take (m := (t140 : Int).toNat) hC24 (by omega); have hy24 : y142.length = (t140 : Int).toNat := (by rw [Ny142.out, List.length_take]; omega); rw [← Ny142.out] at hr24; rw [← hy24] at hcut24; have HR145 := Aside0.mk hr24; have HC145 := Aside0.mk (show y142.length ≤ co23 from by omega); clear hr24 hC24 hroom24 hi024 hsz24; have KY24 := Aside0.mk hy24; clear hy24; have KL24 := Aside0.mk (show (t140 : Int).toNat ≤ t136.length from by omega); replace q24 := eq_true q24) | ((with_reducible refine gate_builtin (b := .append) (xs := #[.tmp 32, .tmp 35]) rfl ?_); at_builtin; refine Kd.R_append_rows (Kd.int .i64) (w0 := w) w.heap.size rfl (.tmp 32) (.tmp 35) 29 3 (.int .i64 0) 8 rfl Try.underlying29 info3 rfl (by decide) (by omega) (.slice none 0 0) ([] : List Int) y142 _ _ _ (fun k_ => some k_ ≠ (.slice Ao23 t136.length co23 : Value).ownBlock) (fun _ => False) rfl rfl ?aO ?aR (fun _ _ h => h) (fun _ h => h.elim) ?aF ?aB ?aS ?aL ?_; (case aR => repeat (first | exact (by repeat (first | (with_reducible exact HR145.out) | (with_reducible refine Kd.C_alloc ?_ _) | (with_reducible refine Kd.C_drewN ?_ _) | (with_reducible refine Kd.C_drew ?_) | exact HR145.out)) | (with_reducible refine Kd.C_alloc ?_ _) | (with_reducible refine Kd.C_drewN ?_ _) | (with_reducible refine Kd.C_drew ?_))); (case aB => exact (by repeat (first | (with_reducible first | exact HB.out | apply below_alloc | apply pw_below_drewN | apply below_drew1) | exact HB.out))); (case aF => exact (fun k_ hk => Kd.fresh' (Kd.R_lt (by (with_reducible repeat (first | apply Kd.R_alloc | apply Kd.R_drewN | apply Kd.R_drew)); exact HO139.out)) k_ hk)); (case aO => exact ((Kd.R_nil _ _ _ _ (fun k_ => some k_ ≠ (.slice Ao23 t136.length co23 : Value).ownBlock)))); (case aS => exact (below_size (by repeat (first | (with_reducible first | exact HB.out | apply below_alloc | apply pw_below_drewN | apply below_drew1) | exact HB.out)))); (case aL => have := LMc14.out; omega); intro v147 w25 ho hb hg hat; rw [← Ny146.out] at ho; have n0_ := Aside0.mk (Kd.R_after (Kd.R_apart_nil (by (with_reducible repeat (first | apply Kd.R_alloc | apply Kd.R_drewN | apply Kd.R_drew)); exact HO139.out)) hg hat); have n1_ := Aside0.mk (hb); have n2_ := Aside0.mk ((show Kd.C (Kd.int .i64) w25 Ao23 y142.length y142 from by rw [Ny142.out]; exact Kd.C_take (m := (t140 : Int).toNat) ((Kd.R_reads' (Kd.R_after (Kd.R_apart_nil (by (with_reducible repeat (first | apply Kd.R_alloc | apply Kd.R_drewN | apply Kd.R_drew)); exact HO139.out)) hg hat)).2.2) KL24.out)); have n3_ := Aside0.mk (ho); clear HO139; clear HB; clear HR145; have HO139 := n0_; have HB := n1_; have HR145 := n2_; have HO148 := n3_; clear n0_ n1_ n2_ n3_; clear ho hb hg hat) | ((with_reducible refine gate_builtin (b := .append) (xs := #[.tmp 37, .tmp 39]) rfl ?_); at_builtin; refine Kd.R_append (Kd.int .i64) (w0 := w) w.heap.size rfl (.tmp 37) (.tmp 39) 29 3 (.int .i64 0) 8 rfl Try.underlying29 info3 rfl (by decide) (by omega) v147 y146 a1 [.int .i64 a1] (fun k_ => some k_ ≠ (.slice Ao23 t136.length co23 : Value).ownBlock) (fun _ => False) rfl rfl ?aP (fun _ hk => hk.elim) ?aF ?aO ?aB ?aS ?aL ?_; (case aP => exact rfl); (case aB => exact (by repeat (first | (with_reducible first | exact HB.out | apply below_alloc | apply pw_below_drewN | apply below_drew1) | exact HB.out))); (case aF => exact (fun k_ hk => Kd.fresh' (Kd.R_lt (by (with_reducible repeat (first | apply Kd.R_alloc | apply Kd.R_drewN | apply Kd.R_drew)); exact HO139.out)) k_ hk)); (case aO => exact (by (with_reducible repeat (first | apply Kd.R_alloc | apply Kd.R_drewN | apply Kd.R_drew)); exact HO148.out)); (case aS => exact (below_size (by repeat (first | (with_reducible first | exact HB.out | apply below_alloc | apply pw_below_drewN | apply below_drew1) | exact HB.out)))); (case aL => have := LMc15.out; omega); intro v150 w26 ho hb hg hat; rw [← Ny149.out] at ho; have n0_ := Aside0.mk (Kd.R_after (ok := (fun _ => True)) (by (with_reducible repeat (first | apply Kd.R_alloc | apply Kd.R_drewN | apply Kd.R_drew)); exact HO139.out) hg hat); have n1_ := Aside0.mk (hb); have n2_ := Aside0.mk ((show Kd.C (Kd.int .i64) w26 Ao23 y142.length y142 from by rw [Ny142.out]; exact Kd.C_take (m := (t140 : Int).toNat) ((Kd.R_reads' (Kd.R_after (ok := (fun _ => True)) (by (with_reducible repeat (first | apply Kd.R_alloc | apply Kd.R_drewN | apply Kd.R_drew)); exact HO139.out) hg hat)).2.2) KL24.out)); have n3_ := Aside0.mk (ho); clear HO139; clear HB; clear HR145; clear HO148; have HO139 := n0_; have HB := n1_; have HR145 := n2_; have HO151 := n3_; clear n0_ n1_ n2_ n3_; clear ho hb hg hat; have q27 : (t140 : Int) ≤ ((t136.length : Int) : Int) := of_decide_eq_true (by first | (with_reducible assumption) | assumption); obtain ⟨i027, hi027, _, hsz27, _⟩ := info_parts info3; have hroom27 : t136.length ≤ co23 := (Kd.R_reads' HO139.out).2.1; have hC27 : Kd.C (Kd.int .i64) _ Ao23 t136.length t136 := (Kd.R_reads' HO139.out).2.2; have q027 : (0 : Int) ≤ (t140 : Int) := of_decide_eq_true (by first | (with_reducible assumption) | assumption); have hcut27 := cut_from (P := Try.prog) 29 3 .i64 Try.underlying29 hi027 1 hsz27 Ao23 t136.length co23 t140 q027 q27; have hr27 := Kd.C_drop (m := (t140 : Int).toNat) (c := co23) hC27 (by omega) hroom27; obtain ⟨A27, hA27⟩ : ∃ A1, A1 = (if co23 = (t140 : Int).toNat then Ao23 else (Ao23 : Option Addr).map (·.add ((t140 : Int).toNat * 1))) := ⟨_, rfl⟩; obtain ⟨c27, hc27⟩ : ∃ c1, c1 = co23 - (t140 : Int).toNat := ⟨_, rfl⟩; have hy27 : y152.length = t136.length - (t140 : Int).toNat := (by rw [Ny152.out, List.length_drop] <;> omega); rw [show (t136).drop (t140 : Int).toNat = y152 from Ny152.out.symm] at hr27; replace hr27 : Kd.C (Kd.int .i64) _ A27 y152.length y152 := (by rw [hA27]; exact hr27); rw [← hy27, ← hA27, ← hc27] at hcut27; have HR155 := Aside0.mk hr27; have HC155 := Aside0.mk (show y152.length ≤ c27 from by rw [hy27, hc27]; exact Nat.sub_le_sub_right hroom27 _); clear hr27 hC27 hroom27 hi027 hsz27 hc27; have KY27 := Aside0.mk hy27; have KA27 := Aside0.mk hA27; clear hy27 hA27; have KL27 := Aside0.mk (show (t140 : Int).toNat ≤ t136.length from by omega); replace q27 := eq_true q27) | ((with_reducible refine gate_builtin (b := .append) (xs := #[.tmp 41, .tmp 44]) rfl ?_); at_builtin; refine Kd.R_append_rows (Kd.int .i64) (w0 := w) w.heap.size rfl (.tmp 41) (.tmp 44) 29 3 (.int .i64 0) 8 rfl Try.underlying29 info3 rfl (by decide) (by omega) v150 y149 y152 _ _ _ (fun k_ => some k_ ≠ (.slice Ao23 t136.length co23 : Value).ownBlock) (fun _ => False) rfl rfl ?aO ?aR (fun _ _ h => h) (fun _ h => h.elim) ?aF ?aB ?aS ?aL ?_; (case aR => repeat (first | exact (by repeat (first | (with_reducible exact HR155.out) | (with_reducible refine Kd.C_alloc ?_ _) | (with_reducible refine Kd.C_drewN ?_ _) | (with_reducible refine Kd.C_drew ?_) | exact HR155.out)) | (with_reducible refine Kd.C_alloc ?_ _) | (with_reducible refine Kd.C_drewN ?_ _) | (with_reducible refine Kd.C_drew ?_))); (case aB => exact (by repeat (first | (with_reducible first | exact HB.out | apply below_alloc | apply pw_below_drewN | apply below_drew1) | exact HB.out))); (case aF => exact (fun k_ hk => Kd.fresh' (Kd.R_lt (by (with_reducible repeat (first | apply Kd.R_alloc | apply Kd.R_drewN | apply Kd.R_drew)); exact HO139.out)) k_ hk)); (case aO => exact (by (with_reducible repeat (first | apply Kd.R_alloc | apply Kd.R_drewN | apply Kd.R_drew)); exact HO151.out)); (case aS => exact (below_size (by repeat (first | (with_reducible first | exact HB.out | apply below_alloc | apply pw_below_drewN | apply below_drew1) | exact HB.out)))); (case aL => have := LMc18.out; omega); intro v157 w28 ho hb hg hat; rw [← Ny156.out] at ho; have n0_ := Aside0.mk (Kd.R_after (ok := (fun _ => True)) (by (with_reducible repeat (first | apply Kd.R_alloc | apply Kd.R_drewN | apply Kd.R_drew)); exact HO139.out) hg hat); have n1_ := Aside0.mk (hb); have n2_ := Aside0.mk ((show Kd.C (Kd.int .i64) w28 Ao23 y142.length y142 from by rw [Ny142.out]; exact Kd.C_take (m := (t140 : Int).toNat) ((Kd.R_reads' (Kd.R_after (ok := (fun _ => True)) (by (with_reducible repeat (first | apply Kd.R_alloc | apply Kd.R_drewN | apply Kd.R_drew)); exact HO139.out) hg hat)).2.2) KL24.out)); have n3_ := Aside0.mk ((show Kd.C (Kd.int .i64) w28 A27 y152.length y152 from by rw [Ny152.out, KA27.out]; exact Kd.C_drop (m := (t140 : Int).toNat) (c := co23) ((Kd.R_reads' (Kd.R_after (ok := (fun _ => True)) (by (with_reducible repeat (first | apply Kd.R_alloc | apply Kd.R_drewN | apply Kd.R_drew)); exact HO139.out) hg hat)).2.2) KL27.out ((Kd.R_reads' (Kd.R_after (ok := (fun _ => True)) (by (with_reducible repeat (first | apply Kd.R_alloc | apply Kd.R_drewN | apply Kd.R_drew)); exact HO139.out) hg hat)).2.1))); have n4_ := Aside0.mk (ho); clear HO139; clear HB; clear HR145; clear HR155; clear HO151; have HO139 := n0_; have HB := n1_; have HR145 := n2_; have HR155 := n3_; have HO158 := n4_; clear n0_ n1_ n2_ n3_ n4_; clear ho hb hg hat) | ((with_reducible refine gate_callee (f := 45) rfl ?_); refine goesL_ (some 48) rfl rfl Try.func45 (by kernel_rfl) rfl #[.int .i64 a1] rfl (by (try simp only [List.map_toArray, List.map_cons, List.map_nil]); first | done | rfl | (simp only [List.length_drop, List.length_take]; rfl)) ?_; (with_reducible refine (cisternref05_needs.calls k a1 t159 _ A19.out).mono ?_); rintro e w' ⟨rfl, ⟨nd, rfl⟩⟩; refine ⟨_, rfl, ?_⟩; obtain ⟨Ao29, co29, eo29⟩ := Kd.R_slice HO158.out; subst eo29) | ((with_reducible refine gate_callee (f := 44) rfl ?_); refine goesL_ (some 51) rfl rfl Try.func44 (by kernel_rfl) rfl #[.int .i64 ji20, .slice Ao29 y156.length co29] rfl (by (try simp only [List.map_toArray, List.map_cons, List.map_nil]); first | done | (simp only [hji20]; rfl) | rfl | (simp only [List.length_drop, List.length_take]; rfl)) ?_; (with_reducible refine (cisternref05_Text.calls k ji20 _ _ y156 t160 _ ?side1 ?side2 A21.out).mono ?_); (case side1 => repeat (first | exact (Kd.R_reads' HO158.out).2.2 | (with_reducible refine Kd.C_alloc ?_ _) | (with_reducible refine Kd.C_drewN ?_ _) | (with_reducible refine Kd.C_drew ?_))); (case side2 => exact (Kd.R_reads' HO158.out).2.1); rintro e w30 ⟨rfl, hb⟩; refine ⟨_, rfl, ?_⟩; have n0_ := Aside0.mk (Kd.R_below (by (with_reducible repeat (first | apply Kd.R_alloc | apply Kd.R_drewN | apply Kd.R_drew)); exact HO139.out) hb); have n1_ := Aside0.mk (Kd.R_below (by (with_reducible repeat (first | apply Kd.R_alloc | apply Kd.R_drewN | apply Kd.R_drew)); exact HO158.out) hb); have n2_ := Aside0.mk (Kd.C_below (by repeat (first | (with_reducible exact HR145.out) | (with_reducible refine Kd.C_alloc ?_ _) | (with_reducible refine Kd.C_drewN ?_ _) | (with_reducible refine Kd.C_drew ?_) | exact HR145.out)) hb); have n3_ := Aside0.mk (Kd.C_below (by repeat (first | (with_reducible exact HR155.out) | (with_reducible refine Kd.C_alloc ?_ _) | (with_reducible refine Kd.C_drewN ?_ _) | (with_reducible refine Kd.C_drew ?_) | exact HR155.out)) hb); have n4_ := Aside0.mk (below_step (by repeat (first | (with_reducible first | exact HB.out | apply below_alloc | apply pw_below_drewN | apply below_drew1) | exact HB.out)) hb); clear HO139; clear HO158; clear HR145; clear HR155; clear HB; have HO139 := n0_; have HO158 := n1_; have HR145 := n2_; have HR155 := n3_; have HB := n4_; clear n0_ n1_ n2_ n3_ n4_; (try clear hb); (try clear hb2); (try clear hk); (try clear hi)))
                  go_ret3
                  exact ⟨by first | rfl | (simp [errW_none, errW_some] <;> rfl) | (simp only [← hji20]; first | rfl | (simp [errW_none, errW_some] <;> rfl)) | (simp [*, errW_none, errW_some] <;> rfl), by repeat (first | (with_reducible first | exact HB.out | apply below_alloc | apply pw_below_drewN | apply below_drew1) | exact HB.out)⟩
                · rw [if_neg c18] at H
                  exact absurd H (by simp)
              · rw [if_neg c15] at H
                exact absurd H (by simp)
            · rw [if_neg c14] at H
              exact absurd H (by simp)
          · rw [if_neg c13] at H
            exact absurd H (by simp)
        · rw [if_neg c12] at H
          exact absurd H (by simp)
  · replace c4 := Bool.eq_false_iff.mpr c4
    subst c4
    have H1 : (some ((⟨#[]⟩ : ByteArray), false, 50)) = some (r1, r2, r3) := by rw [if_neg (show ¬ (false = true) by decide)] at H; exact H
    clear H
    have H := H1
    clear H1
    simp only [Option.some.injEq, Prod.mk.injEq] at H
    obtain ⟨rfl, rfl, rfl⟩ := H
    go_enter Try.func14, Try.ntmps14
    go_wp2_with (first | ((with_reducible refine gate_callee (f := 25) rfl ?_); refine goesL_ (some 15) rfl rfl Try.func25 (by kernel_rfl) rfl #[.string a0] rfl (by (try simp only [List.map_toArray, List.map_cons, List.map_nil]); first | done | rfl | (simp only [List.length_drop, List.length_take]; rfl)) ?_; (with_reducible refine (cisternref05_Read.calls k a0 t135 t136 false _ A3.out).mono ?_); rintro e w31 ⟨v138, rfl, ho0, hb⟩; refine ⟨_, rfl, ?_⟩; have n0_ := Aside0.mk (Kd.R_lower ho0 (below_size (by repeat (first | (with_reducible first | exact HB.out | apply below_alloc | apply pw_below_drewN | apply below_drew1) | exact HB.out)))); have n1_ := Aside0.mk (below_step (by repeat (first | (with_reducible first | exact HB.out | apply below_alloc | apply pw_below_drewN | apply below_drew1) | exact HB.out)) hb); clear HB; have HO139 := n0_; have HB := n1_; clear n0_ n1_; (try clear hb); (try clear hb2); (try clear hk); (try clear hi); (try clear ho0)))
    go_ret3
    exact ⟨by first | rfl | (simp [errW_none, errW_some] <;> rfl) | (simp [*, errW_none, errW_some] <;> rfl), by repeat (first | (with_reducible first | exact HB.out | apply below_alloc | apply pw_below_drewN | apply below_drew1) | exact HB.out)⟩


/-! ### intset_New: function 16 -/
def intset_New.f  : Option (ByteArray) := some (⟨#[2, 0, 0, 0, 0, 0, 0, 0]⟩ : ByteArray)
set_option maxHeartbeats 8000000 in
set_option maxRecDepth 100000 in
theorem intset_New.calls  (r : ByteArray) (w : World) (h : intset_New.f  = some r) :
    Calls Try.prog 16 #[] w fun e w' => e = .returned (.string r) ∧ Drawn0 w w' := by
  have H : (some (⟨#[2, 0, 0, 0, 0, 0, 0, 0]⟩ : ByteArray)) = some r := h
  clear h
  obtain rfl := Option.some.inj H
  go_enter Try.func16, Try.ntmps16
  go_wp2
  go_ret
  exact ⟨by first | rfl | (simp; done) | (simp [*]; done), by repeat (first | exact Drawn0.refl _ | apply Drawn0.step)⟩


/-! ### cisternref05_Drop: function 22 -/
def cisternref05_Drop.f (k : Nat) (a0 : ByteArray) (a1 : Int) : Option (ByteArray × Bool × Int) := (cisternref05_Read.f k a0).bind fun bt179 => (if bt179.2.2 = true then ((cisternref05_at.f k bt179.2.1 a1).bind fun bt184 => (if bt184.2 = true then (if 0 ≤ bt184.1 then (if bt184.1 ≤ (bt179.2.1.length : Int) then ((some (bt179.2.1.take (bt184.1 : Int).toNat : List Int)).bind fun y186 => (if ([] : List Int).length + y186.length < 17592186044416 then ((some (([] : List Int) ++ y186 : List Int)).bind fun y190 => (if 0 ≤ (wrap64 (bt184.1 + 1)) then (if (wrap64 (bt184.1 + 1)) ≤ (bt179.2.1.length : Int) then ((some (bt179.2.1.drop ((wrap64 (bt184.1 + 1)) : Int).toNat : List Int)).bind fun y193 => (if y190.length + y193.length < 17592186044416 then ((cisternref05_Text.f k bt179.1 (y190 ++ y193)).bind fun t200 => (some (t200, true, 0))) else (none))) else (none)) else (none))) else (none))) else (none)) else (none)) else (some (a0, false, 0)))) else (some ((⟨#[]⟩ : ByteArray), false, 50)))
theorem cisternref05_Drop.mono : ∀ a0 a1 k, LeO (cisternref05_Drop.f k a0 a1) (cisternref05_Drop.f (k + 1) a0 a1) := by
  intro a0 a1 k
  unfold cisternref05_Drop.f
  repeat' first
      | (with_reducible exact cisternref05_Read.mono _ _)
      | (with_reducible exact cisternref05_Text.mono _ _ _)
      | (with_reducible exact cisternref05_at.mono _ _ _)
      | (with_reducible exact LeO.refl _)
      | (with_reducible exact LeO.none _)
      | (with_reducible refine LeO.ite ?_ ?_)
      | (with_reducible refine LeO.bind ?_ (fun _ => ?_))
      | exact cisternref05_Read.mono _ _
      | exact cisternref05_Text.mono _ _ _
      | exact cisternref05_at.mono _ _ _
      | exact LeO.none _
      | refine LeO.ite ?_ ?_
      | refine LeO.bind ?_ (fun _ => ?_)
set_option maxHeartbeats 8000000 in
set_option maxRecDepth 100000 in
theorem cisternref05_Drop.calls (k : Nat) (a0 : ByteArray) (a1 : Int) (r1 : ByteArray) (r2 : Bool) (r3 : Int) (w : World) (h : cisternref05_Drop.f k a0 a1 = some (r1, r2, r3)) :
    Calls Try.prog 22 #[.string a0, .int .i64 a1] w fun e w' => e = .returned (.tuple #[.string r1, .bool r2, .int .i64 r3]) ∧ Below w.heap.size w w' := by
  have HB := Aside0.mk (Below.refl w.heap.size w)
  have H : ((cisternref05_Read.f k a0).bind fun bt179 => (if bt179.2.2 = true then ((cisternref05_at.f k bt179.2.1 a1).bind fun bt184 => (if bt184.2 = true then (if 0 ≤ bt184.1 then (if bt184.1 ≤ (bt179.2.1.length : Int) then ((some (bt179.2.1.take (bt184.1 : Int).toNat : List Int)).bind fun y186 => (if ([] : List Int).length + y186.length < 17592186044416 then ((some (([] : List Int) ++ y186 : List Int)).bind fun y190 => (if 0 ≤ (wrap64 (bt184.1 + 1)) then (if (wrap64 (bt184.1 + 1)) ≤ (bt179.2.1.length : Int) then ((some (bt179.2.1.drop ((wrap64 (bt184.1 + 1)) : Int).toNat : List Int)).bind fun y193 => (if y190.length + y193.length < 17592186044416 then ((cisternref05_Text.f k bt179.1 (y190 ++ y193)).bind fun t200 => (some (t200, true, 0))) else (none))) else (none)) else (none))) else (none))) else (none)) else (none)) else (some (a0, false, 0)))) else (some ((⟨#[]⟩ : ByteArray), false, 50)))) = some (r1, r2, r3) := h
  clear h
  replace H := Option.bind_eq_some_iff.mp H
  obtain ⟨⟨t179, t180, t181⟩, A30, H⟩ := H
  replace H : (if t181 = true then ((cisternref05_at.f k t180 a1).bind fun bt184 => (if bt184.2 = true then (if 0 ≤ bt184.1 then (if bt184.1 ≤ (t180.length : Int) then ((some (t180.take (bt184.1 : Int).toNat : List Int)).bind fun y186 => (if ([] : List Int).length + y186.length < 17592186044416 then ((some (([] : List Int) ++ y186 : List Int)).bind fun y190 => (if 0 ≤ (wrap64 (bt184.1 + 1)) then (if (wrap64 (bt184.1 + 1)) ≤ (t180.length : Int) then ((some (t180.drop ((wrap64 (bt184.1 + 1)) : Int).toNat : List Int)).bind fun y193 => (if y190.length + y193.length < 17592186044416 then ((cisternref05_Text.f k t179 (y190 ++ y193)).bind fun t200 => (some (t200, true, 0))) else (none))) else (none)) else (none))) else (none))) else (none)) else (none)) else (some (a0, false, 0)))) else (some ((⟨#[]⟩ : ByteArray), false, 50))) = some (r1, r2, r3) := H
  have A3 := Aside0.mk A30
  clear A30
  by_cases c4 : t181 = true
  · subst c4
    have H1 : ((cisternref05_at.f k t180 a1).bind fun bt184 => (if bt184.2 = true then (if 0 ≤ bt184.1 then (if bt184.1 ≤ (t180.length : Int) then ((some (t180.take (bt184.1 : Int).toNat : List Int)).bind fun y186 => (if ([] : List Int).length + y186.length < 17592186044416 then ((some (([] : List Int) ++ y186 : List Int)).bind fun y190 => (if 0 ≤ (wrap64 (bt184.1 + 1)) then (if (wrap64 (bt184.1 + 1)) ≤ (t180.length : Int) then ((some (t180.drop ((wrap64 (bt184.1 + 1)) : Int).toNat : List Int)).bind fun y193 => (if y190.length + y193.length < 17592186044416 then ((cisternref05_Text.f k t179 (y190 ++ y193)).bind fun t200 => (some (t200, true, 0))) else (none))) else (none)) else (none))) else (none))) else (none)) else (none)) else (some (a0, false, 0)))) = some (r1, r2, r3) := by rw [if_pos rfl] at H; exact H
    clear H
    have H := H1
    clear H1
    replace H := Option.bind_eq_some_iff.mp H
    obtain ⟨⟨t184, t185⟩, A50, H⟩ := H
    replace H : (if t185 = true then (if 0 ≤ t184 then (if t184 ≤ (t180.length : Int) then ((some (t180.take (t184 : Int).toNat : List Int)).bind fun y186 => (if ([] : List Int).length + y186.length < 17592186044416 then ((some (([] : List Int) ++ y186 : List Int)).bind fun y190 => (if 0 ≤ (wrap64 (t184 + 1)) then (if (wrap64 (t184 + 1)) ≤ (t180.length : Int) then ((some (t180.drop ((wrap64 (t184 + 1)) : Int).toNat : List Int)).bind fun y193 => (if y190.length + y193.length < 17592186044416 then ((cisternref05_Text.f k t179 (y190 ++ y193)).bind fun t200 => (some (t200, true, 0))) else (none))) else (none)) else (none))) else (none))) else (none)) else (none)) else (some (a0, false, 0))) = some (r1, r2, r3) := H
    have A5 := Aside0.mk A50
    clear A50
    by_cases c6 : t185 = true
    · subst c6
      have H1 : (if 0 ≤ t184 then (if t184 ≤ (t180.length : Int) then ((some (t180.take (t184 : Int).toNat : List Int)).bind fun y186 => (if ([] : List Int).length + y186.length < 17592186044416 then ((some (([] : List Int) ++ y186 : List Int)).bind fun y190 => (if 0 ≤ (wrap64 (t184 + 1)) then (if (wrap64 (t184 + 1)) ≤ (t180.length : Int) then ((some (t180.drop ((wrap64 (t184 + 1)) : Int).toNat : List Int)).bind fun y193 => (if y190.length + y193.length < 17592186044416 then ((cisternref05_Text.f k t179 (y190 ++ y193)).bind fun t200 => (some (t200, true, 0))) else (none))) else (none)) else (none))) else (none))) else (none)) else (none)) = some (r1, r2, r3) := by rw [if_pos rfl] at H; exact H
      clear H
      have H := H1
      clear H1
      by_cases c7 : 0 ≤ t184
      · rw [if_pos c7] at H
        have c7b0 := eq_true c7
        have c7b1 : decide (0 ≤ t184) = true := decide_eq_true c7
        clear c7
        by_cases c8 : t184 ≤ (t180.length : Int)
        · rw [if_pos c8] at H
          have c8b0 := eq_true c8
          have c8b1 : decide (t184 ≤ (t180.length : Int)) = true := decide_eq_true c8
          clear c8
          obtain ⟨y186, hy186⟩ : ∃ y_ : List Int, y_ = (t180.take (t184 : Int).toNat) := ⟨_, rfl⟩
          replace H : (if ([] : List Int).length + y186.length < 17592186044416 then ((some (([] : List Int) ++ y186 : List Int)).bind fun y190 => (if 0 ≤ (wrap64 (t184 + 1)) then (if (wrap64 (t184 + 1)) ≤ (t180.length : Int) then ((some (t180.drop ((wrap64 (t184 + 1)) : Int).toNat : List Int)).bind fun y193 => (if y190.length + y193.length < 17592186044416 then ((cisternref05_Text.f k t179 (y190 ++ y193)).bind fun t200 => (some (t200, true, 0))) else (none))) else (none)) else (none))) else (none)) = some (r1, r2, r3) := by first | (rw [hy186]; with_reducible exact H) | (have H2_ := (Option.bind_some _ _).symm.trans H; rw [hy186]; with_reducible exact H2_) | (have H2_ := (Option.bind_some _ _).symm.trans H; with_reducible exact H2_) | with_reducible exact H | (rw [hy186]; exact H) | exact H
          have Ny186 := Aside0.mk hy186
          clear hy186
          by_cases c9 : ([] : List Int).length + y186.length < 17592186044416
          · rw [if_pos c9] at H
            have LMc9 := Aside0.mk c9
            clear c9
            obtain ⟨y190, hy190⟩ : ∃ y_ : List Int, y_ = (([] : List Int) ++ y186) := ⟨_, rfl⟩
            replace H : (if 0 ≤ (wrap64 (t184 + 1)) then (if (wrap64 (t184 + 1)) ≤ (t180.length : Int) then ((some (t180.drop ((wrap64 (t184 + 1)) : Int).toNat : List Int)).bind fun y193 => (if y190.length + y193.length < 17592186044416 then ((cisternref05_Text.f k t179 (y190 ++ y193)).bind fun t200 => (some (t200, true, 0))) else (none))) else (none)) else (none)) = some (r1, r2, r3) := by first | (rw [hy190]; with_reducible exact H) | (have H2_ := (Option.bind_some _ _).symm.trans H; rw [hy190]; with_reducible exact H2_) | (have H2_ := (Option.bind_some _ _).symm.trans H; with_reducible exact H2_) | with_reducible exact H | (rw [hy190]; exact H) | exact H
            have Ny190 := Aside0.mk hy190
            clear hy190
            obtain ⟨ji10, hji10⟩ : ∃ j_ : Int, (wrap64 (t184 + 1)) = j_ := ⟨_, rfl⟩
            replace H : (if 0 ≤ (ji10) then (if (ji10) ≤ (t180.length : Int) then ((some (t180.drop ((ji10) : Int).toNat : List Int)).bind fun y193 => (if y190.length + y193.length < 17592186044416 then ((cisternref05_Text.f k t179 (y190 ++ y193)).bind fun t200 => (some (t200, true, 0))) else (none))) else (none)) else (none)) = some (r1, r2, r3) := by first | (rw [hji10] at H; exact H) | (simp only [hji10] at H ⊢; exact H)
            (try rw [hji10] at A3)
            (try rw [hji10] at A5)
            have hji10w : (IntKind.i64.wrap (t184 + 1)) = ji10 := (i64_w _).trans hji10
            by_cases c11 : 0 ≤ (ji10)
            · rw [if_pos c11] at H
              have c11b0 := eq_true c11
              have c11b1 : decide (0 ≤ (ji10)) = true := decide_eq_true c11
              clear c11
              by_cases c12 : (ji10) ≤ (t180.length : Int)
              · rw [if_pos c12] at H
                have c12b0 := eq_true c12
                have c12b1 : decide ((ji10) ≤ (t180.length : Int)) = true := decide_eq_true c12
                clear c12
                obtain ⟨y193, hy193⟩ : ∃ y_ : List Int, y_ = (t180.drop ((ji10) : Int).toNat) := ⟨_, rfl⟩
                replace H : (if y190.length + y193.length < 17592186044416 then ((cisternref05_Text.f k t179 (y190 ++ y193)).bind fun t200 => (some (t200, true, 0))) else (none)) = some (r1, r2, r3) := by first | (rw [hy193]; with_reducible exact H) | (have H2_ := (Option.bind_some _ _).symm.trans H; rw [hy193]; with_reducible exact H2_) | (have H2_ := (Option.bind_some _ _).symm.trans H; with_reducible exact H2_) | with_reducible exact H | (rw [hy193]; exact H) | exact H
                have Ny193 := Aside0.mk hy193
                clear hy193
                by_cases c13 : y190.length + y193.length < 17592186044416
                · rw [if_pos c13] at H
                  have LMc13 := Aside0.mk c13
                  clear c13
                  obtain ⟨y197, hy197⟩ : ∃ y_ : List Int, y_ = (y190 ++ y193) := ⟨_, rfl⟩
                  replace H : ((cisternref05_Text.f k t179 y197).bind fun t200 => (some (t200, true, 0))) = some (r1, r2, r3) := by first | (rw [hy197]; with_reducible exact H) | (have H2_ := (Option.bind_some _ _).symm.trans H; rw [hy197]; with_reducible exact H2_) | (have H2_ := (Option.bind_some _ _).symm.trans H; with_reducible exact H2_) | with_reducible exact H | (rw [hy197]; exact H) | exact H
                  have Ny197 := Aside0.mk hy197
                  clear hy197
                  replace H := Option.bind_eq_some_iff.mp H
                  obtain ⟨t200, A140, H⟩ := H
                  replace H : (some (t200, true, 0)) = some (r1, r2, r3) := H
                  have A14 := Aside0.mk A140
                  clear A140
                  simp only [Option.some.injEq, Prod.mk.injEq] at H
                  obtain ⟨rfl, rfl, rfl⟩ := H
                  go_enter Try.func22, Try.ntmps22
                  go_wp2_with (first | ((with_reducible refine gate_callee (f := 25) rfl ?_); refine goesL_ (some 15) rfl rfl Try.func25 (by kernel_rfl) rfl #[.string a0] rfl (by (try simp only [List.map_toArray, List.map_cons, List.map_nil]); first | done | rfl | (simp only [List.length_drop, List.length_take]; rfl)) ?_; (with_reducible refine (cisternref05_Read.calls k a0 t179 t180 true _ A3.out).mono ?_); rintro e w15 ⟨v182, rfl, ho0, hb⟩; refine ⟨_, rfl, ?_⟩; have n0_ := Aside0.mk (Kd.R_lower ho0 (below_size (by repeat (first | (with_reducible first | exact HB.out | apply below_alloc | apply pw_below_drewN | apply below_drew1) | exact HB.out)))); have n1_ := Aside0.mk (below_step (by repeat (first | (with_reducible first | exact HB.out | apply below_alloc | apply pw_below_drewN | apply below_drew1) | exact HB.out)) hb); clear HB; have HO183 := n0_; have HB := n1_; clear n0_ n1_; (try clear hb); (try clear hb2); (try clear hk); (try clear hi); (try clear ho0); obtain ⟨Ao16, co16, eo16⟩ := Kd.R_slice HO183.out; subst eo16) | ((with_reducible refine gate_callee (f := 43) rfl ?_); refine goesL_ (some 24) rfl rfl Try.func43 (by kernel_rfl) rfl #[.slice Ao16 t180.length co16, .int .i64 a1] rfl (by (try simp only [List.map_toArray, List.map_cons, List.map_nil]); first | done | rfl | (simp only [List.length_drop, List.length_take]; rfl)) ?_; (with_reducible refine (cisternref05_at.calls k _ _ t180 a1 t184 true _ ?side1 ?side2 A5.out).mono ?_); (case side1 => repeat (first | exact (Kd.R_reads' HO183.out).2.2 | (with_reducible refine Kd.C_alloc ?_ _) | (with_reducible refine Kd.C_drewN ?_ _) | (with_reducible refine Kd.C_drew ?_))); (case side2 => exact (Kd.R_reads' HO183.out).2.1); rintro e w' ⟨rfl, ⟨nd, rfl⟩⟩; refine ⟨_, rfl, ?_⟩; have q17 : (t184 : Int) ≤ ((t180.length : Int) : Int) := of_decide_eq_true (by first | (with_reducible assumption) | assumption); obtain ⟨i017, hi017, _, hsz17, _⟩ := info_parts info3; have hroom17 : t180.length ≤ co16 := (Kd.R_reads' HO183.out).2.1; have hC17 : Kd.C (Kd.int .i64) _ Ao16 t180.length t180 := (Kd.R_reads' HO183.out).2.2; have hcut17 := cut_to (P := Try.prog) 29 3 .i64 Try.underlying29 hi017 Ao16 t180.length co16 t184 (of_decide_eq_true (by first | (with_reducible assumption) | assumption)) q17 hroom17; have hr17 := Kd.C_take (m := (t184 : Int).toNat) hC17 (by omega); have hy17 : y186.length = (t184 : Int).toNat := (by rw [Ny186.out, List.length_take]; omega); rw [← Ny186.out] at hr17; rw [← hy17] at hcut17; have HR189 := Aside0.mk hr17; have HC189 := Aside0.mk (show y186.length ≤ co16 from by omega); clear hr17 hC17 hroom17 hi017 hsz17; have KY17 := Aside0.mk hy17; clear hy17; have KL17 := Aside0.mk (show (t184 : Int).toNat ≤ t180.length from by omega); replace q17 := eq_true q17) | ((with_reducible refine gate_builtin (b := .append) (xs := #[.tmp 30, .tmp 33]) rfl ?_); at_builtin; refine Kd.R_append_rows (Kd.int .i64) (w0 := w) w.heap.size rfl (.tmp 30) (.tmp 33) 29 3 (.int .i64 0) 8 rfl Try.underlying29 info3 rfl (by decide) (by omega) (.slice none 0 0) ([] : List Int) y186 _ _ _ (fun k_ => some k_ ≠ (.slice Ao16 t180.length co16 : Value).ownBlock) (fun _ => False) rfl rfl ?aO ?aR (fun _ _ h => h) (fun _ h => h.elim) ?aF ?aB ?aS ?aL ?_; (case aR => repeat (first | exact (by repeat (first | (with_reducible exact HR189.out) | (with_reducible refine Kd.C_alloc ?_ _) | (with_reducible refine Kd.C_drewN ?_ _) | (with_reducible refine Kd.C_drew ?_) | exact HR189.out)) | (with_reducible refine Kd.C_alloc ?_ _) | (with_reducible refine Kd.C_drewN ?_ _) | (with_reducible refine Kd.C_drew ?_))); (case aB => exact (by repeat (first | (with_reducible first | exact HB.out | apply below_alloc | apply pw_below_drewN | apply below_drew1) | exact HB.out))); (case aF => exact (fun k_ hk => Kd.fresh' (Kd.R_lt (by (with_reducible repeat (first | apply Kd.R_alloc | apply Kd.R_drewN | apply Kd.R_drew)); exact HO183.out)) k_ hk)); (case aO => exact ((Kd.R_nil _ _ _ _ (fun k_ => some k_ ≠ (.slice Ao16 t180.length co16 : Value).ownBlock)))); (case aS => exact (below_size (by repeat (first | (with_reducible first | exact HB.out | apply below_alloc | apply pw_below_drewN | apply below_drew1) | exact HB.out)))); (case aL => have := LMc9.out; omega); intro v191 w18 ho hb hg hat; rw [← Ny190.out] at ho; have n0_ := Aside0.mk (Kd.R_after (Kd.R_apart_nil (by (with_reducible repeat (first | apply Kd.R_alloc | apply Kd.R_drewN | apply Kd.R_drew)); exact HO183.out)) hg hat); have n1_ := Aside0.mk (hb); have n2_ := Aside0.mk ((show Kd.C (Kd.int .i64) w18 Ao16 y186.length y186 from by rw [Ny186.out]; exact Kd.C_take (m := (t184 : Int).toNat) ((Kd.R_reads' (Kd.R_after (Kd.R_apart_nil (by (with_reducible repeat (first | apply Kd.R_alloc | apply Kd.R_drewN | apply Kd.R_drew)); exact HO183.out)) hg hat)).2.2) KL17.out)); have n3_ := Aside0.mk (ho); clear HO183; clear HB; clear HR189; have HO183 := n0_; have HB := n1_; have HR189 := n2_; have HO192 := n3_; clear n0_ n1_ n2_ n3_; clear ho hb hg hat; have q19 : ((ji10) : Int) ≤ ((t180.length : Int) : Int) := of_decide_eq_true (by first | (with_reducible assumption) | assumption); obtain ⟨i019, hi019, _, hsz19, _⟩ := info_parts info3; have hroom19 : t180.length ≤ co16 := (Kd.R_reads' HO183.out).2.1; have hC19 : Kd.C (Kd.int .i64) _ Ao16 t180.length t180 := (Kd.R_reads' HO183.out).2.2; have q019 : (0 : Int) ≤ ((ji10) : Int) := of_decide_eq_true (by first | (with_reducible assumption) | assumption); have hcut19 := cut_from (P := Try.prog) 29 3 .i64 Try.underlying29 hi019 1 hsz19 Ao16 t180.length co16 (ji10) q019 q19; have hr19 := Kd.C_drop (m := ((ji10) : Int).toNat) (c := co16) hC19 (by omega) hroom19; obtain ⟨A19, hA19⟩ : ∃ A1, A1 = (if co16 = ((ji10) : Int).toNat then Ao16 else (Ao16 : Option Addr).map (·.add (((ji10) : Int).toNat * 1))) := ⟨_, rfl⟩; obtain ⟨c19, hc19⟩ : ∃ c1, c1 = co16 - ((ji10) : Int).toNat := ⟨_, rfl⟩; have hy19 : y193.length = t180.length - ((ji10) : Int).toNat := (by rw [Ny193.out, List.length_drop] <;> omega); rw [show (t180).drop ((ji10) : Int).toNat = y193 from Ny193.out.symm] at hr19; replace hr19 : Kd.C (Kd.int .i64) _ A19 y193.length y193 := (by rw [hA19]; exact hr19); rw [← hy19, ← hA19, ← hc19] at hcut19; have HR196 := Aside0.mk hr19; have HC196 := Aside0.mk (show y193.length ≤ c19 from by rw [hy19, hc19]; exact Nat.sub_le_sub_right hroom19 _); clear hr19 hC19 hroom19 hi019 hsz19 hc19; have KY19 := Aside0.mk hy19; have KA19 := Aside0.mk hA19; clear hy19 hA19; have KL19 := Aside0.mk (show ((ji10) : Int).toNat ≤ t180.length from by omega); replace q19 := eq_true q19) | ((with_reducible refine gate_builtin (b := .append) (xs := #[.tmp 35, .tmp 39]) rfl ?_); at_builtin; refine Kd.R_append_rows (Kd.int .i64) (w0 := w) w.heap.size rfl (.tmp 35) (.tmp 39) 29 3 (.int .i64 0) 8 rfl Try.underlying29 info3 rfl (by decide) (by omega) v191 y190 y193 _ _ _ (fun k_ => some k_ ≠ (.slice Ao16 t180.length co16 : Value).ownBlock) (fun _ => False) rfl rfl ?aO ?aR (fun _ _ h => h) (fun _ h => h.elim) ?aF ?aB ?aS ?aL ?_; (case aR => repeat (first | exact (by repeat (first | (with_reducible exact HR196.out) | (with_reducible refine Kd.C_alloc ?_ _) | (with_reducible refine Kd.C_drewN ?_ _) | (with_reducible refine Kd.C_drew ?_) | exact HR196.out)) | (with_reducible refine Kd.C_alloc ?_ _) | (with_reducible refine Kd.C_drewN ?_ _) | (with_reducible refine Kd.C_drew ?_))); (case aB => exact (by repeat (first | (with_reducible first | exact HB.out | apply below_alloc | apply pw_below_drewN | apply below_drew1) | exact HB.out))); (case aF => exact (fun k_ hk => Kd.fresh' (Kd.R_lt (by (with_reducible repeat (first | apply Kd.R_alloc | apply Kd.R_drewN | apply Kd.R_drew)); exact HO183.out)) k_ hk)); (case aO => exact (by (with_reducible repeat (first | apply Kd.R_alloc | apply Kd.R_drewN | apply Kd.R_drew)); exact HO192.out)); (case aS => exact (below_size (by repeat (first | (with_reducible first | exact HB.out | apply below_alloc | apply pw_below_drewN | apply below_drew1) | exact HB.out)))); (case aL => have := LMc13.out; omega); intro v198 w20 ho hb hg hat; rw [← Ny197.out] at ho; have n0_ := Aside0.mk (Kd.R_after (ok := (fun _ => True)) (by (with_reducible repeat (first | apply Kd.R_alloc | apply Kd.R_drewN | apply Kd.R_drew)); exact HO183.out) hg hat); have n1_ := Aside0.mk (hb); have n2_ := Aside0.mk ((show Kd.C (Kd.int .i64) w20 Ao16 y186.length y186 from by rw [Ny186.out]; exact Kd.C_take (m := (t184 : Int).toNat) ((Kd.R_reads' (Kd.R_after (ok := (fun _ => True)) (by (with_reducible repeat (first | apply Kd.R_alloc | apply Kd.R_drewN | apply Kd.R_drew)); exact HO183.out) hg hat)).2.2) KL17.out)); have n3_ := Aside0.mk ((show Kd.C (Kd.int .i64) w20 A19 y193.length y193 from by rw [Ny193.out, KA19.out]; exact Kd.C_drop (m := ((ji10) : Int).toNat) (c := co16) ((Kd.R_reads' (Kd.R_after (ok := (fun _ => True)) (by (with_reducible repeat (first | apply Kd.R_alloc | apply Kd.R_drewN | apply Kd.R_drew)); exact HO183.out) hg hat)).2.2) KL19.out ((Kd.R_reads' (Kd.R_after (ok := (fun _ => True)) (by (with_reducible repeat (first | apply Kd.R_alloc | apply Kd.R_drewN | apply Kd.R_drew)); exact HO183.out) hg hat)).2.1))); have n4_ := Aside0.mk (ho); clear HO183; clear HB; clear HR189; clear HR196; clear HO192; have HO183 := n0_; have HB := n1_; have HR189 := n2_; have HR196 := n3_; have HO199 := n4_; clear n0_ n1_ n2_ n3_ n4_; clear ho hb hg hat; obtain ⟨Ao21, co21, eo21⟩ := Kd.R_slice HO199.out; subst eo21) | ((with_reducible refine gate_callee (f := 44) rfl ?_); refine goesL_ (some 43) rfl rfl Try.func44 (by kernel_rfl) rfl #[.int .i64 t179, .slice Ao21 y197.length co21] rfl (by (try simp only [List.map_toArray, List.map_cons, List.map_nil]); first | done | rfl | (simp only [List.length_drop, List.length_take]; rfl)) ?_; (with_reducible refine (cisternref05_Text.calls k t179 _ _ y197 t200 _ ?side1 ?side2 A14.out).mono ?_); (case side1 => repeat (first | exact (Kd.R_reads' HO199.out).2.2 | (with_reducible refine Kd.C_alloc ?_ _) | (with_reducible refine Kd.C_drewN ?_ _) | (with_reducible refine Kd.C_drew ?_))); (case side2 => exact (Kd.R_reads' HO199.out).2.1); rintro e w22 ⟨rfl, hb⟩; refine ⟨_, rfl, ?_⟩; have n0_ := Aside0.mk (Kd.R_below (by (with_reducible repeat (first | apply Kd.R_alloc | apply Kd.R_drewN | apply Kd.R_drew)); exact HO183.out) hb); have n1_ := Aside0.mk (Kd.R_below (by (with_reducible repeat (first | apply Kd.R_alloc | apply Kd.R_drewN | apply Kd.R_drew)); exact HO199.out) hb); have n2_ := Aside0.mk (Kd.C_below (by repeat (first | (with_reducible exact HR189.out) | (with_reducible refine Kd.C_alloc ?_ _) | (with_reducible refine Kd.C_drewN ?_ _) | (with_reducible refine Kd.C_drew ?_) | exact HR189.out)) hb); have n3_ := Aside0.mk (Kd.C_below (by repeat (first | (with_reducible exact HR196.out) | (with_reducible refine Kd.C_alloc ?_ _) | (with_reducible refine Kd.C_drewN ?_ _) | (with_reducible refine Kd.C_drew ?_) | exact HR196.out)) hb); have n4_ := Aside0.mk (below_step (by repeat (first | (with_reducible first | exact HB.out | apply below_alloc | apply pw_below_drewN | apply below_drew1) | exact HB.out)) hb); clear HO183; clear HO199; clear HR189; clear HR196; clear HB; have HO183 := n0_; have HO199 := n1_; have HR189 := n2_; have HR196 := n3_; have HB := n4_; clear n0_ n1_ n2_ n3_ n4_; (try clear hb); (try clear hb2); (try clear hk); (try clear hi)))
                  go_ret3
                  exact ⟨by first | rfl | (simp [errW_none, errW_some] <;> rfl) | (simp only [← hji10]; first | rfl | (simp [errW_none, errW_some] <;> rfl)) | (simp [*, errW_none, errW_some] <;> rfl), by repeat (first | (with_reducible first | exact HB.out | apply below_alloc | apply pw_below_drewN | apply below_drew1) | exact HB.out)⟩
                · rw [if_neg c13] at H
                  exact absurd H (by simp)
              · rw [if_neg c12] at H
                exact absurd H (by simp)
            · rw [if_neg c11] at H
              exact absurd H (by simp)
          · rw [if_neg c9] at H
            exact absurd H (by simp)
        · rw [if_neg c8] at H
          exact absurd H (by simp)
      · rw [if_neg c7] at H
        exact absurd H (by simp)
    · replace c6 := Bool.eq_false_iff.mpr c6
      subst c6
      have H1 : (some (a0, false, 0)) = some (r1, r2, r3) := by rw [if_neg (show ¬ (false = true) by decide)] at H; exact H
      clear H
      have H := H1
      clear H1
      simp only [Option.some.injEq, Prod.mk.injEq] at H
      obtain ⟨rfl, rfl, rfl⟩ := H
      go_enter Try.func22, Try.ntmps22
      go_wp2_with (first | ((with_reducible refine gate_callee (f := 25) rfl ?_); refine goesL_ (some 15) rfl rfl Try.func25 (by kernel_rfl) rfl #[.string a0] rfl (by (try simp only [List.map_toArray, List.map_cons, List.map_nil]); first | done | rfl | (simp only [List.length_drop, List.length_take]; rfl)) ?_; (with_reducible refine (cisternref05_Read.calls k a0 t179 t180 true _ A3.out).mono ?_); rintro e w23 ⟨v182, rfl, ho0, hb⟩; refine ⟨_, rfl, ?_⟩; have n0_ := Aside0.mk (Kd.R_lower ho0 (below_size (by repeat (first | (with_reducible first | exact HB.out | apply below_alloc | apply pw_below_drewN | apply below_drew1) | exact HB.out)))); have n1_ := Aside0.mk (below_step (by repeat (first | (with_reducible first | exact HB.out | apply below_alloc | apply pw_below_drewN | apply below_drew1) | exact HB.out)) hb); clear HB; have HO183 := n0_; have HB := n1_; clear n0_ n1_; (try clear hb); (try clear hb2); (try clear hk); (try clear hi); (try clear ho0); obtain ⟨Ao24, co24, eo24⟩ := Kd.R_slice HO183.out; subst eo24) | ((with_reducible refine gate_callee (f := 43) rfl ?_); refine goesL_ (some 24) rfl rfl Try.func43 (by kernel_rfl) rfl #[.slice Ao24 t180.length co24, .int .i64 a1] rfl (by (try simp only [List.map_toArray, List.map_cons, List.map_nil]); first | done | rfl | (simp only [List.length_drop, List.length_take]; rfl)) ?_; (with_reducible refine (cisternref05_at.calls k _ _ t180 a1 t184 false _ ?side1 ?side2 A5.out).mono ?_); (case side1 => repeat (first | exact (Kd.R_reads' HO183.out).2.2 | (with_reducible refine Kd.C_alloc ?_ _) | (with_reducible refine Kd.C_drewN ?_ _) | (with_reducible refine Kd.C_drew ?_))); (case side2 => exact (Kd.R_reads' HO183.out).2.1); rintro e w' ⟨rfl, ⟨nd, rfl⟩⟩; refine ⟨_, rfl, ?_⟩))
      go_ret3
      exact ⟨by first | rfl | (simp [errW_none, errW_some] <;> rfl) | (simp [*, errW_none, errW_some] <;> rfl), by repeat (first | (with_reducible first | exact HB.out | apply below_alloc | apply pw_below_drewN | apply below_drew1) | exact HB.out)⟩
  · replace c4 := Bool.eq_false_iff.mpr c4
    subst c4
    have H1 : (some ((⟨#[]⟩ : ByteArray), false, 50)) = some (r1, r2, r3) := by rw [if_neg (show ¬ (false = true) by decide)] at H; exact H
    clear H
    have H := H1
    clear H1
    simp only [Option.some.injEq, Prod.mk.injEq] at H
    obtain ⟨rfl, rfl, rfl⟩ := H
    go_enter Try.func22, Try.ntmps22
    go_wp2_with (first | ((with_reducible refine gate_callee (f := 25) rfl ?_); refine goesL_ (some 15) rfl rfl Try.func25 (by kernel_rfl) rfl #[.string a0] rfl (by (try simp only [List.map_toArray, List.map_cons, List.map_nil]); first | done | rfl | (simp only [List.length_drop, List.length_take]; rfl)) ?_; (with_reducible refine (cisternref05_Read.calls k a0 t179 t180 false _ A3.out).mono ?_); rintro e w25 ⟨v182, rfl, ho0, hb⟩; refine ⟨_, rfl, ?_⟩; have n0_ := Aside0.mk (Kd.R_lower ho0 (below_size (by repeat (first | (with_reducible first | exact HB.out | apply below_alloc | apply pw_below_drewN | apply below_drew1) | exact HB.out)))); have n1_ := Aside0.mk (below_step (by repeat (first | (with_reducible first | exact HB.out | apply below_alloc | apply pw_below_drewN | apply below_drew1) | exact HB.out)) hb); clear HB; have HO183 := n0_; have HB := n1_; clear n0_ n1_; (try clear hb); (try clear hb2); (try clear hk); (try clear hi); (try clear ho0)))
    go_ret3
    exact ⟨by first | rfl | (simp [errW_none, errW_some] <;> rfl) | (simp [*, errW_none, errW_some] <;> rfl), by repeat (first | (with_reducible first | exact HB.out | apply below_alloc | apply pw_below_drewN | apply below_drew1) | exact HB.out)⟩


/-! ### cisternref05_New: function 23 -/
def cisternref05_New.f (k : Nat)  : Option (ByteArray) := (cisternref05_Text.f k 2 ([] : List Int)).bind fun t201 => (some t201)
theorem cisternref05_New.mono : ∀ k, LeO (cisternref05_New.f k ) (cisternref05_New.f (k + 1) ) := by
  intro  k
  unfold cisternref05_New.f
  repeat' first
      | (with_reducible exact cisternref05_Text.mono _ _ _)
      | (with_reducible exact LeO.refl _)
      | (with_reducible exact LeO.none _)
      | (with_reducible refine LeO.ite ?_ ?_)
      | (with_reducible refine LeO.bind ?_ (fun _ => ?_))
      | exact cisternref05_Text.mono _ _ _
      | exact LeO.none _
      | refine LeO.ite ?_ ?_
      | refine LeO.bind ?_ (fun _ => ?_)
set_option maxHeartbeats 8000000 in
set_option maxRecDepth 100000 in
theorem cisternref05_New.calls (k : Nat)  (r : ByteArray) (w : World) (h : cisternref05_New.f k  = some r) :
    Calls Try.prog 23 #[] w fun e w' => e = .returned (.string r) ∧ Below w.heap.size w w' := by
  have HB := Aside0.mk (Below.refl w.heap.size w)
  have H : ((cisternref05_Text.f k 2 ([] : List Int)).bind fun t201 => (some t201)) = some r := h
  clear h
  replace H := Option.bind_eq_some_iff.mp H
  obtain ⟨t201, A10, H⟩ := H
  replace H : (some t201) = some r := H
  have A1 := Aside0.mk A10
  clear A10
  obtain rfl := Option.some.inj H
  go_enter Try.func23, Try.ntmps23
  go_wp2_with (first | ((with_reducible refine gate_callee (f := 44) rfl ?_); refine goesL_ (some 1) rfl rfl Try.func44 (by kernel_rfl) rfl #[.int .i64 2, .slice none 0 0] rfl (by (try simp only [List.map_toArray, List.map_cons, List.map_nil]); first | done | rfl | (simp only [List.length_drop, List.length_take]; rfl)) ?_; (refine (cisternref05_Text.calls k 2 _ _ ([] : List Int) t201 _ ?side1 ?side2 A1.out).mono ?_); (case side1 => exact Kd.C_nil _ _); (case side2 => exact Nat.le_refl _); rintro e w2 ⟨rfl, hb⟩; refine ⟨_, rfl, ?_⟩; have n0_ := Aside0.mk (below_step (by repeat (first | (with_reducible first | exact HB.out | apply below_alloc | apply pw_below_drewN | apply below_drew1) | exact HB.out)) hb); clear HB; have HB := n0_; clear n0_; (try clear hb); (try clear hb2); (try clear hk); (try clear hi)))
  go_ret
  exact ⟨by first | rfl | (simp [errW_none, errW_some] <;> rfl) | (simp [*, errW_none, errW_some] <;> rfl), by repeat (first | (with_reducible first | exact HB.out | apply below_alloc | apply pw_below_drewN | apply below_drew1) | exact HB.out)⟩


end Go.Proofs.Ytdadggaecgkhfaa.PIntsetPlays
