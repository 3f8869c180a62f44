-- PRINTED BY print.sh 35421559b90ae4d0a3588c463048766b98c2df88dd9212a6774a882060cdf62d: not written by this session
import Derived.Test.YtdadggaecgkhfaaPIntsetPlaysx0
namespace Go.Proofs.Ytdadggaecgkhfaa.PIntsetPlays
open Go.RowKit Go.Proofs.YtdadggaecgkhfaaW.PrintWords Go.Proofs.YtdadggaecgkhfaaW.PrintLast Go.Proofs.YtdadggaecgkhfaaW.PrintMore
attribute [local go_sem] max2_int min2_int max_two min_two max_three min_three max_four min_four   -- for this text's walks alone
set_option linter.unusedVariables false
set_option linter.unusedSimpArgs false

/-! ### intset_little: function 51 -/
def intset_little.l0 : Nat → ByteArray → Int → Int → Option (Int)
  | 0, _, _, _ => none
  | k + 1, x0, x3, x4 => if x4 ≥ 0 then (if 0 ≤ x4 then (if x4 < (x0.size : Int) then (intset_little.l0 k x0 (Go.bits .or .i64 (wrap64 (x3 * 256)) (wrap64 (bt x0 x4))) (wrap64 (x4 - 1))) else (none)) else (none)) else (some x3)
def intset_little.f (k : Nat) (a0 : ByteArray) : Option (Int) := intset_little.l0 k a0 0 (wrap64 ((a0.size : Int) - 1))
theorem intset_little.mono_l : ∀ k, (∀ y0 y1 y2, LeO (intset_little.l0 k y0 y1 y2) (intset_little.l0 (k + 1) y0 y1 y2))
  | 0 => fun _ _ _ r h => by simp [intset_little.l0] at h
  | k + 1 => by
    have ih0 := intset_little.mono_l k
    · intro y0 y1 y2
      unfold intset_little.l0
      repeat' first
      | (with_reducible exact ih0 _ _ _)
      | (with_reducible exact LeO.refl _)
      | (with_reducible exact LeO.none _)
      | (with_reducible refine LeO.ite ?_ ?_)
      | (with_reducible refine LeO.bind ?_ (fun _ => ?_))
      | exact ih0 _ _ _
      | exact LeO.none _
      | refine LeO.ite ?_ ?_
      | refine LeO.bind ?_ (fun _ => ?_)
theorem intset_little.mono : ∀ a0 k, LeO (intset_little.f k a0) (intset_little.f (k + 1) a0) := by
  intro a0 k
  have ih0 := intset_little.mono_l k
  unfold intset_little.f
  repeat' first
      | (with_reducible exact ih0 _ _ _)
      | (with_reducible exact LeO.refl _)
      | (with_reducible exact LeO.none _)
      | (with_reducible refine LeO.ite ?_ ?_)
      | (with_reducible refine LeO.bind ?_ (fun _ => ?_))
      | exact ih0 _ _ _
      | exact LeO.none _
      | refine LeO.ite ?_ ?_
      | refine LeO.bind ?_ (fun _ => ?_)
set_option maxHeartbeats 8000000 in
set_option maxRecDepth 100000 in
theorem intset_little.calls (k : Nat) (a0 : ByteArray) (r : Int) (w : World) (h : intset_little.f k a0 = some r) :
    Calls Try.prog 51 #[.string a0] w fun e w' => e = .returned (.int .i64 r) ∧ Drawn0 w w' := by
  have H : (intset_little.l0 k a0 0 (wrap64 ((a0.size : Int) - 1))) = some r := h
  clear h
  have H' := Aside0.mk H
  clear H
  go_enter Try.func51, Try.ntmps51
  go_wp2
  go_loopg [3, 4] k (fun kq v3 v4 w' => ∃ (x3_1 : Int) (x4_1 : Int), v3 = .int .i64 x3_1 ∧ v4 = .int .i64 x4_1 ∧ Aside0 (intset_little.l0 kq a0 x3_1 x4_1 = some r) ∧ Aside0 (kq ≤ k) ∧ Drawn0 w w')
  case atStart => exact ⟨(0), (wrap64 ((a0.size : Int) - 1)), (by first | rfl | (simp; done) | (simp [*]; done)), (by first | rfl | (simp; done) | (simp [*]; done)), H', ⟨Nat.le_refl _⟩, by repeat (first | exact Drawn0.refl _ | apply Drawn0.step)⟩
  case round =>
    clear H'
    obtain ⟨x3_1, x4_1, rfl, rfl, HA, HK1, ⟨m1, rfl⟩⟩ := hrel
    cases gk with
    | zero => exact absurd HA.out (by simp [intset_little.l0])
    | succ k1 =>
      have H := HA.out
      clear HA
      simp only [intset_little.l0] at H
      by_cases c2 : x4_1 ≥ 0
      · rw [if_pos c2] at H
        have c2b0 : decide (0 ≤ x4_1) = true := decide_eq_true c2
        clear c2
        by_cases c3 : 0 ≤ x4_1
        · rw [if_pos c3] at H
          have c3b0 : decide (0 ≤ x4_1) = true := decide_eq_true c3
          clear c3
          by_cases c4 : x4_1 < (a0.size : Int)
          · rw [if_pos c4] at H
            have c4b0 : decide (x4_1 < (a0.size : Int)) = true := decide_eq_true c4
            clear c4
            have H' := Aside0.mk H
            clear H
            have p5 : 0 ≤ (x4_1 : Int) := of_decide_eq_true (by first | (with_reducible assumption) | assumption)
            have q5 : x4_1 < (a0.size : Int) := of_decide_eq_true (by first | (with_reducible assumption) | assumption)
            have hx5 := bt_at a0 x4_1
            replace p5 := eq_true p5
            replace q5 := eq_true q5
            go_wp2
            go_roundg k1
            case measure => have := HK1.out; omega
            case rel => exact ⟨(Go.bits .or .i64 (wrap64 (x3_1 * 256)) (wrap64 (bt a0 x4_1))), (wrap64 (x4_1 - 1)), (by first | rfl | (simp; done) | (simp [*]; done)), (by first | rfl | (simp; done) | (simp [*]; done)), H', ⟨by have := HK1.out; omega⟩, by repeat (first | exact Drawn0.refl _ | apply Drawn0.step)⟩
          · rw [if_neg c4] at H
            exact absurd H (by simp)
        · rw [if_neg c3] at H
          exact absurd H (by simp)
      · rw [if_neg c2] at H
        have c2b0 : decide (0 ≤ x4_1) = false := decide_eq_false c2
        clear c2
        obtain rfl := Option.some.inj H
        go_wp2
        go_ret
        exact ⟨by first | rfl | (simp; done) | (simp [*]; done), by repeat (first | exact Drawn0.refl _ | apply Drawn0.step)⟩

/-! ### intset_set_at: function 42 -/
def intset_set_at.f (k : Nat) (a0_0 : ByteArray) (a0_1 : Int) (a0_2 : Int) (a1 : Int) : Option (Int) := if 0 ≤ (wrap64 (8 + (wrap64 (a1 * a0_1)))) then (if (wrap64 (8 + (wrap64 (a1 * a0_1)))) ≤ (wrap64 (8 + (wrap64 ((wrap64 (a1 + 1)) * a0_1)))) then (if (wrap64 (8 + (wrap64 ((wrap64 (a1 + 1)) * a0_1)))) ≤ (a0_0.size : Int) then ((intset_little.f k (a0_0.extract ((wrap64 (8 + (wrap64 (a1 * a0_1)))) : Int).toNat ((wrap64 (8 + (wrap64 ((wrap64 (a1 + 1)) * a0_1)))) : Int).toNat)).bind fun t102 => (if 0 ≤ (wrap64 (64 - (wrap64 (8 * a0_1)))) then (some (shr .i64 (shl .i64 t102 (wrap64 (64 - (wrap64 (8 * a0_1))))) (wrap64 (64 - (wrap64 (8 * a0_1)))))) else (none))) else (none)) else (none)) else (none)
theorem intset_set_at.mono : ∀ a0 a1 a2 a3 k, LeO (intset_set_at.f k a0 a1 a2 a3) (intset_set_at.f (k + 1) a0 a1 a2 a3) := by
  intro a0 a1 a2 a3 k
  unfold intset_set_at.f
  repeat' first
      | (with_reducible exact intset_little.mono _ _)
      | (with_reducible exact LeO.refl _)
      | (with_reducible exact LeO.none _)
      | (with_reducible refine LeO.ite ?_ ?_)
      | (with_reducible refine LeO.bind ?_ (fun _ => ?_))
      | exact intset_little.mono _ _
      | exact LeO.none _
      | refine LeO.ite ?_ ?_
      | refine LeO.bind ?_ (fun _ => ?_)
set_option maxHeartbeats 8000000 in
set_option maxRecDepth 100000 in
theorem intset_set_at.calls (k : Nat) (a0_0 : ByteArray) (a0_1 : Int) (a0_2 : Int) (a1 : Int) (r : Int) (w : World) (h : intset_set_at.f k a0_0 a0_1 a0_2 a1 = some r) :
    Calls Try.prog 42 #[.agg #[.string a0_0, .int .i64 a0_1, .int .i64 a0_2], .int .i64 a1] w fun e w' => e = .returned (.int .i64 r) ∧ Below w.heap.size w w' := by
  have hu58 := Try.underlying58
  have HB := Aside0.mk (Below.refl w.heap.size w)
  have H : (if 0 ≤ (wrap64 (8 + (wrap64 (a1 * a0_1)))) then (if (wrap64 (8 + (wrap64 (a1 * a0_1)))) ≤ (wrap64 (8 + (wrap64 ((wrap64 (a1 + 1)) * a0_1)))) then (if (wrap64 (8 + (wrap64 ((wrap64 (a1 + 1)) * a0_1)))) ≤ (a0_0.size : Int) then ((intset_little.f k (a0_0.extract ((wrap64 (8 + (wrap64 (a1 * a0_1)))) : Int).toNat ((wrap64 (8 + (wrap64 ((wrap64 (a1 + 1)) * a0_1)))) : Int).toNat)).bind fun t102 => (if 0 ≤ (wrap64 (64 - (wrap64 (8 * a0_1)))) then (some (shr .i64 (shl .i64 t102 (wrap64 (64 - (wrap64 (8 * a0_1))))) (wrap64 (64 - (wrap64 (8 * a0_1)))))) else (none))) else (none)) else (none)) else (none)) = some r := h
  clear h
  obtain ⟨ji3, hji3⟩ : ∃ j_ : Int, (wrap64 (8 + (wrap64 (a1 * a0_1)))) = j_ := ⟨_, rfl⟩
  replace H : (if 0 ≤ (ji3) then (if (ji3) ≤ (wrap64 (8 + (wrap64 ((wrap64 (a1 + 1)) * a0_1)))) then (if (wrap64 (8 + (wrap64 ((wrap64 (a1 + 1)) * a0_1)))) ≤ (a0_0.size : Int) then ((intset_little.f k (a0_0.extract ((ji3) : Int).toNat ((wrap64 (8 + (wrap64 ((wrap64 (a1 + 1)) * a0_1)))) : Int).toNat)).bind fun t102 => (if 0 ≤ (wrap64 (64 - (wrap64 (8 * a0_1)))) then (some (shr .i64 (shl .i64 t102 (wrap64 (64 - (wrap64 (8 * a0_1))))) (wrap64 (64 - (wrap64 (8 * a0_1)))))) else (none))) else (none)) else (none)) else (none)) = some r := by first | (rw [hji3] at H; exact H) | (simp only [hji3] at H ⊢; exact H)
  have hji3w : (IntKind.i64.wrap (8 + (wrap64 (a1 * a0_1)))) = ji3 := (i64_w _).trans hji3
  by_cases c4 : 0 ≤ (ji3)
  · rw [if_pos c4] at H
    have c4b0 := eq_true c4
    have c4b1 : decide (0 ≤ (ji3)) = true := decide_eq_true c4
    clear c4
    by_cases c5 : (ji3) ≤ (wrap64 (8 + (wrap64 ((wrap64 (a1 + 1)) * a0_1))))
    · rw [if_pos c5] at H
      have c5b0 := eq_true c5
      have c5b1 : decide ((ji3) ≤ (wrap64 (8 + (wrap64 ((wrap64 (a1 + 1)) * a0_1))))) = true := decide_eq_true c5
      by_cases c6 : (wrap64 (8 + (wrap64 ((wrap64 (a1 + 1)) * a0_1)))) ≤ (a0_0.size : Int)
      · rw [if_pos c6] at H
        have c6b0 := eq_true c6
        have c6b1 : decide ((wrap64 (8 + (wrap64 ((wrap64 (a1 + 1)) * a0_1)))) ≤ (a0_0.size : Int)) = true := decide_eq_true c6
        replace H := Option.bind_eq_some_iff.mp H
        obtain ⟨t102, A70, H⟩ := H
        replace H : (if 0 ≤ (wrap64 (64 - (wrap64 (8 * a0_1)))) then (some (shr .i64 (shl .i64 t102 (wrap64 (64 - (wrap64 (8 * a0_1))))) (wrap64 (64 - (wrap64 (8 * a0_1)))))) else (none)) = some r := H
        have A7 := Aside0.mk A70
        clear A70
        obtain ⟨ji8, hji8⟩ : ∃ j_ : Int, (wrap64 (64 - (wrap64 (8 * a0_1)))) = j_ := ⟨_, rfl⟩
        replace H : (if 0 ≤ (ji8) then (some (shr .i64 (shl .i64 t102 (ji8)) (ji8))) else (none)) = some r := by first | (rw [hji8] at H; exact H) | (simp only [hji8] at H ⊢; exact H)
        (try rw [hji8] at A7)
        have hji8w : (IntKind.i64.wrap (64 - (wrap64 (8 * a0_1)))) = ji8 := (i64_w _).trans hji8
        by_cases c9 : 0 ≤ (ji8)
        · rw [if_pos c9] at H
          have c9b0 := eq_true c9
          have c9b1 : decide (0 ≤ (ji8)) = true := decide_eq_true c9
          clear c9
          obtain ⟨ji10, hji10⟩ : ∃ j_ : Int, (shl .i64 t102 (ji8)) = j_ := ⟨_, rfl⟩
          replace H : (some (shr .i64 (ji10) (ji8))) = some r := by first | (rw [hji10] at H; exact H) | (simp only [hji10] at H ⊢; exact H)
          (try rw [hji10] at A7)
          have hji10_ : (IntKind.i64.wrap (t102 * 2 ^ min (ji8).toNat 64)) = ji10 := hji10
          have hji10z : (ji8) ≤ 64 → (IntKind.i64.wrap (t102 * 2 ^ (ji8).toNat)) = ji10 := shl_small hji10
          have hji10y : (wrap64 (t102 * 2 ^ min (ji8).toNat 64)) = ji10 := (i64_w _).symm.trans hji10_
          have hji10x : (ji8) ≤ 64 → (wrap64 (t102 * 2 ^ (ji8).toNat)) = ji10 := fun h_ => (i64_w _).symm.trans (hji10z h_)
          have c11b0 := eq_true (of_decide_eq_true (by first | (with_reducible assumption) | assumption) : 0 ≤ (ji8))
          obtain ⟨ji12, hji12⟩ : ∃ j_ : Int, (shr .i64 (ji10) (ji8)) = j_ := ⟨_, rfl⟩
          replace H : (some ji12) = some r := by first | (rw [hji12] at H; exact H) | (simp only [hji12] at H ⊢; exact H)
          (try rw [hji12] at A7)
          have hji12_ : ((ji10) / 2 ^ min (ji8).toNat 64) = ji12 := hji12
          have hji12z : (ji8) ≤ 64 → ((ji10) / 2 ^ (ji8).toNat) = ji12 := shr_small hji12
          obtain rfl := Option.some.inj H
          go_enter Try.func42, Try.ntmps42
          go_wp2_with (first | ((with_reducible refine gate_dst (N := 2) rfl ?_); refine box_event ?hg (N := 2) ?hd (cs := #[.string a0_0, .int .i64 a0_1, .int .i64 a0_2]) (t := 58) ?hr ?_; (case hd => rfl); (case hg => rfl); (case hr => first | (go_simp; done) | (go_simp; rfl)); intro gb101 hg w13 hbox hb; have n0_ := Aside0.mk (below_step (by repeat (first | (with_reducible first | exact HB.out | apply below_alloc | apply pw_below_drewN | apply below_drew1) | exact HB.out)) hb); have n1_ := Aside0.mk (hbox); have n2_ := Aside0.mk ((by rw [hg]; exact (below_size (by repeat (first | (with_reducible first | exact HB.out | apply below_alloc | apply pw_below_drewN | apply below_drew1) | exact HB.out))) : w.heap.size ≤ gb101)); have n3_ := Aside0.mk ((by rw [hg]; exact (below_size (by repeat (first | (with_reducible first | exact HB.out | apply below_alloc | apply pw_below_drewN | apply below_drew1) | exact HB.out))) : w.heap.size ≤ gb101)); clear HB; have HB := n0_; have BK101 := n1_; have GW101 := n2_; have GE101 := n3_; clear n0_ n1_ n2_ n3_; clear hb hbox hg; have hcz14_0 : w13.cell? ⟨gb101, 0, none⟩ = some (.string a0_0) := (blk_cell BK101.out 0).trans rfl; have hcz14_1 : w13.cell? ⟨gb101, 1, none⟩ = some (.int .i64 a0_1) := (blk_cell BK101.out 1).trans rfl; have hcz14_2 : w13.cell? ⟨gb101, 2, none⟩ = some (.int .i64 a0_2) := (blk_cell BK101.out 2).trans rfl; have hfz14_0 := blk_frozen BK101.out 0; have hfz14_1 := blk_frozen BK101.out 1; have hfz14_2 := blk_frozen BK101.out 2) | ((with_reducible refine gate_callee (f := 51) rfl ?_); refine goesL_ (some 21) rfl rfl Try.func51 (by kernel_rfl) rfl #[.string (a0_0.extract ((ji3) : Int).toNat ((wrap64 (8 + (wrap64 ((wrap64 (a1 + 1)) * a0_1)))) : Int).toNat)] rfl (by (try simp only [List.map_toArray, List.map_cons, List.map_nil]); first | done | (simp only [hji3]; rfl) | rfl | (simp only [List.length_drop, List.length_take]; rfl)) ?_; (with_reducible refine (intset_little.calls k (a0_0.extract ((ji3) : Int).toNat ((wrap64 (8 + (wrap64 ((wrap64 (a1 + 1)) * a0_1)))) : Int).toNat) t102 _ A7.out).mono ?_); rintro e w' ⟨rfl, ⟨nd, rfl⟩⟩; refine ⟨_, rfl, ?_⟩))
          go_ret
          exact ⟨by first | rfl | (simp [errW_none, errW_some] <;> rfl) | (simp only [← hji3, ← hji8, ← hji10, ← hji12]; first | rfl | (simp [errW_none, errW_some] <;> rfl)) | (simp [*, errW_none, errW_some] <;> rfl), by repeat (first | (with_reducible first | exact HB.out | apply below_alloc | apply pw_below_drewN | apply below_drew1 | refine below_set ?_ GE101.out) | exact HB.out)⟩
        · rw [if_neg c9] at H
          exact absurd H (by simp)
      · rw [if_neg c6] at H
        exact absurd H (by simp)
    · rw [if_neg c5] at H
      exact absurd H (by simp)
  · rw [if_neg c4] at H
    exact absurd H (by simp)

end Go.Proofs.Ytdadggaecgkhfaa.PIntsetPlays
