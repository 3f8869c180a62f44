/- Walk of the law LzfFinds: it answers true; conditions: the text within reach. -/
import Derived.Test.YtdadggaecgkhfaaL11
import Derived.Laws.MakeOwn
namespace Go.Proofs.Ytdadggaecgkhfaa.LZ
open Go.RowKit Go.Proofs.YtdadggaecgkhfaaW.PrintWords Go.Proofs.YtdadggaecgkhfaaW.PrintMore
open Go.Proofs.Ytdadggaecgkhfaa.PLzfUnpacks IM Go.Proofs.Ytdadggaecgkhfaa
set_option linter.unusedVariables false
attribute [local go_sem ↓] Go.wp_at_zero Go.wp_at_succ
attribute [local go_sem] max2_int min2_int max_two min_two
/-- one byte, so many times -/
def rep (n : Nat) (b : UInt8) : ByteArray := ⟨(List.replicate n b).toArray⟩
theorem rep_size (n : Nat) (b : UInt8) : (rep n b).size = n := by simp [rep, ByteArray.size]
theorem rep_mono (n : Nat) (b : UInt8) : Mono (rep n b) := by
  intro i j hi hj
  rw [rep_size] at hi hj
  unfold eqAt rep
  rw [List.getElem?_replicate, List.getElem?_replicate, if_pos hi, if_pos hj]
theorem rep_nums (n : Nat) (b : UInt8) : strOfNums (List.replicate n (b.toNat : Int)) = rep n b := by
  unfold strOfNums rep
  rw [List.map_replicate, Int.toNat_natCast, UInt8.ofNat_toNat]
theorem conv_blk {w : World} {g n c : Nat} {A : Array Value} {b : UInt8} (h : Blk w g 5 A) (hA : ∀ j, j < n → A[j]? = some (.int .u8 (b.toNat : Int))) :
    (convert 56 9 (.slice (some ⟨g, 0, none⟩) n c)).run Try.prog w = .ok (.string (rep n b)) w := by
  rw [← rep_nums]
  refine run_convert_bytes_arg w 56 5 Try.underlying56 Try.underlying5 g 0 n c (List.replicate n (b.toNat : Int)) (by simp) (fun i hi => ?_) 9 Try.underlying9
  rw [Nat.zero_add, Blk.cell h i, hA i hi, List.getD_eq_getElem?_getD, List.getElem?_replicate, if_pos hi]
  rfl
/-- a new row of bytes -/
def zs (n : Nat) : Array Value := madeCells #[.int .u8 0] n
theorem zs_size (n : Nat) : (zs n).size = n := size_madeCells _ _
theorem zs_get (n j : Nat) (h : j < n) : (zs n)[j]? = some (.int .u8 ((0 : UInt8).toNat : Int)) := by
  have := toList_madeCells_one (.int .u8 0) n
  unfold zs
  rw [← Array.getElem?_toList, this, List.getElem?_replicate, if_pos h]
  rfl
theorem mk56 (n : Nat) (hn : n ≤ 1000000) (w : World) : (Instr.makeSlice 56 (.int .i64 (n : Int)) (.int .i64 (n : Int))).run Try.prog w = .ok (.slice (some ⟨w.heap.size, 0, none⟩) n n) (w.alloc (.cells (zs n) 5)) := by
  obtain ⟨i0, hi, hzz⟩ := Option.map_eq_some_iff.1 info5
  simp only [Prod.mk.injEq] at hzz
  obtain ⟨hz0, hz1, hz2⟩ := hzz
  have := run_make (P := Try.prog) w 56 5 i0 _ Try.underlying56 hi hz0 .i64 .i64 n n (by omega) (Int.le_refl _) (by rw [hz2]; omega) (by omega)
  rw [Int.toNat_natCast, hz1, Nat.mul_one] at this
  exact this
/-- how many -/
def cnt (n : Int) : Nat := if n < 20 ∨ 524288 < n then 20 else n.toNat
theorem cnt_ok (n : Int) : 20 ≤ cnt n ∧ cnt n ≤ 524288 := by unfold cnt; split <;> omega
/-- the first byte -/
def fst (x : ByteArray) : UInt8 := x.data.toList.getD 0 0
theorem bn_fst (x : ByteArray) : bn x 0 = (fst x).toNat := rfl
theorem fst_nil (x : ByteArray) (h : x.size = 0) : fst x = 0 := by
  unfold fst
  have : x.data.toList = [] := List.eq_nil_of_length_eq_zero (by rw [data_length]; exact h)
  rw [this]; rfl
theorem store_more {n k : Nat} {A : Array Value} {v : Value} (hA : A.size = n) (h : ∀ j, j < k → A[j]? = some v) (hk : k < n) : (A.setIfInBounds k v).size = n ∧ ∀ j, j < k + 1 → (A.setIfInBounds k v)[j]? = some v := by
  refine ⟨by simpa using hA, fun j hj => ?_⟩
  rw [Array.getElem?_setIfInBounds]
  by_cases e : k = j
  · rw [if_pos e, if_pos (by omega)]
  · rw [if_neg e]
    exact h j (by omega)
set_option maxHeartbeats 2000000 in
theorem law_finds (x : ByteArray) (n : Int) (W : World) (hx : x.size ≤ 140737488355328) (hn1 : -9223372036854775808 ≤ n) (hn2 : n ≤ 9223372036854775807) :
    Calls Try.prog 10 #[.string x, .int .i64 n] W fun e w' => e = .returned (.bool true) ∧ Below W.heap.size W w' := by
  have HX := Lib.hid hx
  go_enter Try.func10, Try.ntmps10
  go_upto_region 1 with fail
  go_cut [15] (fun v15 wx => v15 = .bool (decide (n < 20 ∨ 524288 < n)) ∧ W = wx)
  case first =>
    by_cases h1 : n < 20
    · have hb : decide (n < 20 ∨ 524288 < n) = true := decide_eq_true (.inl h1)
      have hb1 : decide (n < 20) = true := decide_eq_true h1
      have HB := Lib.hid hb
      clear hb
      go_wp2_with fail
      go_meet
      exact ⟨by rw [HB.out], rfl⟩
    · have hb1 : decide (n < 20) = false := decide_eq_false h1
      have HB := Lib.hid (show decide (524288 < n) = decide (n < 20 ∨ 524288 < n) by simp [h1])
      go_wp2_with fail
      go_meet
      exact ⟨by rw [← HB.out], rfl⟩
  case rest =>
  obtain ⟨rfl, rfl⟩ := hcut
  go_upto_if 15 with fail
  go_cut [1] (fun v1 wx => v1 = .int .i64 (cnt n : Nat) ∧ W = wx)
  case first =>
    by_cases h1 : n < 20 ∨ 524288 < n
    · have hc : cnt n = 20 := by unfold cnt; rw [if_pos h1]
      have hb : decide (n < 20 ∨ 524288 < n) = true := decide_eq_true h1
      have HC := Lib.hid hc
      clear h1 hc
      generalize decide (n < 20 ∨ 524288 < n) = bb at *
      subst hb
      go_wp2_with fail
      go_meet
      exact ⟨by rw [HC.out]; rfl, rfl⟩
    · have hc : cnt n = n.toNat := by unfold cnt; rw [if_neg h1]
      have hb : decide (n < 20 ∨ 524288 < n) = false := decide_eq_false h1
      have HC := Lib.hid (show (cnt n : Int) = n by rw [hc, Int.toNat_of_nonneg (by omega)])
      clear h1 hc
      generalize decide (n < 20 ∨ 524288 < n) = bb at *
      subst hb
      go_wp2_with fail
      go_meet
      exact ⟨by rw [HC.out], rfl⟩
  case rest =>
  obtain ⟨rfl, rfl⟩ := hcut
  have hcn := cnt_ok n
  generalize cnt n = N at *
  go_upto_if 18 with fail
  go_cut [5] (fun v5 wx => v5 = .int .u8 ((fst x).toNat : Int) ∧ W = wx)
  case first =>
    by_cases h0 : 0 < x.size
    · have hd : decide (0 < x.size) = true := decide_eq_true h0
      have hb := run_byte x 0 h0
      rw [bn_fst, show ((0 : Nat) : Int) = 0 from rfl] at hb
      clear h0
      generalize fst x = b at *
      generalize decide (0 < x.size) = bb at *
      subst hd
      go_wp2_with fail
      go_meet
      exact ⟨rfl, rfl⟩
    · have hd : decide (0 < x.size) = false := decide_eq_false h0
      have hb := Lib.hid (fst_nil x (by omega))
      clear h0
      generalize decide (0 < x.size) = bb at *
      subst hd
      go_wp2_with fail
      go_meet
      exact ⟨by rw [hb.out]; rfl, rfl⟩
  case rest =>
  obtain ⟨rfl, rfl⟩ := hcut
  have hmk := fun w => mk56 N (by omega) w
  have HP1 := Lib.hid (fun w => pack_any w (rep N (fst x)) (by rw [rep_size]; omega))
  have ho1 : (packS (rep N (fst x))).2 = true := packS_mono _ (rep_mono _ _) (by rw [rep_size]; omega) (by rw [rep_size]; omega)
  rw [ho1] at HP1
  generalize (packS (rep N (fst x))).1 = q1 at *
  clear ho1
  obtain ⟨M, hM⟩ : ∃ M : Nat, M = 524289 := ⟨_, rfl⟩
  have hmk2 := fun w => mk56 M (by omega) w
  have HP3 := Lib.hid (fun w => pack_any w (rep M 0) (by rw [rep_size]; omega))
  have ho3 : (packS (rep M 0)).2 = false := packS_long _ (by rw [rep_size]; omega)
  rw [ho3] at HP3
  generalize (packS (rep M 0)).1 = q3 at *
  clear ho3
  rw [show (M : Int) = 524289 by omega] at hmk2
  have HM := Lib.hid hM
  clear hM
  generalize hbb : fst x = b at *
  have HC := Lib.hid hcn
  clear hbb hn1 hn2
  go_upto_region 7 with fail
  go_wp2_with fail
  go_loopw [7] (fun v7 wr => ∃ (k : Nat) (A : Array Value), v7 = .int .i64 k ∧ k ≤ N ∧ Blk wr W.heap.size 5 A ∧ A.size = N ∧ (∀ j, j < k → A[j]? = some (.int .u8 (b.toNat : Int))) ∧ Below W.heap.size W wr) (fun v7 _ => N - (intOf v7).toNat)
  case atStart => exact ⟨0, zs N, rfl, Nat.zero_le _, Blk.new _ _ _, zs_size N, fun j hj => by omega, (Below.refl _ _).alloc (Nat.le_refl _) _⟩
  case round =>
    obtain ⟨k, A, rfl, hk, hA, hAs, hAg, hB⟩ := hrel
    by_cases hlt : k < N
    · have g1 : (k : Int) < (N : Int) := by omega
      have g2 : decide ((k : Int) < (N : Int)) = true := decide_eq_true g1
      have hc := Blk.cell hA k
      obtain ⟨u, hu⟩ : ∃ u, A[k]? = some u := ⟨_, Array.getElem?_eq_getElem (show k < A.size by omega)⟩
      rw [hu] at hc
      clear hu
      have hf := Blk.frozen hA k
      have e1 : IntKind.i64.wrap ((k : Int) + 1) = (k : Int) + 1 := by rw [IntKind.wrap_i64]; omega
      have HH := Lib.hid (And.intro hlt (And.intro hA (And.intro hAs (And.intro hAg hB))))
      clear hA hAs hAg hB hlt
      go_wp2_with fail
      go_roundw
      case rel =>
        obtain ⟨h1, h2, h3, h4, h5⟩ := HH.out
        obtain ⟨s1, s2⟩ := store_more h3 h4 h1
        exact ⟨k + 1, _, by go_num, by omega, Blk.set_ h2 k _, s1, s2, h5.setCell (p := ⟨W.heap.size, k, none⟩) (Nat.le_refl _) _⟩
      case measure => have := HH.out.1; simp [intOf]; omega
    · obtain rfl : k = N := by omega
      have g1 : ¬ (k : Int) < (k : Int) := by omega
      have hcv := conv_blk (c := k) hA hAg
      have HB := Lib.hid hB
      clear hA hAs hAg hB hlt
      go_wp2_with fail
      refine (HP1.out _).mono ?_
      rintro e w1 ⟨rfl, hb1⟩
      have hb2 := Lib.hid (HB.out.trans (hb1.mono HB.out.size))
      have hcv3 := conv_blk (c := M) (Blk.new w1 5 (zs M)) (fun j hj => zs_get M j hj)
      clear hb1 hcv g1
      by_cases h32 : 32 ≤ x.size
      · have a1 : decide ((32 : Int) ≤ (x.size : Int)) = true := decide_eq_true (by omega)
        have a2 : decide (32 ≤ x.size) = true := decide_eq_true h32
        by_cases h4k : x.size ≤ 4000
        · have a3 : decide ((x.size : Int) ≤ 4000) = true := decide_eq_true (by omega)
          have a4 : decide (x.size ≤ 4000) = true := decide_eq_true h4k
          have hxx : (x ++ x).data.toList = x.data.toList ++ x.data.toList := by simp
          have htwo := packS_two (x ++ x) (two_append x (x ++ x) h32 h4k hxx)
          have hsz : (x ++ x).size ≤ 140737488355328 := by rw [← data_length, hxx, List.length_append, data_length]; omega
          have HP2 := Lib.hid (fun w => pack_any w (x ++ x) hsz)
          rw [htwo] at HP2
          generalize (packS (x ++ x)).1 = q2 at *
          clear hxx htwo hsz hcv3
          go_wp2_with fail
          refine (HP2.out _).mono ?_
          rintro e w2 ⟨rfl, hbb2⟩
          have hb5 := Lib.hid (hb2.out.trans (hbb2.mono hb2.out.size))
          have hcv3 := conv_blk (c := M) (Blk.new w2 5 (zs M)) (fun j hj => zs_get M j hj)
          clear hbb2
          go_wp2_with fail
          refine (HP3.out _).mono ?_
          rintro e w3 ⟨rfl, hb3⟩
          have hb13 := hb5.out.trans ((((Below.refl _ _).alloc (Nat.le_refl _) _).trans (hb3.mono (by simp))).mono (hb5.out).size)
          go_wp2_with fail
          refine (sure_any _).mono ?_
          rintro e w4 ⟨rfl, hb4⟩
          go_wp2_with fail
          go_ret
          exact ⟨rfl, hb13.trans (hb4.mono hb13.size)⟩
        · have a3 : decide ((x.size : Int) ≤ 4000) = false := decide_eq_false (by omega)
          have a4 : decide (x.size ≤ 4000) = false := decide_eq_false h4k
          go_wp2_with fail
          refine (HP3.out _).mono ?_
          rintro e w3 ⟨rfl, hb3⟩
          have hb13 := hb2.out.trans ((((Below.refl _ _).alloc (Nat.le_refl _) _).trans (hb3.mono (by simp))).mono (hb2.out).size)
          go_wp2_with fail
          refine (sure_any _).mono ?_
          rintro e w4 ⟨rfl, hb4⟩
          go_wp2_with fail
          go_ret
          exact ⟨rfl, hb13.trans (hb4.mono hb13.size)⟩
      · have a1 : decide ((32 : Int) ≤ (x.size : Int)) = false := decide_eq_false (by omega)
        have a2 : decide (32 ≤ x.size) = false := decide_eq_false h32
        go_wp2_with fail
        refine (HP3.out _).mono ?_
        rintro e w3 ⟨rfl, hb3⟩
        have hb13 := hb2.out.trans ((((Below.refl _ _).alloc (Nat.le_refl _) _).trans (hb3.mono (by simp))).mono (hb2.out).size)
        go_wp2_with fail
        refine (sure_any _).mono ?_
        rintro e w4 ⟨rfl, hb4⟩
        go_wp2_with fail
        go_ret
        exact ⟨rfl, hb13.trans (hb4.mono hb13.size)⟩
end Go.Proofs.Ytdadggaecgkhfaa.LZ
