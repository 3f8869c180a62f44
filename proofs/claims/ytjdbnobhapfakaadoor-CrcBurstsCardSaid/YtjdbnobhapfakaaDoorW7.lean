/- Walk of the reference's Join: what n bytes of value 0 make of the first sum, xored with the second; conditions: the numbers fit their kinds. -/
import Derived.Test.YtjdbnobhapfakaaDoorW6
import Derived.Deep.RegionHeld3
import Derived.Deep.DrawnRows
namespace Go.Proofs.YtjdbnobhapfakaaDoor
open Go.RowKit
open CrcM
set_option linter.unusedVariables false
attribute [local go_sem ↓] Go.wp_at_zero Go.wp_at_succ
/-- 'times' by value, where the caller holds two blocks of its own: they are there still. -/
theorem rtimes_kept (N v B Bq : Nat) (w0 : World) (A C : Array Value) (w : World) (hv : v < 18446744073709551616) (hB : Blk w B 40 A) (hQ : Blk w Bq 40 C) (hb : Below w0.heap.size w0 w) :
    Calls Tryd.prog 22 #[.agg (mrow N), .int .u64 v] w fun e w' => e = .returned (.int .u64 (halfs N v : Nat)) ∧ Blk w' B 40 A ∧ Blk w' Bq 40 C ∧ Below w0.heap.size w0 w' :=
  (rtimes_any N v w hv).mono fun e w' ⟨he, hw⟩ => ⟨he, hB.below hw hB.lt, hQ.below hw hQ.lt, hb.trans (hw.mono hb.size)⟩
theorem blk_S {N B : Nat} {w : World} (h : Blk w B 40 (mrow N)) (k : Nat) (hk : k < 64) : w.cell? ⟨B, k, none⟩ = some (.int .u64 (row N k : Nat)) ∧ w.rangeAt B 0 (mrow N).toList :=
  ⟨by rw [h.cell k]; exact mrow_at N k hk, fun j v hv => by rw [Nat.zero_add, h.cell j]; simpa using hv⟩
set_option maxHeartbeats 2000000 in
theorem rjoin_any (a b : Nat) (n : Int) (w : World) (ha : a < 18446744073709551616) (hb : b < 18446744073709551616) (hn1 : -9223372036854775808 ≤ n) (hn2 : n ≤ 9223372036854775807) :
    Calls Tryd.prog 19 #[.int .u64 a, .int .u64 b, .int .i64 n] w fun e w' => e = .returned (.int .u64 (join a b n.toNat : Nat)) ∧ Below w.heap.size w w' := by
  go_enter Tryd.func19, Tryd.ntmps19
  go_wp2
  go_loopw [8] (fun i wr => ∃ k : Nat, k ≤ 64 ∧ i = .int .i64 k ∧ wr = w.alloc (.cells (fillA 8 k) 40)) (fun i _ => 64 - (intOf i).toNat)
  case atStart => exact ⟨0, by omega, rfl, rfl⟩
  case round =>
    obtain ⟨k, hk, rfl, rfl⟩ := hrel
    by_cases hlt : k < 64
    · have hA := fillA_at 8 k hlt
      have hn := Lib.hid (fillA_next 8 k hlt)
      have hf := row_first k
      have hp : 2 ^ k < 18446744073709551616 := Nat.pow_lt_pow_right (by decide) hlt
      generalize fillA 8 k = A at *
      have hw := wrap_pow k hlt
      generalize 2 ^ k = p at *
      generalize row 8 k = r at *
      have hup := rupd_any p ⟨#[0]⟩ (w.alloc (.cells A 40)) hp (by decide)
      have e1 : upd p (ByteArray.mk #[0]).data.toList = r := hf
      rw [e1] at hup
      have HU := Lib.hid hup
      clear hup e1 hf
      go_wp2_with (go_at_call 12; refine HU.out.mono ?_; rintro e w' ⟨rfl, rfl⟩)
      go_roundw
      case rel => exact ⟨k + 1, by omega, by go_num, by rw [← hn.out]⟩
      case measure => simp [intOf]; omega
    · have hge : 64 ≤ k := by omega
      rw [fillA_full 8 k hge]
      have hB := Blk.new w 40 (mrow 8)
      have hbel := (Below.refl w.heap.size w).alloc (Nat.le_refl _) (.cells (mrow 8) 40)
      generalize w.alloc (.cells (mrow 8) 40) = w1 at *
      go_wp2
      go_loopw [0, 2] (fun x m wr => ∃ (N z : Nat) (xa : Nat) (y : Int), xa < 18446744073709551616 ∧ -9223372036854775808 ≤ y ∧ y ≤ 9223372036854775807 ∧ x = .int .u64 xa ∧ m = .int .i64 y ∧ halfs (N * y.toNat) xa = halfs (8 * n.toNat) a ∧ Blk wr w.heap.size 40 (mrow N) ∧ Below w.heap.size w wr) (fun _ m _ => (intOf m).toNat)
      case atStart => exact ⟨8, 0, a, n, ha, hn1, hn2, rfl, rfl, rfl, hB, hbel⟩
      case round =>
        clear hB hbel hn1 hn2
        obtain ⟨N, z, xa, y, hxa, hy1, hy2, rfl, rfl, hh, hB, hbel⟩ := hrel
        by_cases hy : 0 < y
        · obtain ⟨y, rfl⟩ : ∃ m : Nat, y = m := ⟨y.toNat, by omega⟩
          rw [Int.toNat_natCast] at hh
          obtain ⟨wo, rfl⟩ : ∃ wo : World, wo = wr := ⟨_, rfl⟩
          have hdy1 : decide ((0 : Int) < (y : Int)) = true := decide_eq_true hy
          have hdy2 : decide (0 < y) = true := decide_eq_true (by omega)
          have hjr := join_round N y xa
          have HH := Lib.hid hh
          have HR := Lib.hid hjr
          have hxl := halfs_lt N hxa
          have hszN : (Tryd.prog.info? 40).map (·.size) = some (mrow N).size := by rw [mrow_size]; kernel_rfl
          have htm := Lib.hid (rtimes_any N xa wo hxa)
          clear hh hjr
          rcases Nat.mod_two_eq_zero_or_one y with hy2 | hy2
          · have hm2 : (y : Int) % 2 = 0 := by omega
            have H2 := Lib.hid hy2
            clear hy2
            go_wp2_with fail
            rw [hm2]
            go_loopw [10] (fun i w3 => ∃ k : Nat, k ≤ 64 ∧ i = .int .i64 k ∧ Blk w3 wo.heap.size 40 (fillA (N + N) k) ∧ Blk w3 w.heap.size 40 (mrow N) ∧ Below w.heap.size w w3) (fun i _ => 64 - (intOf i).toNat)
            case atStart => exact ⟨0, by omega, rfl, Blk.new wo 40 (fillA (N + N) 0), hB.alloc _, hbel.alloc hbel.size _⟩
            case round =>
              obtain ⟨k, hk, rfl, hQ3, hB3, hbel3⟩ := hrel
              have hneq : w.heap.size < wo.heap.size := hB.lt
              clear hB hbel
              by_cases hlt : k < 64
              · have hn := Lib.hid (fillA_next (N + N) k hlt)
                have hq := row_square N k
                have hrl := row_lt N k hlt
                have hA := fillA_at (N + N) k hlt
                have hkeep := rtimes_kept N (row N k) w.heap.size wo.heap.size w (mrow N) (fillA (N + N) k) wr.drew hrl hB3.drew hQ3.drew hbel3.drew
                rw [hq] at hkeep
                have HK := Lib.hid hkeep
                clear hkeep hq
                have hszN2 : (Tryd.prog.info? 40).map (·.size) = some (mrow N).toList.length := by rw [Array.length_toList, mrow_size]; kernel_rfl
                have hl64 : (mrow N).toList.length = 64 := by rw [Array.length_toList, mrow_size]
                have hone : ∀ v ∈ (mrow N).toList, v.oneCell' = true := by simp [mrow, Value.oneCell']
                have hS := blk_S hB3 k hlt
                have hu := Tryd.underlying40
                have hk0 : (0 : Int) ≤ (k : Int) := by omega
                have hk1 : (k : Int) < 64 := by omega
                generalize row (N + N) k = r2 at *
                go_wp2_with fail
                go_region_held3 (fun w' => w'.cell? ⟨w.heap.size, k, none⟩ = some (.int .u64 (row N k : Nat)) ∧ w'.rangeAt w.heap.size 0 (mrow N).toList) (first | exact hS | exact blk_S hB3.drew k hlt | exact blk_S hB5 k hlt | exact blk_S hB6 k hlt) (first | (go_at_call 22; refine HK.out.mono ?_; rintro e w5 ⟨rfl, hB5, hQ5, hbel5⟩; have hq5 := (hQ5.cell k).trans hA; have hf5 := hQ5.frozen k; have hB6 := hB5.far (p := ⟨wo.heap.size, k, none⟩) (Nat.ne_of_lt hneq) (.int .u64 (r2 : Nat)); have hQ6 := hQ5.set_ k (.int .u64 (r2 : Nat)); have hbel6 := hbel5.setCell (p := ⟨wo.heap.size, k, none⟩) (Nat.le_of_lt hneq) (.int .u64 (r2 : Nat))))
                clear hS hA hQ3 hB3 hbel3 hq5 hf5 hB5 hQ5 hbel5
                generalize w5.setCell ⟨wo.heap.size, k, none⟩ (.int .u64 (r2 : Nat)) = w6 at *
                go_wp2
                go_roundw
                case rel =>
                  first
                  | exact ⟨k + 1, by omega, by go_num, by rw [← hn.out]; exact hQ6, hB6, hbel6⟩
                  | ((repeat apply Exists.intro); exact ⟨⟨k + 1, by omega, rfl, by rw [← hn.out]; exact hQ6, hB6, hbel6⟩, rfl⟩)
                case measure => simp [intOf]; omega
              · have hge : 64 ≤ k := by omega
                rw [fillA_full (N + N) k hge] at hQ3
                have hsz2 : (Tryd.prog.info? 40).map (·.size) = some (mrow (N + N)).size := by rw [mrow_size]; kernel_rfl
                have hth := hB3.there (mrow (N + N)).size (by rw [mrow_size, mrow_size]; exact Nat.le_refl _)
                have h1c : (mrow (N + N)).all (·.oneCell') = true := by simp [mrow, Value.oneCell']
                have hover := hB3.over (mrow (N + N)) (by rw [mrow_size, mrow_size])
                have hbel9 := below_setCells w.heap.size (Nat.le_refl _) (mrow (N + N)).toList 0 _ hbel3
                generalize hAg : mrow (N + N) = A at *
                have HA := Lib.hid hAg
                clear hAg
                go_wp2_with (first | (refine wpList_load_row rfl 40 _ rfl wo.heap.size rfl 40 A (0, 0) _ hQ3 Tryd.underlying40 rfl hsz2 ?_) | (refine wpList_store_mid rfl 40 _ _ rfl w.heap.size 0 A rfl rfl hth hsz2 h1c ?_))
                go_roundw
                case rel =>
                  refine ⟨N + N, 0, _, ((y / 2 : Nat) : Int), hxa, by omega, by omega, rfl, by go_num, ?_, by rw [HA.out]; exact hover, hbel9⟩
                  rw [Int.toNat_natCast, HR.out _ (by rw [H2.out]; rfl)]; exact HH.out
                case measure => simp [intOf]; omega
          · have hm2 : (y : Int) % 2 = 1 := by omega
            have H2 := Lib.hid hy2
            clear hy2
            go_wp2_with (first | (refine wpList_load_row rfl 40 _ rfl w.heap.size rfl 40 (mrow N) (0, 0) _ hB Tryd.underlying40 rfl hszN ?_) | (go_at_call 22; refine htm.out.mono ?_; rintro e w4 ⟨rfl, hb4⟩; have hB4 := hB.below hb4 hB.lt; have hbel4 := hbel.trans (hb4.mono hbel.size)))
            go_loopw [10] (fun i w3 => ∃ k : Nat, k ≤ 64 ∧ i = .int .i64 k ∧ Blk w3 w4.heap.size 40 (fillA (N + N) k) ∧ Blk w3 w.heap.size 40 (mrow N) ∧ Below w.heap.size w w3) (fun i _ => 64 - (intOf i).toNat)
            case atStart => exact ⟨0, by omega, rfl, Blk.new w4 40 (fillA (N + N) 0), hB4.alloc _, hbel4.alloc hbel4.size _⟩
            case round =>
              obtain ⟨k, hk, rfl, hQ3, hB3, hbel3⟩ := hrel
              have hneq : w.heap.size < w4.heap.size := hB4.lt
              clear hB4 hbel4
              by_cases hlt : k < 64
              · have hn := Lib.hid (fillA_next (N + N) k hlt)
                have hq := row_square N k
                have hrl := row_lt N k hlt
                have hA := fillA_at (N + N) k hlt
                have hkeep := rtimes_kept N (row N k) w.heap.size w4.heap.size w (mrow N) (fillA (N + N) k) wr.drew hrl hB3.drew hQ3.drew hbel3.drew
                rw [hq] at hkeep
                have HK := Lib.hid hkeep
                clear hkeep hq
                have hszN2 : (Tryd.prog.info? 40).map (·.size) = some (mrow N).toList.length := by rw [Array.length_toList, mrow_size]; kernel_rfl
                have hl64 : (mrow N).toList.length = 64 := by rw [Array.length_toList, mrow_size]
                have hone : ∀ v ∈ (mrow N).toList, v.oneCell' = true := by simp [mrow, Value.oneCell']
                have hS := blk_S hB3 k hlt
                have hu := Tryd.underlying40
                have hk0 : (0 : Int) ≤ (k : Int) := by omega
                have hk1 : (k : Int) < 64 := by omega
                generalize row (N + N) k = r2 at *
                go_wp2_with fail
                go_region_held3 (fun w' => w'.cell? ⟨w.heap.size, k, none⟩ = some (.int .u64 (row N k : Nat)) ∧ w'.rangeAt w.heap.size 0 (mrow N).toList) (first | exact hS | exact blk_S hB3.drew k hlt | exact blk_S hB5 k hlt | exact blk_S hB6 k hlt) (first | (go_at_call 22; refine HK.out.mono ?_; rintro e w5 ⟨rfl, hB5, hQ5, hbel5⟩; have hq5 := (hQ5.cell k).trans hA; have hf5 := hQ5.frozen k; have hB6 := hB5.far (p := ⟨w4.heap.size, k, none⟩) (Nat.ne_of_lt hneq) (.int .u64 (r2 : Nat)); have hQ6 := hQ5.set_ k (.int .u64 (r2 : Nat)); have hbel6 := hbel5.setCell (p := ⟨w4.heap.size, k, none⟩) (Nat.le_of_lt hneq) (.int .u64 (r2 : Nat))))
                clear hS hA hQ3 hB3 hbel3 hq5 hf5 hB5 hQ5 hbel5
                generalize w5.setCell ⟨w4.heap.size, k, none⟩ (.int .u64 (r2 : Nat)) = w6 at *
                go_wp2
                go_roundw
                case rel =>
                  first
                  | exact ⟨k + 1, by omega, by go_num, by rw [← hn.out]; exact hQ6, hB6, hbel6⟩
                  | ((repeat apply Exists.intro); exact ⟨⟨k + 1, by omega, rfl, by rw [← hn.out]; exact hQ6, hB6, hbel6⟩, rfl⟩)
                case measure => simp [intOf]; omega
              · have hge : 64 ≤ k := by omega
                rw [fillA_full (N + N) k hge] at hQ3
                have hsz2 : (Tryd.prog.info? 40).map (·.size) = some (mrow (N + N)).size := by rw [mrow_size]; kernel_rfl
                have hth := hB3.there (mrow (N + N)).size (by rw [mrow_size, mrow_size]; exact Nat.le_refl _)
                have h1c : (mrow (N + N)).all (·.oneCell') = true := by simp [mrow, Value.oneCell']
                have hover := hB3.over (mrow (N + N)) (by rw [mrow_size, mrow_size])
                have hbel9 := below_setCells w.heap.size (Nat.le_refl _) (mrow (N + N)).toList 0 _ hbel3
                generalize hAg : mrow (N + N) = A at *
                have HA := Lib.hid hAg
                clear hAg
                go_wp2_with (first | (refine wpList_load_row rfl 40 _ rfl w4.heap.size rfl 40 A (0, 0) _ hQ3 Tryd.underlying40 rfl hsz2 ?_) | (refine wpList_store_mid rfl 40 _ _ rfl w.heap.size 0 A rfl rfl hth hsz2 h1c ?_))
                go_roundw
                case rel =>
                  refine ⟨N + N, 0, _, ((y / 2 : Nat) : Int), hxl, by omega, by omega, rfl, by go_num, ?_, by rw [HA.out]; exact hover, hbel9⟩
                  rw [Int.toNat_natCast, HR.out _ (by rw [H2.out]; rfl)]; exact HH.out
                case measure => simp [intOf]; omega
        · have e0 : y.toNat = 0 := by omega
          have hj : join a b n.toNat = xa ^^^ b := by
            unfold join
            rw [← hh, e0]; rfl
          have HJ := Lib.hid hj
          have hx := xor64 xa b hxa hb
          clear hh hj
          generalize xa ^^^ b = r at *
          go_wp2
          go_ret
          exact ⟨ret_int (by rw [HJ.out]), hbel⟩
end Go.Proofs.YtjdbnobhapfakaaDoor
