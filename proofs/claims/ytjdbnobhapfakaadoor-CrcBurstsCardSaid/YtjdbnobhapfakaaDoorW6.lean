/- Walks of both 'Join'. -/
import Derived.Test.YtjdbnobhapfakaaDoorW5
import Derived.Test.YtjdbnobhapfakaaDoorBlk
namespace Go.Proofs.YtjdbnobhapfakaaDoor
open Go.RowKit
open CrcM
set_option linter.unusedVariables false
theorem ofInt_i64 (a : Nat) (ha : a < 9223372036854775808) : (BitVec.ofInt 64 (a : Int)).toNat = a := by
  rw [BitVec.ofInt_natCast, BitVec.toNat_ofNat]; exact Nat.mod_eq_of_lt (by omega)
theorem i64_and_nat (a b : Nat) (ha : a < 9223372036854775808) (hb : b < 9223372036854775808) : bits .and .i64 (a : Int) (b : Int) = ((a &&& b : Nat) : Int) := by
  have hx : a &&& b < 2 ^ 63 := Nat.and_lt_two_pow _ (by omega)
  show IntKind.i64.wrap ((BitVec.ofInt 64 (a : Int) &&& BitVec.ofInt 64 (b : Int)).toNat : Int) = _
  rw [BitVec.toNat_and, ofInt_i64 a ha, ofInt_i64 b hb, IntKind.wrap_i64]
  omega
def fillA (N k : Nat) : Array Value := ((List.range 64).map fun i => Value.int .u64 ((if i < k then row N i else 0 : Nat) : Int)).toArray
theorem fillA_size (N k : Nat) : (fillA N k).size = 64 := by simp [fillA]
theorem fillA_at (N k : Nat) (h : k < 64) : (fillA N k)[k]? = some (.int .u64 0) := by simp [fillA, h]
theorem fillA_next (N k : Nat) (h : k < 64) : (fillA N k).setIfInBounds k (.int .u64 (row N k : Nat)) = fillA N (k + 1) := by
  apply Array.ext'
  apply List.ext_getElem?
  intro i
  simp only [fillA, Array.toList_setIfInBounds, List.getElem?_set, List.length_map, List.length_range, List.getElem?_map]
  by_cases hi : k = i
  · subst hi; simp [h]
  · simp only [hi, if_false]
    by_cases h8 : i < 64
    · have : (i < k + 1) = (i < k) := by simp; omega
      simp [h8, this]
    · rw [List.getElem?_eq_none (by simp; omega)]; rfl
theorem fillA_full (N k : Nat) (h : 64 ≤ k) : fillA N k = mrow N := by
  unfold fillA mrow
  have e : (List.range 64).map (fun i => Value.int .u64 ((if i < k then row N i else 0 : Nat) : Int)) = (List.range 64).map (fun i => Value.int .u64 (row N i : Nat)) :=
    List.map_congr_left fun i hi => by
      have hlt : i < k := Nat.lt_of_lt_of_le (by simpa using hi) h
      rw [if_pos hlt]
  rw [e]
theorem wrap_pow (k : Nat) (h : k < 64) : IntKind.u64.wrap ((2 : Int) ^ k) = ((2 ^ k : Nat) : Int) := by
  have hp : 2 ^ k < 18446744073709551616 := Nat.pow_lt_pow_right (by decide) h
  rw [IntKind.wrap_u64, show ((2 : Int) ^ k) = ((2 ^ k : Nat) : Int) from by simp]
  generalize 2 ^ k = p at *
  omega
/-- one round of Join: an odd count takes one step more, the matrix is squared, the count halved -/
theorem join_round (N y xa xb : Nat) (h : xb = if y % 2 = 1 then halfs N xa else xa) : halfs ((N + N) * (y / 2)) xb = halfs (N * y) xa := by
  rcases Nat.mod_two_eq_zero_or_one y with hy | hy
  · rw [hy, if_neg (by decide)] at h
    subst h
    congr 1
    rw [← Nat.mul_two, Nat.mul_assoc]
    congr 1
    omega
  · rw [hy, if_pos rfl] at h
    subst h
    rw [← halfs_add]
    congr 1
    have e : y = 1 + 2 * (y / 2) := by omega
    conv => rhs; rw [e, Nat.mul_add, Nat.mul_one, ← Nat.mul_assoc, Nat.mul_two]
theorem Tab.alloc {w : World} (h : Tab w) (h0 : 0 < w.heap.size) (o : Obj) : Tab (w.alloc o) := fun i hi => by
  rw [World.cell?_alloc_lt w o _ (by exact h0)]; exact h i hi
set_option maxHeartbeats 1000000 in
theorem join_any (a b : Nat) (n : Int) (w : World) (ha : a < 18446744073709551616) (hb : b < 18446744073709551616) (hn1 : -9223372036854775808 ≤ n) (hn2 : n ≤ 9223372036854775807) (ht : Tab w) (h0 : 0 < w.heap.size) :
    Calls Tryd.prog 18 #[.int .u64 a, .int .u64 b, .int .i64 n] w fun e w' => e = .returned (.int .u64 (join a b n.toNat : Nat)) ∧ Below w.heap.size w w' := by
  go_enter Tryd.func18, Tryd.ntmps18
  go_wp2
  go_loopw [11] (fun i wr => ∃ k : Nat, k ≤ 64 ∧ i = .int .i64 k ∧ wr = w.alloc (.cells (fillA 8 k) 41)) (fun i _ => 64 - (intOf i).toNat)
  case atStart => exact ⟨0, by omega, rfl, rfl⟩
  case round =>
    obtain ⟨k, hk, rfl, rfl⟩ := hrel
    by_cases hlt : k < 64
    · have hA := fillA_at 8 k hlt
      have hn := Lib.hid (fillA_next 8 k hlt)
      have hf := row_first k
      have hp : 2 ^ k < 18446744073709551616 := Nat.pow_lt_pow_right (by decide) hlt
      have ht2 := ht.alloc h0 (.cells (fillA 8 k) 41)
      generalize fillA 8 k = A at *
      have hw := wrap_pow k hlt
      generalize 2 ^ k = p at *
      generalize row 8 k = r at *
      have hup := upd_any p ⟨#[0]⟩ (w.alloc (.cells A 41)) hp (by decide) ht2
      have e1 : upd p (ByteArray.mk #[0]).data.toList = r := hf
      rw [e1] at hup
      have HU := Lib.hid hup
      clear hup e1 hf ht2 ht
      go_wp2_with (go_at_call 11; refine HU.out.mono ?_; rintro e w' ⟨rfl, rfl⟩)
      go_roundw
      case rel => exact ⟨k + 1, by omega, by go_num, by rw [← hn.out]⟩
      case measure => simp [intOf]; omega
    · have hge : 64 ≤ k := by omega
      rw [fillA_full 8 k hge]
      have hB := Blk.new w 41 (mrow 8)
      have hbel := (Below.refl w.heap.size w).alloc (Nat.le_refl _) (.cells (mrow 8) 41)
      have hsz : w.heap.size < (w.alloc (.cells (mrow 8) 41)).heap.size := by simp
      generalize w.alloc (.cells (mrow 8) 41) = w1 at *
      go_wp2
      go_loopw [0, 2] (fun x m wr => ∃ (N z : Nat) (xa : Nat) (y : Int), xa < 18446744073709551616 ∧ -9223372036854775808 ≤ y ∧ y ≤ 9223372036854775807 ∧ x = .int .u64 xa ∧ m = .int .i64 y ∧ halfs (N * y.toNat) xa = halfs (8 * n.toNat) a ∧ Blk wr w.heap.size 41 (mrow N) ∧ Below w.heap.size w wr) (fun _ m _ => (intOf m).toNat)
      case atStart => exact ⟨8, 0, a, n, ha, hn1, hn2, rfl, rfl, rfl, hB, hbel⟩
      case round =>
        clear hB hbel hsz hn1 hn2
        obtain ⟨N, z, xa, y, hxa, hy1, hy2, rfl, rfl, hh, hB, hbel⟩ := hrel
        by_cases hy : 0 < y
        · obtain ⟨y, rfl⟩ : ∃ m : Nat, y = m := ⟨y.toNat, by omega⟩
          rw [Int.toNat_natCast] at hh
          have hdy1 : decide ((0 : Int) < (y : Int)) = true := decide_eq_true hy
          have hdy2 : decide (0 < y) = true := decide_eq_true (by omega)
          have ha1 : bits .and .i64 (y : Int) 1 = ((y % 2 : Nat) : Int) := by
            have := i64_and_nat y 1 (by omega) (by decide)
            rwa [nat_mask1] at this
          have hjr := join_round N y xa
          have HH := Lib.hid hh
          have HR := Lib.hid hjr
          have hxl := halfs_lt N hxa
          have hM : Mat wr w.heap.size N := fun i hi => by rw [hB.cell i]; exact mrow_at N i hi
          have htm := Lib.hid (times_any w.heap.size N xa wr hxa hM)
          clear hM hh hjr ht
          rcases Nat.mod_two_eq_zero_or_one y with hy2 | hy2
          all_goals
            rw [hy2] at ha1
            have H2 := Lib.hid hy2
            clear hy2
            go_wp2_with (go_at_call 21; refine htm.out.mono ?_; rintro e w' ⟨rfl, rfl⟩)
            go_loopw [29] (fun i w3 => ∃ k : Nat, k ≤ 64 ∧ i = .int .i64 k ∧ w3 = wr.alloc (.cells (fillA (N + N) k) 41)) (fun i _ => 64 - (intOf i).toNat)
            case atStart => exact ⟨0, by omega, rfl, rfl⟩
            case round =>
              obtain ⟨k, hk, rfl, rfl⟩ := hrel
              by_cases hlt : k < 64
              · have hA := fillA_at (N + N) k hlt
                have hn := Lib.hid (fillA_next (N + N) k hlt)
                have hq := row_square N k
                have hrl := row_lt N k hlt
                have hc0 : wr.cell? ⟨w.heap.size, k, none⟩ = some (.int .u64 (row N k : Nat)) := by rw [hB.cell k]; exact mrow_at N k hlt
                have hltB := hB.lt
                generalize fillA (N + N) k = A at *
                have hM2 : Mat (wr.alloc (.cells A 41)) w.heap.size N := fun i hi => by rw [(hB.alloc _).cell i]; exact mrow_at N i hi
                have htm2 := times_any w.heap.size N (row N k) _ hrl hM2
                rw [hq] at htm2
                have hT2 := Lib.hid htm2
                clear htm2 hM2 hq
                generalize row (N + N) k = r2 at *
                generalize row N k = r1 at *
                go_wp2_with (go_at_call 21; refine hT2.out.mono ?_; rintro e w' ⟨rfl, rfl⟩)
                go_roundw
                case rel =>
                  first
                  | exact ⟨k + 1, by omega, by go_num, by rw [← hn.out]⟩
                  | ((repeat apply Exists.intro); exact ⟨⟨k + 1, by omega, rfl, by rw [← hn.out]⟩, rfl⟩)
                case measure => simp [intOf]; omega
              · have hge : 64 ≤ k := by omega
                rw [fillA_full (N + N) k hge]
                have hB2 := Blk.new wr 41 (mrow (N + N))
                have hB1 := hB.alloc (.cells (mrow (N + N)) 41)
                have hbel2 := hbel.alloc hbel.size (.cells (mrow (N + N)) 41)
                have hsz2 : (Tryd.prog.info? 41).map (·.size) = some (mrow (N + N)).size := by rw [mrow_size]; kernel_rfl
                have hth := hB1.there (mrow (N + N)).size (by rw [mrow_size, mrow_size]; exact Nat.le_refl _)
                have h1c : (mrow (N + N)).all (·.oneCell') = true := by simp [mrow, Value.oneCell']
                have hover := hB1.over (mrow (N + N)) (by rw [mrow_size, mrow_size])
                have hbel3 := below_setCells w.heap.size (Nat.le_refl _) (mrow (N + N)).toList 0 _ hbel2
                have hszm := mrow_size (N + N)
                have Hszm := Lib.hid hszm
                clear hszm
                generalize wr.alloc (.cells (mrow (N + N)) 41) = w3 at *
                generalize hAg : mrow (N + N) = A at *
                have HA := Lib.hid hAg
                clear hAg
                go_wp2_with (first | (refine wpList_load_row rfl 41 _ rfl wr.heap.size rfl 41 A (0, 0) _ hB2 Tryd.underlying41 rfl hsz2 ?_) | (refine wpList_store_mid rfl 41 _ _ rfl w.heap.size 0 A rfl rfl hth hsz2 h1c ?_))
                go_roundw
                case rel =>
                  refine ⟨N + N, 0, _, ((y / 2 : Nat) : Int), ?_, by omega, by omega, rfl, by go_num, ?_, by rw [HA.out]; exact hover, hbel3⟩
                  · first | exact hxa | exact hxl
                  · rw [Int.toNat_natCast, HR.out _ (by rw [H2.out]; rfl)]; exact HH.out
                case measure => simp [intOf]; omega
        · have e0 : y.toNat = 0 := by omega
          have hj : join a b n.toNat = xa ^^^ b := by
            unfold join
            rw [← hh, e0]; rfl
          have HJ := Lib.hid hj
          have hx := xor64 xa b hxa hb
          clear hh hj
          generalize xa ^^^ b = r at *
          go_wp2
          go_ret
          exact ⟨ret_int (by rw [HJ.out]), hbel⟩
end Go.Proofs.YtjdbnobhapfakaaDoor
