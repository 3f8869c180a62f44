/- Walks of 'in' and of the law IntsetOrder: it answers true; conditions: none. -/
import Derived.Test.YtdadggaecgkhfaaS1
import Derived.Test.YtdadggaecgkhfaaIM4
import Derived.Test.YtdadggaecgkhfaaH10
import Derived.Test.YtdadggaecgkhfaaH11
import Derived.BigQuiet
namespace Go.Proofs.Ytdadggaecgkhfaa
open Go.RowKit Go.Proofs.YtdadggaecgkhfaaW.PrintWords Go.Proofs.YtdadggaecgkhfaaW.PrintMore
open IM PIntsetPlays
set_option linter.unusedVariables false
attribute [local go_sem ↓] Go.wp_at_zero Go.wp_at_succ
attribute [local go_sem] max2_int min2_int max_two min_two
theorem c_below {w w' : World} {a : Option Addr} {n : Nat} {xs : List Int} (h : Kd.C (Kd.int .i64) w a n xs) {B : Nat} (hB : w.heap.size ≤ B) (hb : Below B w w') : Kd.C (Kd.int .i64) w' a n xs :=
  (Kd.heap_int .i64).C (fun k hlt => hb.block k (Nat.lt_of_lt_of_le hlt hB)) h
theorem rd_get (l : List Int) (k : Nat) (h : k < l.length) : rd l (k : Int) = l[k] := by unfold rd; simp [List.getD, h]
set_option maxHeartbeats 1000000 in
theorem in_yes (a : Option Addr) (n c : Nat) (xs : List Int) (x : Int) (w : World) (h : Kd.C (Kd.int .i64) w a n xs) (hx : x ∈ xs) :
    Calls Try.prog 19 #[.slice a n c, .int .i64 x] w fun e w' => e = .returned (.bool true) ∧ w' = w := by
  obtain ⟨t, ht, hxt⟩ := List.getElem_of_mem hx
  have hlen : xs.length = n := h.1
  rw [← rd_get xs t ht] at hxt
  have HI := Lib.hid h
  have hn63 : (n : Int) ≤ 9223372036854775807 := by have := h.2.1; omega
  clear h
  go_enter Try.func19, Try.ntmps19
  go_wp2_with fail
  go_loopw [5] (fun i wr => ∃ k : Nat, k ≤ t ∧ i = .int .i64 k ∧ wr = w) (fun i _ => n - (intOf i).toNat)
  case atStart => exact ⟨0, by omega, rfl, rfl⟩
  case round =>
    obtain ⟨k, hk, rfl, rfl⟩ := hrel
    obtain ⟨ad, e1, hy⟩ := Kd.at_int HI.out (k : Int) (by omega) (by omega)
    subst e1
    rw [Int.toNat_natCast] at hy
    have hk0 : (0 : Int) ≤ (k : Int) := by omega
    have hk1 : (k : Int) < (n : Int) := by omega
    have hwr : IntKind.i64.wrap ((k : Int) + 1) = (k : Int) + 1 := by rw [IntKind.wrap_i64]; omega
    have HT := Lib.hid (And.intro ht (And.intro hk hlen))
    clear hn63 HI
    by_cases he : rd xs (k : Int) = x
    · rw [he] at hy
      clear ht hxt hk hlen
      go_wp2_with fail
      go_ret
      exact ⟨rfl, rfl⟩
    · have hkt : k ≠ t := by rintro rfl; exact he hxt
      have he2 : (rd xs (k : Int) == x) = false := by simpa using he
      have he3 : decide (rd xs (k : Int) = x) = false := decide_eq_false he
      have HK := Lib.hid hkt
      generalize rd xs (k : Int) = y at *
      clear ht hxt hk hlen hkt he
      go_wp2_with fail
      go_roundw
      case rel =>
        have h1 := HT.out.2.1
        have h2 := HK.out
        first
        | exact ⟨k + 1, by omega, by go_num, rfl⟩
        | exact ⟨k + 1, by omega, by go_num, trivial⟩
      case measure =>
        have h1 := HT.out.2.1
        have h3 := HT.out.1
        have h4 := HT.out.2.2
        simp [intOf]; omega
theorem take_in (xs : List Int) (k : Nat) (h : k < xs.length) (y : Int) : y ∈ xs.take (k + 1) ↔ y = rd xs (k : Int) ∨ y ∈ xs.take k := by
  rw [rd_get xs k h, List.take_succ_eq_append_getElem h, List.mem_append, List.mem_singleton]
  exact Or.comm
theorem drop_in (xs : List Int) (k : Nat) (h : k < xs.length) (K : Nat) (hK : k < K) (y : Int) : y ∈ (xs.take K).drop k ↔ y = rd xs (k : Int) ∨ y ∈ (xs.take K).drop (k + 1) := by
  have hl : k < (xs.take K).length := by simp; omega
  rw [rd_get xs k h, List.drop_eq_getElem_cons hl]
  simp
theorem nums_get (l : List Int) (t : Nat) (h : t < l.length) : (nums .i64 l).toArray[t]? = some (.int .i64 (rd l (t : Int))) := by
  rw [rd_get l t h]
  simp [nums, h]
set_option maxRecDepth 8000 in
set_option maxHeartbeats 4000000 in
theorem law_order (a0 : Option Addr) (n c0 : Nat) (xs : List Int) (w : World) (h0 : IntsIn w a0 n xs) :
    Calls Try.prog 4 #[.slice a0 n c0] w fun e w' => e = .returned (.bool true) ∧ Below w.heap.size w w' := by
  have HN := Lib.hid (fun w => new_any w)
  have HS := Lib.hid (fun w => sure_any w)
  have HI := Lib.hid h0
  have hlen := h0.len
  obtain ⟨K, hK⟩ : ∃ K, K = min n 400 := ⟨_, rfl⟩
  have hcase : (n ≤ 400 ∧ K = n) ∨ (400 < n ∧ K = 400) := by omega
  have hKn : K ≤ n := by omega
  have hK4 : K ≤ 400 := by omega
  have hn63 : (n : Int) ≤ 9223372036854775807 := by have := h0.1.2.1; omega
  have HC := Lib.hid (And.intro hcase (And.intro hKn (And.intro hK4 (And.intro hlen hn63))))
  clear h0 hK hlen hKn hK4 hn63 hcase
  rcases HC.out.1 with ⟨hA, hB⟩ | ⟨hA, hB⟩
  all_goals
    go_enter Try.func4, Try.ntmps4
    go_wp2_with fail
    refine (HN.out _).mono ?_
    rintro e w1 ⟨rfl, ⟨n1, rfl⟩⟩
    go_wp2_with fail
    refine (HN.out _).mono ?_
    rintro e w2 ⟨rfl, ⟨n2, rfl⟩⟩
    have F1 := Lib.hid (below_drewN (below_drewN (Below.refl w.heap.size w) n1) n2)
    go_wp2_with fail
    go_loopw [5, 3] (fun i p wr => ∃ (k : Nat) (s : ByteArray) (l : List Int), k ≤ K ∧ i = .int .i64 k ∧ p = .string s ∧ Canon s l ∧ (∀ y, y ∈ l ↔ y ∈ xs.take k) ∧ l.length ≤ k ∧ Below w.heap.size w wr) (fun i _ _ => K - (intOf i).toNat)
    case atStart => exact ⟨0, s0, [], by omega, rfl, rfl, (by have h := canon0; rwa [show strOfNums (encI 2 []) = s0 from by decide +kernel] at h), by simp, by simp, by first | exact F1.out | exact below_drewN (Below.refl _ _) _⟩
    case round =>
      obtain ⟨k, s, l, hk, rfl, rfl, hc, hm, hl, hbel⟩ := hrel
      have hKn := HC.out.2.1
      have hK4 := HC.out.2.2.1
      have hlen := HC.out.2.2.2.1
      by_cases hlt : k < K
      · obtain ⟨ad, e1, hy⟩ := Kd.at_int (c_below HI.out.1 (Nat.le_refl _) hbel) (k : Int) (by omega) (by omega)
        subst e1
        rw [Int.toNat_natCast] at hy
        have hbd := HI.out.2 _ (rd_in xs k (by omega))
        have HA := Lib.hid (fun w => add_any s (rd xs (k : Int)) w hbd.1 hbd.2)
        obtain ⟨l', hc', hm', hl'⟩ := hc.add (by omega) (rd xs (k : Int)) hbd.1 hbd.2
        have HX := Lib.hid (take_in xs k (by omega))
        have HM := Lib.hid (And.intro hc' (And.intro (fun y => (hm' y).trans (by rw [hm y, HX.out y])) (show l'.length ≤ k + 1 by omega)) : Canon _ l' ∧ (∀ y, y ∈ l' ↔ y ∈ xs.take (k + 1)) ∧ l'.length ≤ k + 1)
        have F2 := Lib.hid hbel
        have HK := Lib.hid hlt
        have hk0 : (0 : Int) ≤ (k : Int) := by omega
        have hk1 : (k : Int) < (n : Int) := by omega
        have hk2 : (k : Int) < 400 := by omega
        have hwr : IntKind.i64.wrap ((k : Int) + 1) = (k : Int) + 1 := by rw [IntKind.wrap_i64]; omega
        clear hc hm hl hc' hm' hl' hbd hbel hlt hk hlen hKn hK4 HX
        generalize addS s (rd xs (k : Int)) = ra at *
        obtain ⟨ra1, ra2, ra3⟩ := ra
        generalize rd xs (k : Int) = x at *
        go_wp2_with fail
        refine (HA.out _).mono ?_
        rintro e w3 ⟨rfl, hb3⟩
        have F3 := Lib.hid (F2.out.trans (hb3.mono F2.out.size))
        clear hb3 hy
        go_wp2_with fail
        go_roundw
        case rel =>
          first
          | exact ⟨k + 1, _, l', HK.out, by go_num, rfl, HM.out.1, HM.out.2.1, HM.out.2.2, F3.out⟩
          | ((repeat apply Exists.intro); exact ⟨⟨k + 1, _, l', HK.out, rfl, rfl, HM.out.1, HM.out.2.1, HM.out.2.2, F3.out⟩, rfl⟩)
        case measure => have := HK.out; simp [intOf]; omega
      · have hkK : k = K := by omega
        subst hkK
        have P1 := Lib.hid (And.intro hc (And.intro hm (And.intro hl hbel)))
        have hwb : IntKind.i64.wrap ((n : Int) - 1) = (n : Int) - 1 := by have := HC.out.2.2.2.2; rw [IntKind.wrap_i64]; omega
        clear hc hm hl hbel hlt hk hlen
        first
        | (have hd1 : ¬ ((k : Int) < (n : Int)) := by omega
           have hd3 : decide ((k : Int) < (n : Int)) = false := decide_eq_false hd1
           have hmn : ¬ ((400 : Int) < (n : Int)) := by omega
           clear hA hB hKn hK4
           go_wp2_with fail)
        | (have hd1 : (k : Int) < (n : Int) := by omega
           have hd2 : decide ((k : Int) < 400) = false := decide_eq_false (by omega)
           have hmn : (400 : Int) < (n : Int) := by omega
           clear hA hB hKn hK4
           go_wp2_with fail)
        go_loopw [6, 4] (fun i p wr => ∃ (j : Nat) (s2 : ByteArray) (l2 : List Int), j ≤ k ∧ i = .int .i64 ((j : Int) - 1) ∧ p = .string s2 ∧ Canon s2 l2 ∧ (∀ y, y ∈ l2 ↔ y ∈ (xs.take k).drop j) ∧ l2.length ≤ k - j ∧ Below w.heap.size w wr) (fun i _ _ => (intOf i + 1).toNat)
        case atStart =>
          have hlen := HC.out.2.2.2.1
          refine ⟨k, s0, [], by omega, ?_, rfl, (by have h := canon0; rwa [show strOfNums (encI 2 []) = s0 from by decide +kernel] at h), (by simp), by simp, P1.out.2.2.2⟩
          congr 1
          have := HC.out.1
          omega
        case round =>
          obtain ⟨j, s2, l2, hj, rfl, rfl, hc, hm, hl, hbel⟩ := hrel
          have hlen := HC.out.2.2.2.1
          have hKn := HC.out.2.1
          have hK4 := HC.out.2.2.1
          clear hwb
          by_cases hj0 : 0 < j
          · obtain ⟨t, rfl⟩ : ∃ t, j = t + 1 := ⟨j - 1, by omega⟩
            have e0 : ((t + 1 : Nat) : Int) - 1 = (t : Int) := by omega
            rw [e0]
            obtain ⟨ad, e1, hy⟩ := Kd.at_int (c_below HI.out.1 (Nat.le_refl _) hbel) (t : Int) (by omega) (by omega)
            subst e1
            rw [Int.toNat_natCast] at hy
            have hbd := HI.out.2 _ (rd_in xs t (by omega))
            have HA := Lib.hid (fun w => add_any s2 (rd xs (t : Int)) w hbd.1 hbd.2)
            obtain ⟨l', hc', hm', hl'⟩ := hc.add (by omega) (rd xs (t : Int)) hbd.1 hbd.2
            have HX := Lib.hid (drop_in xs t (by omega) k (by omega))
            have HM := Lib.hid (And.intro hc' (And.intro (fun y => (hm' y).trans (by rw [hm y, HX.out y])) (show l'.length ≤ k - t by omega)) : Canon _ l' ∧ (∀ y, y ∈ l' ↔ y ∈ (xs.take k).drop t) ∧ l'.length ≤ k - t)
            have F2 := Lib.hid hbel
            have HK := Lib.hid (show t ≤ k by omega)
            have hk0 : (0 : Int) ≤ (t : Int) := by omega
            have hk1 : (t : Int) < (n : Int) := by omega
            have hwr : IntKind.i64.wrap ((t : Int) - 1) = (t : Int) - 1 := by rw [IntKind.wrap_i64]; omega
            clear hc hm hl hc' hm' hl' hbd hbel hj hlen hKn hK4 HX e0 hj0
            generalize addS s2 (rd xs (t : Int)) = ra at *
            obtain ⟨ra1, ra2, ra3⟩ := ra
            generalize rd xs (t : Int) = x at *
            go_wp2_with fail
            refine (HA.out _).mono ?_
            rintro e w3 ⟨rfl, hb3⟩
            have F3 := Lib.hid (F2.out.trans (hb3.mono F2.out.size))
            clear hb3 hy
            go_wp2_with fail
            go_roundw
            case rel =>
              first
              | exact ⟨t, _, l', HK.out, rfl, rfl, HM.out.1, HM.out.2.1, HM.out.2.2, F3.out⟩
              | ((repeat apply Exists.intro); exact ⟨⟨t, _, l', HK.out, rfl, rfl, HM.out.1, HM.out.2.1, HM.out.2.2, F3.out⟩, rfl⟩)
            case measure => simp [intOf]
          · obtain rfl : j = 0 := by omega
            have hll : l2 = l := by
              obtain ⟨_, _, _, _, _, hs1⟩ := hc
              obtain ⟨_, _, _, _, _, hs2⟩ := P1.out.1
              exact sorted_ext l2 l hs1 hs2 (fun y => by rw [hm y, P1.out.2.1 y, List.drop_zero])
            subst hll
            obtain rfl : s2 = s := hc.same P1.out.1
            have hl400 : l2.length ≤ 1048576 := by omega
            obtain ⟨hg, he⟩ := hc.good hl400
            have hNs : IM.N s2 = l2.length := by rw [← els_length, he]
            have HALL := Lib.hid (fun w => all_good s2 hg w)
            have hv : validS s2 = 0 := by unfold validS; rw [if_pos hg]
            have HV := Lib.hid (fun w => valid_any s2 w)
            rw [hv] at HV
            have HG := Lib.hid (And.intro hg (And.intro he (And.intro hNs hl400)))
            have hs1 : l2.Pairwise (· < ·) := by obtain ⟨_, _, _, _, _, h⟩ := hc; exact h
            have HL := Lib.hid (And.intro hs1 (fun y => (hm y).trans (by rw [List.drop_zero]) : ∀ y, y ∈ l2 ↔ y ∈ xs.take k))
            have F2 := Lib.hid hbel
            clear hm hl hbel hj hlen hKn hK4 hj0 hg he hNs hl400 hv hs1 P1 hc
            rw [show ((0 : Nat) : Int) - 1 = -1 from rfl]
            go_wp2_with fail
            refine (HALL.out _).mono ?_
            rintro e w4 ⟨g, rfl, hB, hge, hb4⟩
            rw [HG.out.2.1] at hB
            rw [HG.out.2.2.1]
            have F4 := Lib.hid (And.intro hB (And.intro (Nat.le_trans F2.out.size hge) (F2.out.trans (hb4.mono F2.out.size))))
            clear hB hge hb4
            go_wp2_with fail
            refine (HV.out _).mono ?_
            rintro e w5 ⟨rfl, hb5⟩
            have F5 := Lib.hid (And.intro (F4.out.1.below hb5 F4.out.1.lt) (F4.out.2.2.trans (hb5.mono F4.out.2.2.size)))
            clear hb5
            go_wp2_with fail
            have hm63 : (l2.length : Int) ≤ 9223372036854775807 := by have := HG.out.2.2.2; omega
            have HM63 := Lib.hid hm63
            clear hm63
            generalize hmm : l2.length = m at *
            have HMM := Lib.hid hmm
            clear hmm
            go_loopw [9] (fun i wr => ∃ t : Nat, t ≤ m ∧ i = .int .i64 t ∧ Blk wr g 3 (nums .i64 l2).toArray ∧ Below w.heap.size w wr) (fun i _ => m - (intOf i).toNat)
            case atStart => exact ⟨0, by omega, rfl, F5.out.1, F5.out.2⟩
            case round =>
              obtain ⟨t, ht, rfl, hB, hbel⟩ := hrel
              have hm1 := HMM.out
              by_cases hlt : t < m
              · have hin : rd l2 (t : Int) ∈ xs := List.mem_of_mem_take ((HL.out.2 _).mp (rd_in l2 t (by omega)))
                have HIN := Lib.hid (fun (w' : World) (hb' : Below w.heap.size w w') => in_yes a0 n c0 xs (rd l2 (t : Int)) w' (c_below HI.out.1 (Nat.le_refl _) hb') hin)
                have c1 := (hB.cell t).trans (nums_get l2 t (by omega))
                have hk0 : (0 : Int) ≤ (t : Int) := by omega
                have hk1 : (t : Int) < (m : Int) := by omega
                have hwr : IntKind.i64.wrap ((t : Int) + 1) = (t : Int) + 1 := by have := HM63.out; rw [IntKind.wrap_i64]; omega
                have F6 := Lib.hid (And.intro hB hbel)
                have HT := Lib.hid hlt
                rcases Nat.eq_zero_or_pos t with ht0 | hpos
                · have hp0 : decide ((0 : Int) < (t : Int)) = false := decide_eq_false (by omega)
                  have hp1 : decide (0 < t) = false := decide_eq_false (by omega)
                  clear hB hbel hin hlt ht hm1 ht0
                  generalize rd l2 (t : Int) = x at *
                  go_wp2_with fail
                  go_quiet (first | (go_at_call 19; refine Calls.quiet_of_same (HIN.out _ (below_drewN F6.out.2 _))))
                  go_wp2_with fail
                  go_roundw
                  case rel =>
                    first
                    | exact ⟨t + 1, HT.out, by go_num, F6.out.1, below_drewN F6.out.2 _⟩
                    | ((repeat apply Exists.intro); exact ⟨⟨t + 1, HT.out, rfl, F6.out.1, below_drewN F6.out.2 _⟩, rfl⟩)
                  case measure => have := HT.out; simp [intOf]; omega
                · have hq : IntKind.i64.wrap ((t : Int) - 1) = ((t - 1 : Nat) : Int) := by have := HM63.out; rw [IntKind.wrap_i64]; omega
                  have c2 := (hB.cell (t - 1)).trans (nums_get l2 (t - 1) (by omega))
                  have hlt2 : rd l2 ((t - 1 : Nat) : Int) < rd l2 (t : Int) := by
                    rw [rd_get l2 (t - 1) (by omega), rd_get l2 t (by omega)]
                    exact List.pairwise_iff_getElem.mp HL.out.1 (t - 1) t (by omega) (by omega) (by omega)
                  have hd1 : decide (rd l2 (t : Int) ≤ rd l2 ((t - 1 : Nat) : Int)) = false := decide_eq_false (by omega)
                  have hd2 : ¬ (rd l2 (t : Int) ≤ rd l2 ((t - 1 : Nat) : Int)) := by omega
                  have hq0 : (0 : Int) ≤ ((t - 1 : Nat) : Int) := by omega
                  have hq1 : ((t - 1 : Nat) : Int) < (m : Int) := by omega
                  have hp0 : (0 : Int) < (t : Int) := by omega
                  have hp1 : decide ((0 : Int) < (t : Int)) = true := decide_eq_true hp0
                  have hp2 : decide (0 < t) = true := decide_eq_true hpos
                  have hp3 : 0 < t := hpos
                  clear hB hbel hin hlt ht hm1 hlt2 hpos
                  generalize rd l2 ((t - 1 : Nat) : Int) = y at *
                  generalize rd l2 (t : Int) = x at *
                  generalize t - 1 = q at *
                  go_wp2_with fail
                  go_quiet (first | (go_at_call 19; refine Calls.quiet_of_same (HIN.out _ (below_drewN F6.out.2 _))))
                  go_wp2_with fail
                  go_roundw
                  case rel =>
                    first
                    | exact ⟨t + 1, HT.out, by go_num, F6.out.1, below_drewN F6.out.2 _⟩
                    | ((repeat apply Exists.intro); exact ⟨⟨t + 1, HT.out, rfl, F6.out.1, below_drewN F6.out.2 _⟩, rfl⟩)
                  case measure => have := HT.out; simp [intOf]; omega
              · have F6 := Lib.hid (And.intro hB hbel)
                have hd0 : ¬ ((t : Int) < (m : Int)) := by omega
                have hd1 : decide ((t : Int) < (m : Int)) = false := decide_eq_false hd0
                clear hB hbel hlt ht hm1
                go_wp2_with fail
                clear hd1 hd0
                go_loopw [10] (fun i wr => ∃ u : Nat, u ≤ k ∧ i = .int .i64 u ∧ Blk wr g 3 (nums .i64 l2).toArray ∧ Below w.heap.size w wr) (fun i _ => k - (intOf i).toNat)
                case atStart => exact ⟨0, by omega, rfl, F6.out.1, F6.out.2⟩
                case round =>
                  obtain ⟨u, hu, rfl, hB, hbel⟩ := hrel
                  have hlen := HC.out.2.2.2.1
                  have hKn := HC.out.2.1
                  have hK4 := HC.out.2.2.1
                  by_cases hlt : u < k
                  · have hin2 : rd xs (u : Int) ∈ xs.take k := by
                      rw [rd_get xs u (by omega)]
                      exact List.mem_take_iff_getElem.mpr ⟨u, by omega, rfl⟩
                    have hin : rd xs (u : Int) ∈ l2 := (HL.out.2 _).mpr hin2
                    have hhas : hasS s2 (rd xs (u : Int)) = true := by
                      unfold hasS
                      rw [if_pos HG.out.1, HG.out.2.1]
                      exact mem_there _ l2 HL.out.1 hin
                    have HH := Lib.hid (fun w => has_any s2 (rd xs (u : Int)) w)
                    rw [hhas] at HH
                    have hm1 := HMM.out
                    have HIN := Lib.hid (fun (w' : World) (hb' : Blk w' g 3 (nums .i64 l2).toArray) => in_yes (some ⟨g, 0, none⟩) m m l2 (rd xs (u : Int)) w' (by have h := C_of_blk hb' (by have := HG.out.2.2.2; omega); rwa [HMM.out] at h) hin)
                    obtain ⟨ad, e1, hy⟩ := Kd.at_int (c_below HI.out.1 (Nat.le_refl _) hbel) (u : Int) (by omega) (by omega)
                    subst e1
                    rw [Int.toNat_natCast] at hy
                    have F7 := Lib.hid (And.intro hB hbel)
                    have HU := Lib.hid hlt
                    have hk0 : (0 : Int) ≤ (u : Int) := by omega
                    have hk1 : (u : Int) < (n : Int) := by omega
                    have hk2 : (u : Int) < 400 := by omega
                    have hwr : IntKind.i64.wrap ((u : Int) + 1) = (u : Int) + 1 := by rw [IntKind.wrap_i64]; omega
                    clear hB hbel hin hin2 hhas hlt hu hm1 hlen hKn hK4
                    generalize rd xs (u : Int) = x at *
                    go_wp2_with fail
                    refine (HH.out _).mono ?_
                    rintro e w6 ⟨rfl, hb6⟩
                    have F8 := Lib.hid (And.intro (F7.out.1.below hb6 F7.out.1.lt) (F7.out.2.trans (hb6.mono F7.out.2.size)))
                    have hy2 := (hb6.cell (block_lt_of_cell hy)).trans hy
                    clear hb6 hy
                    go_wp2_with fail
                    refine (HIN.out _ F8.out.1).mono ?_
                    rintro e w7 ⟨rfl, rfl⟩
                    clear hk2
                    go_wp2_with fail
                    go_roundw
                    case rel =>
                      first
                      | exact ⟨u + 1, HU.out, by go_num, F8.out.1, F8.out.2⟩
                      | ((repeat apply Exists.intro); exact ⟨⟨u + 1, HU.out, rfl, F8.out.1, F8.out.2⟩, rfl⟩)
                    case measure => have := HU.out; simp [intOf]; omega
                  · have hc := HC.out.1
                    have F7 := Lib.hid hbel
                    clear hB hbel
                    first
                    | (have hd1 : ¬ ((u : Int) < (n : Int)) := by omega
                       have hd3 : decide ((u : Int) < (n : Int)) = false := decide_eq_false hd1
                       clear hc hu hlen hKn hK4 hlt
                       go_wp2_with fail)
                    | (have hd1 : (u : Int) < (n : Int) := by omega
                       have hd2 : decide ((u : Int) < 400) = false := decide_eq_false (by omega)
                       clear hc hu hlen hKn hK4 hlt
                       go_wp2_with fail)
                    refine (HS.out _).mono ?_
                    rintro e w6 ⟨rfl, hb6⟩
                    go_wp2_with fail
                    go_ret
                    exact ⟨rfl, F7.out.trans (hb6.mono F7.out.size)⟩
end Go.Proofs.Ytdadggaecgkhfaa
