/- Walks of the program's Drop, Has, Range and All: what each call answers; conditions: the numbers fit their kinds. -/
import Derived.Test.YtdadggaecgkhfaaH5
import Derived.Laws.MakeOwn
import Derived.Laws.Entries
namespace Go.Proofs.Ytdadggaecgkhfaa
open Go.RowKit Go.Proofs.YtdadggaecgkhfaaW.PrintWords Go.Proofs.YtdadggaecgkhfaaW.PrintMore
open IM PIntsetPlays
set_option linter.unusedVariables false
attribute [local go_sem ↓] Go.wp_at_zero Go.wp_at_succ
set_option maxHeartbeats 1000000 in
theorem drop_bad (p : ByteArray) (x : Int) (h : ¬ IM.Good p) (w : World) :
    Calls Try.prog 21 #[.string p, .int .i64 x] w fun e w' => e = .returned (.tuple #[.string ⟨#[]⟩, .bool false, .int .i64 50]) ∧ Below w.heap.size w w' := by
  have HR := Lib.hid (fun w => read_bad p h w)
  go_enter Try.func21, Try.ntmps21
  go_wp2_with fail
  refine (HR.out _).mono ?_
  rintro e w1 ⟨rfl, hb1⟩
  go_wp2_with fail
  go_ret3
  exact ⟨rfl, hb1.alloc hb1.size _⟩
set_option maxHeartbeats 1000000 in
theorem drop_good (p : ByteArray) (x : Int) (hg : IM.Good p) (w : World) (r : Res)
    (hr : (there (els p) x = false ∧ r = (p, false, 0)) ∨ (there (els p) x = true ∧ r = (strOfNums (encI (IM.W p) (dropL (els p) x)), true, 0))) :
    Calls Try.prog 21 #[.string p, .int .i64 x] w fun e w' => e = res3 r ∧ Below w.heap.size w w' := by
  have HR := Lib.hid (fun w => read_any p hg w)
  have HFI := Lib.hid (fun w => find_any p x hg w)
  have HG := Lib.hid hg
  have HRR := Lib.hid hr
  clear hg hr
  go_enter Try.func21, Try.ntmps21
  go_wp2_with fail
  refine (HR.out _).mono ?_
  rintro e w1 ⟨rfl, hb2⟩
  have hA : SetIn (w1.alloc (.cells #[.string p, .int .i64 (IM.W p : Nat), .int .i64 (IM.N p : Nat)] 58)) w1.heap.size p := Blk.new w1 58 _
  have hb3 := hb2.alloc hb2.size (.cells #[.string p, .int .i64 (IM.W p : Nat), .int .i64 (IM.N p : Nat)] 58)
  have F1 := Lib.hid (And.intro hb3 hA)
  clear hb2 hA hb3
  go_wp2_with fail
  refine (HFI.out _).mono ?_
  rintro e w2 ⟨rfl, hb4⟩
  have hb5 := F1.out.1.trans (hb4.mono F1.out.1.size)
  have hA2 : SetIn w2 w1.heap.size p := Blk.below F1.out.2 hb4 (Blk.lt F1.out.2)
  have hb6 := hb5.alloc hb5.size (.cells #[.int .i64 (pos (els p) x : Nat)] 3)
  have hA3 : SetIn (w2.alloc (.cells #[.int .i64 (pos (els p) x : Nat)] 3)) w1.heap.size p := Blk.alloc hA2 _
  have n5 : NumIn (w2.alloc (.cells #[.int .i64 (pos (els p) x : Nat)] 3)) w2.heap.size (pos (els p) x : Nat) := Blk.new w2 3 _
  have F2 := Lib.hid (And.intro hb6 (And.intro hA3 n5))
  have e1 := hA2.c1
  have e2 := hA2.c2
  have l1 : w1.heap.size < w2.heap.size := Blk.lt hA2
  clear hb4 hb5 hb6 hA2 hA3 n5
  rcases HRR.out with ⟨ht, hr⟩ | ⟨ht, hr⟩
  · have HT := Lib.hid hr
    generalize there (els p) x = tb at *
    subst ht
    clear hr
    go_wp2_with fail
    go_ret3
    refine ⟨by rw [HT.out]; rfl, F2.out.1⟩
  · have HT := Lib.hid hr
    have hlt := there_lt _ _ ht
    rw [els_length] at hlt
    have hN := HG.out.1.2.2.1
    have hll : (dropL (els p) x).length = IM.N p - 1 := by
      unfold dropL
      simp [els_length]
      omega
    have hWc := HG.out.1.2.1
    have ecast : ((IM.N p - 1 : Nat) : Int) = (IM.N p : Int) - 1 := by omega
    have hwa := write_drop p ((IM.N p : Int) - 1) (pos (els p) x) w1.heap.size w2.heap.size (IM.W p) _ HG.out.1 (els_pos_le p x) (by omega) F2.out.2.1 F2.out.2.2
    have e9 : strOfNums (lebI ((IM.W p : Nat) : Int) 4 ++ lebI ((IM.N p : Int) - 1) 4 ++ flat (IM.W p) ((els p).take (pos (els p) x) ++ (els p).drop (pos (els p) x + 1))) = r.1 := by
      rw [HT.out]
      unfold encI
      rw [hll, ecast]
      rfl
    rw [e9] at hwa
    have HWA := Lib.hid hwa
    have r1 : r.2.1 = true := by rw [HT.out]
    have r2 : r.2.2 = 0 := by rw [HT.out]
    have HR12 := Lib.hid (And.intro r1 r2)
    have hNs : (IM.N p : Int) - 1 ≤ 1048577 := by omega
    have hNs2 : (0 : Int) ≤ (IM.N p : Int) - 1 := by omega
    clear e9 r1 r2 hwa hll hWc ecast hlt hN
    generalize there (els p) x = tb at *
    subst ht
    clear hr
    generalize hrs : r.1 = rs at *
    have HRS := Lib.hid hrs
    clear hrs
    go_wp2_with fail
    refine HWA.out.mono ?_
    rintro e w5 ⟨rfl, hb7⟩
    go_wp2_with fail
    go_ret3
    refine ⟨?_, F2.out.1.trans (hb7.mono F2.out.1.size)⟩
    show _ = Ending.returned (.tuple #[.string r.1, .bool r.2.1, .int .i64 r.2.2])
    rw [HR12.out.1, HR12.out.2, HRS.out]
    rfl
open Classical in
theorem add_any (p : ByteArray) (x : Int) (w : World) (h1 : -9223372036854775808 ≤ x) (h2 : x ≤ 9223372036854775807) :
    Calls Try.prog 13 #[.string p, .int .i64 x] w fun e w' => e = res3 (addS p x) ∧ Below w.heap.size w w' := by
  by_cases hg : IM.Good p
  · refine add_good p x hg w h1 h2 _ ?_
    unfold addS
    rw [if_pos hg]
    by_cases ht : there (els p) x = true
    · exact .inl ⟨ht, by rw [if_pos ht]⟩
    · rw [if_neg ht]
      have ht' : there (els p) x = false := by simpa using ht
      by_cases hn : 1048576 ≤ IM.N p
      · exact .inr (.inl ⟨ht', hn, by rw [if_pos hn]⟩)
      · exact .inr (.inr ⟨ht', by omega, by rw [if_neg hn]⟩)
  · have e : addS p x = ((⟨#[]⟩ : ByteArray), false, 50) := by unfold addS; rw [if_neg hg]
    rw [e]
    exact add_bad p x hg w
open Classical in
theorem drop_any (p : ByteArray) (x : Int) (w : World) :
    Calls Try.prog 21 #[.string p, .int .i64 x] w fun e w' => e = res3 (dropS p x) ∧ Below w.heap.size w w' := by
  by_cases hg : IM.Good p
  · refine drop_good p x hg w _ ?_
    unfold dropS
    rw [if_pos hg]
    by_cases ht : there (els p) x = true
    · exact .inr ⟨ht, by rw [if_pos ht]⟩
    · exact .inl ⟨by simpa using ht, by rw [if_neg ht]⟩
  · have e : dropS p x = ((⟨#[]⟩ : ByteArray), false, 50) := by unfold dropS; rw [if_neg hg]
    rw [e]
    exact drop_bad p x hg w
theorem radd_any (p : ByteArray) (x : Int) (w : World) :
    Calls Try.prog 14 #[.string p, .int .i64 x] w fun e w' => e = res3 (addS p x) ∧ Below w.heap.size w w' := by
  obtain ⟨k, hk⟩ := (radd_ev p x).rounds
  exact cisternref05_Add.calls k p x _ _ _ w hk
theorem rdrop_any (p : ByteArray) (x : Int) (w : World) :
    Calls Try.prog 22 #[.string p, .int .i64 x] w fun e w' => e = res3 (dropS p x) ∧ Below w.heap.size w w' := by
  obtain ⟨k, hk⟩ := (rdrop_ev p x).rounds
  exact cisternref05_Drop.calls k p x _ _ _ w hk
end Go.Proofs.Ytdadggaecgkhfaa
