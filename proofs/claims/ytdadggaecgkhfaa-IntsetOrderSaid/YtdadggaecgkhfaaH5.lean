/- Walks of the program's Add and Drop: each answers what the document's do; conditions: the number fits its kind. -/
import Derived.Test.YtdadggaecgkhfaaH4
namespace Go.Proofs.Ytdadggaecgkhfaa
open Go.RowKit Go.Proofs.YtdadggaecgkhfaaW.PrintWords Go.Proofs.YtdadggaecgkhfaaW.PrintMore
open IM PIntsetPlays
set_option linter.unusedVariables false
attribute [local go_sem ↓] Go.wp_at_zero Go.wp_at_succ
attribute [local go_sem] max2_int min2_int max_two min_two
theorem read_any (p : ByteArray) (h : IM.Good p) (w : World) :
    Calls Try.prog 37 #[.string p] w fun e w' => e = .returned (.tuple #[.agg #[.string p, .int .i64 (IM.W p : Nat), .int .i64 (IM.N p : Nat)], .bool true]) ∧ Below w.heap.size w w' := by
  obtain ⟨k, hk⟩ := (read_yes p h).rounds
  exact intset_read.calls k p _ _ _ _ w hk
theorem read_bad (p : ByteArray) (h : ¬ IM.Good p) (w : World) :
    Calls Try.prog 37 #[.string p] w fun e w' => e = .returned (.tuple #[.agg #[.string ⟨#[]⟩, .int .i64 0, .int .i64 0], .bool false]) ∧ Below w.heap.size w w' := by
  obtain ⟨k, hk⟩ := (read_no p h).rounds
  exact intset_read.calls k p _ _ _ _ w hk
/-- three results -/
abbrev res3 (r : Res) : Ending := .returned (.tuple #[.string r.1, .bool r.2.1, .int .i64 r.2.2])
set_option maxHeartbeats 1000000 in
theorem add_bad (p : ByteArray) (x : Int) (h : ¬ IM.Good p) (w : World) :
    Calls Try.prog 13 #[.string p, .int .i64 x] w fun e w' => e = .returned (.tuple #[.string ⟨#[]⟩, .bool false, .int .i64 50]) ∧ Below w.heap.size w w' := by
  have HR := Lib.hid (fun w => read_bad p h w)
  have hb0 := (Below.refl w.heap.size w).alloc (Nat.le_refl _) (.cells #[.int .i64 x] 3)
  go_enter Try.func13, Try.ntmps13
  go_wp2_with fail
  refine (HR.out _).mono ?_
  rintro e w1 ⟨rfl, hb1⟩
  have hb2 := hb0.trans (hb1.mono hb0.size)
  clear hb0 hb1
  go_wp2_with fail
  go_ret3
  exact ⟨rfl, hb2.alloc hb2.size _⟩
set_option maxHeartbeats 1000000 in
theorem add_good (p : ByteArray) (x : Int) (hg : IM.Good p) (w : World) (h1 : -9223372036854775808 ≤ x) (h2 : x ≤ 9223372036854775807) (r : Res)
    (hr : (there (els p) x = true ∧ r = (p, false, 0)) ∨ (there (els p) x = false ∧ 1048576 ≤ IM.N p ∧ r = ((⟨#[]⟩ : ByteArray), false, 3)) ∨ (there (els p) x = false ∧ IM.N p < 1048576 ∧ r = (strOfNums (encI (max (IM.W p) (needsI x)) (addL (els p) x)), true, 0))) :
    Calls Try.prog 13 #[.string p, .int .i64 x] w fun e w' => e = res3 r ∧ Below w.heap.size w w' := by
  have HR := Lib.hid (fun w => read_any p hg w)
  have HFI := Lib.hid (fun w => find_any p x hg w)
  have HG := Lib.hid hg
  have hb0 := (Below.refl w.heap.size w).alloc (Nat.le_refl _) (.cells #[.int .i64 x] 3)
  have hbn : NumIn (w.alloc (.cells #[.int .i64 x] 3)) w.heap.size x := Blk.new w 3 _
  have F0 := Lib.hid (And.intro hb0 hbn)
  have hcn := hbn.c
  have HRR := Lib.hid hr
  clear hb0 hbn hg hr
  go_enter Try.func13, Try.ntmps13
  go_wp2_with fail
  refine (HR.out _).mono ?_
  rintro e w1 ⟨rfl, hb1⟩
  have hb2 := F0.out.1.trans (hb1.mono F0.out.1.size)
  have n1 := Blk.below F0.out.2 hb1 (Blk.lt F0.out.2)
  have hA : SetIn (w1.alloc (.cells #[.string p, .int .i64 (IM.W p : Nat), .int .i64 (IM.N p : Nat)] 58)) w1.heap.size p := Blk.new w1 58 _
  have n2 : NumIn (w1.alloc (.cells #[.string p, .int .i64 (IM.W p : Nat), .int .i64 (IM.N p : Nat)] 58)) w.heap.size x := Blk.alloc n1 _
  have hb3 := hb2.alloc hb2.size (.cells #[.string p, .int .i64 (IM.W p : Nat), .int .i64 (IM.N p : Nat)] 58)
  have c0 := n2.c
  have F1 := Lib.hid (And.intro hb3 (And.intro hA n2))
  clear hb1 hb2 n1 hA n2 hb3 hcn
  go_wp2_with fail
  refine (HFI.out _).mono ?_
  rintro e w2 ⟨rfl, hb4⟩
  have hb5 := F1.out.1.trans (hb4.mono F1.out.1.size)
  have hA2 : SetIn w2 w1.heap.size p := Blk.below F1.out.2.1 hb4 (Blk.lt F1.out.2.1)
  have n3 : NumIn w2 w.heap.size x := Blk.below F1.out.2.2 hb4 (Blk.lt F1.out.2.2)
  have hb6 := hb5.alloc hb5.size (.cells #[.int .i64 (pos (els p) x : Nat)] 3)
  have hA3 : SetIn (w2.alloc (.cells #[.int .i64 (pos (els p) x : Nat)] 3)) w1.heap.size p := Blk.alloc hA2 _
  have n4 : NumIn (w2.alloc (.cells #[.int .i64 (pos (els p) x : Nat)] 3)) w.heap.size x := Blk.alloc n3 _
  have n5 : NumIn (w2.alloc (.cells #[.int .i64 (pos (els p) x : Nat)] 3)) w2.heap.size (pos (els p) x : Nat) := Blk.new w2 3 _
  have F2 := Lib.hid (And.intro hb6 (And.intro hA3 (And.intro n4 n5)))
  have e1 := hA2.c1
  have e2 := hA2.c2
  have e3 := n3.c
  have l1 : w1.heap.size < w2.heap.size := Blk.lt hA2
  have l2 : w.heap.size < w2.heap.size := Blk.lt n3
  clear hb4 hb5 hb6 hA2 n3 hA3 n4 n5 c0
  have hN := HG.out.1.2.2.1
  rcases HRR.out with ⟨ht, hr⟩ | ⟨ht, hn, hr⟩ | ⟨ht, hn, hr⟩
  · have HT := Lib.hid hr
    generalize there (els p) x = tb at *
    subst ht
    clear hr
    go_wp2_with fail
    go_ret3
    refine ⟨by rw [HT.out]; rfl, F2.out.1⟩
  · have HT := Lib.hid hr
    generalize there (els p) x = tb at *
    subst ht
    clear hr
    have hn' : decide ((1048576 : Int) ≤ (IM.N p : Int)) = true := decide_eq_true (by omega)
    clear hn hN
    go_wp2_with fail
    go_ret3
    refine ⟨by rw [HT.out]; rfl, F2.out.1⟩
  · have HT := Lib.hid hr
    generalize there (els p) x = tb at *
    subst ht
    clear hr
    have hn' : decide ((1048576 : Int) ≤ (IM.N p : Int)) = false := decide_eq_false (by omega)
    have hNs : (IM.N p : Int) + 1 ≤ 1048577 := by omega
    clear hn hN
    go_wp2_with fail
    have hneeds := needs_any x
    have HNE := Lib.hid hneeds
    clear hneeds l1 l2 e1 e2 e3
    generalize w2.alloc (.cells #[.int .i64 (pos (els p) x : Nat)] 3) = w3 at *
    have d1 := F2.out.2.1.c1
    have d2 := F2.out.2.1.c2
    have d3 := F2.out.2.2.1.c
    have hWc := HG.out.1.2.1
    have hnl := needsI_le x
    have hll : (addL (els p) x).length = IM.N p + 1 := by
      have := els_pos_le p x
      unfold addL
      simp [els_length]
      omega
    have hwa := write_add p x ((IM.N p : Int) + 1) (pos (els p) x) w1.heap.size w2.heap.size w.heap.size (max (IM.W p) (needsI x)) w3.drew HG.out.1 (els_pos_le p x) (by omega) F2.out.2.1 F2.out.2.2.2 F2.out.2.2.1
    have e9 : strOfNums (lebI ((max (IM.W p) (needsI x) : Nat) : Int) 4 ++ lebI ((IM.N p : Int) + 1) 4 ++ flat (max (IM.W p) (needsI x)) ((els p).take (pos (els p) x) ++ [x] ++ (els p).drop (pos (els p) x))) = r.1 := by
      rw [HT.out]
      unfold encI
      rw [hll]
      rfl
    rw [e9] at hwa
    have HWA := Lib.hid hwa
    have r1 : r.2.1 = true := by rw [HT.out]
    have r2 : r.2.2 = 0 := by rw [HT.out]
    have HR12 := Lib.hid (And.intro r1 r2)
    have L1 := Blk.lt F2.out.2.1
    have L2 := Blk.lt F2.out.2.2.1
    clear e9 r1 r2
    generalize hrs : r.1 = rs at *
    have HRS := Lib.hid hrs
    clear hrs
    have HLL := Lib.hid hll
    have hmax : (if IM.W p < needsI x then ((needsI x : Nat) : Int) else ((IM.W p : Nat) : Int)) = ((max (IM.W p) (needsI x) : Nat) : Int) := by split <;> omega
    have hwrap : IntKind.i64.wrap ((IM.N p : Int) + 1) = (IM.N p : Int) + 1 := by rw [IntKind.wrap_i64]; omega
    clear hWc hnl hll hwa
    go_region_held3 (fun w' => w'.cell? ⟨w1.heap.size, 1, none⟩ = some (.int .i64 (IM.W p : Nat)) ∧ w'.cell? ⟨w1.heap.size, 2, none⟩ = some (.int .i64 (IM.N p : Nat)) ∧ w'.cell? ⟨w.heap.size, 0, none⟩ = some (.int .i64 x))
      (first | exact ⟨d1, d2, d3⟩ | exact ⟨(hb7.cell L1).trans d1, (hb7.cell L1).trans d2, (hb7.cell L2).trans d3⟩)
      (first | (go_at_call 40; refine (HNE.out _ h1 h2).mono ?_; rintro e w4 ⟨rfl, rfl⟩) | (go_at_call 39; refine HWA.out.mono ?_; rintro e w5 ⟨rfl, hb7⟩))
    all_goals
      go_wp2_with fail
      go_ret3
      refine ⟨?_, F2.out.1.drew.trans (hb7.mono F2.out.1.drew.size)⟩
      show _ = Ending.returned (.tuple #[.string r.1, .bool r.2.1, .int .i64 r.2.2])
      rw [HR12.out.1, HR12.out.2, HRS.out]
      rfl
end Go.Proofs.Ytdadggaecgkhfaa
