/- Walks of the program's All, Has and Range: what each call answers; conditions: the numbers fit their kinds. -/
import Derived.Test.YtdadggaecgkhfaaH6
namespace Go.Proofs.Ytdadggaecgkhfaa
open Go.RowKit Go.Proofs.YtdadggaecgkhfaaW.PrintWords Go.Proofs.YtdadggaecgkhfaaW.PrintMore
open IM PIntsetPlays
set_option linter.unusedVariables false
attribute [local go_sem ↓] Go.wp_at_zero Go.wp_at_succ
theorem run_make_rowN {P : Program} (t e : TypeId) (i : TypeInfo) (z : Value) (ht : P.underlying t = some (.slice e)) (hi : P.info? e = some i) (hz : i.zero = some z)
    (kl kc : IntKind) (n c : Nat) (hnc : n ≤ c) (hbytes : i.bytes * c ≤ 281474976710656) (h63 : c ≤ 9223372036854775807) (w : World) :
    (Instr.makeSlice t (.int kl (n : Int)) (.int kc (c : Int))).run P w = .ok (.slice (some ⟨w.heap.size, 0, none⟩) n c) (w.alloc (.cells (madeCells z.cells (c * i.size)) e)) := by
  have hb : (i.bytes : Int) * (c : Int) ≤ 281474976710656 := by
    have h : ((i.bytes * c : Nat) : Int) ≤ 281474976710656 := by omega
    rwa [Int.natCast_mul] at h
  have hr := run_make (P := P) w t e i z ht hi hz kl kc n c (by omega) (by omega) hb (by omega)
  simp only [Int.toNat_natCast] at hr
  exact hr
theorem info3 : (Try.prog.info? 3).map (fun i => (i.zero, i.size, i.bytes)) = some (some (.int .i64 0), 1, 8) := by kernel_rfl
/-- the row of All after k rounds -/
def allA (p : ByteArray) (k : Nat) : Array Value := ((List.range (IM.N p)).map fun i => Value.int .i64 (if i < k then el p (IM.W p) i else 0)).toArray
theorem allA_at (p : ByteArray) (k : Nat) (h : k < IM.N p) : (allA p k)[k]? = some (.int .i64 0) := by simp [allA, h]
theorem allA_size (p : ByteArray) (k : Nat) : (allA p k).size = IM.N p := by simp [allA]
theorem allA_next (p : ByteArray) (k : Nat) (h : k < IM.N p) : (allA p k).setIfInBounds k (.int .i64 (el p (IM.W p) k)) = allA p (k + 1) := by
  apply Array.ext'
  apply List.ext_getElem?
  intro i
  simp only [allA, Array.toList_setIfInBounds, List.getElem?_set, List.length_map, List.length_range, List.getElem?_map]
  by_cases hi : k = i
  · subst hi; simp [h]
  · simp only [hi, if_false]
    by_cases h8 : i < IM.N p
    · have : (i < k + 1) = (i < k) := by simp; omega
      simp [h8, this]
    · rw [List.getElem?_eq_none (by simp; omega)]; rfl
theorem allA_zero (p : ByteArray) : madeCells (Value.int .i64 0).cells (IM.N p * 1) = allA p 0 := by
  apply Array.ext
  · rw [size_madeCells, allA_size, Nat.mul_one]
  · intro i h1 h2
    simp [madeCells, allA, Value.cells, Nat.mod_one]
theorem allA_full (p : ByteArray) (k : Nat) (h : IM.N p ≤ k) : allA p k = (nums .i64 (els p)).toArray := by
  unfold allA nums els
  rw [List.map_map]
  congr 1
  apply List.map_congr_left
  intro i hi
  have : i < k := by have : i < IM.N p := by simpa using hi
                     omega
  simp [this]
/-- what All leaves: a row of its own with the numbers -/
def AllIs (p : ByteArray) (w : World) (e : Ending) (w' : World) : Prop :=
  ∃ g, e = .returned (.tuple #[.slice (some ⟨g, 0, none⟩) (IM.N p) (IM.N p), .int .i64 0]) ∧ Blk w' g 3 (nums .i64 (els p)).toArray ∧ w.heap.size ≤ g ∧ Below w.heap.size w w'
set_option maxHeartbeats 1000000 in
theorem all_bad (p : ByteArray) (h : ¬ IM.Good p) (w : World) :
    Calls Try.prog 17 #[.string p] w fun e w' => e = .returned (.tuple #[.slice none 0 0, .int .i64 50]) ∧ Below w.heap.size w w' := by
  have HR := Lib.hid (fun w => read_bad p h w)
  go_enter Try.func17, Try.ntmps17
  go_wp2_with fail
  refine (HR.out _).mono ?_
  rintro e w1 ⟨rfl, hb1⟩
  go_wp2_with fail
  go_ret2
  exact ⟨rfl, hb1.alloc hb1.size _⟩
set_option maxHeartbeats 1000000 in
theorem all_good (p : ByteArray) (hg : IM.Good p) (w : World) : Calls Try.prog 17 #[.string p] w (AllIs p w) := by
  have HR := Lib.hid (fun w => read_any p hg w)
  have HG := Lib.hid hg
  obtain ⟨i0, hi, hz0, hz1, hz2⟩ := info_parts info3
  have hN := hg.1.2.2.1
  have hmk := fun W => run_make_rowN (P := Try.prog) 29 3 i0 (.int .i64 0) Try.underlying29 hi hz0 .i64 .i64 (IM.N p) (IM.N p) (Nat.le_refl _) (by rw [hz2]; omega) (by omega) W
  rw [hz1, allA_zero p] at hmk
  clear hg hi hz0 hz1 hz2
  go_enter Try.func17, Try.ntmps17
  go_wp2_with fail
  refine (HR.out _).mono ?_
  rintro e w1 ⟨rfl, hb2⟩
  have hA : SetIn (w1.alloc (.cells #[.string p, .int .i64 (IM.W p : Nat), .int .i64 (IM.N p : Nat)] 58)) w1.heap.size p := Blk.new w1 58 _
  have hb3 := hb2.alloc hb2.size (.cells #[.string p, .int .i64 (IM.W p : Nat), .int .i64 (IM.N p : Nat)] 58)
  have F1 := Lib.hid (And.intro hb3 hA)
  clear hb2 hA hb3
  have hl0 : (IM.N p : Int) ≤ 1048576 := by omega
  have b1 := (Blk.alloc (t := 58) (cs := #[.string p, .int .i64 (IM.W p : Nat), .int .i64 (IM.N p : Nat)]) F1.out.2 (.cells (allA p 0) 3))
  have b2 := Blk.new (w1.alloc (.cells #[.string p, .int .i64 (IM.W p : Nat), .int .i64 (IM.N p : Nat)] 58)) 3 (allA p 0)
  rw [show (w1.alloc (.cells #[.string p, .int .i64 (IM.W p : Nat), .int .i64 (IM.N p : Nat)] 58)).heap.size = w1.heap.size + 1 from by simp] at b2
  have b3 := F1.out.1.alloc F1.out.1.size (.cells (allA p 0) 3)
  have F2 := Lib.hid (And.intro b1 (And.intro b2 b3))
  have hle := F1.out.1.size
  have hsz : (w1.alloc (.cells #[.string p, .int .i64 (IM.W p : Nat), .int .i64 (IM.N p : Nat)] 58)).heap.size = w1.heap.size + 1 := by simp
  rw [hsz] at hle
  clear b1 b2 b3 hsz hN
  go_wp2_with fail
  clear hmk
  go_loopw [20] (fun i wr => ∃ k : Nat, k ≤ IM.N p ∧ i = .int .i64 k ∧ Blk wr (w1.heap.size + 1) 3 (allA p k) ∧ SetIn wr w1.heap.size p ∧ Below w.heap.size w wr) (fun i _ => IM.N p - (intOf i).toNat)
  case atStart => exact ⟨0, by omega, rfl, F2.out.2.1, F2.out.1, F2.out.2.2⟩
  case round =>
    obtain ⟨k, hk, rfl, hB, hA, hbel⟩ := hrel
    by_cases hlt : k < IM.N p
    · have c0 := hA.c0
      have c1 := hA.c1
      have c2 := hA.c2
      have HT := Lib.hid (fun W => shape_at p HG.out.1 k hlt W)
      have hn := Lib.hid (allA_next p k hlt)
      have hat := Lib.hid (allA_at p k hlt)
      have F3 := Lib.hid (And.intro hB (And.intro hA hbel))
      have hk0 : (0 : Int) ≤ (k : Int) := by omega
      have hk1 : (k : Int) < (IM.N p : Int) := by omega
      clear hB hA hbel
      generalize el p (IM.W p) k = y at *
      go_wp2_with fail
      refine (HT.out _).mono ?_
      rintro e w2 ⟨rfl, hb4⟩
      have b1 := F3.out.1.below hb4 F3.out.1.lt
      have b2 := Blk.below F3.out.2.1 hb4 (Blk.lt F3.out.2.1)
      have b3 := F3.out.2.2.trans (hb4.mono F3.out.2.2.size)
      have hc := (b1.cell k).trans hat.out
      have hf := b1.frozen k
      have d1 := b1.set_ k (.int .i64 y)
      rw [hn.out] at d1
      have d2 := Blk.far (p := ⟨w1.heap.size + 1, k, none⟩) b2 (by simp) (.int .i64 y)
      have d3 := b3.setCell (p := ⟨w1.heap.size + 1, k, none⟩) hle (.int .i64 y)
      have F4 := Lib.hid (And.intro d1 (And.intro d2 d3))
      clear b1 b2 b3 d1 d2 d3 hb4
      go_wp2_with fail
      go_roundw
      case rel =>
        first
        | exact ⟨k + 1, by omega, by go_num, F4.out.1, F4.out.2.1, F4.out.2.2⟩
        | ((repeat apply Exists.intro); exact ⟨⟨k + 1, by omega, rfl, F4.out.1, F4.out.2.1, F4.out.2.2⟩, rfl⟩)
      case measure => simp [intOf]; omega
    · rw [allA_full p k (by omega)] at hB
      have F3 := Lib.hid (And.intro hB (And.intro hA hbel))
      clear hB hA hbel
      go_wp2_with fail
      go_ret2
      exact ⟨w1.heap.size + 1, rfl, F3.out.1, hle, F3.out.2.2⟩
end Go.Proofs.Ytdadggaecgkhfaa
