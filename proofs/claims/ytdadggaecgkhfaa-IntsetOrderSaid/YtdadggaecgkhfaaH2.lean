/- Walks of find. -/
import Derived.Test.YtdadggaecgkhfaaH1
import Derived.Test.YtdadggaecgkhfaaBlk
namespace Go.Proofs.Ytdadggaecgkhfaa
open Go.RowKit Go.Proofs.YtdadggaecgkhfaaW.PrintWords Go.Proofs.YtdadggaecgkhfaaW.PrintMore
open IM PIntsetPlays
set_option linter.unusedVariables false
attribute [local go_sem ↓] Go.wp_at_zero Go.wp_at_succ
/-- a set in a block of its own; a number in one -/
def SetIn (w : World) (a : Nat) (p : ByteArray) : Prop := Blk w a 58 #[.string p, .int .i64 (IM.W p : Nat), .int .i64 (IM.N p : Nat)]
def NumIn (w : World) (b : Nat) (x : Int) : Prop := Blk w b 3 #[.int .i64 x]
theorem SetIn.c0 {w : World} {a : Nat} {p : ByteArray} (h : SetIn w a p) : w.cell? ⟨a, 0, none⟩ = some (.string p) := Blk.cell h 0
theorem SetIn.c1 {w : World} {a : Nat} {p : ByteArray} (h : SetIn w a p) : w.cell? ⟨a, 1, none⟩ = some (.int .i64 (IM.W p : Nat)) := Blk.cell h 1
theorem SetIn.c2 {w : World} {a : Nat} {p : ByteArray} (h : SetIn w a p) : w.cell? ⟨a, 2, none⟩ = some (.int .i64 (IM.N p : Nat)) := Blk.cell h 2
theorem NumIn.c {w : World} {b : Nat} {x : Int} (h : NumIn w b x) : w.cell? ⟨b, 0, none⟩ = some (.int .i64 x) := Blk.cell h 0
theorem shape_at (p : ByteArray) (h : IM.Shape p) (i : Nat) (hi : i < IM.N p) (W : World) :
    Calls Try.prog 42 #[.agg #[.string p, .int .i64 (IM.W p : Nat), .int .i64 (IM.N p : Nat)], .int .i64 i] W fun e w' => e = .returned (.int .i64 (el p (IM.W p) i)) ∧ Below W.heap.size W w' :=
  at_any p _ _ i h.2.1 (h.room i hi) h.small W
set_option maxHeartbeats 400000 in
theorem find1_any (p : ByteArray) (x : Int) (hs : IM.Shape p) (k : Nat) (hk : k < IM.N p) (a b : Nat) (w : World) (hA : SetIn w a p) (hB : NumIn w b x) :
    Calls Try.prog 53 #[.int .i64 k, .pointer (some ⟨a, 0, none⟩), .pointer (some ⟨b, 0, none⟩)] w fun e w' => e = .returned (.bool (decide (x ≤ el p (IM.W p) k))) ∧ Below w.heap.size w w' := by
  have h0 := hA.c0
  have h1 := hA.c1
  have h2 := hA.c2
  have h3 := hB.c
  have HAT := Lib.hid (fun W => shape_at p hs k hk W)
  have halt := hA.lt
  have hblt := hB.lt
  clear hs hk hA hB
  generalize el p (IM.W p) k = y at *
  go_enter Try.func53, Try.ntmps53
  go_wp2_with fail
  go_region_held3 (fun w' => w'.cell? ⟨a, 0, none⟩ = some (.string p) ∧ w'.cell? ⟨a, 1, none⟩ = some (.int .i64 (IM.W p : Nat)) ∧ w'.cell? ⟨a, 2, none⟩ = some (.int .i64 (IM.N p : Nat)) ∧ w'.cell? ⟨b, 0, none⟩ = some (.int .i64 x))
    (first | exact ⟨h0, h1, h2, h3⟩ | exact ⟨(hb1.cell halt).trans h0, (hb1.cell halt).trans h1, (hb1.cell halt).trans h2, (hb1.cell hblt).trans h3⟩)
    (first | (go_at_call 42; refine (HAT.out _).mono ?_; rintro e w1 ⟨rfl, hb1⟩))
  go_wp2
  go_ret
  exact ⟨rfl, ((Below.refl _ _).drew).trans hb1⟩
theorem rise_le {p : ByteArray} (hr : IM.Rise p 1) : ∀ t s, s ≤ t → t < IM.N p → el p (IM.W p) s ≤ el p (IM.W p) t := by
  intro t
  induction t with
  | zero => intro s hs ht; obtain rfl : s = 0 := by omega
            exact Int.le_refl _
  | succ t ih =>
    intro s hs ht
    by_cases e : s = t + 1
    · subst e; exact Int.le_refl _
    · have h1 := ih s (by omega) (by omega)
      have h2 := hr (t + 1) (by omega) ht
      rw [Nat.add_sub_cancel] at h2
      omega
theorem pos_is (x : Int) : ∀ (l : List Int) (i : Nat), i ≤ l.length → (∀ t y, t < i → l[t]? = some y → y < x) → (∀ y, l[i]? = some y → x ≤ y) → pos l x = i := by
  intro l
  induction l with
  | nil => intro i hi _ _; simp at hi; subst hi; rfl
  | cons z r ih =>
    intro i hi hb ha
    cases i with
    | zero =>
      have := ha z rfl
      simp only [pos, if_pos this]
    | succ i =>
      have := hb 0 z (by omega) rfl
      have h := ih i (by simpa using hi) (fun t y ht hy => hb (t + 1) y (by omega) (by simpa using hy)) (fun y hy => ha y (by simpa using hy))
      simp only [pos, if_neg (show ¬ x ≤ z by omega), h]
theorem els_at (p : ByteArray) (t : Nat) (ht : t < IM.N p) : (els p)[t]? = some (el p (IM.W p) t) := by simp [els, ht]
theorem els_none (p : ByteArray) (t : Nat) (ht : IM.N p ≤ t) : (els p)[t]? = none := by
  rw [List.getElem?_eq_none]; rw [els_length]; exact ht
set_option maxHeartbeats 1000000 in
theorem search_any (p : ByteArray) (x : Int) (hg : IM.Good p) (a b : Nat) (w : World) (hA : SetIn w a p) (hB : NumIn w b x) :
    Calls Try.prog 52 #[.int .i64 (IM.N p : Nat), .func (Fn.func 53) #[] #[.pointer (some ⟨a, 0, none⟩), .pointer (some ⟨b, 0, none⟩)]] w fun e w' => e = .returned (.int .i64 (pos (els p) x : Nat)) ∧ Below w.heap.size w w' := by
  obtain ⟨hs, hr⟩ := hg
  have hN := hs.2.2.1
  have halt := hA.lt
  have hblt := hB.lt
  have hmono := rise_le hr
  go_enter Try.func52, Try.ntmps52
  go_wp2
  go_loopw [5, 6] (fun si sj wr => ∃ i j : Nat, i ≤ j ∧ j ≤ IM.N p ∧ si = .int .i64 i ∧ sj = .int .i64 j ∧ (∀ t, t < i → el p (IM.W p) t < x) ∧ (∀ t, j ≤ t → t < IM.N p → x ≤ el p (IM.W p) t) ∧ Below w.heap.size w wr) (fun si sj _ => (intOf sj).toNat - (intOf si).toNat)
  case atStart => exact ⟨0, IM.N p, by omega, Nat.le_refl _, rfl, rfl, fun t ht => absurd ht (by omega), fun t h1 h2 => absurd h2 (by omega), Below.refl _ _⟩
  case round =>
    obtain ⟨i, j, hij, hjn, rfl, rfl, hlo, hhi, hbel⟩ := hrel
    by_cases hlt : i < j
    · have hh : (i + j) / 2 < IM.N p := by omega
      have hcall := find1_any p x hs ((i + j) / 2) hh a b wr (Blk.below hA hbel halt) (Blk.below hB hbel hblt)
      have ec : ((((i + j) / 2 : Nat)) : Int) = ((i : Int) + (j : Int)) / 2 := by omega
      rw [ec] at hcall
      have HM := Lib.hid hmono
      have HL := Lib.hid hlo
      have HH := Lib.hid hhi
      clear hmono hlo hhi hs hr ec
      by_cases hx : x ≤ el p (IM.W p) ((i + j) / 2)
      · rw [decide_eq_true hx] at hcall
        have HX := Lib.hid hx
        have HC := Lib.hid hcall
        clear hx hcall
        go_wp2_with (go_at_call 53; refine HC.out.mono ?_; rintro e w1 ⟨rfl, hb1⟩)
        have hbel2 := hbel.trans (hb1.mono hbel.size)
        go_roundw
        case rel => exact ⟨i, (i + j) / 2, by omega, by omega, rfl, by go_num, HL.out, fun t h1 h2 => Int.le_trans HX.out (HM.out t _ h1 h2), hbel2⟩
        case measure => simp [intOf]; omega
      · rw [decide_eq_false hx] at hcall
        have HX := Lib.hid hx
        have HC := Lib.hid hcall
        clear hx hcall
        go_wp2_with (go_at_call 53; refine HC.out.mono ?_; rintro e w1 ⟨rfl, hb1⟩)
        have hbel2 := hbel.trans (hb1.mono hbel.size)
        go_roundw
        case rel =>
          refine ⟨(i + j) / 2 + 1, j, by omega, by omega, by go_num, rfl, fun t ht => ?_, HH.out, hbel2⟩
          have h1 := HM.out ((i + j) / 2) t (by omega) hh
          have h2 := HX.out
          omega
        case measure => simp [intOf]; omega
    · have e : j = i := by omega
      have hpos := pos_is x (els p) i (by rw [els_length]; omega) (fun t y ht hy => by
        rw [els_at p t (by omega)] at hy
        injection hy with hy
        rw [← hy]; exact hlo t ht) (fun y hy => by
        by_cases hi : i < IM.N p
        · rw [els_at p i hi] at hy
          injection hy with hy
          rw [← hy]; exact hhi i (by omega) hi
        · rw [els_none p i (by omega)] at hy; cases hy)
      have HP := Lib.hid hpos
      clear hpos hmono hlo hhi hs hr e
      go_wp2
      go_ret
      exact ⟨ret_int (by rw [HP.out]), hbel⟩
theorem new_set (w : World) (p : ByteArray) (x : Int) : SetIn ((w.alloc (.cells #[.string p, .int .i64 (IM.W p : Nat), .int .i64 (IM.N p : Nat)] 58)).alloc (.cells #[.int .i64 x] 3)) w.heap.size p :=
  (Blk.new w 58 _).alloc _
theorem new_num (w : World) (o : Obj) (x : Int) : NumIn ((w.alloc o).alloc (.cells #[.int .i64 x] 3)) (w.heap.size + 1) x := by
  have h := Blk.new (w.alloc o) 3 #[.int .i64 x]
  rwa [show (w.alloc o).heap.size = w.heap.size + 1 from by simp] at h
set_option maxHeartbeats 1000000 in
theorem find_any (p : ByteArray) (x : Int) (hg : IM.Good p) (w : World) :
    Calls Try.prog 38 #[.agg #[.string p, .int .i64 (IM.W p : Nat), .int .i64 (IM.N p : Nat)], .int .i64 x] w fun e w' => e = .returned (.tuple #[.int .i64 (pos (els p) x : Nat), .bool (there (els p) x)]) ∧ Below w.heap.size w w' := by
  have hA := new_set w p x
  have hB := new_num w (.cells #[.string p, .int .i64 (IM.W p : Nat), .int .i64 (IM.N p : Nat)] 58) x
  have hbel := ((Below.refl w.heap.size w).alloc (Nat.le_refl _) (.cells #[.string p, .int .i64 (IM.W p : Nat), .int .i64 (IM.N p : Nat)] 58)).alloc (by simp) (.cells #[.int .i64 x] 3)
  have HS := Lib.hid (search_any p x hg _ _ _ hA hB)
  have hs := hg.1
  have hlen := els_length p
  have hN := hs.2.2.1
  have HF := Lib.hid (And.intro hA (And.intro hB hbel))
  have hpl := els_pos_le p x
  have hpos0 : (0 : Int) ≤ ((pos (els p) x : Nat) : Int) := by omega
  clear hA hB hbel hg
  by_cases hlt : pos (els p) x < IM.N p
  · have hth : there (els p) x = (el p (IM.W p) (pos (els p) x) == x) := by
      unfold there
      rw [els_at p _ hlt, Bool.eq_iff_iff]
      simp
    have HT := Lib.hid (fun W => shape_at p hs _ hlt W)
    have HTH := Lib.hid hth
    have hlt1 : ((pos (els p) x : Nat) : Int) < ((IM.N p : Nat) : Int) := by omega
    clear hs hlen hth hpl
    generalize there (els p) x = bt0 at *
    generalize el p (IM.W p) (pos (els p) x) = y at *
    generalize pos (els p) x = i at *
    go_enter Try.func38, Try.ntmps38
    go_wp2_with fail
    refine HS.out.mono ?_; rintro e w1 ⟨rfl, hb1⟩
    have hA1 := Blk.below HF.out.1 hb1 (Blk.lt HF.out.1)
    have hB1 := Blk.below HF.out.2.1 hb1 (Blk.lt HF.out.2.1)
    have hbel1 := HF.out.2.2.trans (hb1.mono HF.out.2.2.size)
    have h0 := SetIn.c0 hA1
    have h1 := SetIn.c1 hA1
    have h2 := SetIn.c2 hA1
    have h3 := NumIn.c hB1
    have halt := Blk.lt hA1
    have hblt := Blk.lt hB1
    clear hb1 hA1 hB1
    go_wp2_with fail
    go_region_held3 (fun w' => w'.cell? ⟨w.heap.size, 0, none⟩ = some (.string p) ∧ w'.cell? ⟨w.heap.size, 1, none⟩ = some (.int .i64 (IM.W p : Nat)) ∧ w'.cell? ⟨w.heap.size, 2, none⟩ = some (.int .i64 (IM.N p : Nat)) ∧ w'.cell? ⟨w.heap.size + 1, 0, none⟩ = some (.int .i64 x))
      (first | exact ⟨h0, h1, h2, h3⟩ | exact ⟨(hb2.cell halt).trans h0, (hb2.cell halt).trans h1, (hb2.cell halt).trans h2, (hb2.cell hblt).trans h3⟩)
      (first | (go_at_call 42; refine (HT.out _).mono ?_; rintro e w2 ⟨rfl, hb2⟩))
    go_wp2
    go_ret2
    refine ⟨by rw [HTH.out]; rfl, hbel1.drew.trans (hb2.mono hbel1.size)⟩
  · have e : pos (els p) x = IM.N p := by omega
    have hth : there (els p) x = false := by
      unfold there
      rw [els_none p _ (by omega)]
      rfl
    have HTH := Lib.hid hth
    have hd1 : decide (((pos (els p) x : Nat) : Int) < ((IM.N p : Nat) : Int)) = false := by rw [decide_eq_false_iff_not]; omega
    have hd2 : decide (pos (els p) x < IM.N p) = false := by rw [decide_eq_false_iff_not]; omega
    clear hs hlen hth hpl e hlt
    generalize there (els p) x = bt0 at *
    generalize pos (els p) x = i at *
    go_enter Try.func38, Try.ntmps38
    go_wp2_with fail
    refine HS.out.mono ?_; rintro e w1 ⟨rfl, hb1⟩
    have hA1 := Blk.below HF.out.1 hb1 (Blk.lt HF.out.1)
    have hB1 := Blk.below HF.out.2.1 hb1 (Blk.lt HF.out.2.1)
    have hbel1 := HF.out.2.2.trans (hb1.mono HF.out.2.2.size)
    have h2 := SetIn.c2 hA1
    clear hb1 hA1 hB1
    go_wp2_with fail
    go_quiet (fail)
    go_wp2
    go_ret2
    refine ⟨by rw [HTH.out]; rfl, below_drewN hbel1 _⟩
end Go.Proofs.Ytdadggaecgkhfaa
