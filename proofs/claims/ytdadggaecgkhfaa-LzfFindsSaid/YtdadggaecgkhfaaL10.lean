/- Walk of the packer: its loop and what stands around it; conditions as typed. -/
import Derived.Test.YtdadggaecgkhfaaL9
import Derived.Test.YtdadggaecgkhfaaL8
namespace Go.Proofs.Ytdadggaecgkhfaa.LZ
open Go.RowKit Go.Proofs.YtdadggaecgkhfaaW.PrintWords Go.Proofs.YtdadggaecgkhfaaW.PrintMore
open Go.Proofs.Ytdadggaecgkhfaa.PLzfUnpacks IM Go.Proofs.Ytdadggaecgkhfaa
set_option linter.unusedVariables false
attribute [local go_sem ↓] Go.wp_at_zero Go.wp_at_succ
attribute [local go_sem] max2_int min2_int max_two min_two
theorem run_byte2 (x : ByteArray) (a n : Nat) (h : a + n < x.size) (w : World) : (Instr.index 9 (.string x) (.int .i64 ((a : Int) + (n : Int)))).run Try.prog w = .ok (.int .u8 (bn x (a + n) : Nat)) w := by
  have := run_byte x (a + n) h w
  rw [show ((a + n : Nat) : Int) = (a : Int) + (n : Int) from by omega] at this
  exact this
theorem bn_eqAt_iff (x : ByteArray) (a b : Nat) (ha : a < x.size) (hb : b < x.size) : eqAt x a b ↔ bn x a = bn x b := by
  rw [eqAt_iff x a b ha hb, bn_eq x a ha, bn_eq x b hb]
  exact ⟨fun e => by rw [e], fun e => UInt8.toNat_inj.mp e⟩
/-- what the loop's head knows -/
def PkOk (x : ByteArray) (R : List Int) (T : Nat → Nat) (from_ i : Nat) (xs : List Int) (f : Nat) : Prop :=
  from_ ≤ i ∧ i ≤ x.size ∧ (∀ k, T k ≤ i) ∧ xs.length ≤ 2 * from_ ∧ x.size < f + i ∧ pk x f T from_ i xs = R
def PkRel (W : World) (x : ByteArray) (R : List Int) (v6 v7 : Value) (wr : World) : Prop :=
  ∃ (w0 : World) (T : Nat → Nat) (A : Array Value) (from_ i : Nat) (xs : List Int) (f : Nat), v6 = .int .i64 from_ ∧ v7 = .int .i64 i ∧ Blk w0 W.heap.size 70 A ∧ Tab A T ∧
    Wr w0 wr (W.heap.size + 1) xs ⟨#[]⟩ ∧ Below W.heap.size W w0 ∧ w0.heap.size = W.heap.size + 1 ∧ PkOk x R T from_ i xs f
theorem PkRel.mk {W : World} {x : ByteArray} {R : List Int} {wr w0 : World} {T : Nat → Nat} {A : Array Value} {from_ i : Nat} {xs : List Int} {f : Nat} (h1 : Blk w0 W.heap.size 70 A) (h2 : Tab A T)
    (h3 : Wr w0 wr (W.heap.size + 1) xs ⟨#[]⟩) (h4 : Below W.heap.size W w0) (h5 : w0.heap.size = W.heap.size + 1) (h6 : PkOk x R T from_ i xs f) {v6 v7 : Value} (h7 : v6 = .int .i64 from_) (h8 : v7 = .int .i64 i) : PkRel W x R v6 v7 wr :=
  ⟨w0, T, A, from_, i, xs, f, h7, h8, h1, h2, h3, h4, h5, h6⟩
theorem upd_le {T : Nat → Nat} {i : Nat} (h : ∀ k, T k ≤ i) (q j : Nat) (hj : i + 1 ≤ j) : ∀ k, upd T q (i + 1) k ≤ j := fun k => by
  unfold upd
  split
  · omega
  · have := h k; omega
theorem PkOk.skip {x : ByteArray} {R : List Int} {T : Nat → Nat} {from_ i : Nat} {xs : List Int} {f : Nat} (h : PkOk x R T from_ i xs f) (hi : i + 2 < x.size) (hn : len3 x (T (hs x i)) i < 3) : PkOk x R (upd T (hs x i) (i + 1)) from_ (i + 1) xs (f - 1) := by
  obtain ⟨h1, h2, h3, h4, h5, h6⟩ := h
  obtain ⟨f, rfl⟩ : ∃ k, f = k + 1 := ⟨f - 1, by omega⟩
  rw [pk, if_pos hi, if_pos hn] at h6
  exact ⟨by omega, by omega, upd_le h3 _ _ (Nat.le_refl _), h4, by omega, h6⟩
theorem PkOk.copy {x : ByteArray} {R : List Int} {T : Nat → Nat} {from_ i : Nat} {xs : List Int} {f : Nat} (h : PkOk x R T from_ i xs f) (hi : i + 2 < x.size) (hn : ¬ len3 x (T (hs x i)) i < 3) :
    PkOk x R (upd T (hs x i) (i + 1)) (i + len3 x (T (hs x i)) i) (i + len3 x (T (hs x i)) i) (flw (x.extract from_ i) xs ++ cp (i + 1 - T (hs x i)) (len3 x (T (hs x i)) i)) (f - 1) ∧
      1 ≤ i + 1 - T (hs x i) ∧ i + 1 - T (hs x i) ≤ 8192 ∧ 3 ≤ len3 x (T (hs x i)) i ∧ len3 x (T (hs x i)) i ≤ 264 ∧ xs.length + 2 * (x.extract from_ i).size ≤ 2 * x.size ∧ (flw (x.extract from_ i) xs).length ≤ 2 * x.size := by
  obtain ⟨h1, h2, h3, h4, h5, h6⟩ := h
  obtain ⟨f, rfl⟩ : ∃ k, f = k + 1 := ⟨f - 1, by omega⟩
  rw [pk, if_pos hi, if_neg hn] at h6
  obtain ⟨k1, k2, k3, k4, k5⟩ := len3_ok x _ i h2 hn
  have hT := h3 (hs x i)
  have hfl := flw_length (x.extract from_ i) xs
  have hcl := cp_length (i + 1 - T (hs x i)) (len3 x (T (hs x i)) i)
  rw [ByteArray.size_extract] at hfl ⊢
  exact ⟨⟨Nat.le_refl _, k4, upd_le h3 _ _ (by omega), by rw [List.length_append]; omega, by omega, h6⟩, by omega, k2, by omega, k3, by omega, by omega⟩
theorem PkOk.stop {x : ByteArray} {R : List Int} {T : Nat → Nat} {from_ i : Nat} {xs : List Int} {f : Nat} (h : PkOk x R T from_ i xs f) (hi : ¬ i + 2 < x.size) :
    flw (x.extract from_ x.size) xs = R ∧ from_ ≤ x.size ∧ xs.length + 2 * (x.extract from_ x.size).size ≤ 2 * x.size := by
  obtain ⟨h1, h2, h3, h4, h5, h6⟩ := h
  obtain ⟨f, rfl⟩ : ∃ k, f = k + 1 := ⟨f - 1, by omega⟩
  rw [pk, if_neg hi] at h6
  rw [ByteArray.size_extract]
  exact ⟨h6, by omega, by omega⟩
theorem ml_stop (x : ByteArray) (a i f n : Nat) (h : ¬ (n < 264 ∧ i + n < x.size ∧ eqAt x (a + n) (i + n))) : ml x a i (f + 1) n = n := by rw [ml, if_neg h]
theorem ml_go (x : ByteArray) (a i f n : Nat) (h : n < 264 ∧ i + n < x.size ∧ eqAt x (a + n) (i + n)) : ml x a i (f + 1) n = ml x a i f (n + 1) := by rw [ml, if_pos h]
theorem hash_facts (x : ByteArray) (i : Nat) (hi : i + 2 < x.size) : ∃ y0 y1 y2 e3 e4 e5 e e1 e2 : Nat,
    (∀ w, (Instr.index 9 (.string x) (.int .i64 (i : Int))).run Try.prog w = .ok (.int .u8 (y0 : Int)) w) ∧
    (∀ w, (Instr.index 9 (.string x) (.int .i64 ((i : Int) + 1))).run Try.prog w = .ok (.int .u8 (y1 : Int)) w) ∧
    (∀ w, (Instr.index 9 (.string x) (.int .i64 ((i : Int) + 2))).run Try.prog w = .ok (.int .u8 (y2 : Int)) w) ∧
    IntKind.i64.wrap (y0 : Int) = (y0 : Int) ∧ IntKind.i64.wrap (y1 : Int) = (y1 : Int) ∧ IntKind.i64.wrap (y2 : Int) = (y2 : Int) ∧
    IntKind.i64.wrap ((y0 : Int) * 65536) = (e3 : Int) ∧ IntKind.i64.wrap ((y1 : Int) * 256) = (e4 : Int) ∧ Go.bits .or .i64 (e3 : Int) (e4 : Int) = (e5 : Int) ∧ Go.bits .or .i64 (e5 : Int) (y2 : Int) = (e : Int) ∧
    IntKind.i64.wrap ((e : Int) * 2654435761) = (e1 : Int) ∧ (e1 : Int) / 4096 = (e2 : Int) ∧ Go.bits .and .i64 (e2 : Int) 16383 = (hs x i : Int) := by
  have l0 := bn_lt x i
  have l1 := bn_lt x (i + 1)
  have l2 := bn_lt x (i + 2)
  refine ⟨bn x i, bn x (i + 1), bn x (i + 2), bn x i * 65536, bn x (i + 1) * 256, bn x i * 65536 + bn x (i + 1) * 256, bn x i * 65536 + bn x (i + 1) * 256 + bn x (i + 2), (bn x i * 65536 + bn x (i + 1) * 256 + bn x (i + 2)) * 2654435761,
    (bn x i * 65536 + bn x (i + 1) * 256 + bn x (i + 2)) * 2654435761 / 4096, run_byte x i (by omega), run_byte x (i + 1) (by omega), run_byte x (i + 2) (by omega), ?_, ?_, ?_, ?_, ?_, or_hi _ _ l0 l1, ?_, ?_, by omega, and_14 _ (by omega)⟩
  · rw [IntKind.wrap_i64]; omega
  · rw [IntKind.wrap_i64]; omega
  · rw [IntKind.wrap_i64]; omega
  · rw [IntKind.wrap_i64]; omega
  · rw [IntKind.wrap_i64]; omega
  · have o2 := or_lo (bn x i * 256 + bn x (i + 1)) (bn x (i + 2)) (by omega) l2
    rw [show (bn x i * 256 + bn x (i + 1)) * 256 = bn x i * 65536 + bn x (i + 1) * 256 by omega] at o2
    exact o2
  · rw [IntKind.wrap_i64]; omega
open Classical in
theorem twice_any (w0 W : World) (g : Nat) (xs : List Int) (x : ByteArray) (hw : Wr w0 W g xs ⟨#[]⟩) (hx : x.size ≤ 524288) :
    Calls Try.prog 50 #[.pointer (some ⟨g, 0, none⟩), .string x] W fun e w' => e = .returned (.tuple #[]) ∧ Wr w0 w' g (if Two x then twb x else xs) ⟨#[]⟩ := by
  by_cases h : Two x
  · rw [if_pos h]
    obtain ⟨h1, h2, h3, h4⟩ := h
    exact twice_yes w0 W g xs _ x hw h1 h2 h3 h4
  · rw [if_neg h]
    by_cases h1 : x.size < 64 ∨ 8192 < x.size / 2
    · refine (twice_no w0 W g x (by omega) h1).mono ?_
      rintro e w' ⟨he, n, rfl⟩
      exact ⟨he, hw.drewN n⟩
    · refine (twice_differs W g x (by omega) (by omega) ?_).mono ?_
      · by_cases h2 : x.extract 0 (x.size / 2) = x.extract (x.size - x.size / 2) x.size
        · exact .inr (fun e => h ⟨by omega, by omega, h2, e⟩)
        · exact .inl h2
      · rintro e w' ⟨he, n, rfl⟩
        exact ⟨he, hw.drewN n⟩
theorem pkt_more (x : ByteArray) (h : (pkd x).length + 4 > x.size) [Decidable (Two x)] : (if Two x then twb x else pkd x) = pkt x := by
  unfold pkt
  by_cases h2 : Two x
  · rw [if_pos h2, if_pos ⟨h, h2⟩]
  · rw [if_neg h2, if_neg (fun e => h2 e.2)]
theorem pkt_less (x : ByteArray) (h : ¬ (pkd x).length + 4 > x.size) : pkd x = pkt x := by
  unfold pkt
  rw [if_neg (fun e => h e.1)]
theorem packS_yes (x : ByteArray) (h1 : 8 ≤ x.size) (h2 : x.size ≤ 524288) (h : ¬ (pkt x).length + 4 > x.size) : packS x = (strOfNums (pkt x), true) := by
  unfold packS
  rw [if_neg (by omega), if_neg h]
theorem packS_no (x : ByteArray) (h1 : 8 ≤ x.size) (h2 : x.size ≤ 524288) (h : (pkt x).length + 4 > x.size) : packS x = (⟨#[]⟩, false) := by
  unfold packS
  rw [if_neg (by omega), if_pos h]
/-- the writer's facts for a load of what is written -/
theorem Wr.load {w0 W : World} {g : Nat} {xs : List Int} {lit : ByteArray} (h : Wr w0 W g xs lit) : ∃ A c, W.cell? ⟨g, 0, none⟩ = some (.slice A xs.length c) ∧ W.ownsRow w0.heap.size 5 1 (.slice A xs.length c) xs.length (nums .u8 xs) := by
  obtain ⟨v, h1, h2, h3, h4⟩ := h
  obtain ⟨A, c, rfl⟩ := own_shape h2
  refine ⟨A, c, ?_, h2⟩
  rw [Blk.cell h1 0]
  rfl
theorem Wr.bel {w0 W : World} {g : Nat} {xs : List Int} {lit : ByteArray} (h : Wr w0 W g xs lit) : Below w0.heap.size w0 W := by
  obtain ⟨v, h1, h2, h3, h4⟩ := h
  exact h3
set_option maxHeartbeats 1000000 in
set_option maxRecDepth 8000 in
theorem pack_mid (W : World) (x : ByteArray) (h1 : 8 ≤ x.size) (h2 : x.size ≤ 524288) :
    Calls Try.prog 36 #[.string x] W fun e w' => e = .returned (.tuple #[.string (packS x).1, .bool (packS x).2]) ∧ Below W.heap.size W w' := by
  have a1 : ¬ ((524288 : Int) < (x.size : Int)) := by omega
  have a2 : decide ((524288 : Int) < (x.size : Int)) = false := decide_eq_false a1
  have a3 : decide (524288 < x.size) = false := decide_eq_false (by omega)
  have b1 : ¬ ((x.size : Int) < 8) := by omega
  have b2 : decide ((x.size : Int) < 8) = false := decide_eq_false b1
  have b3 : decide (x.size < 8) = false := decide_eq_false (by omega)
  go_enter Try.func36, Try.ntmps36
  go_wp2_with (with_reducible refine arm_alloc70 rfl rfl ?_)
  have HS : PkRel W x (pkd x) (.int .i64 0) (.int .i64 0) ((W.alloc tab0).alloc (.cells #[.slice none 0 0, .string ⟨#[]⟩] 73)) := by
    refine PkRel.mk (w0 := W.alloc tab0) (T := fun _ => 0) (from_ := 0) (i := 0) (xs := []) (f := x.size + 1) (Blk.new W 70 _) Tab.zero ?_ ((Below.refl _ _).alloc (Nat.le_refl _) _) (by simp) ⟨by omega, by omega, fun _ => Nat.le_refl _, by simp, by omega, rfl⟩ rfl rfl
    have hz : (W.alloc tab0).heap.size = W.heap.size + 1 := by simp
    refine ⟨.slice none 0 0, ?_, ?_, ?_, ?_⟩
    · rw [← hz]; exact Blk.new _ 73 _
    · exact ⟨rfl, .inl ⟨rfl, rfl⟩⟩
    · exact (Below.refl _ _).alloc (Nat.le_refl _) _
    · rw [hz]; exact Nat.le_refl _
  have HS' := Lib.hid HS
  generalize (W.alloc (.cells (Array.replicate 16384 (Value.int .i64 0)) 70)).alloc (.cells #[.slice none 0 0, .string ⟨#[]⟩] 73) = W1 at *
  clear HS a1 a2 a3 b1 b2 b3
  go_loopw [6, 7] (fun v6 v7 wr => PkRel W x (pkd x) v6 v7 wr) (fun _ v7 _ => x.size - (intOf v7).toNat)
  case atStart => exact HS'.out
  case round =>
    obtain ⟨w0, T, A, from_, i, xs, f, rfl, rfl, hA, hT, hw, hB, hz, hP⟩ := hrel
    have hAr := hw.tab hA
    have HP := Lib.hid hP
    have HH := Lib.hid (And.intro hA (And.intro hT (And.intro hw (And.intro hB hz))))
    have hix := hP.2.1
    have hfi := hP.1
    by_cases hi : i + 2 < x.size
    · have g1 : (i : Int) + 2 < (x.size : Int) := by omega
      have g2 : decide ((i : Int) + 2 < (x.size : Int)) = true := decide_eq_true g1
      obtain ⟨y0, y1, y2, e3, e4, e5, e, e1, e2, ix0, ix1, ix2, z0, z1, z2, s0, s1, o1, o2, m1, d1, n1⟩ := hash_facts x i hi
      have p1 : IntKind.i64.wrap ((i : Int) + 1) = (i : Int) + 1 := by rw [IntKind.wrap_i64]; omega
      have p2 : IntKind.i64.wrap ((i : Int) + 2) = (i : Int) + 2 := by rw [IntKind.wrap_i64]; omega
      have hh := hs_lt x i
      have hTh := hT.2 (hs x i) hh
      have hcell := Blk.cell hAr (hs x i)
      rw [hTh] at hcell
      have hfz := Blk.frozen hAr (hs x i)
      have hTi := hP.2.2.1 (hs x i)
      have hskip := hP.skip hi
      have hcopy := hP.copy hi
      clear hA hT hw hB hz hTh hAr hP
      generalize hhs : hs x i = h at *
      generalize hTt : T h = t at *
      have HSK := Lib.hid hskip
      have HCP := Lib.hid hcopy
      have HI := Lib.hid (And.intro hfi (And.intro hix hi))
      have HHT := Lib.hid (And.intro hhs hTt)
      clear hskip hcopy hhs hTt hfi hix hi
      by_cases ht : 1 ≤ t ∧ i + 1 - t ≤ 8192
      · obtain ⟨a, rfl⟩ : ∃ a, t = a + 1 := ⟨t - 1, by omega⟩
        rw [show ((a + 1 : Nat) : Int) = (a : Int) + 1 from by omega] at hcell
        obtain ⟨d, hd⟩ : ∃ d, d = i - a := ⟨_, rfl⟩
        have t1 : IntKind.i64.wrap ((a : Int) + 1 - 1) = (a : Int) := by rw [IntKind.wrap_i64]; have := HI.out; omega
        have t2 : IntKind.i64.wrap (a : Int) = (a : Int) := by rw [IntKind.wrap_i64]; have := HI.out; omega
        have t3 : (a : Int) + 1 - 1 = (a : Int) := by omega
        have u1 : (0 : Int) ≤ (a : Int) := by omega
        have u1e : decide ((0 : Int) ≤ (a : Int)) = true := decide_eq_true u1
        have u2 : IntKind.i64.wrap ((i : Int) - (a : Int)) = (d : Int) := by rw [IntKind.wrap_i64]; have := HI.out; omega
        have u3 : (d : Int) ≤ 8192 := by omega
        have u4 : decide ((d : Int) ≤ 8192) = true := decide_eq_true u3
        have u5 : decide (d ≤ 8192) = true := decide_eq_true (by omega)
        have hl3 : len3 x (a + 1) i = ml x a i 265 0 := by
          unfold len3
          rw [if_pos ht, Nat.add_sub_cancel]
        have HT := Lib.hid (And.intro ht (And.intro hTi hd))
        have HL := Lib.hid hl3
        clear ht hTi hl3 hd
        go_wp2_with fail
        go_quiet (fail)
        go_upto_block 2 with (refine arm_ix70 rfl _ _ rfl W.heap.size h rfl rfl hh ?_)
        have HN := Lib.hid (Wr.table (k := h) (HH.out.2.2.1.drewN nq) HH.out.1 (.int .i64 ((i : Int) + 1)))
        generalize (wr.drewN nq).setCell ⟨W.heap.size, h, none⟩ (.int .i64 ((i : Int) + 1)) = W2 at *
        clear hcell hfz ix0 ix1 ix2 z0 z1 z2 s0 s1 o1 o2 m1 d1 n1 g1 g2 p2
        go_cut [10] (fun v10 wx => v10 = .int .i64 (len3 x (a + 1) i : Nat) ∧ ∃ m, wx = W2.drewN m)
        case first =>
          go_wp2_with fail
          go_loopw [10] (fun v10 wx => ∃ n f m, v10 = .int .i64 (n : Nat) ∧ n ≤ 264 ∧ 264 < n + f ∧ i + n ≤ x.size ∧ ml x a i f n = len3 x (a + 1) i ∧ wx = W2.drewN m) (fun v10 _ => 264 - (intOf v10).toNat)
          case atStart => exact ⟨0, 265, 0, rfl, by omega, by omega, by have := HI.out; omega, HL.out.symm, rfl⟩
          case round =>
            obtain ⟨n, f, m, rfl, hn1, hn2, hn3, hn4, rfl⟩ := hrel
            obtain ⟨f, rfl⟩ : ∃ k, f = k + 1 := ⟨f - 1, by omega⟩
            have q3 : IntKind.i64.wrap ((i : Int) + (n : Int)) = (i : Int) + (n : Int) := by rw [IntKind.wrap_i64]; omega
            by_cases hA : n < 264
            · have q1 : (n : Int) < 264 := by omega
              have q2 : decide ((n : Int) < 264) = true := decide_eq_true q1
              by_cases hB : i + n < x.size
              · have r1 : (i : Int) + (n : Int) < (x.size : Int) := by omega
                have r2 : decide ((i : Int) + (n : Int) < (x.size : Int)) = true := decide_eq_true r1
                have r3 : IntKind.i64.wrap ((a : Int) + (n : Int)) = (a : Int) + (n : Int) := by rw [IntKind.wrap_i64]; have := HT.out.2; omega
                have hai : a + n < x.size := by have := HT.out.2; omega
                have v1 := run_byte2 x a n hai
                have v2 := run_byte2 x i n hB
                have hiff := bn_eqAt_iff x (a + n) (i + n) hai hB
                generalize bn x (a + n) = y0 at *
                generalize bn x (i + n) = y1 at *
                by_cases hC : y0 = y1
                · rw [ml_go x a i f n ⟨hA, hB, hiff.mpr hC⟩] at hn4
                  have v3 : ((y0 : Int) == (y1 : Int)) = true := by rw [hC]; simp
                  have v4 : IntKind.i64.wrap ((n : Int) + 1) = (n : Int) + 1 := by rw [IntKind.wrap_i64]; omega
                  have HM := Lib.hid (And.intro hA (And.intro hB (And.intro hn2 hn4)))
                  clear hiff hC hai hn1 hn2 hn3 hn4 hA hB
                  go_wp2_with fail
                  go_quiet (fail)
                  go_wp2_with fail
                  go_roundw
                  case rel => exact ⟨n + 1, f, _, by go_num, by have := HM.out.1; omega, by have := HM.out.2.2.1; omega, by have := HM.out.2.1; omega, HM.out.2.2.2, rfl⟩
                  case measure => have := HM.out.1; simp [intOf]; omega
                · rw [ml_stop x a i f n (fun e => hC (hiff.mp e.2.2))] at hn4
                  have v3 : ((y0 : Int) == (y1 : Int)) = false := by simpa using (show ¬ (y0 : Int) = (y1 : Int) by omega)
                  have HM := Lib.hid hn4
                  clear hiff hC hai hn1 hn2 hn3 hn4 hA hB
                  go_wp2_with fail
                  go_quiet (fail)
                  go_wp2_with fail
                  go_meet
                  exact ⟨by rw [HM.out], _, by rw [World.drewN_drewN]⟩
              · rw [ml_stop x a i f n (fun e => hB e.2.1)] at hn4
                have r1 : ¬ (i : Int) + (n : Int) < (x.size : Int) := by omega
                have r2 : decide ((i : Int) + (n : Int) < (x.size : Int)) = false := decide_eq_false r1
                have HM := Lib.hid hn4
                clear hn1 hn2 hn3 hn4 hA hB
                go_wp2_with fail
                go_quiet (fail)
                go_wp2_with fail
                go_meet
                exact ⟨by rw [HM.out], _, by rw [World.drewN_drewN]⟩
            · rw [ml_stop x a i f n (fun e => hA e.1)] at hn4
              have q1 : ¬ (n : Int) < 264 := by omega
              have q2 : decide ((n : Int) < 264) = false := decide_eq_false q1
              have q4 : decide (n < 264) = false := decide_eq_false hA
              have HM := Lib.hid hn4
              clear hn1 hn2 hn3 hn4 hA
              go_wp2_with fail
              go_quiet (fail)
              go_wp2_with fail
              go_meet
              exact ⟨by rw [HM.out], _, by rw [World.drewN_drewN]⟩
        case rest =>
          obtain ⟨rfl, m, rfl⟩ := hcut
          have HN2 := Lib.hid (HN.out.drewN m)
          clear HN
          generalize W2.drewN m = W3 at *
          have hN264 : len3 x (a + 1) i ≤ 264 := by
            rw [HL.out]
            exact (ml_ok x a i 265 0 (by omega) (by have := HI.out; omega) (fun k hk => by omega)).2.1
          by_cases h3 : len3 x (a + 1) i < 3
          · have HSK2 := Lib.hid (HSK.out h3)
            generalize len3 x (a + 1) i = N at *
            have q1 : (N : Int) < 3 := by omega
            have q2 : decide ((N : Int) < 3) = true := decide_eq_true q1
            have q3 : decide (N < 3) = true := decide_eq_true h3
            clear h3 hN264
            go_wp2_with fail
            go_roundw
            case rel =>
              have k1 := HH.out
              refine PkRel.mk (Blk.set_ k1.1 h _) (k1.2.1.upd h (i + 1) hh) HN2.out ((k1.2.2.2.1).setCell (p := ⟨W.heap.size, h, none⟩) (Nat.le_refl _) _) (by rw [setCell_size]; exact k1.2.2.2.2) HSK2.out rfl (by go_num)
            case measure => have := HI.out; simp [intOf]; omega
          · have hcp2 := HCP.out h3
            rw [show i + 1 - (a + 1) = d from by have := HT.out.2.2; omega] at hcp2
            have HCP2 := Lib.hid hcp2
            clear hcp2
            generalize len3 x (a + 1) i = N at *
            have q1 : ¬ (N : Int) < 3 := by omega
            have q2 : decide ((N : Int) < 3) = false := decide_eq_false q1
            have q3 : decide (N < 3) = false := decide_eq_false h3
            obtain ⟨vv, j1, j2, j3, j4⟩ := HN2.out
            have k0 := Blk.cell j1 1
            have k1 := Blk.frozen j1 1
            simp only [List.getElem?_toArray, List.getElem?_cons_zero, List.getElem?_cons_succ] at k0
            clear j1 j2 j3 j4
            have f0 : (0 : Int) ≤ (from_ : Int) := by omega
            have f1 : (from_ : Int) ≤ (i : Int) := by have := HI.out.1; omega
            have f2 : (i : Int) ≤ (x.size : Int) := by have := HI.out.2.1; omega
            have r1 : IntKind.i64.wrap ((i : Int) + (N : Int)) = ((i + N : Nat) : Int) := by rw [IntKind.wrap_i64]; have := HI.out.2.1; omega
            have HC := Lib.hid (copy_any (w0.setCell ⟨W.heap.size, h, none⟩ (.int .i64 ((i : Int) + 1))) _ (W.heap.size + 1) xs (x.extract from_ i) d N (Wr.wait HN2.out (x.extract from_ i)) (by have := HCP2.out.2.2.2.2.2.1; omega) ((x.extract from_ i).size + 1) (by omega) HCP2.out.2.1 HCP2.out.2.2.1 HCP2.out.2.2.2.1 HCP2.out.2.2.2.2.1 (by have := HCP2.out.2.2.2.2.2.2; unfold flw at this; omega))
            have HM := Lib.hid h3
            clear h3 hN264
            go_wp2_with fail
            refine HC.out.mono ?_
            rintro e w5 ⟨rfl, hw5⟩
            have F5 := Lib.hid hw5
            clear hw5
            go_wp2_with fail
            go_roundw
            case rel =>
              have k1 := HH.out
              refine PkRel.mk (Blk.set_ k1.1 h _) (k1.2.1.upd h (i + 1) hh) F5.out ((k1.2.2.2.1).setCell (p := ⟨W.heap.size, h, none⟩) (Nat.le_refl _) _) (by rw [setCell_size]; exact k1.2.2.2.2) HCP2.out.1 rfl rfl
            case measure => have := HI.out; have := HM.out; simp [intOf]; omega
      · have h0 : len3 x t i = 0 := by unfold len3; rw [if_neg ht]
        have HSK2 := Lib.hid (HSK.out (by rw [h0]; omega))
        clear h0
        by_cases ht0 : t = 0
        · subst ht0
          rw [show ((0 : Nat) : Int) = 0 from rfl] at hcell
          have t1 : IntKind.i64.wrap ((0 : Int) - 1) = -1 := by decide
          have t2 : IntKind.i64.wrap (-1 : Int) = -1 := by decide
          clear ht hTi
          go_wp2_with fail
          go_quiet (fail)
          go_wp2_with (refine arm_ix70 rfl _ _ rfl W.heap.size h rfl rfl hh ?_)
          have HN := Lib.hid (Wr.table (k := h) (HH.out.2.2.1.drewN nq) HH.out.1 (.int .i64 ((i : Int) + 1)))
          go_roundw
          case rel =>
            have k1 := HH.out
            refine PkRel.mk (Blk.set_ k1.1 h _) (k1.2.1.upd h (i + 1) hh) HN.out ((k1.2.2.2.1).setCell (p := ⟨W.heap.size, h, none⟩) (Nat.le_refl _) _) (by rw [setCell_size]; exact k1.2.2.2.2) HSK2.out rfl (by go_num)
          case measure => have := HI.out; simp [intOf]; omega
        · obtain ⟨a, rfl⟩ : ∃ a, t = a + 1 := ⟨t - 1, by omega⟩
          rw [show ((a + 1 : Nat) : Int) = (a : Int) + 1 from by omega] at hcell
          obtain ⟨d, hd⟩ : ∃ d, d = i - a := ⟨_, rfl⟩
          have t1 : IntKind.i64.wrap ((a : Int) + 1 - 1) = (a : Int) := by rw [IntKind.wrap_i64]; have := HI.out; omega
          have t2 : IntKind.i64.wrap (a : Int) = (a : Int) := by rw [IntKind.wrap_i64]; have := HI.out; omega
          have t3 : (a : Int) + 1 - 1 = (a : Int) := by omega
          have u1 : (0 : Int) ≤ (a : Int) := by omega
          have u1e : decide ((0 : Int) ≤ (a : Int)) = true := decide_eq_true u1
          have u2 : IntKind.i64.wrap ((i : Int) - (a : Int)) = (d : Int) := by rw [IntKind.wrap_i64]; have := HI.out; omega
          have u3 : ¬ (d : Int) ≤ 8192 := by omega
          have u4 : decide ((d : Int) ≤ 8192) = false := decide_eq_false u3
          have u5 : decide (d ≤ 8192) = false := decide_eq_false (by omega)
          clear ht hTi ht0 hd
          go_wp2_with fail
          go_quiet (fail)
          go_wp2_with (refine arm_ix70 rfl _ _ rfl W.heap.size h rfl rfl hh ?_)
          have HN := Lib.hid (Wr.table (k := h) (HH.out.2.2.1.drewN nq) HH.out.1 (.int .i64 ((i : Int) + 1)))
          go_roundw
          case rel =>
            have k1 := HH.out
            refine PkRel.mk (Blk.set_ k1.1 h _) (k1.2.1.upd h (i + 1) hh) HN.out ((k1.2.2.2.1).setCell (p := ⟨W.heap.size, h, none⟩) (Nat.le_refl _) _) (by rw [setCell_size]; exact k1.2.2.2.2) HSK2.out rfl (by go_num)
          case measure => have := HI.out; simp [intOf]; omega
    · have g1 : ¬ (i : Int) + 2 < (x.size : Int) := by omega
      have g2 : decide ((i : Int) + 2 < (x.size : Int)) = false := decide_eq_false g1
      have p2 : IntKind.i64.wrap ((i : Int) + 2) = (i : Int) + 2 := by rw [IntKind.wrap_i64]; omega
      obtain ⟨hst, hsf, hsl⟩ := hP.stop hi
      have hBW : Below W.heap.size W w0 := hB
      have HB := Lib.hid (And.intro hBW hz)
      have f0 : (0 : Int) ≤ (from_ : Int) := by omega
      have f2 : (from_ : Int) ≤ (x.size : Int) := by omega
      obtain ⟨vv, j1, j2, j3, j4⟩ := hw
      have hw : Wr w0 wr (W.heap.size + 1) xs ⟨#[]⟩ := ⟨vv, j1, j2, j3, j4⟩
      have k0 := Blk.cell j1 1
      have k1 := Blk.frozen j1 1
      simp only [List.getElem?_toArray, List.getElem?_cons_zero, List.getElem?_cons_succ] at k0
      have HC := Lib.hid (flush_any w0 _ (W.heap.size + 1) xs (x.extract from_ x.size) (Wr.wait hw (x.extract from_ x.size)) (by omega) ((x.extract from_ x.size).size + 1) (by omega))
      have HST := Lib.hid hst
      have hpl := (pkd_says x).2
      clear hA hT hw hB hz hAr hP hst hsf hsl hBW hi hix hfi HP HH j1 j2 j3 j4
      go_wp2_with fail
      refine HC.out.mono ?_
      rintro e w5 ⟨rfl, hw5⟩
      rw [show fl ((x.extract from_ x.size).size + 1) (x.extract from_ x.size).data.toList xs = pkd x from HST.out] at hw5
      obtain ⟨A5, c5, k5, o5⟩ := hw5.load
      have F5 := Lib.hid hw5
      have O5 := Lib.hid o5
      have HPL := Lib.hid hpl
      have HPT := Lib.hid (pkt_says x).2
      have HE := Lib.hid (And.intro (packS_no x h1 h2) (packS_yes x h1 h2))
      clear hw5 k0 k1 g1 g2 p2 f0 f2 o5
      have q1 : IntKind.i64.wrap (((pkd x).length : Int) + 4) = ((pkd x).length : Int) + 4 := by rw [IntKind.wrap_i64]; have := HPL.out; omega
      clear hpl
      by_cases hm : (pkd x).length + 4 > x.size
      · have q2 : (x.size : Int) < ((pkd x).length : Int) + 4 := by omega
        have q3 : decide ((x.size : Int) < ((pkd x).length : Int) + 4) = true := decide_eq_true q2
        have HPM := Lib.hid (fun (d : Decidable (Two x)) => @pkt_more x hm d)
        have HT := Lib.hid (twice_any w0 w5 (W.heap.size + 1) (pkd x) x F5.out h2)
        clear hm
        generalize (pkd x).length = L at *
        go_wp2_with fail
        refine HT.out.mono ?_
        rintro e w6 ⟨rfl, hw6⟩
        rw [HPM.out] at hw6
        clear k5 q1 q2 q3
        obtain ⟨A6, c6, k6, o6⟩ := hw6.load
        have hcv := own_string Try.underlying56 Try.underlying5 Try.underlying9 o6
        have F6 := Lib.hid hw6
        have r1 : IntKind.i64.wrap (((pkt x).length : Int) + 4) = ((pkt x).length : Int) + 4 := by rw [IntKind.wrap_i64]; have := HPT.out; omega
        clear hw6 o6
        by_cases hm2 : (pkt x).length + 4 > x.size
        · have r2 : (x.size : Int) < ((pkt x).length : Int) + 4 := by omega
          have r3 : decide ((x.size : Int) < ((pkt x).length : Int) + 4) = true := decide_eq_true r2
          have HM2 := Lib.hid hm2
          clear hm2
          generalize hLL : (pkt x).length = L at *
          clear hLL
          go_wp2_with fail
          go_ret2
          exact ⟨by rw [HE.out.1 HM2.out]; rfl, HB.out.1.trans (F6.out.bel.mono (by rw [HB.out.2]; omega))⟩
        · have r2 : ¬ (x.size : Int) < ((pkt x).length : Int) + 4 := by omega
          have r3 : decide ((x.size : Int) < ((pkt x).length : Int) + 4) = false := decide_eq_false r2
          have HM2 := Lib.hid hm2
          clear hm2
          generalize hLL : (pkt x).length = L at *
          clear hLL
          go_wp2_with fail
          go_ret2
          exact ⟨by rw [HE.out.2 HM2.out]; rfl, HB.out.1.trans (F6.out.bel.mono (by rw [HB.out.2]; omega))⟩
      · have hm2 : ¬ (pkt x).length + 4 > x.size := by rw [← pkt_less x hm]; exact hm
        have hres := HE.out.2 hm2
        rw [← pkt_less x hm] at hres
        have HRES := Lib.hid hres
        have hcv := own_string Try.underlying56 Try.underlying5 Try.underlying9 O5.out
        have r2 : ¬ (x.size : Int) < ((pkd x).length : Int) + 4 := by omega
        have r3 : decide ((x.size : Int) < ((pkd x).length : Int) + 4) = false := decide_eq_false r2
        clear hm hm2 hres HPL HPT
        generalize hLL : (pkd x).length = L at *
        clear hLL
        go_wp2_with fail
        go_ret2
        exact ⟨by rw [HRES.out]; rfl, HB.out.1.trans (F5.out.bel.mono (by rw [HB.out.2]; omega))⟩
end Go.Proofs.Ytdadggaecgkhfaa.LZ
