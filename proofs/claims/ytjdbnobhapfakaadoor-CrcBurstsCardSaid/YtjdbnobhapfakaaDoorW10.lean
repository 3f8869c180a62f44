/- Walk of CrcBursts. -/
import Derived.Test.YtjdbnobhapfakaaDoorW9
import Derived.Lib.ConvBytes
import Derived.Deep.DeepCutAuto
namespace Go.Proofs.YtjdbnobhapfakaaDoor
open Go.RowKit
open CrcM
set_option linter.unusedVariables false
set_option linter.unusedSimpArgs false
/-- a row of bytes that may be written -/
def Row8 (w : World) (g : Nat) (m : List UInt8) : Prop := (∀ j b, m[j]? = some b → w.cell? ⟨g, j, none⟩ = some (.int .u8 b.toNat)) ∧ (∀ j, j < m.length → w.frozen? ⟨g, j, none⟩ = false)
theorem Row8.set_ {w : World} {g : Nat} {m : List UInt8} (h : Row8 w g m) (j : Nat) (b : UInt8) (hj : j < m.length) : Row8 (w.setCell ⟨g, j, none⟩ (.int .u8 b.toNat)) g (m.set j b) := by
  refine ⟨fun i x hx => ?_, fun i hi => by rw [World.frozen?_setCell]; exact h.2 i (by simpa using hi)⟩
  rw [List.getElem?_set] at hx
  by_cases e : j = i
  · subst e
    rw [if_pos rfl, if_pos hj] at hx
    injection hx with hx
    subst hx
    exact World.cell?_setCell_same _ _ _ (h.1 j _ (List.getElem?_eq_getElem hj))
  · rw [if_neg e] at hx
    rw [World.cell?_setCell_other _ _ _ _ (by simp [e])]
    exact h.1 i x hx
theorem Row8.new (w : World) (s : ByteArray) : Row8 (Lib.bytesWorld w 5 s) w.heap.size s.data.toList := by
  refine ⟨fun j b hb => ?_, fun j hj => ?_⟩
  · have hj : j < s.size := by
      rcases Nat.lt_or_ge j s.size with h | h
      · exact h
      · rw [List.getElem?_eq_none (by simp; omega)] at hb; cases hb
    rw [Lib.bytesWorld_cell w 5 s j hj]
    simp [List.getD, hb]
  · have hsz : j < (Lib.bytesCells w 5 s).size := by simp [Lib.bytesCells] at hj ⊢; omega
    simp [World.frozen?, Lib.bytesWorld_at_new]
    omega
theorem below_bytes (w : World) (s : ByteArray) : Below w.heap.size w (Lib.bytesWorld w 5 s) :=
  ⟨by unfold Lib.bytesWorld World.freeze; rw [if_neg (by decide)]; rfl, by unfold Lib.bytesWorld World.freeze; rw [if_neg (by decide)]; rfl, by unfold Lib.bytesWorld World.freeze; rw [if_neg (by decide)]; rfl,
    by rw [Lib.bytesWorld_size]; omega, fun k hk => Lib.bytesWorld_at_old w 5 s k hk⟩
theorem xor_mul_pow (a b n : Nat) : (a ^^^ b) * 2 ^ n = a * 2 ^ n ^^^ b * 2 ^ n := by
  rw [← Nat.shiftLeft_eq, ← Nat.shiftLeft_eq, ← Nat.shiftLeft_eq, Nat.shiftLeft_xor_distrib]
theorem le_cons (b : UInt8) (l : List UInt8) : le (b :: l) = b.toNat ^^^ (le l * 2 ^ 8) := by
  rw [xor_high _ 8 _ b.toNat_lt]
  show b.toNat + 256 * le l = _
  rw [Nat.mul_comm]
theorem le_set (m : List UInt8) : ∀ (j : Nat) (b' : UInt8) (x : Nat) (hj : j < m.length), b'.toNat = m[j].toNat ^^^ x → le (m.set j b') = le m ^^^ (x * 2 ^ (8 * j)) := by
  induction m with
  | nil => intro j b' x hj; exact absurd hj (by simp)
  | cons b l ih =>
    intro j b' x hj h
    cases j with
    | zero =>
      show le (b' :: l) = _
      rw [le_cons, le_cons, h]
      show b.toNat ^^^ x ^^^ _ = _
      rw [xor_right_comm, Nat.mul_zero, Nat.pow_zero, Nat.mul_one]
    | succ j =>
      show le (b :: l.set j b') = _
      rw [le_cons, le_cons, ih j b' x (by simpa using hj) h, xor_mul_pow, ← Nat.xor_assoc, Nat.mul_add 8, Nat.pow_add, Nat.mul_assoc, Nat.mul_one]
/-- one bit more is turned -/
theorem burst_bit (m : List UInt8) (L c q k : Nat) (b : UInt8) (hj : (q + k) / 8 < m.length) (hb : m[(q + k) / 8] = b) (hbit : c / 2 ^ k % 2 = 1) (hle : le m = L ^^^ (c % 2 ^ k * 2 ^ q)) :
    le (m.set ((q + k) / 8) (UInt8.ofNat (b.toNat ^^^ 2 ^ ((q + k) % 8)))) = L ^^^ (c % 2 ^ (k + 1) * 2 ^ q) := by
  have hr : 2 ^ ((q + k) % 8) < 2 ^ 8 := Nat.pow_lt_pow_right (by decide) (Nat.mod_lt _ (by decide))
  have hx := Nat.xor_lt_two_pow b.toNat_lt hr
  have e : 2 ^ ((q + k) % 8) * 2 ^ (8 * ((q + k) / 8)) = 2 ^ k * 2 ^ q := by
    rw [← Nat.pow_add, ← Nat.pow_add]
    congr 1
    omega
  rw [le_set m _ _ (2 ^ ((q + k) % 8)) hj (by rw [hb, UInt8.toNat_ofNat', Nat.mod_eq_of_lt hx]), hle, e, Nat.xor_assoc, mod_more, hbit, xor_mul_pow, Nat.one_mul]
theorem bit_ne (c k : Nat) (hbit : c / 2 ^ k % 2 = 1) : c % 2 ^ (k + 1) ≠ 0 := by
  rw [Nat.mod_pow_succ, hbit]
  have := Nat.two_pow_pos k
  omega
theorem u8_turn (b : UInt8) (r : Nat) (hr : r < 8) : bits .xor .u8 (b.toNat : Int) ((2 : Int) ^ r % 256) = ((UInt8.ofNat (b.toNat ^^^ 2 ^ r)).toNat : Int) := by
  have h2 : 2 ^ r < 2 ^ 8 := Nat.pow_lt_pow_right (by decide) hr
  have hx := Nat.xor_lt_two_pow b.toNat_lt h2
  have e : ((2 : Int) ^ r % 256) = ((2 ^ r : Nat) : Int) := by
    rw [show ((2 : Int) ^ r) = ((2 ^ r : Nat) : Int) from by simp]
    generalize 2 ^ r = p at *
    omega
  rw [e, u8_xor_nat b.toNat (2 ^ r) b.toNat_lt h2, UInt8.toNat_ofNat', Nat.mod_eq_of_lt hx]
theorem str_nums (m : List UInt8) : strOfNums (m.map fun b => (b.toNat : Int)) = ⟨m.toArray⟩ := by
  unfold strOfNums
  rw [List.map_map]
  congr 2
  conv => rhs; rw [← List.map_id m]
  apply List.map_congr_left
  intro b _
  simp
set_option maxHeartbeats 1000000 in
theorem law_bursts_at (s : ByteArray) (at' : Int) (q c : Nat) (w : World) (hs : s.size ≤ 140737488355328) (hs0 : 0 < s.size) (hc0 : 0 < c) (hc : c < 18446744073709551616) (hq : q < 8 * s.size) (hat : (at' = q ∧ 0 ≤ at' ∧ at' < 8 * (s.size : Int)) ∨ (q = 0 ∧ (at' < 0 ∨ (0 ≤ at' ∧ 8 * (s.size : Int) ≤ at')))) (ht : Tab w) (h0 : 0 < w.heap.size) :
    Calls Tryd.prog 4 #[.string s, .int .i64 at', .int .u64 c] w fun e w' => e = .returned (.bool true) ∧ Below w.heap.size w w' := by
  have kc := fun w => Lib.run_convert_string_bytes (P := Tryd.prog) w 9 27 5 s Tryd.underlying9 Tryd.underlying27 Tryd.underlying5
  have hl1 : ((s.size : Int) == 0) = false := by rw [beq_eq_false_iff_ne]; omega
  have hl2 : ((c : Int) == 0) = false := by rw [beq_eq_false_iff_ne]; omega
  go_enter Tryd.func4, Tryd.ntmps4
  obtain ⟨o, ho, ho2⟩ : ∃ o : Bool, o = (decide (at' < 0) || decide (8 * (s.size : Int) ≤ at')) ∧ ((o = false ∧ at' = (q : Int)) ∨ (o = true ∧ (0 : Int) = (q : Int))) := by
    refine ⟨_, rfl, ?_⟩
    rcases hat with ⟨h1, h2, h3⟩ | ⟨h1, h2⟩
    · exact .inl ⟨by simp; omega, h1⟩
    · exact .inr ⟨by simp; omega, by omega⟩
  have HO := Lib.hid ho
  clear ho
  go_upto_region 4 with fail
  go_cut [28] (fun b wx => b = .bool o ∧ w = wx)
  case first =>
    by_cases h1 : at' < 0
    · go_wp2_with fail
      go_meet
      exact ⟨by rw [HO.out]; simp [h1], rfl⟩
    · by_cases h2 : 8 * (s.size : Int) ≤ at'
      all_goals
        go_wp2_with fail
        go_meet
        exact ⟨by rw [HO.out]; simp [h1, h2], rfl⟩
  case rest =>
  obtain ⟨rfl, rfl⟩ := hcut
  clear HO
  go_upto_if 28 with fail
  go_cut [1] (fun a wx => a = .int .i64 q ∧ w = wx)
  case first =>
    rcases ho2 with ⟨rfl, h1⟩ | ⟨rfl, h1⟩
    · go_wp2_with fail
      go_meet
      exact ⟨by rw [h1], rfl⟩
    · go_wp2_with fail
      go_meet
      exact ⟨by rw [h1], rfl⟩
  case rest =>
  obtain ⟨rfl, rfl⟩ := hcut
  clear ho2 hat
  have hrow := Row8.new w s
  have hbel := below_bytes w s
  have hlen : s.data.toList.length = s.size := by simp
  go_wp2_with fail
  generalize Lib.bytesWorld w 5 s = wb at *
  generalize grownCap w s.size 0 5 = cap at *
  clear kc
  go_loopw [9, 10] (fun t i wr => ∃ (k : Nat) (m : List UInt8), k ≤ 64 ∧ q + k ≤ 8 * s.size ∧ i = .int .i64 k ∧ t = .bool (decide (c % 2 ^ k ≠ 0)) ∧ m.length = s.size ∧ le m = le s.data.toList ^^^ (c % 2 ^ k * 2 ^ q) ∧ Row8 wr w.heap.size m ∧ Below w.heap.size w wr) (fun _ i _ => 64 - (intOf i).toNat)
  case atStart => exact ⟨0, s.data.toList, by omega, by omega, rfl, by simp [Nat.mod_one], hlen, by simp [Nat.mod_one], hrow, hbel⟩
  case round =>
    clear hrow hbel
    obtain ⟨k, m, hk, hqk, rfl, rfl, hml, hle, hrow, hbel⟩ := hrel
    by_cases hin : k < 64 ∧ q + k < 8 * s.size
    · obtain ⟨hk64, hqb⟩ := hin
      have hI1 : (k : Int) < 64 := by omega
      have hI2 : (q : Int) + (k : Int) < 8 * (s.size : Int) := by omega
      have hcast : ((c : Int) / 2 ^ k).tmod 2 = ((c / 2 ^ k % 2 : Nat) : Int) := by
        rw [show ((c : Int) / 2 ^ k) = ((c / 2 ^ k : Nat) : Int) from by simp]; rfl
      rcases Nat.mod_two_eq_zero_or_one (c / 2 ^ k) with hb | hb
      · have hs1 : c % 2 ^ (k + 1) = c % 2 ^ k := by rw [mod_more, hb]; simp
        rw [hb] at hcast
        have HS := Lib.hid hs1
        have HL := Lib.hid hle
        clear hs1 hle hb
        generalize c % 2 ^ k = v at *
        go_wp2
        go_roundw
        case rel => exact ⟨k + 1, m, by omega, by omega, by go_num, by rw [HS.out], hml, by rw [HS.out]; exact HL.out, hrow, hbel⟩
        case measure => simp [intOf]; omega
      · rw [hb] at hcast
        have hj : (q + k) / 8 < m.length := by omega
        have hcell := hrow.1 ((q + k) / 8) _ (List.getElem?_eq_getElem hj)
        have hfr := hrow.2 ((q + k) / 8) hj
        have hbb := m[(q + k) / 8].toNat_lt
        generalize hbg : m[(q + k) / 8] = b at *
        have hj1 : (0 : Int) ≤ ((q : Int) + k) / 8 := by omega
        have hj2 : ((q : Int) + k) / 8 < (s.size : Int) := by omega
        have hux := u8_turn b ((q + k) % 8) (Nat.mod_lt _ (by decide))
        have hset := hrow.set_ ((q + k) / 8) (UInt8.ofNat (b.toNat ^^^ 2 ^ ((q + k) % 8))) hj
        have hbel2 := hbel.setCell (p := ⟨w.heap.size, (q + k) / 8, none⟩) (Nat.le_refl _) (.int .u8 (UInt8.ofNat (b.toNat ^^^ 2 ^ ((q + k) % 8))).toNat)
        have hle2 := burst_bit m _ c q k b hj hbg hb hle
        have hne := bit_ne c k hb
        have hml2 : (m.set ((q + k) / 8) (UInt8.ofNat (b.toNat ^^^ 2 ^ ((q + k) % 8)))).length = s.size := by simpa using hml
        have hF := Lib.hid (And.intro hset (And.intro hbel2 (And.intro hle2 (And.intro hne hml2))))
        clear hset hbel2 hle2 hne hml2 hbg hb hle hrow hbel
        generalize UInt8.ofNat (b.toNat ^^^ 2 ^ ((q + k) % 8)) = b2 at *
        go_wp2
        go_roundw
        case rel => exact ⟨k + 1, _, by omega, by omega, by go_num, by rw [decide_eq_true hF.out.2.2.2.1], hF.out.2.2.2.2, hF.out.2.2.1, hF.out.1, hF.out.2.1⟩
        case measure => simp [intOf]; omega
    · have hT := ht.below h0 hbel
      have hsure := fun w1 h => sure_any w1 h
      have hend : k = 64 ∨ q + k = 8 * s.size := by omega
      by_cases hv : c % 2 ^ k = 0
      · have hd : decide (c % 2 ^ k ≠ 0) = false := by rw [decide_eq_false_iff_not]; exact fun h => h hv
        have H1 := Lib.hid (sure_any wr hT)
        rw [hd]
        clear hd hv hle hin hT hsure ht
        rcases hend with e | e
        · have hk1 : ¬ ((k : Int) < 64) := by omega
          clear e
          go_wp2_with (go_at_call 13; refine H1.out.mono ?_; rintro e w' ⟨rfl, hb2⟩)
          go_ret
          exact ⟨rfl, hbel.trans (hb2.mono hbel.size)⟩
        · by_cases hk1 : (k : Int) < 64
          all_goals
            have hk2 : ¬ ((q : Int) + (k : Int) < 8 * (s.size : Int)) := by omega
            have HE := Lib.hid e
            clear e
            go_wp2_with (go_at_call 13; refine H1.out.mono ?_; rintro e w' ⟨rfl, hb2⟩)
            go_ret
            exact ⟨rfl, hbel.trans (hb2.mono hbel.size)⟩
      · have hd : decide (c % 2 ^ k ≠ 0) = true := decide_eq_true hv
        have hvl : c % 2 ^ k < 2 ^ 64 := Nat.lt_of_le_of_lt (Nat.mod_le _ _) hc
        have hne := burst s.data.toList m (by rw [hml, hlen]) q (c % 2 ^ k) (by rw [hlen]; omega) hvl hv hle
        have hconv := run_convert_bytes_arg (P := Tryd.prog) wr 27 5 Tryd.underlying27 Tryd.underlying5 w.heap.size 0 s.size cap (m.map fun b => (b.toNat : Int)) (by simpa using hml) (fun i hi => by
          rw [Nat.zero_add, hrow.1 i _ (List.getElem?_eq_getElem (by omega))]
          simp [List.getD, List.getElem?_eq_getElem (show i < m.length by omega)]) 9 Tryd.underlying9
        rw [str_nums m] at hconv
        have hms : (ByteArray.mk m.toArray).size = s.size := by show m.toArray.size = _; simpa using hml
        have H1 := Lib.hid (sum_any ⟨m.toArray⟩ wr (by rw [hms]; unfold maxLen; omega) hT)
        have H2 := Lib.hid (sum_any s wr (by unfold maxLen; omega) hT)
        have H3 := Lib.hid (sure_any wr hT)
        have hneq : (((upd 0 (ByteArray.mk m.toArray).data.toList : Nat) : Int) != ((upd 0 s.data.toList : Nat) : Int)) = true := by
          rw [bne_iff_ne]
          intro h
          exact hne (by exact_mod_cast h)
        rw [hd]
        clear hd hv hle hin hT hsure ht hne hvl hms hrow
        generalize upd 0 (ByteArray.mk m.toArray).data.toList = u1 at *
        generalize upd 0 s.data.toList = u2 at *
        generalize ByteArray.mk m.toArray = sm at *
        rcases hend with e | e
        · have hk1 : ¬ ((k : Int) < 64) := by omega
          clear e
          go_wp2_with fail
          refine H1.out.mono ?_; rintro e w' ⟨rfl, rfl⟩
          go_wp2_with fail
          refine H2.out.mono ?_; rintro e w' ⟨rfl, rfl⟩
          go_wp2_with fail
          refine H3.out.mono ?_; rintro e w' ⟨rfl, hb2⟩
          go_wp2_with fail
          go_ret
          exact ⟨rfl, hbel.trans (hb2.mono hbel.size)⟩
        · by_cases hk1 : (k : Int) < 64
          all_goals
            have hk2 : ¬ ((q : Int) + (k : Int) < 8 * (s.size : Int)) := by omega
            have HE := Lib.hid e
            clear e
            go_wp2_with fail
            refine H1.out.mono ?_; rintro e w' ⟨rfl, rfl⟩
            go_wp2_with fail
            refine H2.out.mono ?_; rintro e w' ⟨rfl, rfl⟩
            go_wp2_with fail
            refine H3.out.mono ?_; rintro e w' ⟨rfl, hb2⟩
            go_wp2_with fail
            go_ret
            exact ⟨rfl, hbel.trans (hb2.mono hbel.size)⟩
/-- where nothing is turned: an empty text, or no bit -/
theorem law_bursts_none (s : ByteArray) (at' : Int) (c : Nat) (w : World) (hs : s.size ≤ 140737488355328) (h : s.size = 0 ∨ c = 0) (ht : Tab w) :
    Calls Tryd.prog 4 #[.string s, .int .i64 at', .int .u64 c] w fun e w' => e = .returned (.bool true) ∧ Below w.heap.size w w' := by
  have H3 := Lib.hid (sure_any w ht)
  clear ht
  by_cases h1 : s.size = 0
  · have hl1 : ((s.size : Int) == 0) = true := by rw [h1]; rfl
    clear h h1
    go_enter Tryd.func4, Tryd.ntmps4
    go_wp2_with (go_at_call 13; refine H3.out.mono ?_; rintro e w' ⟨rfl, hb2⟩)
    go_ret
    exact ⟨rfl, hb2⟩
  · have hc0 : c = 0 := h.resolve_left h1
    subst hc0
    have hl1 : ((s.size : Int) == 0) = false := by rw [beq_eq_false_iff_ne]; omega
    clear h h1
    go_enter Tryd.func4, Tryd.ntmps4
    go_wp2_with (go_at_call 13; refine H3.out.mono ?_; rintro e w' ⟨rfl, hb2⟩)
    go_ret
    exact ⟨rfl, hb2⟩
theorem law_bursts (s : ByteArray) (at' : Int) (c : Nat) (w : World) (hs : s.size ≤ 140737488355328) (hc : c < 18446744073709551616) (ht : Tab w) (h0 : 0 < w.heap.size) :
    Calls Tryd.prog 4 #[.string s, .int .i64 at', .int .u64 c] w fun e w' => e = .returned (.bool true) ∧ Below w.heap.size w w' := by
  by_cases h : s.size = 0 ∨ c = 0
  · exact law_bursts_none s at' c w hs h ht
  · by_cases hin : 0 ≤ at' ∧ at' < 8 * (s.size : Int)
    · exact law_bursts_at s at' at'.toNat c w hs (by omega) (by omega) hc (by omega) (.inl ⟨by omega, by omega, by omega⟩) ht h0
    · exact law_bursts_at s at' 0 c w hs (by omega) (by omega) hc (by omega) (.inr ⟨rfl, by omega⟩) ht h0
end Go.Proofs.YtjdbnobhapfakaaDoor
