/- Walks of write's own function value and of those of Add and Drop: the bytes that are written, one number behind the other; conditions as typed. -/
import Derived.Test.YtdadggaecgkhfaaH2
namespace Go.Proofs.Ytdadggaecgkhfaa
open Go.RowKit Go.Proofs.YtdadggaecgkhfaaW.PrintWords Go.Proofs.YtdadggaecgkhfaaW.PrintMore
open IM PIntsetPlays
set_option linter.unusedVariables false
/-- a row of bytes of the call's own -/
def Row (w : World) (base : Nat) (v : Value) (xs : List Int) : Prop := OwnRow (fun (x : Int) (cs : List Value) => cs = [Value.int .u8 x]) 5 1 w base v xs
theorem Row.kd {w : World} {base : Nat} {v : Value} {xs : List Int} (h : Row w base v xs) : Kd.R (Kd.int .u8) 5 w base (fun k => v.ownBlock = some k) v xs := ⟨fun _ hk => hk, h⟩
theorem Row.of {w : World} {base : Nat} {ok : Nat → Prop} {v : Value} {xs : List Int} (h : Kd.R (Kd.int .u8) 5 w base ok v xs) : Row w base v xs := h.2
theorem Row.ne {w : World} {base : Nat} {v : Value} {xs : List Int} (h : Row w base v xs) {g t : Nat} {cs : Array Value} (hb : Blk w g t cs) (ht : 5 ≠ t) : some g ≠ v.ownBlock := OwnRow.ne_block h hb ht
/-- what the function value that 'write' hands on knows: the width, and the row written so far -/
def Out (w0 W : World) (gw g7 wd : Nat) (xs : List Int) : Prop :=
  ∃ v, Blk W gw 3 #[.int .i64 wd] ∧ Blk W g7 56 #[v] ∧ Row W w0.heap.size v xs ∧ Below w0.heap.size w0 W ∧ w0.heap.size ≤ gw ∧ w0.heap.size ≤ g7
theorem Out.below {w0 W W' : World} {gw g7 wd : Nat} {xs : List Int} (h : Out w0 W gw g7 wd xs) (hb : Below W.heap.size W W') : Out w0 W' gw g7 wd xs := by
  obtain ⟨v, h1, h2, h3, h4, h5, h6⟩ := h
  exact ⟨v, h1.below hb h1.lt, h2.below hb h2.lt, OwnRow.below h3 hb, h4.trans (hb.mono h4.size), h5, h6⟩
theorem Out.drew {w0 W : World} {gw g7 wd : Nat} {xs : List Int} (h : Out w0 W gw g7 wd xs) : Out w0 W.drew gw g7 wd xs := h.below (Below.refl _ _).drew
set_option maxHeartbeats 400000 in
theorem out_any (w0 W : World) (gw g7 wd : Nat) (xs : List Int) (x : Int) (h : Out w0 W gw g7 wd xs) (hl : xs.length + wd < 140737488355328) :
    Calls Try.prog 55 #[.int .i64 x, .pointer (some ⟨g7, 0, none⟩), .pointer (some ⟨gw, 0, none⟩)] W fun e w' => e = .returned (.tuple #[]) ∧ Out w0 w' gw g7 wd (xs ++ lebI x wd) := by
  obtain ⟨v, h1, h2, h3, h4, h5, h6⟩ := h
  obtain ⟨k, hk⟩ := (put_ev xs x wd hl).rounds
  have hput := Lib.hid (intset_put.calls k (fun k => v.ownBlock = some k) v xs x wd _ w0 W h4 h3.kd hk)
  have c1 := h1.cell 0
  have c2 := h2.cell 0
  have n1 := h3.ne h1 (by decide)
  have n2 := h3.ne h2 (by decide)
  have HF := Lib.hid (And.intro h1 (And.intro h2 (And.intro n1 n2)))
  simp only [List.getElem?_toArray, List.getElem?_cons_zero] at c1 c2
  clear h1 h2 h3 n1 n2 hk
  go_enter Try.func55, Try.ntmps55
  go_wp2_with fail
  refine hput.out.mono ?_
  rintro e w1 ⟨v1, rfl, hR, hbel, hkept⟩
  obtain ⟨A1, cap1, rfl⟩ := Kd.R_slice hR
  have b1 : Blk w1 gw 3 #[.int .i64 wd] := blk_kept HF.out.1 hkept (fun h => HF.out.2.2.1 h.symm)
  have b2 : Blk w1 g7 56 #[v] := blk_kept HF.out.2.1 hkept (fun h => HF.out.2.2.2 h.symm)
  have r1 := Row.of hR
  have hc := b2.cell 0
  have hf := b2.frozen 0
  have hne : gw ≠ g7 := Blk.ne_ b1 b2 (by decide)
  have d1 := b1.far (p := ⟨g7, 0, none⟩) hne (.slice A1 (xs ++ lebI x wd).length cap1)
  have d2 := b2.set_ 0 (.slice A1 (xs ++ lebI x wd).length cap1)
  have d3 : Row (w1.setCell ⟨g7, 0, none⟩ (.slice A1 (xs ++ lebI x wd).length cap1)) w0.heap.size (.slice A1 (xs ++ lebI x wd).length cap1) (xs ++ lebI x wd) := OwnRow.set_ r1 b2 (by decide) 0 (.slice A1 (xs ++ lebI x wd).length cap1)
  have d4 := hbel.setCell (p := ⟨g7, 0, none⟩) h6 (.slice A1 (xs ++ lebI x wd).length cap1)
  have HO := Lib.hid (show Out w0 (w1.setCell ⟨g7, 0, none⟩ (.slice A1 (xs ++ lebI x wd).length cap1)) gw g7 wd (xs ++ lebI x wd) from ⟨(.slice A1 (xs ++ lebI x wd).length cap1), d1, d2, d3, d4, h5, h6⟩)
  simp only [List.getElem?_toArray, List.getElem?_cons_zero] at hc
  clear b1 b2 r1 d1 d2 d3 d4 hR hbel hkept
  generalize (xs ++ lebI x wd).length = len1 at *
  go_wp2_with fail
  go_end0
  exact ⟨rfl, HO.out⟩
/-- what Add's own function value has handed out after k rounds -/
def outA (E : List Int) (ps : Nat) (x : Int) : Nat → List Int
  | 0 => []
  | k + 1 => outA E ps x k ++ ((if k = ps then [x] else []) ++ [E.getD k 0])
theorem outA_lo (E : List Int) (ps : Nat) (x : Int) : ∀ k, k ≤ ps → k ≤ E.length → outA E ps x k = E.take k := by
  intro k
  induction k with
  | zero => intro _ _; rfl
  | succ k ih =>
    intro h1 h2
    simp only [outA]
    rw [ih (by omega) (by omega), if_neg (by omega), List.take_succ_eq_append_getElem (by omega)]
    simp [List.getD, show k < E.length by omega]
theorem outA_hi (E : List Int) (ps : Nat) (x : Int) : ∀ k, ps < k → k ≤ E.length → outA E ps x k = E.take ps ++ [x] ++ (E.take k).drop ps := by
  intro k
  induction k with
  | zero => intro h; exact absurd h (by omega)
  | succ k ih =>
    intro h1 h2
    simp only [outA]
    have hk : k < E.length := by omega
    have hg : E.getD k 0 = E[k] := by simp [List.getD, hk]
    rw [hg, List.take_succ_eq_append_getElem hk, List.drop_append_of_le_length (by simp; omega)]
    by_cases e : k = ps
    · subst e
      rw [outA_lo E k x k (Nat.le_refl _) (by omega), if_pos rfl, List.drop_of_length_le (l := E.take k) (by simp; omega)]
      simp
    · rw [ih (by omega) (by omega), if_neg e]
      simp
theorem outA_all (E : List Int) (ps : Nat) (x : Int) (h : ps ≤ E.length) : outA E ps x E.length ++ (if ps = E.length then [x] else []) = E.take ps ++ [x] ++ E.drop ps := by
  by_cases e : ps = E.length
  · rw [if_pos e, outA_lo E ps x _ (by omega) (Nat.le_refl _)]
    subst e
    simp
  · rw [if_neg e, outA_hi E ps x _ (by omega) (Nat.le_refl _)]
    simp
theorem outA_length (E : List Int) (ps : Nat) (x : Int) : ∀ k, (outA E ps x k).length ≤ 2 * k := by
  intro k
  induction k with
  | zero => exact Nat.le_refl _
  | succ k ih =>
    simp only [outA, List.length_append, List.length_singleton]
    split <;> simp <;> omega
abbrev flat (wd : Nat) (l : List Int) : List Int := l.flatMap fun n => lebI n wd
theorem flat_snoc (wd : Nat) (xs l : List Int) (n : Int) : xs ++ flat wd l ++ lebI n wd = xs ++ flat wd (l ++ [n]) := by simp [flat]
theorem flat_len (wd : Nat) (hw : wd ≤ 8) (xs l : List Int) (hx : xs.length ≤ 8) (hl : l.length ≤ 2097153) : (xs ++ flat wd l).length + wd < 140737488355328 := by
  rw [List.length_append, flat_length]
  have := Nat.mul_le_mul hl hw
  omega
theorem Out.bel {w0 W : World} {gw g7 wd : Nat} {xs : List Int} (h : Out w0 W gw g7 wd xs) : Below w0.heap.size w0 W := by
  obtain ⟨v, _, _, _, h4, _⟩ := h
  exact h4
set_option maxHeartbeats 2000000 in
theorem add1_any (w0 W : World) (gw g7 wd : Nat) (xs : List Int) (p : ByteArray) (x : Int) (ps a ba bn : Nat) (hs : IM.Shape p) (hps : ps ≤ IM.N p) (hw : wd ≤ 8) (hx : xs.length ≤ 8)
    (hA : SetIn w0 a p) (hP : NumIn w0 ba (ps : Nat)) (hN : NumIn w0 bn x) (hO : Out w0 W gw g7 wd xs) :
    Calls Try.prog 41 #[.func (Fn.func 55) #[] #[.pointer (some ⟨g7, 0, none⟩), .pointer (some ⟨gw, 0, none⟩)], .pointer (some ⟨a, 0, none⟩), .pointer (some ⟨ba, 0, none⟩), .pointer (some ⟨bn, 0, none⟩)] W
      fun e w' => e = .returned (.tuple #[]) ∧ Out w0 w' gw g7 wd (xs ++ flat wd ((els p).take ps ++ [x] ++ (els p).drop ps)) := by
  have hNp := hs.2.2.1
  have hlen := els_length p
  have HA := Lib.hid hA
  have HP := Lib.hid hP
  have HN := Lib.hid hN
  have HS := Lib.hid hs
  have HLEN := Lib.hid hlen
  have hb0 := hO.bel
  have h2 := SetIn.c2 (Blk.below hA hb0 hA.lt)
  clear hA hP hN hs hlen
  go_enter Try.func41, Try.ntmps41
  go_wp2_with fail
  go_loopw [8] (fun i wr => ∃ k : Nat, k ≤ IM.N p ∧ i = .int .i64 k ∧ Out w0 wr gw g7 wd (xs ++ flat wd (outA (els p) ps x k))) (fun i _ => IM.N p - (intOf i).toNat)
  case atStart => exact ⟨0, by omega, rfl, by simpa [flat, outA] using hO⟩
  case round =>
    clear h2 hb0 hO
    obtain ⟨k, hk, rfl, hO⟩ := hrel
    have hb := hO.bel
    have c0 := SetIn.c0 (Blk.below HA.out hb HA.out.lt)
    have c1 := SetIn.c1 (Blk.below HA.out hb HA.out.lt)
    have c2 := SetIn.c2 (Blk.below HA.out hb HA.out.lt)
    have cp := NumIn.c (Blk.below HP.out hb HP.out.lt)
    have cn := NumIn.c (Blk.below HN.out hb HN.out.lt)
    have hlo := outA_length (els p) ps x k
    have HO := Lib.hid hO
    clear hb hO
    by_cases hlt : k < IM.N p
    · have hg : (els p).getD k 0 = el p (IM.W p) k := by simp [List.getD, els_at p k hlt]
      have HG := Lib.hid hg
      have HT := Lib.hid (fun W => shape_at p HS.out k hlt W)
      clear hg
      generalize el p (IM.W p) k = y at *
      by_cases hkp : k = ps
      · have hq : ((k : Int) == ((ps : Nat) : Int)) = true := by rw [beq_iff_eq]; omega
        have HQ := Lib.hid hkp
        clear hkp
        go_wp2_with fail
        refine (out_any w0 _ gw g7 wd _ x HO.out (flat_len wd hw xs _ hx (by omega))).mono ?_
        rintro e w1 ⟨rfl, hO1⟩
        have hb1 := hO1.bel
        have d0 := SetIn.c0 (Blk.below HA.out hb1 HA.out.lt)
        have d1 := SetIn.c1 (Blk.below HA.out hb1 HA.out.lt)
        have d2 := SetIn.c2 (Blk.below HA.out hb1 HA.out.lt)
        have HO1 := Lib.hid hO1
        clear hO1 hb1
        go_wp2_with fail
        refine (HT.out _).mono ?_
        rintro e w2 ⟨rfl, hb2⟩
        have HO2 := Lib.hid (HO1.out.below hb2)
        clear hb2
        go_wp2_with fail
        refine (out_any w0 _ gw g7 wd _ y HO2.out (by rw [flat_snoc]; exact flat_len wd hw xs _ hx (by simp; omega))).mono ?_
        rintro e w3 ⟨rfl, hO3⟩
        have HO3 := Lib.hid hO3
        clear hO3
        go_wp2_with fail
        go_roundw
        case rel =>
          have h := HO3.out
          rw [flat_snoc, flat_snoc] at h
          have e : outA (els p) ps x (k + 1) = outA (els p) ps x k ++ [x] ++ [y] := by simp only [outA]; rw [if_pos HQ.out, HG.out, List.append_assoc]
          first
          | exact ⟨k + 1, by omega, by go_num, by rw [e]; exact h⟩
          | ((repeat apply Exists.intro); exact ⟨⟨k + 1, by omega, rfl, by rw [e]; exact h⟩, rfl⟩)
        case measure => simp [intOf]; omega
      · have hq : ((k : Int) == ((ps : Nat) : Int)) = false := by rw [beq_eq_false_iff_ne]; omega
        have HQ := Lib.hid hkp
        clear hkp
        go_wp2_with fail
        refine (HT.out _).mono ?_
        rintro e w2 ⟨rfl, hb2⟩
        have HO2 := Lib.hid (HO.out.below hb2)
        clear hb2
        go_wp2_with fail
        refine (out_any w0 _ gw g7 wd _ y HO2.out (flat_len wd hw xs _ hx (by omega))).mono ?_
        rintro e w3 ⟨rfl, hO3⟩
        have HO3 := Lib.hid hO3
        clear hO3
        go_wp2_with fail
        go_roundw
        case rel =>
          have h := HO3.out
          rw [flat_snoc] at h
          have e : outA (els p) ps x (k + 1) = outA (els p) ps x k ++ [y] := by simp only [outA]; rw [if_neg HQ.out, HG.out, List.nil_append]
          first
          | exact ⟨k + 1, by omega, by go_num, by rw [e]; exact h⟩
          | ((repeat apply Exists.intro); exact ⟨⟨k + 1, by omega, rfl, by rw [e]; exact h⟩, rfl⟩)
        case measure => simp [intOf]; omega
    · have ek : k = IM.N p := by omega
      have hall := outA_all (els p) ps x (by rw [HLEN.out]; exact hps)
      rw [HLEN.out, ← ek] at hall
      by_cases hkp : ps = k
      · rw [if_pos hkp] at hall
        have hq : (((ps : Nat) : Int) == ((IM.N p : Nat) : Int)) = true := by rw [beq_iff_eq]; omega
        have HALL := Lib.hid hall
        clear hall hkp ek
        go_wp2_with fail
        refine (out_any w0 _ gw g7 wd _ x HO.out (flat_len wd hw xs _ hx (by omega))).mono ?_
        rintro e w1 ⟨rfl, hO1⟩
        have HO1 := Lib.hid hO1
        clear hO1
        go_wp2_with fail
        go_end0
        have h := HO1.out
        rw [flat_snoc, HALL.out] at h
        exact ⟨rfl, h⟩
      · rw [if_neg hkp, List.append_nil] at hall
        have hq : (((ps : Nat) : Int) == ((IM.N p : Nat) : Int)) = false := by rw [beq_eq_false_iff_ne]; omega
        have HALL := Lib.hid hall
        clear hall hkp ek
        go_wp2_with fail
        go_end0
        have h := HO.out
        rw [HALL.out] at h
        exact ⟨rfl, h⟩
end Go.Proofs.Ytdadggaecgkhfaa
