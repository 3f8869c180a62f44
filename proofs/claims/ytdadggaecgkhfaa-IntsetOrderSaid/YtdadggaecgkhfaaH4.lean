/- Walks of Drop's function value, of 'write' over either, and of the program's Add and Drop: each answers what the document's do; conditions as typed. -/
import Derived.Test.YtdadggaecgkhfaaH3
import Derived.Laws.BytesArg
import Derived.Test.YtdadggaecgkhfaaWArr
namespace Go.Proofs.Ytdadggaecgkhfaa
open Go.RowKit Go.Proofs.YtdadggaecgkhfaaW.PrintWords Go.Proofs.YtdadggaecgkhfaaW.PrintMore
open IM PIntsetPlays
set_option linter.unusedVariables false
attribute [local go_sem ↓] Go.wp_at_zero Go.wp_at_succ
/-- what Drop's own function value has handed out after k rounds -/
def outD (E : List Int) (ps : Nat) : Nat → List Int
  | 0 => []
  | k + 1 => outD E ps k ++ (if k = ps then [] else [E.getD k 0])
theorem snoc_cut (t : List Int) (y : Int) (ps : Nat) : (t ++ [y]).take ps ++ (t ++ [y]).drop (ps + 1) = t.take ps ++ t.drop (ps + 1) ++ (if t.length = ps then [] else [y]) := by
  rw [List.take_append, List.drop_append]
  by_cases e : t.length = ps
  · rw [if_pos e, e, Nat.sub_self, show ps + 1 - ps = 1 from by omega]
    simp
  · rw [if_neg e]
    by_cases h : t.length < ps
    · rw [List.drop_of_length_le (l := t) (by omega), List.take_of_length_le (l := [y]) (by simp; omega), List.drop_of_length_le (l := [y]) (by simp; omega)]
      simp
    · rw [show ps - t.length = 0 from by omega, show ps + 1 - t.length = 0 from by omega]
      simp
theorem outD_is (E : List Int) (ps : Nat) : ∀ k, k ≤ E.length → outD E ps k = (E.take k).take ps ++ (E.take k).drop (ps + 1) := by
  intro k
  induction k with
  | zero => intro _; simp [outD]
  | succ k ih =>
    intro h
    have hk : k < E.length := by omega
    have hg : E.getD k 0 = E[k] := by simp [List.getD, hk]
    have hl : (E.take k).length = k := by simp; omega
    simp only [outD]
    rw [ih (by omega), hg, List.take_succ_eq_append_getElem hk, snoc_cut, hl]
theorem outD_all (E : List Int) (ps : Nat) : outD E ps E.length = E.take ps ++ E.drop (ps + 1) := by rw [outD_is E ps _ (Nat.le_refl _), List.take_length]
theorem outD_length (E : List Int) (ps : Nat) : ∀ k, (outD E ps k).length ≤ k := by
  intro k
  induction k with
  | zero => exact Nat.le_refl _
  | succ k ih =>
    simp only [outD, List.length_append]
    split <;> simp <;> omega
set_option maxHeartbeats 2000000 in
theorem drop1_any (w0 W : World) (gw g7 wd : Nat) (xs : List Int) (p : ByteArray) (ps a ba : Nat) (hs : IM.Shape p) (hw : wd ≤ 8) (hx : xs.length ≤ 8)
    (hA : SetIn w0 a p) (hP : NumIn w0 ba (ps : Nat)) (hO : Out w0 W gw g7 wd xs) :
    Calls Try.prog 46 #[.func (Fn.func 55) #[] #[.pointer (some ⟨g7, 0, none⟩), .pointer (some ⟨gw, 0, none⟩)], .pointer (some ⟨a, 0, none⟩), .pointer (some ⟨ba, 0, none⟩)] W
      fun e w' => e = .returned (.tuple #[]) ∧ Out w0 w' gw g7 wd (xs ++ flat wd ((els p).take ps ++ (els p).drop (ps + 1))) := by
  have hNp := hs.2.2.1
  have hlen := els_length p
  have HA := Lib.hid hA
  have HP := Lib.hid hP
  have HS := Lib.hid hs
  have HLEN := Lib.hid hlen
  have hb0 := hO.bel
  have h2 := SetIn.c2 (Blk.below hA hb0 hA.lt)
  clear hA hP hs hlen
  go_enter Try.func46, Try.ntmps46
  go_wp2_with fail
  go_loopw [7] (fun i wr => ∃ k : Nat, k ≤ IM.N p ∧ i = .int .i64 k ∧ Out w0 wr gw g7 wd (xs ++ flat wd (outD (els p) ps k))) (fun i _ => IM.N p - (intOf i).toNat)
  case atStart => exact ⟨0, by omega, rfl, by simpa [flat, outD] using hO⟩
  case round =>
    clear h2 hb0 hO
    obtain ⟨k, hk, rfl, hO⟩ := hrel
    have hb := hO.bel
    have c0 := SetIn.c0 (Blk.below HA.out hb HA.out.lt)
    have c1 := SetIn.c1 (Blk.below HA.out hb HA.out.lt)
    have c2 := SetIn.c2 (Blk.below HA.out hb HA.out.lt)
    have cp := NumIn.c (Blk.below HP.out hb HP.out.lt)
    have hlo := outD_length (els p) ps k
    have HO := Lib.hid hO
    clear hb hO
    by_cases hlt : k < IM.N p
    · have hg : (els p).getD k 0 = el p (IM.W p) k := by simp [List.getD, els_at p k hlt]
      have HG := Lib.hid hg
      have HT := Lib.hid (fun W => shape_at p HS.out k hlt W)
      clear hg
      generalize el p (IM.W p) k = y at *
      by_cases hkp : k = ps
      · have hq : ((k : Int) != ((ps : Nat) : Int)) = false := by rw [bne_eq_false_iff_eq]; omega
        have HQ := Lib.hid hkp
        clear hkp
        go_wp2_with fail
        go_roundw
        case rel =>
          have e : outD (els p) ps (k + 1) = outD (els p) ps k := by simp only [outD]; rw [if_pos HQ.out, List.append_nil]
          first
          | exact ⟨k + 1, by omega, by go_num, by rw [e]; exact HO.out⟩
          | ((repeat apply Exists.intro); exact ⟨⟨k + 1, by omega, rfl, by rw [e]; exact HO.out⟩, rfl⟩)
        case measure => simp [intOf]; omega
      · have hq : ((k : Int) != ((ps : Nat) : Int)) = true := by rw [bne_iff_ne]; omega
        have HQ := Lib.hid hkp
        clear hkp
        go_wp2_with fail
        refine (HT.out _).mono ?_
        rintro e w2 ⟨rfl, hb2⟩
        have HO2 := Lib.hid (HO.out.below hb2)
        clear hb2
        go_wp2_with fail
        refine (out_any w0 _ gw g7 wd _ y HO2.out (flat_len wd hw xs _ hx (by omega))).mono ?_
        rintro e w3 ⟨rfl, hO3⟩
        have HO3 := Lib.hid hO3
        clear hO3
        go_wp2_with fail
        go_roundw
        case rel =>
          have h := HO3.out
          rw [flat_snoc] at h
          have e : outD (els p) ps (k + 1) = outD (els p) ps k ++ [y] := by simp only [outD]; rw [if_neg HQ.out, HG.out]
          first
          | exact ⟨k + 1, by omega, by go_num, by rw [e]; exact h⟩
          | ((repeat apply Exists.intro); exact ⟨⟨k + 1, by omega, rfl, by rw [e]; exact h⟩, rfl⟩)
        case measure => simp [intOf]; omega
    · have ek : k = IM.N p := by omega
      have hall := outD_all (els p) ps
      rw [HLEN.out, ← ek] at hall
      have HALL := Lib.hid hall
      clear hall ek
      go_wp2_with fail
      go_end0
      have h := HO.out
      rw [HALL.out] at h
      exact ⟨rfl, h⟩
/-- the text of a row of the call's own -/
theorem row_string (w : World) (base : Nat) (v : Value) (xs : List Int) (h : Row w base v xs) (h0 : 0 < xs.length) : (convert 56 9 v).run Try.prog w = .ok (.string (strOfNums xs)) w := by
  obtain ⟨inner, ho, hr⟩ := h
  have hin : inner = nums .u8 xs := Kd.reps_encs hr
  subst hin
  obtain ⟨g, cap, rfl, _, _⟩ := ho.form h0
  exact run_convert_bytes_arg (P := Try.prog) w 56 5 Try.underlying56 Try.underlying5 g 0 xs.length cap xs rfl (fun i hi => by
    rw [Nat.zero_add, ho.cellAt i (by omega)]
    simp [nums, List.getD, hi]) 9 Try.underlying9
set_option maxHeartbeats 2000000 in
theorem write_add (p : ByteArray) (x : Int) (n : Int) (ps a ba bn wd : Nat) (w : World) (hs : IM.Shape p) (hps : ps ≤ IM.N p) (hw : wd ≤ 8) (hA : SetIn w a p) (hP : NumIn w ba (ps : Nat)) (hN : NumIn w bn x) :
    Calls Try.prog 39 #[.int .i64 wd, .int .i64 n, .func (Fn.func 41) #[] #[.pointer (some ⟨a, 0, none⟩), .pointer (some ⟨ba, 0, none⟩), .pointer (some ⟨bn, 0, none⟩)]] w
      fun e w' => e = .returned (.string (strOfNums (lebI wd 4 ++ lebI n 4 ++ flat wd ((els p).take ps ++ [x] ++ (els p).drop ps)))) ∧ Below w.heap.size w w' := by
  obtain ⟨k1, hk1⟩ := (put_ev [] wd 4 (by simp)).rounds
  obtain ⟨k2, hk2⟩ := (put_ev (lebI wd 4) n 4 (by rw [lebI_length]; decide)).rounds
  have b0 := (Below.refl w.heap.size w).alloc (Nat.le_refl _) (.cells #[.int .i64 wd] 3)
  have bw := Blk.new w 3 #[.int .i64 wd]
  have hput1 := Lib.hid (intset_put.calls k1 (fun _ => False) (.slice none 0 0) [] wd 4 _ w _ b0 (Kd.R_nil _ _ _ _ _) hk1)
  have F := Lib.hid (And.intro hs (And.intro hps (And.intro hA (And.intro hP hN))))
  have HK2 := Lib.hid hk2
  have HBW := Lib.hid bw
  have hcw := bw.cell 0
  simp only [List.getElem?_toArray, List.getElem?_cons_zero] at hcw
  clear hk1 hk2 bw hs hps hA hP hN
  go_enter Try.func39, Try.ntmps39
  go_wp2_with fail
  refine hput1.out.mono ?_
  rintro e w1 ⟨v1, rfl, hR1, hb1, hkept1⟩
  rw [List.nil_append] at hR1
  have hput2 := Lib.hid (intset_put.calls k2 (fun k => v1.ownBlock = some k) v1 (lebI wd 4) n 4 _ w w1 hb1 (Row.of hR1).kd HK2.out)
  have bw1 : Blk w1 w.heap.size 3 #[.int .i64 wd] := blk_kept HBW.out hkept1 (fun h => h)
  have n1 := (Row.of hR1).ne bw1 (by decide)
  have F1 := Lib.hid (And.intro bw1 n1)
  clear hR1 hb1 hkept1 bw1 n1 b0
  go_wp2_with fail
  refine hput2.out.mono ?_
  rintro e w2 ⟨v2, rfl, hR2, hb2, hkept2⟩
  obtain ⟨A2, cap2, rfl⟩ := Kd.R_slice hR2
  have bw2 : Blk w2 w.heap.size 3 #[.int .i64 wd] := blk_kept F1.out.1 hkept2 (fun h => F1.out.2 h.symm)
  have r2 := Row.of hR2
  have hO : Out w (w2.alloc (.cells #[.slice A2 (lebI wd 4 ++ lebI n 4).length cap2] 56)) w.heap.size w2.heap.size wd (lebI wd 4 ++ lebI n 4) :=
    ⟨_, bw2.alloc _, Blk.new w2 56 _, OwnRow.below r2 ((Below.refl _ _).alloc (Nat.le_refl _) _), hb2.alloc hb2.size _, Nat.le_refl _, hb2.size⟩
  have hl8 : (lebI wd 4 ++ lebI n 4).length = 8 := by rw [List.length_append, lebI_length, lebI_length]
  have HL8 := Lib.hid hl8
  have HO := Lib.hid hO
  clear hR2 hb2 hkept2 bw2 r2 hO hl8
  generalize hhd : lebI wd 4 ++ lebI n 4 = hd at *
  have HHD := Lib.hid hhd
  clear hhd
  have HL2 := Lib.hid HL8.out
  generalize hlen2 : hd.length = len2 at HO ⊢
  clear hlen2
  go_wp2_with fail
  refine (add1_any w _ w.heap.size w2.heap.size wd hd p x ps a ba bn F.out.1 F.out.2.1 hw (by rw [HL8.out]; omega) F.out.2.2.1 F.out.2.2.2.1 F.out.2.2.2.2 HO.out).mono ?_
  rintro e w3 ⟨rfl, v3, b3, b7, r3, hb3, _, _⟩
  have hrl : 0 < (hd ++ flat wd ((els p).take ps ++ [x] ++ (els p).drop ps)).length := by rw [List.length_append, HL8.out]; omega
  have hconv := row_string w3 _ v3 _ r3 hrl
  have hc7 := b7.cell 0
  simp only [List.getElem?_toArray, List.getElem?_cons_zero] at hc7
  have HB3 := Lib.hid hb3
  clear r3 b3 b7 hb3 hrl
  generalize hres : strOfNums (hd ++ flat wd ((els p).take ps ++ [x] ++ (els p).drop ps)) = res at *
  have HRES := Lib.hid hres
  clear hres
  go_wp2_with fail
  go_ret
  refine ⟨?_, HB3.out⟩
  show Ending.returned (.string res) = _
  rw [← HRES.out, ← HHD.out]
set_option maxHeartbeats 2000000 in
theorem write_drop (p : ByteArray) (n : Int) (ps a ba wd : Nat) (w : World) (hs : IM.Shape p) (hps : ps ≤ IM.N p) (hw : wd ≤ 8) (hA : SetIn w a p) (hP : NumIn w ba (ps : Nat)) :
    Calls Try.prog 39 #[.int .i64 wd, .int .i64 n, .func (Fn.func 46) #[] #[.pointer (some ⟨a, 0, none⟩), .pointer (some ⟨ba, 0, none⟩)]] w
      fun e w' => e = .returned (.string (strOfNums (lebI wd 4 ++ lebI n 4 ++ flat wd ((els p).take ps ++ (els p).drop (ps + 1))))) ∧ Below w.heap.size w w' := by
  obtain ⟨k1, hk1⟩ := (put_ev [] wd 4 (by simp)).rounds
  obtain ⟨k2, hk2⟩ := (put_ev (lebI wd 4) n 4 (by rw [lebI_length]; decide)).rounds
  have b0 := (Below.refl w.heap.size w).alloc (Nat.le_refl _) (.cells #[.int .i64 wd] 3)
  have bw := Blk.new w 3 #[.int .i64 wd]
  have hput1 := Lib.hid (intset_put.calls k1 (fun _ => False) (.slice none 0 0) [] wd 4 _ w _ b0 (Kd.R_nil _ _ _ _ _) hk1)
  have F := Lib.hid (And.intro hs (And.intro hps (And.intro hA hP)))
  have HK2 := Lib.hid hk2
  have HBW := Lib.hid bw
  have hcw := bw.cell 0
  simp only [List.getElem?_toArray, List.getElem?_cons_zero] at hcw
  clear hk1 hk2 bw hs hps hA hP 
  go_enter Try.func39, Try.ntmps39
  go_wp2_with fail
  refine hput1.out.mono ?_
  rintro e w1 ⟨v1, rfl, hR1, hb1, hkept1⟩
  rw [List.nil_append] at hR1
  have hput2 := Lib.hid (intset_put.calls k2 (fun k => v1.ownBlock = some k) v1 (lebI wd 4) n 4 _ w w1 hb1 (Row.of hR1).kd HK2.out)
  have bw1 : Blk w1 w.heap.size 3 #[.int .i64 wd] := blk_kept HBW.out hkept1 (fun h => h)
  have n1 := (Row.of hR1).ne bw1 (by decide)
  have F1 := Lib.hid (And.intro bw1 n1)
  clear hR1 hb1 hkept1 bw1 n1 b0
  go_wp2_with fail
  refine hput2.out.mono ?_
  rintro e w2 ⟨v2, rfl, hR2, hb2, hkept2⟩
  obtain ⟨A2, cap2, rfl⟩ := Kd.R_slice hR2
  have bw2 : Blk w2 w.heap.size 3 #[.int .i64 wd] := blk_kept F1.out.1 hkept2 (fun h => F1.out.2 h.symm)
  have r2 := Row.of hR2
  have hO : Out w (w2.alloc (.cells #[.slice A2 (lebI wd 4 ++ lebI n 4).length cap2] 56)) w.heap.size w2.heap.size wd (lebI wd 4 ++ lebI n 4) :=
    ⟨_, bw2.alloc _, Blk.new w2 56 _, OwnRow.below r2 ((Below.refl _ _).alloc (Nat.le_refl _) _), hb2.alloc hb2.size _, Nat.le_refl _, hb2.size⟩
  have hl8 : (lebI wd 4 ++ lebI n 4).length = 8 := by rw [List.length_append, lebI_length, lebI_length]
  have HL8 := Lib.hid hl8
  have HO := Lib.hid hO
  clear hR2 hb2 hkept2 bw2 r2 hO hl8
  generalize hhd : lebI wd 4 ++ lebI n 4 = hd at *
  have HHD := Lib.hid hhd
  clear hhd
  have HL2 := Lib.hid HL8.out
  generalize hlen2 : hd.length = len2 at HO ⊢
  clear hlen2
  go_wp2_with fail
  refine (drop1_any w _ w.heap.size w2.heap.size wd hd p ps a ba F.out.1 hw (by rw [HL8.out]; omega) F.out.2.2.1 F.out.2.2.2 HO.out).mono ?_
  rintro e w3 ⟨rfl, v3, b3, b7, r3, hb3, _, _⟩
  have hrl : 0 < (hd ++ flat wd ((els p).take ps ++ (els p).drop (ps + 1))).length := by rw [List.length_append, HL8.out]; omega
  have hconv := row_string w3 _ v3 _ r3 hrl
  have hc7 := b7.cell 0
  simp only [List.getElem?_toArray, List.getElem?_cons_zero] at hc7
  have HB3 := Lib.hid hb3
  clear r3 b3 b7 hb3 hrl
  generalize hres : strOfNums (hd ++ flat wd ((els p).take ps ++ (els p).drop (ps + 1))) = res at *
  have HRES := Lib.hid hres
  clear hres
  go_wp2_with fail
  go_ret
  refine ⟨?_, HB3.out⟩
  show Ending.returned (.string res) = _
  rw [← HRES.out, ← HHD.out]
end Go.Proofs.Ytdadggaecgkhfaa
