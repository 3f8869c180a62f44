/- Walk of the law IntsetPlays: it answers true; conditions: none. -/
import Derived.Test.YtdadggaecgkhfaaS1
import Derived.Test.YtdadggaecgkhfaaIM3
namespace Go.Proofs.Ytdadggaecgkhfaa
open Go.RowKit Go.Proofs.YtdadggaecgkhfaaW.PrintWords Go.Proofs.YtdadggaecgkhfaaW.PrintMore
open IM PIntsetPlays
set_option linter.unusedVariables false
attribute [local go_sem ↓] Go.wp_at_zero Go.wp_at_succ
theorem rnew_any (w : World) : Calls Try.prog 23 #[] w fun e w' => e = .returned (.string s0) ∧ Below w.heap.size w w' := by
  have h : Ev (fun k => cisternref05_New.f k) s0 := by
    unfold cisternref05_New.f
    refine Ev.bind (text_ev 2 (by decide) [] (by simp)) ?_
    have e : strOfNums (encI 2 []) = s0 := by decide +kernel
    simp only [e]
    exact Ev.now _
  obtain ⟨k, hk⟩ := h.rounds
  exact cisternref05_New.calls k _ w hk
theorem rd_in (l : List Int) (k : Nat) (h : k < l.length) : rd l (k : Int) ∈ l := by
  have : rd l (k : Int) = l[k] := by unfold rd; simp [List.getD, h]
  rw [this]
  exact List.getElem_mem h
set_option maxHeartbeats 2000000 in
set_option maxRecDepth 8000 in
theorem law_plays (a0 : Option Addr) (n c0 : Nat) (xs : List Int) (a1 : Option Addr) (m c1 : Nat) (bs : List Bool) (w : World) (h0 : IntsIn w a0 n xs) (h1 : BoolsIn w a1 m bs) :
    Calls Try.prog 6 #[.slice a0 n c0, .slice a1 m c1] w fun e w' => e = .returned (.bool true) ∧ Below w.heap.size w w' := by
  have HN := Lib.hid (fun w => new_any w)
  have HNr := Lib.hid (fun w => rnew_any w)
  have HS := Lib.hid (fun w => sure_any w)
  have HI := Lib.hid (And.intro h0 h1)
  have hlen := h0.len
  clear h0 h1
  go_enter Try.func6, Try.ntmps6
  go_wp2_with fail
  refine (HN.out _).mono ?_
  rintro e w1 ⟨rfl, ⟨n1, rfl⟩⟩
  have F1 := Lib.hid (below_drewN (Below.refl w.heap.size w) n1)
  go_wp2_with fail
  refine (HNr.out _).mono ?_
  rintro e w2 ⟨rfl, hb2⟩
  have F2 := Lib.hid (F1.out.trans (hb2.mono F1.out.size))
  clear hb2
  go_wp2_with fail
  go_loopw [7, 5, 6] (fun i p q wr => ∃ (k : Nat) (s : ByteArray), k ≤ n ∧ i = .int .i64 k ∧ p = .string s ∧ q = .string s ∧ Below w.heap.size w wr) (fun i _ _ _ => n - (intOf i).toNat)
  case atStart => exact ⟨0, s0, by omega, rfl, rfl, rfl, F2.out⟩
  case round =>
    obtain ⟨k, s, hk, rfl, rfl, rfl, hbel⟩ := hrel
    have F3 := Lib.hid hbel
    clear hbel
    by_cases hlt : k < n
    · by_cases h4 : k < 400
      · have hc := HI.out.1.below (Nat.le_refl _) F3.out
        obtain ⟨ad, e1, hx⟩ := Kd.at_int hc.1 (k : Int) (by omega) (by omega)
        subst e1
        rw [Int.toNat_natCast] at hx
        have hbd := HI.out.1.2 _ (rd_in xs k (by omega))
        generalize hX0 : rd xs (k : Int) = x at *
        have hX := Lib.hid hX0
        have HA := Lib.hid (fun w => add_any s x w hbd.1 hbd.2)
        have HAr := Lib.hid (fun w => radd_any s x w)
        have HD := Lib.hid (fun w => drop_any s x w)
        have HDr := Lib.hid (fun w => rdrop_any s x w)
        have hk0 : (0 : Int) ≤ (k : Int) := by omega
        have hk1 : (k : Int) < (n : Int) := by omega
        have hk2 : (k : Int) < 400 := by omega
        have HK := Lib.hid hlt
        have hwr : IntKind.i64.wrap ((k : Int) + 1) = (k : Int) + 1 := by rw [IntKind.wrap_i64]; omega
        clear hX0 hc hbd
        generalize addS s x = ra at *
        obtain ⟨ra1, ra2, ra3⟩ := ra
        generalize dropS s x = rr at *
        obtain ⟨rd1, rd2, rd3⟩ := rr
        have hm : (k < m ∧ ∃ b1 : Addr, a1 = some b1 ∧ ∃ b : Bool, w.cell? (b1.add k) = some (.bool b)) ∨ ¬ k < m := by
          by_cases hm : k < m
          · obtain ⟨b1, e2, hy⟩ := Kd.at_bool HI.out.2 (k : Int) (by omega) (by omega)
            rw [Int.toNat_natCast] at hy
            exact .inl ⟨hm, b1, e2, _, hy⟩
          · exact .inr hm
        rcases hm with ⟨hm, b1, rfl, b, hy0⟩ | hm
        · have hm1 : (k : Int) < (m : Int) := by omega
          have hy : _ := (F3.out.cell (block_lt_of_cell hy0)).trans hy0
          clear hy0
          cases b
          · go_wp2_with fail
            refine (HA.out _).mono ?_
            rintro e w3 ⟨rfl, hb3⟩
            have F4 := Lib.hid (F3.out.trans (hb3.mono F3.out.size))
            have hx2 := (hb3.cell (block_lt_of_cell hx)).trans hx
            clear hb3 hx
            go_wp2_with fail
            refine (HAr.out _).mono ?_
            rintro e w4 ⟨rfl, hb4⟩
            have F5 := Lib.hid (F4.out.trans (hb4.mono F4.out.size))
            clear hb4 hx2 hk2 hlt h4 hk
            go_wp2_with fail
            go_roundw
            case rel =>
              first
              | exact ⟨k + 1, _, HK.out, by go_num, rfl, rfl, F5.out⟩
              | ((repeat apply Exists.intro); exact ⟨⟨k + 1, _, HK.out, rfl, rfl, rfl, F5.out⟩, rfl⟩)
            case measure => have := HK.out; simp [intOf]; omega
          · go_wp2_with fail
            refine (HD.out _).mono ?_
            rintro e w3 ⟨rfl, hb3⟩
            have F4 := Lib.hid (F3.out.trans (hb3.mono F3.out.size))
            have hx2 := (hb3.cell (block_lt_of_cell hx)).trans hx
            clear hb3 hx
            go_wp2_with fail
            refine (HDr.out _).mono ?_
            rintro e w4 ⟨rfl, hb4⟩
            have F5 := Lib.hid (F4.out.trans (hb4.mono F4.out.size))
            clear hb4 hx2 hk2 hlt h4 hk
            go_wp2_with fail
            go_roundw
            case rel =>
              first
              | exact ⟨k + 1, _, HK.out, by go_num, rfl, rfl, F5.out⟩
              | ((repeat apply Exists.intro); exact ⟨⟨k + 1, _, HK.out, rfl, rfl, rfl, F5.out⟩, rfl⟩)
            case measure => have := HK.out; simp [intOf]; omega
        · have hm1 : decide ((k : Int) < (m : Int)) = false := decide_eq_false (by omega)
          go_wp2_with fail
          refine (HA.out _).mono ?_
          rintro e w3 ⟨rfl, hb3⟩
          have F4 := Lib.hid (F3.out.trans (hb3.mono F3.out.size))
          have hx2 := (hb3.cell (block_lt_of_cell hx)).trans hx
          clear hb3 hx
          go_wp2_with fail
          refine (HAr.out _).mono ?_
          rintro e w4 ⟨rfl, hb4⟩
          have F5 := Lib.hid (F4.out.trans (hb4.mono F4.out.size))
          clear hb4 hx2 hk2 hlt h4 hk
          go_wp2_with fail
          go_roundw
          case rel =>
            first
            | exact ⟨k + 1, _, HK.out, by go_num, rfl, rfl, F5.out⟩
            | ((repeat apply Exists.intro); exact ⟨⟨k + 1, _, HK.out, rfl, rfl, rfl, F5.out⟩, rfl⟩)
          case measure => have := HK.out; simp [intOf]; omega
      · have h5 : decide ((k : Int) < 400) = false := decide_eq_false (by omega)
        have hk1 : (k : Int) < (n : Int) := by omega
        go_wp2_with fail
        refine (HS.out _).mono ?_
        rintro e w3 ⟨rfl, hb3⟩
        go_wp2_with fail
        go_ret
        exact ⟨rfl, F3.out.trans (hb3.mono F3.out.size)⟩
    · have h5 : decide ((k : Int) < (n : Int)) = false := decide_eq_false (by omega)
      go_wp2_with fail
      refine (HS.out _).mono ?_
      rintro e w3 ⟨rfl, hb3⟩
      go_wp2_with fail
      go_ret
      exact ⟨rfl, F3.out.trans (hb3.mono F3.out.size)⟩
end Go.Proofs.Ytdadggaecgkhfaa
