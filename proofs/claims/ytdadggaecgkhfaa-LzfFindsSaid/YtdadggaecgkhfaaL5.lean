/- Walk of the packer's flush: what is written so far grows by the literal runs of what waits; conditions: within reach. -/
import Derived.Test.YtdadggaecgkhfaaL4
import Derived.Test.YtdadggaecgkhfaaBlk
import Derived.Deep.AppendLies
import Derived.Deep.DrawnRows
import Derived.WalkKit
import Derived.WalkSpells
import Derived.WalkLawsBesides
import Derived.Lib.Hide
import Derived.Deep.RegionHeld3
import Derived.Deep.QuietTactic
import Derived.BigQuiet
import Derived.Deep.RegionHeldLaw
import Derived.Deep.RegionLaw
namespace Go.Proofs.Ytdadggaecgkhfaa.LZ
open Go.RowKit Go.Proofs.YtdadggaecgkhfaaW.PrintWords Go.Proofs.YtdadggaecgkhfaaW.PrintMore
open Go.Proofs.Ytdadggaecgkhfaa.PLzfUnpacks IM Go.Proofs.Ytdadggaecgkhfaa
set_option linter.unusedVariables false
attribute [local go_sem ↓] Go.wp_at_zero Go.wp_at_succ
attribute [local go_sem] max2_int min2_int max_two min_two
theorem Blk.grown {W w1 : World} {g : Nat} {t : TypeId} {cs : Array Value} {row : Option Nat} (h : Blk W g t cs) (hg : W.grownBy w1 row) (hne : some g ≠ row) : Blk w1 g t cs :=
  (hg.block g (Blk.lt h) hne).trans h
theorem own_ne {W : World} {base : Nat} {v : Value} {n : Nat} {xs : List Value} {g t : Nat} {cs : Array Value} (h : W.ownsRow base 5 1 v n xs) (hb : Blk W g t cs) (ht : 5 ≠ t) : some g ≠ v.ownBlock := by
  rcases h with ⟨_, ⟨rfl, _⟩ | ⟨k, cap, cur, rfl, _, hk, _⟩⟩
  · exact fun e => by cases e
  · intro e
    injection e with e
    have e : g = k := e
    subst e
    unfold Blk at hb
    rw [hk] at hb
    injection hb with hb
    injection hb with _ h5
    exact ht h5
theorem own_set {W : World} {base : Nat} {v : Value} {n : Nat} {xs : List Value} {p : Addr} (h : W.ownsRow base 5 1 v n xs) (hne : some p.block ≠ v.ownBlock) (u : Value) : (W.setCell p u).ownsRow base 5 1 v n xs := by
  rcases h with ⟨h1, h0 | ⟨k, cap, cur, rfl, h2, hk, h3⟩⟩
  · exact ⟨h1, .inl h0⟩
  · have hkp : k ≠ p.block := fun e => hne (by rw [← e]; rfl)
    exact ⟨h1, .inr ⟨k, cap, cur, rfl, h2, (Below.heap_setCell W p u k hkp).trans hk, h3⟩⟩
theorem own_below {W w' : World} {base : Nat} {v : Value} {n : Nat} {xs : List Value} (h : W.ownsRow base 5 1 v n xs) (hb : Below W.heap.size W w') : w'.ownsRow base 5 1 v n xs := by
  rcases h with ⟨h1, h0 | ⟨k, cap, cur, rfl, h2, hk, h3⟩⟩
  · exact ⟨h1, .inl h0⟩
  · exact ⟨h1, .inr ⟨k, cap, cur, rfl, h2, Blk.below (t := 5) (cs := cur) hk hb (Blk.lt (t := 5) (cs := cur) hk), h3⟩⟩
/-- the packer's writer: what is written, what waits -/
def Wr (w0 W : World) (g : Nat) (xs : List Int) (lit : ByteArray) : Prop :=
  ∃ v, Blk W g 73 #[v, .string lit] ∧ W.ownsRow w0.heap.size 5 1 v xs.length (nums .u8 xs) ∧ Below w0.heap.size w0 W ∧ w0.heap.size ≤ g
theorem Wr.below {w0 W w' : World} {g : Nat} {xs : List Int} {lit : ByteArray} (h : Wr w0 W g xs lit) (hb : Below W.heap.size W w') : Wr w0 w' g xs lit := by
  obtain ⟨v, h1, h2, h3, h4⟩ := h
  exact ⟨v, Blk.below h1 hb (Blk.lt h1), own_below h2 hb, h3.trans (hb.mono h3.size), h4⟩
theorem Wr.wait {w0 W : World} {g : Nat} {xs : List Int} {lit : ByteArray} (h : Wr w0 W g xs lit) (l : ByteArray) : Wr w0 (W.setCell ⟨g, 1, none⟩ (.string l)) g xs l := by
  obtain ⟨v, h1, h2, h3, h4⟩ := h
  exact ⟨v, Blk.set_ h1 1 (.string l), own_set h2 (own_ne h2 h1 (by decide)) _, h3.setCell (p := ⟨g, 1, none⟩) h4 _, h4⟩
theorem Wr.put {w0 W : World} {g : Nat} {xs ys : List Int} {lit : ByteArray} {v v1 : Value} (h1 : Blk W g 73 #[v, .string lit]) (h2 : W.ownsRow w0.heap.size 5 1 v1 ys.length (nums .u8 ys)) (h3 : Below w0.heap.size w0 W) (h4 : w0.heap.size ≤ g) :
    Wr w0 (W.setCell ⟨g, 0, none⟩ v1) g ys lit :=
  ⟨v1, Blk.set_ h1 0 v1, own_set h2 (own_ne h2 h1 (by decide)) _, h3.setCell (p := ⟨g, 0, none⟩) h4 _, h4⟩
/-- the literal runs of what waits -/
def fl : Nat → List UInt8 → List Int → List Int
  | 0, _, xs => xs
  | f + 1, l, xs => if l = [] then xs else fl f (l.drop (min 32 l.length)) (xs ++ [((min 32 l.length : Nat) : Int) - 1] ++ (l.take (min 32 l.length)).map fun u => (u.toNat : Int))
theorem own_shape {W : World} {base : Nat} {v : Value} {n : Nat} {xs : List Value} (h : W.ownsRow base 5 1 v n xs) : ∃ A c, v = .slice A n c := by
  rcases h with ⟨_, ⟨rfl, rfl⟩ | ⟨k, cap, cur, rfl, _⟩⟩
  · exact ⟨_, _, rfl⟩
  · exact ⟨_, _, rfl⟩
/-- 'append(out, s...)', s a text, at a step of a region that draws its order -/
theorem step_append_text {P : Program} {ops : Array Oper} {o : Oper} {a : Act} {K : Act → World → Prop} {Q : Exit → Act → World → Prop} {E : Prop} {w0 W : World} (base : Nat) (hgd : o.guard = none) (s x : Operand) (t u e : TypeId)
    (ho : o.op = .call { callee := .builtin .append, args := #[s, x], argTypes := #[t, u] })
    (ht : P.underlying t = some (.slice e)) (hu : P.underlying u = some .string) (hinfo : (P.info? e).map (fun i => (i.zero, i.size, i.bytes)) = some (some (.int .u8 0), 1, 1))
    (v : Value) (xs : List Int) (y : ByteArray) (hs : a.eval s = v) (hx : a.eval x = .string y)
    (HO : W.ownsRow base e 1 v xs.length (nums .u8 xs)) (HB : Below base w0 W) (hbase : base ≤ W.heap.size) (hl : xs.length + y.size ≤ 140737488355328)
    (h : ∀ v1 w1, w1.ownsRow base e 1 v1 (xs ++ bytesOf y).length (nums .u8 (xs ++ bytesOf y)) → Below base w0 w1 → W.grownBy w1 v.ownBlock → K (a.put o.dst v1) w1) :
    if Region.wanted o (yielded ops a.tmps) = true then Oper.wp P o a W K Q else E := by
  have hw : Region.wanted o (yielded ops a.tmps) = true := by simp [Region.wanted, hgd]
  rw [if_pos hw]
  obtain ⟨i0, hi, hzz⟩ := Option.map_eq_some_iff.1 hinfo
  simp only [Prod.mk.injEq] at hzz
  obtain ⟨hz0, hz1, hz2⟩ := hzz
  obtain ⟨v', w', hr, h2, h3, h4⟩ := Lib.run_append_own_string (P := P) W base t u o.type e i0 ht hu hi hz0 hz1 hz2 v xs.length (nums .u8 xs) HO y (by simp only [maxLen]; omega) hl hbase
  have hl2 : (xs ++ bytesOf y).length = xs.length + y.size := by rw [List.length_append, bytesOf_length]
  have hc : nums .u8 (xs ++ bytesOf y) = nums .u8 xs ++ Lib.strCells y := by
    rw [nums_append]
    congr 1
    simp [nums, bytesOf, Lib.strCells]
  unfold Oper.wp execOp
  simp only [ho, resolve, invoke, builtin, Sem.run_bind, Sem.run_pure, Result.andThen_ok, List.map_toArray, List.map_cons, List.map_nil, hs, hx, hr]
  exact h v' w' (by rw [hl2, hc]; exact h2) (HB.grown h3 hbase (own_base HO)) h3
theorem fl_step (q : Nat) (l : ByteArray) (ys R : List Int) (hq : l.size < q) (hl : ¬ l.size = 0) (h : fl q l.data.toList ys = R) (m : Nat) (hm : m = min 32 l.size) :
    ∃ q', (l.extract m l.size).size < q' ∧ fl q' (l.extract m l.size).data.toList (ys ++ [(m : Int) - 1] ++ bytesOf (l.extract 0 m)) = R := by
  obtain ⟨q', rfl⟩ : ∃ q', q = q' + 1 := ⟨q - 1, by omega⟩
  refine ⟨q', by simp only [ByteArray.size_extract]; omega, ?_⟩
  have hne : ¬ l.data.toList = [] := fun e => hl (by rw [← data_length, e]; rfl)
  rw [fl, if_neg hne, data_length, ← hm] at h
  rw [← h]
  unfold bytesOf
  rw [extract_list _ _ _ (by omega), extract_list _ _ _ (by omega), List.drop_zero, Nat.sub_zero, List.take_of_length_le (l := l.data.toList.drop m) (by rw [List.length_drop, data_length]; omega)]
def waits (W : World) (g : Nat) : Nat := match W.cell? ⟨g, 1, none⟩ with | some (.string s) => s.size | _ => 0
theorem Wr.waits {w0 W : World} {g : Nat} {xs : List Int} {lit : ByteArray} (h : Wr w0 W g xs lit) : waits W g = lit.size := by
  obtain ⟨v, h1, _⟩ := h
  unfold LZ.waits
  rw [Blk.cell h1 1]
  rfl
set_option maxHeartbeats 1000000 in
theorem flush_any (w0 W : World) (g : Nat) (xs : List Int) (lit : ByteArray) (h : Wr w0 W g xs lit) (hl : xs.length + 2 * lit.size ≤ 1000000000) (f : Nat) (hf : lit.size < f) :
    Calls Try.prog 49 #[.pointer (some ⟨g, 0, none⟩)] W fun e w' => e = .returned (.tuple #[]) ∧ Wr w0 w' g (fl f lit.data.toList xs) ⟨#[]⟩ := by
  generalize hR : fl f lit.data.toList xs = R
  have H0 := Lib.hid (And.intro h (And.intro hl (And.intro hf hR)))
  clear h hl hf hR
  go_enter Try.func49, Try.ntmps49
  go_wp2_with fail
  go_loopw [2] (fun i wr => ∃ (l : ByteArray) (ys : List Int) (q : Nat), Wr w0 wr g ys l ∧ ys.length + 2 * l.size ≤ 1000000000 ∧ l.size < q ∧ fl q l.data.toList ys = R) (fun _ wr => waits wr g)
  case atStart => exact ⟨lit, xs, f, H0.out⟩
  case round =>
    obtain ⟨l, ys, q, hw, hly, hq, hR⟩ := hrel
    obtain ⟨v, h1, h2, h3, h4⟩ := hw
    have c0 := Blk.cell h1 0
    have c1 := Blk.cell h1 1
    simp only [List.getElem?_toArray, List.getElem?_cons_zero, List.getElem?_cons_succ] at c0 c1
    by_cases he : l.size = 0
    · have e0 : l = ⟨#[]⟩ := by
        apply ByteArray.ext
        exact Array.eq_empty_of_size_eq_zero he
      subst e0
      have hRR : ys = R := by
        obtain ⟨q', rfl⟩ : ∃ q', q = q' + 1 := ⟨q - 1, by omega⟩
        rw [← hR, fl, if_pos rfl]
      subst hRR
      have F := Lib.hid (show Wr w0 wr g ys ⟨#[]⟩ from ⟨v, h1, h2, h3, h4⟩)
      clear h1 h2 h3 h4 hR hly hq he
      go_wp2_with fail
      go_end0
      exact ⟨rfl, F.out⟩
    · have b0 : (l.toList == ([] : List UInt8)) = false := beq_eq_false_iff_ne.mpr (fun e => he ((toList_nil l).mp e))
      have b1 : (l.toList != ([] : List UInt8)) = true := bne_iff_ne.mpr (fun e => he ((toList_nil l).mp e))
      have f0 := Blk.frozen h1 0
      have f1 := Blk.frozen h1 1
      obtain ⟨m, hm⟩ : ∃ m, m = min 32 l.size := ⟨_, rfl⟩
      have hmin : (if (l.size : Int) < 32 then (l.size : Int) else 32) = (m : Int) := by split <;> omega
      have hsub : IntKind.i64.wrap ((m : Int) - 1) = (m : Int) - 1 := by rw [IntKind.wrap_i64]; omega
      have hcv : IntKind.u8.wrap ((m : Int) - 1) = (m : Int) - 1 := by rw [IntKind.wrap_u8]; omega
      obtain ⟨A, c, rfl⟩ := own_shape h2
      have hne := own_ne h2 h1 (by decide)
      have H1 := Lib.hid (And.intro h1 (And.intro h2 (And.intro h3 (And.intro h4 hne))))
      have H2 := Lib.hid (And.intro hly (And.intro hq (And.intro hR (And.intro hm he))))
      have HL := Lib.hid (show (ys.length + 1) * 1 ≤ 140737488355328 by omega)
      have HSZ := Lib.hid (show w0.heap.size ≤ wr.heap.size from h3.size)
      clear h1 h2 h3 h4 hne hly hq hR he hm
      go_wp2_with (first | ((with_reducible refine gate_builtin (b := .append) (xs := #[.tmp 18, .tmp 22]) rfl ?_); at_builtin; refine print_append_num (w0 := w0) w0.heap.size rfl (.tmp 18) (.tmp 22) 56 5 .u8 1 rfl Try.underlying56 info5 (by decide) (.slice A ys.length c) ys ((m : Int) - 1) rfl rfl H1.out.2.1 H1.out.2.2.1 HSZ.out HL.out ?_; intro v1 w1 ho hb hg hat; clear hat; rw [show (ys ++ [(m : Int) - 1]).length = ys.length + 1 from by simp] at ho; obtain ⟨A1, cc1, rfl⟩ := own_shape ho; have b1 := Blk.grown H1.out.1 hg H1.out.2.2.2.2; have cc0 := Blk.cell b1 0; have ff0 := Blk.frozen b1 0; have B1 := Lib.hid (And.intro b1 (And.intro ho hb)); simp only [List.getElem?_toArray, List.getElem?_cons_zero] at cc0; clear b1 ho hb hg))
      have d1 : Blk (w1.setCell ⟨g, 0, none⟩ (.slice A1 (ys.length + 1) cc1)) g 73 #[.slice A1 (ys.length + 1) cc1, .string l] := Blk.set_ B1.out.1 0 _
      have dne : some g ≠ (Value.slice A1 (ys.length + 1) cc1).ownBlock := own_ne B1.out.2.1 B1.out.1 (by decide)
      have d2 := own_set (p := ⟨g, 0, none⟩) B1.out.2.1 dne (.slice A1 (ys.length + 1) cc1)
      have d3 := B1.out.2.2.setCell (p := ⟨g, 0, none⟩) H1.out.2.2.2.1 (.slice A1 (ys.length + 1) cc1)
      generalize w1.setCell ⟨g, 0, none⟩ (.slice A1 (ys.length + 1) cc1) = W2 at *
      have HL2 : (ys ++ [(m : Int) - 1]).length = ys.length + 1 := by simp
      have g0 := Blk.cell d1 0
      have g1 := Blk.cell d1 1
      have k0 := Blk.frozen d1 0
      have k1 := Blk.frozen d1 1
      simp only [List.getElem?_toArray, List.getElem?_cons_zero, List.getElem?_cons_succ] at g0 g1
      have D := Lib.hid (And.intro d1 (And.intro d2 (And.intro d3 dne)))
      have HLE := Lib.hid HL2
      have hb1 : (m : Int) ≤ (l.size : Int) := by have := H2.out.2.2.2.1; omega
      have hb0 : (0 : Int) ≤ (m : Int) := by omega
      have DS := Lib.hid (show w0.heap.size ≤ W2.heap.size from d3.size)
      have DL := Lib.hid (show (ys ++ [(m : Int) - 1]).length + (l.extract 0 m).size ≤ 140737488355328 by have := H2.out.1; rw [HL2, ByteArray.size_extract]; omega)
      clear d1 dne d2 d3 HL2 c0 c1 f0 f1 cc0 ff0 hsub hcv hmin B1 b0 b1
      generalize hzs : ys ++ [(m : Int) - 1] = zs at *
      have HZ := Lib.hid hzs
      have D2 := Lib.hid (show W2.ownsRow w0.heap.size 5 1 (.slice A1 (ys.length + 1) cc1) zs.length (nums .u8 zs) from by rw [HLE.out]; exact D.out.2.1)
      clear hzs
      go_region_law
        ((refine step_append_text (w0 := w0) w0.heap.size (by rfl) _ _ 56 9 5 (by rfl) Try.underlying56 Try.underlying9 info5 _ zs (l.extract 0 m) (by rfl) (by rfl) D2.out D.out.2.2.1.drew DS.out DL.out ?_; intro v3 w3 ho hb hg; have q0 := cell_grown hg g0 D.out.2.2.2; have q1 := cell_grown hg g1 D.out.2.2.2; have b3 := Blk.grown D.out.1.drew hg D.out.2.2.2; have qf := Blk.frozen b3 0; obtain ⟨A3, cc3, rfl⟩ := own_shape ho; have D3 := Lib.hid (And.intro b3 (And.intro ho hb)); clear b3 ho hb hg))
      all_goals
        have e1 : Blk (w3.setCell ⟨g, 0, none⟩ (.slice A3 (zs ++ bytesOf (l.extract 0 m)).length cc3)) g 73 #[.slice A3 (zs ++ bytesOf (l.extract 0 m)).length cc3, .string l] := Blk.set_ D3.out.1 0 _
        have o1 := own_set (p := ⟨g, 0, none⟩) D3.out.2.1 (own_ne D3.out.2.1 D3.out.1 (by decide)) (.slice A3 (zs ++ bytesOf (l.extract 0 m)).length cc3)
        have t1 := D3.out.2.2.setCell (p := ⟨g, 0, none⟩) H1.out.2.2.2.1 (.slice A3 (zs ++ bytesOf (l.extract 0 m)).length cc3)
        rw [show (zs ++ bytesOf (l.extract 0 m)).length = zs.length + (bytesOf (l.extract 0 m)).length from List.length_append] at e1 o1 t1
        generalize w3.setCell ⟨g, 0, none⟩ (.slice A3 (zs.length + (bytesOf (l.extract 0 m)).length) cc3) = W4 at *
        have r1 := Blk.cell e1 1
        have rf := Blk.frozen e1 1
        simp only [List.getElem?_toArray, List.getElem?_cons_zero, List.getElem?_cons_succ] at r1
        have HF := Lib.hid (Wr.wait (w0 := w0) (xs := zs ++ bytesOf (l.extract 0 m)) ⟨_, e1, by rw [List.length_append]; exact o1, t1, H1.out.2.2.2.1⟩ (l.extract m l.size))
        clear e1 o1 t1 q0 q1 qf g0 g1 k0 k1
        go_wp2_with fail
        go_roundw
        case rel =>
          obtain ⟨q', hq1, hq2⟩ := fl_step q l ys R H2.out.2.1 H2.out.2.2.2.2 H2.out.2.2.1 m H2.out.2.2.2.1
          rw [HZ.out] at hq2
          refine ⟨_, _, q', HF.out, ?_, hq1, hq2⟩
          have h1 := H2.out.1
          have h2 := HLE.out
          have h3 := H2.out.2.2.2.1
          have h4 := H2.out.2.2.2.2
          simp only [List.length_append, bytesOf_length, ByteArray.size_extract]
          omega
        case measure =>
          have h1 := HF.out.waits
          have h2 : waits wr g = l.size := Wr.waits (w0 := w0) ⟨_, H1.out.1, H1.out.2.1, H1.out.2.2.1, H1.out.2.2.2.1⟩
          have h3 := H2.out.2.2.2.1
          have h4 := H2.out.2.2.2.2
          rw [h1, h2]
          simp only [ByteArray.size_extract]
          omega
end Go.Proofs.Ytdadggaecgkhfaa.LZ
