/- Walk of the packer's copy: what is written grows by what waits and by one copy; conditions: the distance and the length are a copy's. -/
import Derived.Test.YtdadggaecgkhfaaL5
namespace Go.Proofs.Ytdadggaecgkhfaa.LZ
open Go.RowKit Go.Proofs.YtdadggaecgkhfaaW.PrintWords Go.Proofs.YtdadggaecgkhfaaW.PrintMore
open Go.Proofs.Ytdadggaecgkhfaa.PLzfUnpacks IM Go.Proofs.Ytdadggaecgkhfaa
set_option linter.unusedVariables false
attribute [local go_sem ↓] Go.wp_at_zero Go.wp_at_succ
/-- the bytes of a copy -/
def cp (d n : Nat) : List Int := (if n - 2 < 7 then [(((n - 2) * 32 + (d - 1) / 256 : Nat) : Int)] else [((224 + (d - 1) / 256 : Nat) : Int), ((n - 9 : Nat) : Int)]) ++ [(((d - 1) % 256 : Nat) : Int)]
theorem or_near (a b : Nat) (ha : a < 7) (hb : b < 32) : Go.bits .or .i64 ((a * 32 : Nat) : Int) (b : Int) = ((a * 32 + b : Nat) : Int) := by
  have : ∀ (a : Fin 7) (b : Fin 32), Go.bits .or .i64 ((a.val * 32 : Nat) : Int) ((b.val : Nat) : Int) = ((a.val * 32 + b.val : Nat) : Int) := by decide +kernel
  exact this ⟨a, ha⟩ ⟨b, hb⟩
theorem or_far (b : Nat) (hb : b < 32) : Go.bits .or .i64 224 (b : Int) = ((224 + b : Nat) : Int) := by
  have : ∀ (b : Fin 32), Go.bits .or .i64 224 ((b.val : Nat) : Int) = ((224 + b.val : Nat) : Int) := by decide +kernel
  exact this ⟨b, hb⟩
theorem Wr.size {w0 W : World} {g : Nat} {xs : List Int} {lit : ByteArray} (h : Wr w0 W g xs lit) : w0.heap.size ≤ W.heap.size := by
  obtain ⟨v, h1, h2, h3, h4⟩ := h
  exact h3.size
theorem two_reads (W : World) (x y : Int) : ReadsInt (W.alloc (.cells #[.int .u8 x, .int .u8 y] 5)) .u8 (some ⟨W.heap.size, 0, none⟩) 2 [x, y] := by
  refine ⟨rfl, by decide, fun _ => ⟨_, rfl, fun j hj => ?_⟩⟩
  have hb := Blk.new W 5 #[.int .u8 x, .int .u8 y]
  have e : (⟨W.heap.size, 0, none⟩ : Addr).add j = ⟨W.heap.size, j, none⟩ := by unfold Addr.add; split <;> simp_all
  rw [e, Blk.cell hb j]
  match j, hj with
  | 0, _ => rfl
  | 1, _ => rfl
set_option maxHeartbeats 1000000 in
theorem copy_any (w0 W : World) (g : Nat) (xs : List Int) (lit : ByteArray) (d n : Nat) (h : Wr w0 W g xs lit) (hl : xs.length + 2 * lit.size ≤ 1000000000) (f : Nat) (hf : lit.size < f)
    (hd1 : 1 ≤ d) (hd2 : d ≤ 8192) (hn1 : 3 ≤ n) (hn2 : n ≤ 264) (hfl : (fl f lit.data.toList xs).length ≤ 2000000000) :
    Calls Try.prog 48 #[.pointer (some ⟨g, 0, none⟩), .int .i64 d, .int .i64 n] W fun e w' => e = .returned (.tuple #[]) ∧ Wr w0 w' g (fl f lit.data.toList xs ++ cp d n) ⟨#[]⟩ := by
  have HF := Lib.hid (flush_any w0 W g xs lit h hl f hf)
  clear hf h hl
  generalize fl f lit.data.toList xs = ys at *
  obtain ⟨a, ha⟩ : ∃ a, d = a + 1 := ⟨d - 1, by omega⟩
  obtain ⟨b, hb⟩ : ∃ b, n = b + 2 := ⟨n - 2, by omega⟩
  have e1 : IntKind.i64.wrap ((d : Int) - 1) = (a : Int) := by rw [IntKind.wrap_i64]; omega
  have e2 : IntKind.i64.wrap ((n : Int) - 2) = (b : Int) := by rw [IntKind.wrap_i64]; omega
  have e3 : IntKind.i64.wrap ((b : Int) * 32) = ((b * 32 : Nat) : Int) := by rw [IntKind.wrap_i64]; omega
  have e4 : (a : Int) / 256 = ((a / 256 : Nat) : Int) := by omega
  have e6 : IntKind.u8.wrap (a : Int) = ((a % 256 : Nat) : Int) := by rw [IntKind.wrap_u8]; omega
  by_cases h7 : b < 7
  · have e5 := or_near b (a / 256) h7 (by omega)
    have e7 : IntKind.u8.wrap ((b * 32 + a / 256 : Nat) : Int) = ((b * 32 + a / 256 : Nat) : Int) := by rw [IntKind.wrap_u8]; omega
    have e8 : (b : Int) < 7 := by omega
    have hcp : cp d n = [((b * 32 + a / 256 : Nat) : Int)] ++ [((a % 256 : Nat) : Int)] := by
      unfold cp
      rw [ha, hb, Nat.add_sub_cancel, Nat.add_sub_cancel, if_pos h7]
    rw [hcp]
    have HL := Lib.hid (show (ys.length + 1) * 1 ≤ 140737488355328 by omega)
    have HL2 := Lib.hid (show ((ys ++ [((b * 32 + a / 256 : Nat) : Int)]).length + 1) * 1 ≤ 140737488355328 by simp; omega)
    clear hcp h7 hfl hd1 hd2 hn1 hn2 ha hb
    generalize b * 32 + a / 256 = c at *
    generalize a / 256 = a1 at *
    generalize a % 256 = a2 at *
    generalize b * 32 = b1 at *
    go_enter Try.func48, Try.ntmps48
    go_wp2_with fail
    refine HF.out.mono ?_
    rintro e w1 ⟨rfl, hw⟩
    obtain ⟨v, h1, h2, h3, h4⟩ := hw
    obtain ⟨A, cc, rfl⟩ := own_shape h2
    have hne := own_ne h2 h1 (by decide)
    have c0 := Blk.cell h1 0
    have f0 := Blk.frozen h1 0
    simp only [List.getElem?_toArray, List.getElem?_cons_zero] at c0
    have H1 := Lib.hid (And.intro h1 (And.intro h2 (And.intro h3 (And.intro h4 hne))))
    have HSZ := Lib.hid (show w0.heap.size ≤ w1.heap.size from h3.size)
    clear h1 h2 h3 h4 hne
    go_wp2_with (first | ((with_reducible refine gate_builtin (b := .append) (xs := #[.tmp 17, .tmp 25]) rfl ?_); at_builtin; refine print_append_num (w0 := w0) w0.heap.size rfl (.tmp 17) (.tmp 25) 56 5 .u8 1 rfl Try.underlying56 info5 (by decide) (.slice A ys.length cc) ys (c : Int) rfl rfl H1.out.2.1 H1.out.2.2.1 HSZ.out HL.out ?_; intro v1 w2 ho hb hg hat; clear hat; rw [show (ys ++ [(c : Int)]).length = ys.length + 1 from by simp] at ho; obtain ⟨A1, cc1, rfl⟩ := own_shape ho; have b1 := Blk.grown H1.out.1 hg H1.out.2.2.2.2; have cc0 := Blk.cell b1 0; have ff0 := Blk.frozen b1 0; have d1 : Blk (w2.setCell ⟨g, 0, none⟩ (.slice A1 (ys.length + 1) cc1)) g 73 #[.slice A1 (ys.length + 1) cc1, .string ⟨#[]⟩] := Blk.set_ b1 0 _; have d2 : World.ownsRow (w2.setCell ⟨g, 0, none⟩ (.slice A1 (ys.length + 1) cc1)) w0.heap.size 5 1 (.slice A1 (ys.length + 1) cc1) (ys ++ [(c : Int)]).length (nums .u8 (ys ++ [(c : Int)])) := (by rw [show (ys ++ [(c : Int)]).length = ys.length + 1 from (by simp)]; exact own_set (p := ⟨g, 0, none⟩) ho (own_ne ho b1 (by decide)) (.slice A1 (ys.length + 1) cc1)); have d3 := hb.setCell (p := ⟨g, 0, none⟩) H1.out.2.2.2.1 (.slice A1 (ys.length + 1) cc1); have B1 := Lib.hid (And.intro d1 (And.intro d2 (And.intro d3 (And.intro (own_ne d2 d1 (by decide)) d3.size)))); simp only [List.getElem?_toArray, List.getElem?_cons_zero] at cc0; clear b1 ho hb hg d1 d2 d3) | ((with_reducible refine gate_builtin (b := .append) (xs := #[.tmp 49, .tmp 52]) rfl ?_); generalize hW : w2.setCell ⟨g, 0, none⟩ (.slice A1 (ys.length + 1) cc1) = W2 at *; have hs : w2.heap.size = W2.heap.size := (by rw [← hW]; simp); simp only [hs]; at_builtin; refine print_append_num (w0 := w0) w0.heap.size rfl (.tmp 49) (.tmp 52) 56 5 .u8 1 rfl Try.underlying56 info5 (by decide) (.slice A1 (ys.length + 1) cc1) (ys ++ [(c : Int)]) (a2 : Int) rfl rfl B1.out.2.1 B1.out.2.2.1 B1.out.2.2.2.2 HL2.out ?_; intro v2 w3 ho hb hg hat; clear hat hW hs; obtain ⟨A2, cc2, rfl⟩ := own_shape ho; have b1 := Blk.grown B1.out.1 hg B1.out.2.2.2.1; have cd0 := Blk.cell b1 0; have fd0 := Blk.frozen b1 0; have HZ := Lib.hid (Wr.put (w0 := w0) (xs := []) b1 ho hb H1.out.2.2.2.1); simp only [List.getElem?_toArray, List.getElem?_cons_zero] at cd0; clear b1 ho hb hg))
    go_end0
    refine ⟨rfl, ?_⟩
    have hz := HZ.out
    simp only [List.append_assoc, List.length_append, List.length_cons, List.length_nil] at hz ⊢
    exact hz
  · have e5 := or_far (a / 256) (by omega)
    have e7 : IntKind.u8.wrap ((224 + a / 256 : Nat) : Int) = ((224 + a / 256 : Nat) : Int) := by rw [IntKind.wrap_u8]; omega
    have e8 : ¬ ((b : Int) < 7) := by omega
    have e8' : decide ((b : Int) < 7) = false := decide_eq_false e8
    obtain ⟨c3, hc3⟩ : ∃ c3, c3 = n - 9 := ⟨_, rfl⟩
    have e9 : IntKind.i64.wrap ((n : Int) - 9) = (c3 : Int) := by rw [IntKind.wrap_i64]; omega
    have e10 : IntKind.u8.wrap (c3 : Int) = (c3 : Int) := by rw [IntKind.wrap_u8]; omega
    have hcp : cp d n = [((224 + a / 256 : Nat) : Int), (c3 : Int)] ++ [((a % 256 : Nat) : Int)] := by
      unfold cp
      rw [hc3, ha, hb, Nat.add_sub_cancel, Nat.add_sub_cancel, if_neg h7]
    rw [hcp]
    have HL := Lib.hid (show (ys.length + 2) * 1 ≤ 140737488355328 by omega)
    have HL3 := Lib.hid (show ((ys ++ [((224 + a / 256 : Nat) : Int), (c3 : Int)]).length + 1) * 1 ≤ 140737488355328 by simp; omega)
    clear hcp h7 hfl hd1 hd2 hn1 hn2 ha hb hc3
    generalize 224 + a / 256 = c at *
    generalize a / 256 = a1 at *
    generalize a % 256 = a2 at *
    generalize b * 32 = b1 at *
    go_enter Try.func48, Try.ntmps48
    go_wp2_with fail
    refine HF.out.mono ?_
    rintro e w1 ⟨rfl, hw⟩
    obtain ⟨v, h1, h2, h3, h4⟩ := hw
    obtain ⟨A, cc, rfl⟩ := own_shape h2
    have hne := own_ne h2 h1 (by decide)
    have c0 := Blk.cell h1 0
    have f0 := Blk.frozen h1 0
    simp only [List.getElem?_toArray, List.getElem?_cons_zero] at c0
    have H1 := Lib.hid (And.intro h1 (And.intro h2 (And.intro h3 (And.intro h4 hne))))
    have HSZ := Lib.hid (show w0.heap.size ≤ w1.heap.size from h3.size)
    clear h1 h2 h3 h4 hne
    go_wp2_with (first | ((with_reducible refine gate_builtin (b := .append) (xs := #[.tmp 33, .tmp 41]) rfl ?_); at_builtin; refine print_append_row (w0 := w0) w0.heap.size rfl (.tmp 33) (.tmp 41) 56 5 .u8 1 rfl Try.underlying56 info5 (by decide) (.slice A ys.length cc) ys [(c : Int), (c3 : Int)] (some ⟨w1.heap.size, 0, none⟩) 2 2 rfl rfl (H1.out.2.1.alloc _) (two_reads w1 _ _) (H1.out.2.2.1.alloc HSZ.out _) (below_size (H1.out.2.2.1.alloc HSZ.out _)) HL.out ?_; intro v1 w2 ho hb hg hat; clear hat; rw [show (ys ++ [(c : Int), (c3 : Int)]).length = ys.length + 2 from (by simp)] at ho; obtain ⟨A1, cc1, rfl⟩ := own_shape ho; have b1 := Blk.grown (Blk.alloc H1.out.1 (.cells #[.int .u8 (c : Int), .int .u8 (c3 : Int)] 5)) hg H1.out.2.2.2.2; have cc0 := Blk.cell b1 0; have ff0 := Blk.frozen b1 0; have d1 : Blk (w2.setCell ⟨g, 0, none⟩ (.slice A1 (ys.length + 2) cc1)) g 73 #[.slice A1 (ys.length + 2) cc1, .string ⟨#[]⟩] := Blk.set_ b1 0 _; have d2 : World.ownsRow (w2.setCell ⟨g, 0, none⟩ (.slice A1 (ys.length + 2) cc1)) w0.heap.size 5 1 (.slice A1 (ys.length + 2) cc1) (ys ++ [(c : Int), (c3 : Int)]).length (nums .u8 (ys ++ [(c : Int), (c3 : Int)])) := (by rw [show (ys ++ [(c : Int), (c3 : Int)]).length = ys.length + 2 from (by simp)]; exact own_set (p := ⟨g, 0, none⟩) ho (own_ne ho b1 (by decide)) (.slice A1 (ys.length + 2) cc1)); have d3 := hb.setCell (p := ⟨g, 0, none⟩) H1.out.2.2.2.1 (.slice A1 (ys.length + 2) cc1); have B1 := Lib.hid (And.intro d1 (And.intro d2 (And.intro d3 (And.intro (own_ne d2 d1 (by decide)) d3.size)))); simp only [List.getElem?_toArray, List.getElem?_cons_zero] at cc0; clear b1 ho hb hg d1 d2 d3) | ((with_reducible refine gate_builtin (b := .append) (xs := #[.tmp 49, .tmp 52]) rfl ?_); generalize hW : w2.setCell ⟨g, 0, none⟩ (.slice A1 (ys.length + 2) cc1) = W2 at *; have hs : w2.heap.size = W2.heap.size := (by rw [← hW]; simp); simp only [hs]; at_builtin; refine print_append_num (w0 := w0) w0.heap.size rfl (.tmp 49) (.tmp 52) 56 5 .u8 1 rfl Try.underlying56 info5 (by decide) (.slice A1 (ys.length + 2) cc1) (ys ++ [(c : Int), (c3 : Int)]) (a2 : Int) rfl rfl B1.out.2.1 B1.out.2.2.1 B1.out.2.2.2.2 HL3.out ?_; intro v2 w3 ho hb hg hat; clear hat hW hs; obtain ⟨A2, cc2, rfl⟩ := own_shape ho; have b1 := Blk.grown B1.out.1 hg B1.out.2.2.2.1; have cd0 := Blk.cell b1 0; have fd0 := Blk.frozen b1 0; have HZ := Lib.hid (Wr.put (w0 := w0) (xs := []) b1 ho hb H1.out.2.2.2.1); simp only [List.getElem?_toArray, List.getElem?_cons_zero] at cd0; clear b1 ho hb hg))
    go_end0
    refine ⟨rfl, ?_⟩
    have hz := HZ.out
    simp only [List.append_assoc, List.length_append, List.length_cons, List.length_nil] at hz ⊢
    exact hz
end Go.Proofs.Ytdadggaecgkhfaa.LZ
