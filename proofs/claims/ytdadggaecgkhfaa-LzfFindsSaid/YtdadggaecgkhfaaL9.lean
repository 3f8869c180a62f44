/- Walk of the packer's loop, in parts: small facts; conditions as typed. -/
import Derived.Test.YtdadggaecgkhfaaLP3
import Derived.Great.Walk
import Derived.Deep.DeepCutAuto
namespace Go.Proofs.Ytdadggaecgkhfaa.LZ
open Go.RowKit Go.Proofs.YtdadggaecgkhfaaW.PrintWords Go.Proofs.YtdadggaecgkhfaaW.PrintMore
open Go.Proofs.Ytdadggaecgkhfaa.PLzfUnpacks IM Go.Proofs.Ytdadggaecgkhfaa
set_option linter.unusedVariables false
def Zs (L : List Value) (n : Nat) : Prop := L = List.replicate n (Value.int .i64 0)
theorem Zs.app2 {L M : List Value} (n : Nat) (h : Zs L n) (k : Zs M n) : Zs (L.append M) (2 * n) := by
  unfold Zs at *
  rw [h, k, List.append_eq, List.replicate_append_replicate, Nat.two_mul]
theorem zero70 : ∃ L : List Value, Try.t70.zero = some (.agg L.toArray) ∧ Zs L 16384 := by
  refine ⟨_, rfl, ?_⟩
  refine Zs.app2 8192 ?_ ?_ <;> refine Zs.app2 4096 ?_ ?_ <;> refine Zs.app2 2048 ?_ ?_ <;> refine Zs.app2 1024 ?_ ?_ <;> refine Zs.app2 512 ?_ ?_ <;> refine Zs.app2 256 ?_ ?_ <;> refine Zs.app2 128 ?_ ?_ <;> refine Zs.app2 64 ?_ ?_ <;> exact rfl
theorem t70_zero : Try.t70.zero = some (.agg (Array.replicate 16384 (Value.int .i64 0))) := by
  obtain ⟨L, h1, h2⟩ := zero70
  unfold Zs at h2
  rw [h1, h2, List.toArray_replicate]
theorem run_alloc70 (w : World) : (Instr.alloc 70 true (.tuple #[])).run Try.prog w = .ok (.pointer (some ⟨w.heap.size, 0, none⟩)) (w.alloc (.cells (Array.replicate 16384 (Value.int .i64 0)) 70)) := by
  have h3 : (zeroValue 70).run Try.prog w = .ok (.agg (Array.replicate 16384 (Value.int .i64 0))) w := by
    unfold zeroValue
    rw [Sem.run_bind, Try.typeInfo70 w]
    simp only [Result.andThen_ok, t70_zero, Sem.run_pure]
  unfold Instr.alloc
  rw [Sem.run_bind, h3]
  simp only [Result.andThen_ok, Sem.run_bind]
  rfl
/-- the table as it is made -/
abbrev tab0 : Obj := .cells (Array.replicate 16384 (Value.int .i64 0)) 70
theorem arm_alloc70 {ops : Array Oper} {rest : List Oper} {o : Oper} {a : Act} {w : World} {Q : Exit → Act → World → Prop} (hg : o.guard = none) (ho : o.op = .alloc 70)
    (h : wpList Try.prog ops Q rest (a.put o.dst (.pointer (some ⟨w.heap.size, 0, none⟩))) (w.alloc (.cells (Array.replicate 16384 (Value.int .i64 0)) 70))) : wpList Try.prog ops Q (o :: rest) a w := by
  refine Great.wpList_runTo hg _ rfl _ _ ?_ h
  unfold execOp
  simp only [ho, Sem.run_bind, run_alloc70, Result.andThen_ok, Sem.run_pure]
theorem run_ixN (P : Program) (t e : TypeId) (n : Nat) (hu : P.underlying t = some (.array n e)) (hs : ∀ w, (sizeOf e).run P w = .ok 1 w) (g h : Nat) (hh : h < n) (w : World) : (Instr.indexAt t (.pointer (some ⟨g, 0, none⟩)) (.int .i64 (h : Int))).run P w = .ok (.pointer (some ⟨g, h, none⟩)) w := by
  have e : (⟨g, 0, none⟩ : Addr).add (h * 1) = ⟨g, h, none⟩ := by unfold Addr.add; split <;> simp_all
  unfold Instr.indexAt
  simp only [Sem.run_bind, asIntOf, Sem.run_pure, Result.andThen_ok, run_underlying hu, Instr.sureAddr, Bool.and_true]
  rw [if_pos ⟨by omega, by omega⟩]
  simp only [Sem.run_bind, hs, Result.andThen_ok, Sem.run_pure, Int.toNat_natCast, e]
theorem run_ix70 (g h : Nat) (hh : h < 16384) (w : World) : (Instr.indexAt 70 (.pointer (some ⟨g, 0, none⟩)) (.int .i64 (h : Int))).run Try.prog w = .ok (.pointer (some ⟨g, h, none⟩)) w :=
  run_ixN Try.prog 70 3 16384 Try.underlying70 Try.sizeOf3 g h hh w
theorem arm_ix70 {ops : Array Oper} {rest : List Oper} {o : Oper} {a : Act} {w : World} {Q : Exit → Act → World → Prop} (hg : o.guard = none) (x i : Operand) (ho : o.op = .indexAddr 70 x i) (g h : Nat)
    (hx : a.eval x = .pointer (some ⟨g, 0, none⟩)) (hi : a.eval i = .int .i64 (h : Int)) (hh : h < 16384)
    (hk : wpList Try.prog ops Q rest (a.put o.dst (.pointer (some ⟨g, h, none⟩))) w) : wpList Try.prog ops Q (o :: rest) a w := by
  refine Great.wpList_runTo hg _ rfl _ _ ?_ hk
  unfold execOp
  simp only [ho, hx, hi, Sem.run_bind, run_ix70 g h hh, Result.andThen_ok, Sem.run_pure]
/-- the table as a function -/
def Tab (A : Array Value) (T : Nat → Nat) : Prop := A.size = 16384 ∧ ∀ k, k < 16384 → A[k]? = some (.int .i64 (T k : Nat))
theorem Tab.zero : Tab (Array.replicate 16384 (Value.int .i64 0)) (fun _ => 0) :=
  ⟨by simp, fun k hk => by rw [Array.getElem?_replicate, if_pos hk]; rfl⟩
theorem Tab.upd {A : Array Value} {T : Nat → Nat} (h : Tab A T) (k v : Nat) (hk : k < 16384) : Tab (A.setIfInBounds k (.int .i64 (v : Nat))) (upd T k v) := by
  refine ⟨by simpa using h.1, fun j hj => ?_⟩
  rw [Array.getElem?_setIfInBounds]
  unfold LZ.upd
  by_cases e : j = k
  · rw [if_pos e.symm, if_pos (by rw [h.1]; exact hk), if_pos e]
  · rw [if_neg (fun e' => e e'.symm), if_neg e, h.2 j hj]
theorem below_table {w0 W : World} {gt k : Nat} {u : Value} (h : Below w0.heap.size w0 W) (hg : gt < w0.heap.size) : Below w0.heap.size (w0.setCell ⟨gt, k, none⟩ u) (W.setCell ⟨gt, k, none⟩ u) := by
  refine ⟨h.os, h.tape, h.output, by simpa [World.setCell] using h.size, fun i hi => ?_⟩
  by_cases e : i = gt
  · subst e
    have hb := h.block i hi
    simp only [World.setCell, Array.getElem?_modify, if_true, hb]
  · rw [Below.heap_setCell W ⟨gt, k, none⟩ u i e, Below.heap_setCell w0 ⟨gt, k, none⟩ u i e, h.block i hi]
theorem setCell_size (w : World) (p : Addr) (u : Value) : (w.setCell p u).heap.size = w.heap.size := by simp [World.setCell]
theorem Wr.table {w0 W : World} {g gt k : Nat} {xs : List Int} {lit : ByteArray} {A : Array Value} (h : Wr w0 W g xs lit) (hb : Blk w0 gt 70 A) (u : Value) : Wr (w0.setCell ⟨gt, k, none⟩ u) (W.setCell ⟨gt, k, none⟩ u) g xs lit := by
  obtain ⟨v, h1, h2, h3, h4⟩ := h
  have hW : Blk W gt 70 A := Blk.below hb h3 hb.lt
  have hz := setCell_size w0 ⟨gt, k, none⟩ u
  refine ⟨v, Blk.far h1 (p := ⟨gt, k, none⟩) (Blk.ne_ h1 hW (by decide)) u, ?_, ?_, by rw [hz]; exact h4⟩
  · rw [hz]
    exact own_set (p := ⟨gt, k, none⟩) h2 (own_ne h2 hW (by decide)) u
  · rw [hz]
    exact below_table h3 hb.lt
theorem Wr.tab {w0 W : World} {g gt : Nat} {xs : List Int} {lit : ByteArray} {A : Array Value} (h : Wr w0 W g xs lit) (hb : Blk w0 gt 70 A) : Blk W gt 70 A := by
  obtain ⟨v, h1, h2, h3, h4⟩ := h
  exact Blk.below hb h3 hb.lt
theorem Wr.drewN {w0 W : World} {g : Nat} {xs : List Int} {lit : ByteArray} (h : Wr w0 W g xs lit) (n : Nat) : Wr w0 (W.drewN n) g xs lit := by
  obtain ⟨v, h1, h2, h3, h4⟩ := h
  exact ⟨v, h1, h2, ⟨h3.os, h3.tape, h3.output, h3.size, h3.block⟩, h4⟩
theorem ofInt_nat (a : Nat) (ha : a < 9223372036854775808) : (BitVec.ofInt 64 (a : Int)).toNat = a := by
  rw [BitVec.ofInt_natCast, BitVec.toNat_ofNat]; exact Nat.mod_eq_of_lt (by omega)
theorem or_nat (a b : Nat) (ha : a < 9223372036854775808) (hb : b < 9223372036854775808) : Go.bits .or .i64 (a : Int) (b : Int) = ((a ||| b : Nat) : Int) := by
  have hx : a ||| b < 2 ^ 63 := Nat.or_lt_two_pow (by omega) (by omega)
  show IntKind.i64.wrap ((BitVec.ofInt 64 (a : Int) ||| BitVec.ofInt 64 (b : Int)).toNat : Int) = _
  rw [BitVec.toNat_or, ofInt_nat a ha, ofInt_nat b hb, IntKind.wrap_i64]
  omega
theorem and_nat (a b : Nat) (ha : a < 9223372036854775808) (hb : b < 9223372036854775808) : Go.bits .and .i64 (a : Int) (b : Int) = ((a &&& b : Nat) : Int) := by
  have hx : a &&& b < 2 ^ 63 := Nat.and_lt_two_pow _ (by omega)
  show IntKind.i64.wrap ((BitVec.ofInt 64 (a : Int) &&& BitVec.ofInt 64 (b : Int)).toNat : Int) = _
  rw [BitVec.toNat_and, ofInt_nat a ha, ofInt_nat b hb, IntKind.wrap_i64]
  omega
theorem or_hi (a b : Nat) (ha : a < 256) (hb : b < 256) : Go.bits .or .i64 ((a * 65536 : Nat) : Int) ((b * 256 : Nat) : Int) = ((a * 65536 + b * 256 : Nat) : Int) := by
  rw [or_nat _ _ (by omega) (by omega)]
  have := Nat.shiftLeft_add_eq_or_of_lt (a := a) (b := b * 256) (i := 16) (by omega)
  rw [Nat.shiftLeft_eq] at this
  rw [← this]
theorem or_lo (m c : Nat) (hm : m < 65536) (hc : c < 256) : Go.bits .or .i64 ((m * 256 : Nat) : Int) (c : Int) = ((m * 256 + c : Nat) : Int) := by
  rw [or_nat _ _ (by omega) (by omega)]
  have := Nat.shiftLeft_add_eq_or_of_lt (a := m) (b := c) (i := 8) (by omega)
  rw [Nat.shiftLeft_eq] at this
  rw [← this]
theorem and_14 (m : Nat) (hm : m < 9223372036854775808) : Go.bits .and .i64 (m : Int) 16383 = ((m % 16384 : Nat) : Int) := by
  have := and_nat m 16383 hm (by omega)
  rw [show ((16383 : Nat) : Int) = 16383 from rfl] at this
  rw [this]
  have h2 := Nat.and_two_pow_sub_one_eq_mod m 14
  simp only [show (2 : Nat) ^ 14 = 16384 from rfl] at h2
  rw [show (16383 : Nat) = 16384 - 1 from rfl, h2]
/-- a byte of a text -/
theorem run_byte (x : ByteArray) (i : Nat) (h : i < x.size) (w : World) : (Instr.index 9 (.string x) (.int .i64 (i : Int))).run Try.prog w = .ok (.int .u8 (bn x i : Nat)) w := by
  rw [run_index_string w 9 x .i64 (i : Int) Try.underlying9, dif_pos ⟨by omega, by omega⟩, bn_eq x i h]
  rfl
end Go.Proofs.Ytdadggaecgkhfaa.LZ
