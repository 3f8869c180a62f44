/- Slices of numbers and of bools that a law is handed: what the walk is told of them; conditions: none. -/
import Derived.Test.YtdadggaecgkhfaaH8
import Derived.ProofKit
import Derived.ChangeSlices
import Derived.OpenShut
import Derived.Deep.Grids
namespace Go.Proofs.Ytdadggaecgkhfaa
open Go.RowKit Go.Proofs.YtdadggaecgkhfaaW.PrintWords Go.Proofs.YtdadggaecgkhfaaW.PrintMore
open Go.ChangeShapes Go.Deep
set_option linter.unusedVariables false
/-- a slice of ints that came in, read as a list -/
def IntsIn (w : World) (a : Option Addr) (n : Nat) (xs : List Int) : Prop := Kd.C (Kd.int .i64) w a n xs ∧ ∀ x ∈ xs, -9223372036854775808 ≤ x ∧ x ≤ 9223372036854775807
def BoolsIn (w : World) (a : Option Addr) (n : Nat) (xs : List Bool) : Prop := Kd.C Kd.bool w a n xs
theorem IntsIn.len {w : World} {a : Option Addr} {n : Nat} {xs : List Int} (h : IntsIn w a n xs) : xs.length = n := h.1.1
theorem BoolsIn.len {w : World} {a : Option Addr} {n : Nat} {xs : List Bool} (h : BoolsIn w a n xs) : xs.length = n := h.1
theorem IntsIn.below {w w' : World} {a : Option Addr} {n : Nat} {xs : List Int} (h : IntsIn w a n xs) {B : Nat} (hB : w.heap.size ≤ B) (hb : Below B w w') : IntsIn w' a n xs :=
  ⟨(Kd.heap_int .i64).C (fun k hlt => hb.block k (Nat.lt_of_lt_of_le hlt hB)) h.1, h.2⟩
theorem heap_bool : Kd.Heap Kd.bool := ⟨fun _ h => h⟩
theorem BoolsIn.below {w w' : World} {a : Option Addr} {n : Nat} {xs : List Bool} (h : BoolsIn w a n xs) {B : Nat} (hB : w.heap.size ≤ B) (hb : Below B w w') : BoolsIn w' a n xs :=
  heap_bool.C (fun k hlt => hb.block k (Nat.lt_of_lt_of_le hlt hB)) h
theorem row_ints {w : World} {a : Addr} (zs : List Int) (len : Nat) (hl : len ≤ zs.length) (hm : zs.length ≤ maxLen) (hc : ∀ i, i < zs.length → w.cell? (a.add i) = some (.int .i64 (zs.getD i 0))) (hw : ∀ n ∈ zs, (Lit.int .i64 n).wf = true) :
    IntsIn w (some a) len (zs.take len) := by
  refine ⟨⟨by simp; omega, by unfold maxLen at hm; omega, fun _ => ⟨a, rfl, fun j p hj => ⟨[.int .i64 p], rfl, rfl, fun i u hu => ?_⟩⟩⟩, fun x hx => bounds_i64 (hw x (List.mem_of_mem_take hx))⟩
  cases i with
  | succ i => simp at hu
  | zero =>
    simp at hu
    subst hu
    have hj2 : j < len := by
      rcases Nat.lt_or_ge j (zs.take len).length with h | h
      · simp at h; omega
      · rw [List.getElem?_eq_none h] at hj; cases hj
    rw [List.getElem?_take_of_lt hj2] at hj
    show w.cell? (a.add (j * 1 + 0)) = _
    rw [Nat.mul_one, Nat.add_zero, hc j (by omega)]
    simp [List.getD, hj]
theorem row_bools {w : World} {a : Addr} (B : Nat → Bool) (len : Nat) (hm : len ≤ maxLen) (hc : ∀ i, i < len → w.cell? (a.add i) = some (.bool (B i))) :
    BoolsIn w (some a) len ((List.range len).map B) := by
  refine ⟨by simp, by unfold maxLen at hm; omega, fun _ => ⟨a, rfl, fun j p hj => ⟨[.bool p], rfl, rfl, fun i u hu => ?_⟩⟩⟩
  cases i with
  | succ i => simp at hu
  | zero =>
    simp at hu
    subst hu
    have hj2 : j < len := by
      rcases Nat.lt_or_ge j ((List.range len).map B).length with h | h
      · simpa using h
      · rw [List.getElem?_eq_none h] at hj; cases hj
    simp [hj2] at hj
    show w.cell? (a.add (j * 1 + 0)) = _
    rw [Nat.mul_one, Nat.add_zero, hc j hj2, hj]
theorem ints_of {H : Type} {enc : TypeId × Value → H} {W : World} {a : Option Addr} {len cap : Nat} {d : DataW H} {p : List MemPlace} {held : Bool}
    (h : DataW.Trod enc Try.prog W 0 (fun _ => true) held 29 (.slice a len cap) d p) : ∃ xs, IntsIn W a len xs := by
  obtain ⟨fuel, hf⟩ := h
  rcases open_ints Try.underlying29 Try.underlying3 (by kernel_rfl) hf with ⟨hcs, _⟩ | ⟨x, l, c, zs, hcs, _, hl, hm, hz, _, hcell, hwz⟩
  · simp [Value.cells] at hcs
    obtain ⟨rfl, rfl, rfl⟩ := hcs
    exact ⟨[], Kd.C_nil _ _, by simp⟩
  · simp [Value.cells] at hcs
    obtain ⟨rfl, rfl, rfl⟩ := hcs
    simp at hz
    exact ⟨_, row_ints zs len (by omega) (by omega) hcell hwz⟩
theorem bools_of {H : Type} {enc : TypeId × Value → H} {W : World} {a : Option Addr} {len cap : Nat} {d : DataW H} {p : List MemPlace} {held : Bool}
    (h : DataW.Trod enc Try.prog W 0 (fun _ => true) held 36 (.slice a len cap) d p) : ∃ xs, BoolsIn W a len xs := by
  obtain ⟨fuel, hf⟩ := h
  rcases open_bools Try.underlying36 Try.underlying4 (by kernel_rfl) hf with ⟨hcs, _⟩ | ⟨x, l, c, B, hcs, _, hl, hm, _, hcell⟩
  · simp [Value.cells] at hcs
    obtain ⟨rfl, rfl, rfl⟩ := hcs
    exact ⟨[], Kd.C_nil _ _⟩
  · simp [Value.cells] at hcs
    obtain ⟨rfl, rfl, rfl⟩ := hcs
    exact ⟨_, row_bools B len (by omega) (fun i hi => hcell i (by omega))⟩
end Go.Proofs.Ytdadggaecgkhfaa
