/- Small words on memory: a block that is known whole, and what stores, new blocks and later worlds make of it; no program. -/
import Derived.Below
import Derived.Laws.OwnMore
import Derived.Deep.Draws
import Derived.Laws.Rows
import Derived.Deep.MidRow
namespace Go.Proofs.Ytdadggaecgkhfaa
open Go.RowKit
def Blk (w : World) (g : Nat) (t : TypeId) (cs : Array Value) : Prop := w.heap[g]? = some (.cells cs t (0, 0))
section
variable {w w' : World} {g : Nat} {t : TypeId} {cs : Array Value}
theorem Blk.lt (h : Blk w g t cs) : g < w.heap.size := by
  rcases Nat.lt_or_ge g w.heap.size with hlt | hge
  · exact hlt
  · unfold Blk at h; rw [Array.getElem?_eq_none hge] at h; cases h
theorem Blk.cell (h : Blk w g t cs) (i : Nat) : w.cell? ⟨g, i, none⟩ = cs[i]? := cell_of_row w g i cs t (0, 0) h
theorem Blk.frozen (h : Blk w g t cs) (i : Nat) : w.frozen? ⟨g, i, none⟩ = false := by
  unfold Blk at h
  simp [World.frozen?, h]
theorem Blk.new (w : World) (t : TypeId) (cs : Array Value) : Blk (w.alloc (.cells cs t)) w.heap.size t cs := heap_alloc_new w _
theorem Blk.drew (h : Blk w g t cs) : Blk w.drew g t cs := h
theorem Blk.drewN (h : Blk w g t cs) (n : Nat) : Blk (w.drewN n) g t cs := h
theorem Blk.alloc (h : Blk w g t cs) (o : Obj) : Blk (w.alloc o) g t cs := (Below.heap_alloc w o g h.lt).trans h
theorem Blk.set_ (h : Blk w g t cs) (i : Nat) (u : Value) : Blk (w.setCell ⟨g, i, none⟩ u) g t (cs.setIfInBounds i u) := by
  unfold Blk at h ⊢
  simp [World.setCell, Array.getElem?_modify, h]
theorem Blk.far (h : Blk w g t cs) {p : Addr} (hp : g ≠ p.block) (u : Value) : Blk (w.setCell p u) g t cs := (Below.heap_setCell w p u g hp).trans h
theorem Blk.ne_ {g' : Nat} {t' : TypeId} {cs' : Array Value} (h : Blk w g t cs) (h' : Blk w g' t' cs') (hne : t ≠ t') : g ≠ g' := by
  rintro rfl
  unfold Blk at h h'
  rw [h] at h'
  injection h' with h'
  injection h' with _ ht
  exact hne ht
theorem Blk.below {B : Nat} (h : Blk w g t cs) (hb : Below B w w') (hg : g < B) : Blk w' g t cs := (hb.block g hg).trans h
theorem Blk.there (h : Blk w g t cs) (n : Nat) (hn : n ≤ cs.size) : w.there g 0 n := fun j hj => by
  rw [Nat.zero_add]
  refine ⟨?_, h.frozen j⟩
  rw [h.cell, Option.isSome_iff_exists]
  exact ⟨_, Array.getElem?_eq_getElem (by omega)⟩
end
theorem blk_setCells (g : Nat) (t : TypeId) : ∀ (vs : List Value) (o : Nat) (cs : Array Value) (w : World), Blk w g t cs → o + vs.length ≤ cs.size →
    ∃ cs', Blk (w.setCells g o vs) g t cs' ∧ cs'.size = cs.size ∧ ∀ i, cs'[i]? = if o ≤ i ∧ i < o + vs.length then vs[i - o]? else cs[i]?
  | [], o, cs, w, h, _ => ⟨cs, h, rfl, fun i => by rw [if_neg (by rw [List.length_nil]; omega)]⟩
  | v :: r, o, cs, w, h, hl => by
    obtain ⟨cs', h1, h2, h3⟩ := blk_setCells g t r (o + 1) (cs.setIfInBounds o v) (w.setCell ⟨g, o, none⟩ v) (h.set_ o v) (by simp at hl ⊢; omega)
    refine ⟨cs', h1, by simpa using h2, fun i => ?_⟩
    rw [h3]
    simp only [List.length_cons] at hl ⊢
    by_cases ho : i = o
    · subst ho
      rw [if_neg (by omega), if_pos (by omega), Nat.sub_self, Array.getElem?_setIfInBounds]
      rw [if_pos rfl, if_pos (by omega)]; rfl
    · by_cases hi : o + 1 ≤ i ∧ i < o + 1 + r.length
      · rw [if_pos hi, if_pos (by omega), show i - o = (i - (o + 1)) + 1 from by omega]; rfl
      · rw [if_neg hi, if_neg (by omega), Array.getElem?_setIfInBounds, if_neg (fun e => ho e.symm)]
/-- a whole block written over -/
theorem Blk.over {w : World} {g : Nat} {t : TypeId} {cs : Array Value} (h : Blk w g t cs) (A : Array Value) (hA : A.size = cs.size) : Blk (w.setCells g 0 A.toList) g t A := by
  obtain ⟨cs', h1, h2, h3⟩ := blk_setCells g t A.toList 0 cs w h (by simp; omega)
  have e : cs' = A := by
    apply Array.ext'
    apply List.ext_getElem?
    intro i
    have := h3 i
    simp only [Array.getElem?_toList]
    rw [this]
    by_cases hi : i < A.size
    · rw [if_pos (by simp; omega)]; simp
    · rw [if_neg (by simp; omega), Array.getElem?_eq_none (by omega), Array.getElem?_eq_none (by omega)]
  rw [e] at h1
  exact h1
theorem below_setCells {B : Nat} {a : World} (g : Nat) (hg : B ≤ g) : ∀ (vs : List Value) (o : Nat) (w : World), Below B a w → Below B a (w.setCells g o vs)
  | [], _, _, h => h
  | v :: r, o, w, h => below_setCells g hg r (o + 1) (w.setCell ⟨g, o, none⟩ v) (h.setCell hg v)
end Go.Proofs.Ytdadggaecgkhfaa
