/- Own slices in growing worlds: plain laws. -/
import Derived.Test.YtjfjecjigakdnaaGrow
import Derived.Laws.AppendOwn
import Derived.Laws.OwnMore
import Derived.OwnWalk
import Derived.Deep.AppendLies
import Derived.Deep.DeepAppendWide
namespace Go
open Go.RowKit
theorem plus_of_below {w w' : World} (h : Below w.heap.size w w') : w.Plus w' := by
  refine ⟨⟨w'.heap.extract w.heap.size w'.heap.size, w'.drawn⟩, ?_⟩
  have hb : w'.heap = w.heap ++ w'.heap.extract w.heap.size w'.heap.size := by
    apply Array.ext_getElem?
    intro i
    by_cases hi : i < w.heap.size
    · rw [h.block i hi, Array.getElem?_append_left hi]
    · rw [Array.getElem?_append_right (by omega), Array.getElem?_extract]
      by_cases h2 : i < w'.heap.size
      · rw [if_pos (by omega), show w.heap.size + (i - w.heap.size) = i by omega]
      · rw [if_neg (by omega), Array.getElem?_eq_none (by omega)]
  cases w' with
  | mk heap tape drawn os output =>
    obtain ⟨h1, h2, h3, h4, h5⟩ := h
    simp only at h1 h2 h3 hb
    subst h1 h2 h3
    unfold World.plus
    simp only
    congr 1
theorem World.grownBy.toPlus {w0 w w' : World} {row : Option Nat} (hp : w0.Plus w) (hg : w.grownBy w' row) (hr : ∀ k, row = some k → w0.heap.size ≤ k) : w0.Plus w' := by
  have hb := Plus.below hp
  exact plus_of_below ⟨hg.os.trans hb.os, hg.tape.trans hb.tape, hg.output.trans hb.output, Nat.le_trans hb.size hg.size, fun k hk =>
    (hg.block k (Nat.lt_of_lt_of_le hk hb.size) (fun e => by have := hr k e.symm; omega)).trans (hb.block k hk)⟩
theorem World.ownsRow.plus {w : World} {base : Nat} {e : TypeId} {size : Nat} {v : Value} {n : Nat} {xs : List Value} (h : w.ownsRow base e size v n xs) (x : Ext) : (w.plus x).ownsRow base e size v n xs := by
  rcases h with ⟨hl, h | ⟨g, cap, cur, rfl, hb, hc, hr⟩⟩
  · exact ⟨hl, .inl h⟩
  · have hlt : g < w.heap.size := by
      rcases Nat.lt_or_ge g w.heap.size with h1 | h1
      · exact h1
      · rw [Array.getElem?_eq_none h1] at hc; cases hc
    exact ⟨hl, .inr ⟨g, cap, cur, rfl, hb, (w.plus_block x hlt).trans hc, hr⟩⟩
/-- an own row, read -/
theorem World.ownsRow.rows {w : World} {base : Nat} {e : TypeId} {v : Value} {n : Nat} {xs : List Value} (h : w.ownsRow base e 1 v n xs) (f : Nat → Nat → Value) (hf : ∀ i, i < n → xs[i]? = some (f i 0)) :
    ∃ A c, v = .slice A n c ∧ RowsAt w A 1 n f := by
  have hlt := h.lt
  have hcells : ∀ g, v.ownBlock = some g → ∀ j u, xs[j]? = some u → w.cell? ((⟨g, 0, none⟩ : Addr).add j) = some u := fun g hg => h.cells hg
  rcases h with ⟨hl, ⟨rfl, rfl⟩ | ⟨g, cap, cur, rfl, hb, hc, hr⟩⟩
  · exact ⟨none, 0, rfl, RowsAt.zero _ _ _ _⟩
  · refine ⟨some ⟨g, 0, none⟩, cap, rfl, fun _ => ⟨g, 0, rfl, (hlt g rfl).2, fun i j hi hj => ?_⟩⟩
    obtain rfl : j = 0 := by omega
    have := hcells g rfl i _ (hf i hi)
    by_cases h0 : i = 0
    · subst h0; simpa [Addr.add] using this
    · simpa [Addr.add, h0] using this
end Go
