/- A range over a function whose variable lies in a box: the activation of a round is told by its slots. Plain laws. -/
import Derived.Test.YtkdagljoiacaaaaRangeO
set_option linter.unusedSimpArgs false
set_option linter.unusedVariables false
namespace Go
open Go.RowKit
/-- the round's slots: what was yielded, and the box -/
def rangeM (a : Act) (p q : Nat) (v : Value) (Bx : Nat) : Act :=
  { tmps := (a.tmps.setIfInBounds p v).setIfInBounds q (.pointer (some ⟨Bx, 0, none⟩)), defers := [] }
variable {F : Fence} {n : Nat} {P : Program}
theorem wpIn_rangeM {α : Type} {g : Operand} {p : Tmp} (q : Nat) {assign body : Code} {Q : Exit → Act → World → Prop} {a : Act} {w : World}
    (hro : F.round = none) (h1 : 1 ≤ n) {gf : Nat} {lb : Array Value} (hg : a.eval g = .func (.func gf) #[] lb) (hFg : F.fn gf) (eg : ∀ args w, (callFunc gf args).run P w = .ok (.enter gf args) w)
    {enc : α → Value} {W0 : World} {xs : List α} {base : List Asn} (hseq : SeqO F (n - 1) P gf lb W0 enc xs base)
    (I : List α → List Asn) (h0 : Own W0 w (base ++ I [])) (cs : α → List Value) (t : TypeId)
    (hassign : ∀ (l : Nat) (x : α) (W : World) (K : Act → World → Prop), K (rangeM a p q (enc x) W.heap.size) (W.alloc (.cells (cs x).toArray t)) →
      assign.wpIn (F.inRound l) (n - 1 - 1) P (Exit.then K (fun _ _ _ => False)) { tmps := a.tmps.setIfInBounds p (enc x), defers := [] } W)
    (hbody : ∀ (l Bx : Nat) (pre : List α) (x : α) (post : List α) (W : World) (R : List Asn), pre ++ x :: post = xs → Own W0 W (cellsA Bx (cs x) :: (base ++ (I pre ++ R))) →
      body.wpIn (F.inRound l) (n - 1 - 1) P (roundO W0 base I (fun _ _ => [factA False]) (pre ++ [x]) R) (rangeM a p q (enc x) Bx) W)
    (hdone : ∀ (D : Nat) (W : World), Own W0 W (rawA D (.deferred (some [])) :: (base ++ I xs)) → Q .normal { a with defers := { target := .collected D, args := #[] } :: a.defers } W) :
    (Code.rangeFunc g #[p] assign body).wpIn F n P Q a w :=
  wpIn_rangeO (ps := #[p]) hro h1 hg hFg eg hseq rfl I (fun _ _ => [factA False]) h0 (fun Bx x => rangeM a p q (enc x) Bx) cs t
    (fun l x W K hK => by simpa using hassign l x W K hK) hbody hdone
    (fun D c pre post W _ _ O => by
      obtain ⟨_, S, h1, _⟩ := O
      obtain ⟨A, ⟨_, h⟩, _⟩ := h1.at (base.length + 1) (Q := factA False) (by rw [List.getElem?_cons_succ, List.getElem?_append_right (Nat.le_refl _)]; simp)
      exact h.elim)
end Go
