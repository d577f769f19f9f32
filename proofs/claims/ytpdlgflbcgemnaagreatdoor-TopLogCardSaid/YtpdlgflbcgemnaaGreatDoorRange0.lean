/- A range over a function that yields nothing, among assertions: a plain law; a row that a call has made, as an assertion. -/
import Derived.Test.YtpdlgflbcgemnaaGreatDoorGe
import Derived.Test.YtpdlgflbcgemnaaGreatDoorGK
set_option linter.unusedSimpArgs false
set_option linter.unusedVariables false
set_option maxRecDepth 100000
namespace Go
open Go.RowKit
section
variable {F : Fence} {n : Nat} {P : Program}
theorem wpIn_range0 {g : Operand} {ps : Array Tmp} {assign body : Code} {Q : Exit → Act → World → Prop} {a : Act} {w : World}
    (hro : F.round = none) (h1 : 1 ≤ n) {gf : Nat} {lb : Array Value} (hg : a.eval g = .func (.func gf) #[] lb) (hFg : F.fn gf) (eg : ∀ args w, (callFunc gf args).run P w = .ok (.enter gf args) w)
    {W0 : World} {L : List Asn} (hseq : ∀ (k : Nat) (R : List Asn) (W : World), Own W0 W (R ++ L) → CallsIn F (n - 1) P gf (#[.func (.yield k) #[] #[]] ++ lb) W fun e W' => (∃ v, e = .returned v) ∧ Own W0 W' (R ++ L))
    (h0 : Own W0 w L)
    (hdone : ∀ (D : Nat) (W : World), Own W0 W (rawA D (.deferred (some [])) :: L) → Q .normal { a with defers := { target := .collected D, args := #[] } :: a.defers } W) :
    (Code.rangeFunc g ps assign body).wpIn F n P Q a w := by
  refine wpIn_rangeFunc fun fn hfn => ?_
  rw [hro]
  obtain ⟨mk, hmk⟩ : ∃ mk : LoopState → Option Code → Obj, mk = fun st pe => .loop { state := st, pending := pe, fn, tmps := a.tmps, params := ps, assign, body, defers := w.heap.size } := ⟨_, rfl⟩
  have O1 : Own W0 ((w.alloc (.deferred (some []))).alloc (mk .ready none)) (rawA (w.heap.size + 1) (mk .ready none) :: rawA w.heap.size (.deferred (some [])) :: L) := by
    have := (h0.newRaw (.deferred (some []))).newRaw (mk .ready none)
    rw [World.size_alloc] at this
    exact this
  obtain ⟨W1, hW1⟩ : ∃ W1, W1 = (w.alloc (.deferred (some []))).alloc (mk .ready none) := ⟨_, rfl⟩
  have hent : (Instr.enterLoop fn a.tmps ps assign body none).run P w = .ok (w.heap.size + 1, [{ target := .collected w.heap.size, args := #[] }]) W1 := by
    rw [hW1, hmk]
    exact run_enterLoop_outer (P := P) (w := w) fn a.tmps ps assign body
  rw [← hW1] at O1
  clear hW1
  refine ⟨w.heap.size + 1, [{ target := .collected w.heap.size, args := #[] }], W1, { target := .fn (.func gf) lb, args := #[.func (.yield (w.heap.size + 1)) #[] #[]] }, W1, gf, #[.func (.yield (w.heap.size + 1)) #[] #[]] ++ lb, W1, hent, ?_, ?_, ?_, fun _ => h1, ?_⟩
  · simp only [resolve, hg]
    simp [go_sem]
  · intro f' hf'
    simp [Target.leads] at hf'
    subst hf'
    exact hFg
  · simp [invoke, go_sem, eg]
  have hmkr : ∀ st pe, mk st pe = .loop { state := st, pending := pe, fn, tmps := a.tmps, params := ps, assign, body, defers := w.heap.size } := fun st pe => by rw [hmk]
  clear hent hmk
  generalize hL : w.heap.size + 1 = Lb at *
  generalize hD : w.heap.size = D at *
  refine (hseq Lb [rawA Lb (mk .ready none), rawA D (.deferred (some []))] W1 O1).mono ?_
  rintro e W2 ⟨⟨v, rfl⟩, h2⟩
  have hl := h2.raw
  rw [hmkr] at hl
  exact ⟨none, _, run_endLoop (P := P) hl (by simp), hdone D _ (h2.putRaw _).drop⟩
end
/-- what a call has made -/
theorem World.ownsRow.toSl {w : World} {base size : Nat} {e : TypeId} {v : Value} {n : Nat} {xs : List Value} (h : w.ownsRow base e size v n xs) : Sl w size v n xs ∧ ∀ k, v.ownBlock = some k → base ≤ k := by
  obtain ⟨hl, h | ⟨g, cap, cur, rfl, hb, hg, hn, hc, hcs, hx⟩⟩ := h
  · obtain ⟨rfl, rfl⟩ := h
    exact ⟨⟨hl, .inl ⟨rfl, rfl⟩⟩, fun k hk => by cases hk⟩
  · have hlt := (Array.getElem?_eq_some_iff.1 hg).1
    have hcell : ∀ j, w.cell? ⟨g, j, none⟩ = cur[j]? := fun j => by
      unfold World.cell?
      rw [hg]
      rfl
    have hle : n * size ≤ cap * size := Nat.mul_le_mul_right _ hn
    refine ⟨⟨hl, .inr ⟨g, 0, cap, rfl, hlt, hn, hc, fun j hj => ?_, fun j hj => ⟨?_, ?_⟩⟩⟩, fun k hk => ?_⟩
    · rw [Nat.zero_add, hcell, ← hx, List.getElem?_take, if_pos hj]
      simp
    · rw [Nat.zero_add, hcell, Array.getElem?_eq_getElem (by omega)]
      rfl
    · unfold World.frozen?
      rw [hg]
      simp
    · simp [Value.ownBlock] at hk
      omega
end Go
