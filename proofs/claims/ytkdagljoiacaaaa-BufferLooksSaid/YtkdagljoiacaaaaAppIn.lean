/- append to a slice that is held, among other assertions, in the fenced walk. -/
import Derived.Test.YtkdagljoiacaaaaRangeO
import Derived.OwnWalkIn
set_option linter.unusedSimpArgs false
set_option linter.unusedVariables false
namespace Go
open Go.RowKit
theorem wpListIn_append_O {F : Fence} {nF : Nat} {P : Program} {w : World} {ops : Array Oper} {rest : List Oper} {o : Oper} {a : Act} {Q : Exit → Act → World → Prop} (hgd : o.guard = none) (s x : Operand) (t tx : TypeId)
    (ho : o.op = .call { callee := .builtin .append, args := #[s, x], argTypes := #[t, tx] })
    (e : TypeId) (i : TypeInfo) (z : Value) (size bytes : Nat) (ht : P.underlying t = some (.slice e)) (hi : P.info? e = some i) (hz : i.zero = some z) (hsize : i.size = size) (hby : i.bytes = bytes) (hzs : z.cells.size = size)
    {W : World} {l : List Asn} {v : Value} {n : Nat} {cs : List Value} (hs : a.eval s = v) (h : Own W w (slA size v n cs :: l)) {xv : Value} {m : Nat} {news : List Value} (hx : a.eval x = xv) (hsrc : Src P size tx xv m news w) (h63 : n + m ≤ maxLen) (hbytes : (n + m) * bytes ≤ 140737488355328)
    (k : ∀ A c w', Own W w' (slA size (.slice A (n + m) c) (n + m) (cs ++ news) :: l) → wpListIn F nF P ops Q rest (a.put o.dst (.slice A (n + m) c)) w') : wpListIn F nF P ops Q (o :: rest) a w := by
  refine wpListIn_plain hgd fun K hK => ?_
  obtain ⟨A, c, w', hr, h2, h3, h4, h5⟩ := run_append_sl (P := P) t tx o.type e i z size bytes ht hi hz hsize hby hzs (h.sl 0 rfl) hsrc h63 hbytes
  unfold Oper.wpIn
  refine ⟨by simp [Oper.about, ho, resolve, Target.leads, Sem.run_pure], ?_⟩
  rw [Oper.semAt_plain F _ _ (by rw [ho]; intro c hc'; cases hc')]
  unfold execOp
  simp only [ho, resolve, invoke, builtin, Sem.run_bind, Sem.run_pure, Result.andThen_ok, List.map_toArray, List.map_cons, List.map_nil, hs, hx, hr]
  refine hK _ _ (k A c w' (Own.step (A := fun _ => False) h fun B hB => ?_))
  refine ⟨fun k => (Value.slice A (n + m) c).ownBlock = some k, h3.mono (fun k hk => (hB.1 k).2 hk), ⟨fun k => Iff.rfl, h2⟩, fun k hk => ?_⟩
  rcases h4 with h4 | h4
  · rw [h4] at hk; exact .inl ((hB.1 k).2 hk)
  · have := h2.lt k hk
    rw [h4] at hk
    cases hk
    exact .inr ⟨Nat.le_refl _, this⟩
end Go
