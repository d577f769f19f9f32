/- arch: deeds and entities that are read as data, opened. -/
import Derived.Test.YtanbppejfhnjbaaArU
import Derived.Test.YtanbppejfhnjbaaLift
set_option linter.unusedSimpArgs false
set_option linter.unusedVariables false
namespace Go.Proofs.Ytanbppejfhnjbaa
open Go.RowKit
abbrev idTy : Ty := .pair (.int .i64) (.pair (.int .i64) (.pair (.int .i64) .unit))
abbrev bdTy : Ty := .pair idTy (.pair (.int .i64) (.pair (.int .i64) (.pair (.int .i64) (.pair (.int .i64) (.pair (.int .i64) (.pair (.int .i64) (.pair (.int .i64) (.pair (.int .i64) .unit))))))))
abbrev deTy : Ty := .pair (.int .i64) (.pair bdTy .unit)
def toB (x : bdTy.El) : BdR := ⟨⟨x.1.1, x.1.2.1, x.1.2.2.1⟩, x.2.1, x.2.2.1, x.2.2.2.1, x.2.2.2.2.1, x.2.2.2.2.2.1, x.2.2.2.2.2.2.1, x.2.2.2.2.2.2.2.1, x.2.2.2.2.2.2.2.2.1⟩
def toD (x : deTy.El) : DeedR := ⟨x.1, toB x.2.1⟩
theorem wf_i64 {n : Int} (h : (Lit.int .i64 n).wf = true) : -9223372036854775808 ≤ n ∧ n ≤ 9223372036854775807 := by
  simp [Lit.wf, IntKind.min, IntKind.max, IntKind.signed, IntKind.bits] at h
  exact h
theorem wf_id {x : bdTy.El} (h : bdTy.Wf x) : IdW (toB x).id := ⟨wf_i64 h.1.1, wf_i64 h.1.2.1, wf_i64 h.1.2.2.1⟩
theorem open_deeds {w : World} {xs : List deTy.El} {cs : List Value} (h : Holds w (.slice 96 deTy) xs cs) : ∃ (A : Option Addr) (cp : Nat) (ds : List DeedR), cs = [.slice A ds.length cp] ∧ ds.length ≤ cp ∧ cp ≤ 9223372036854775807 ∧ RowsAt w A 12 ds.length (dRow ds) ∧ ∀ d ∈ ds, IdW d.b.id := by
  obtain ⟨A, c, hc, hl, _, hmx, hwf, hr⟩ := h.rows rfl
  refine ⟨A, c, xs.map toD, by rw [hc, List.length_map], by rw [List.length_map]; exact hl, by unfold maxLen at hmx; omega, ?_, fun d hd => ?_⟩
  · rw [List.length_map]
    refine hr _ fun i j x hx hj => ?_
    have e : (xs.map toD).getD i d0 = toD x := by rw [List.getD_eq_getElem?_getD, List.getElem?_map, hx]; rfl
    unfold dRow
    rw [e]
    have h12 : (toD x).cs.length = 12 := rfl
    show (toD x).cs[j]? = _
    rw [List.getD_eq_getElem?_getD, List.getElem?_eq_getElem (by rw [h12]; exact hj)]
    rfl
  · obtain ⟨x, hx, rfl⟩ := List.mem_map.1 hd
    exact wf_id (hwf x hx).2.1
end Go.Proofs.Ytanbppejfhnjbaa
