/- session: the law's turns, opened: plain laws. -/
import Derived.Test.YtpmebmbibajcoaaOnceF
import Derived.Test.YtpmebmbibajcoaaOpen
import Derived.Test.YtpmebmbibajcoaaLift
import Derived.ProofKit
set_option linter.unusedSimpArgs false
set_option linter.unusedVariables false
namespace Go.Proofs.Ytpmebmbibajcoaa
open Go.ChangeShapes Go.WideShapes Go.ChangeAt Go.RowKit Go.Deep
theorem wf64 {n : Int} (h : (Lit.int .i64 n).wf = true) : -9223372036854775808 ≤ n ∧ n ≤ 9223372036854775807 := by simpa [Lit.wf, IntKind.min, IntKind.max, IntKind.signed, IntKind.bits] using h
abbrev turnTy : Ty := .pair (.int .i64) (.pair (.int .i64) (.pair (.int .i64) (.pair .str .unit)))
/-- one turn, opened -/
theorem open_turn {w : World} {x : turnTy.El} {row : List Value} (h : Holds w turnTy x row) : ∃ t : TurnR, row = t.cs ∧ -9223372036854775808 ≤ t.k ∧ t.k ≤ 9223372036854775807 := by
  obtain ⟨c1, c2, rfl, _, ⟨rfl, _⟩, c3, c4, rfl, _, ⟨rfl, _⟩, c5, c6, rfl, _, ⟨rfl, hw⟩, c7, c8, rfl, _, ⟨rfl, _⟩, rfl⟩ := h
  exact ⟨⟨x.1, x.2.1, x.2.2.1, x.2.2.2.1⟩, rfl, wf64 hw⟩
theorem open_turns {w : World} {x : List turnTy.El} {c : List Value} (h : Holds w (.slice 40 turnTy) x c) : ∃ (A : Option Addr) (cp : Nat) (ts : List TurnR), c = [.slice A ts.length cp] ∧ ts.length ≤ cp ∧ cp ≤ 140737488351232 ∧ RowsAt w A 4 ts.length (turnRow ts) ∧
    ∀ t ∈ ts, -9223372036854775808 ≤ t.k ∧ t.k ≤ 9223372036854775807 := by
  obtain ⟨A, cp, rfl, hl, hb, _, hr⟩ := h
  have hcp : cp ≤ 140737488351232 := by
    have : cp * 40 ≤ 140737488351232 := hb
    omega
  rcases Nat.eq_zero_or_pos x.length with h0 | h0
  · exact ⟨A, cp, [], by rw [h0]; rfl, by simp, hcp, RowsAt.zero _ _ _ _, fun d hd => by cases hd⟩
  · obtain ⟨b, off, hA, hbl, hc⟩ := hr h0
    have each : ∀ i, i < x.length → ∃ t : TurnR, (∀ j, j < 4 → w.cell? ⟨b, off + (i * 4 + j), none⟩ = t.cs[j]?) ∧ -9223372036854775808 ≤ t.k ∧ t.k ≤ 9223372036854775807 := fun i hi => by
      obtain ⟨row, hrl, hrc, hh⟩ := hc i _ (List.getElem?_eq_getElem hi)
      obtain ⟨d, rfl, h1⟩ := open_turn hh
      refine ⟨d, fun j hj => ?_, h1⟩
      have h7 : d.cs.length = 4 := rfl
      rw [List.getElem?_eq_getElem (by rw [h7]; exact hj)]
      exact hrc j _ (List.getElem?_eq_getElem (by rw [h7]; exact hj))
    haveI : Inhabited TurnR := ⟨tu0⟩
    obtain ⟨F, hF⟩ := choose_lt each
    refine ⟨A, cp, (List.range x.length).map F, by simp, by simpa using hl, hcp, fun _ => ⟨b, off, hA, hbl, fun i j hi hj => ?_⟩, fun d hd => ?_⟩
    · have hi' : i < x.length := by simpa using hi
      rw [(hF i hi').1 j hj]
      unfold turnRow
      have e : ((List.range x.length).map F).getD i tu0 = F i := by
        rw [List.getD_eq_getElem?_getD, List.getElem?_map, List.getElem?_range hi']
        rfl
      rw [e]
      have h7 : (F i).cs.length = 4 := rfl
      rw [List.getD_eq_getElem?_getD, List.getElem?_eq_getElem (by rw [h7]; exact hj)]
      rfl
    · obtain ⟨i, hi, rfl⟩ := List.mem_map.1 hd
      exact (hF i (List.mem_range.1 hi)).2
end Go.Proofs.Ytpmebmbibajcoaa
