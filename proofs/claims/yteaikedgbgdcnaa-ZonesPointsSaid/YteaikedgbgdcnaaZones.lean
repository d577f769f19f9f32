/- zones: contracts. -/
import Derived.Test.YteaikedgbgdcnaaRect
import Derived.LoopN
set_option linter.unusedSimpArgs false
set_option linter.unusedVariables false
namespace Go.Proofs.Yteaikedgbgdcnaa
open Go.RowKit
structure Cfg where
  cols : Int
  rows : Int
  side : Int
  radius : Int
  speed : Int
  ids : Int
  queue : Int
def Cfg.v (c : Cfg) : Value := .agg #[.int .i64 c.cols, .int .i64 c.rows, .int .i64 c.side, .int .i64 c.radius, .int .i64 c.speed, .int .i64 c.ids, .int .i64 c.queue]
def Cfg.ok (c : Cfg) : Prop := (1 ≤ c.cols ∧ c.cols ≤ 4) ∧ (1 ≤ c.rows ∧ c.rows ≤ 4) ∧ (256 ≤ c.side ∧ c.side ≤ 1048576) ∧ (0 ≤ c.radius ∧ c.radius ≤ c.side) ∧ (0 ≤ c.speed ∧ c.speed ≤ c.side) ∧ (1 ≤ c.ids ∧ c.ids ≤ 16) ∧ (1 ≤ c.queue ∧ c.queue ≤ 64)
set_option maxHeartbeats 4000000 in
theorem check_any (a b s r p i q : Int) (w : World) :
    Calls Try.prog 13 #[(Cfg.mk a b s r p i q).v] w fun e w' => (∃ n : Int, e = .returned (.int .i64 n) ∧ (n = 0 ∧ (Cfg.mk a b s r p i q).ok ∨ n = 1 ∧ ¬ (Cfg.mk a b s r p i q).ok)) ∧ w.Plus w' := by
  unfold Cfg.v
  go_enter Try.func13, Try.ntmps13
  go_wp2
  refine wp_loop_rounds 8 ?_
  iterate 8 (all_goals (try (rw [rounds_succ]; go_wp2)))
  all_goals go_ret
  all_goals first
    | (refine ⟨⟨1, rfl, .inr ⟨rfl, ?_⟩⟩, by (repeat (first | exact Plus.refl _ | apply Plus.plus | apply Plus.alloc | apply Plus.drew))⟩; simp only [Cfg.ok]; omega)
    | (refine ⟨⟨0, rfl, .inl ⟨rfl, ?_⟩⟩, by (repeat (first | exact Plus.refl _ | apply Plus.plus | apply Plus.alloc | apply Plus.drew))⟩; simp only [Cfg.ok]; omega)
end Go.Proofs.Yteaikedgbgdcnaa
