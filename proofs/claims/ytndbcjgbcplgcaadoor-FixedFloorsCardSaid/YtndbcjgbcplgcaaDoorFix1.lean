/- fixed: Clamp, Add, Mul, Div, and the reference's: walks. -/
import Derived.Test.YtndbcjgbcplgcaaDoorFixP
import Derived.Test.YtndbcjgbcplgcaaDoorFixR
import Derived.Test.YtndbcjgbcplgcaaDoorFixQ
import Derived.Laws.IdiomStrings
import Derived.Deep.RegionHeld3
import Derived.Deep.RegionLaw
import Derived.Deep.DeepCutAuto
set_option linter.unusedSimpArgs false
set_option linter.unusedVariables false
namespace Go.Proofs.YtndbcjgbcplgcaaDoor
open Go.RowKit
section
variable (w : World)
theorem clamp_any (n : Int) : Calls Tryd.prog 13 #[.int .i64 n] w fun e w' => e = .returned (.int .i64 (fcl n)) ∧ w.Plus w' := by
  go_enter Tryd.func13, Tryd.ntmps13
  go_wp2
  go_ret
  exact ⟨rfl, by (repeat (first | exact Plus.refl _ | apply Plus.plus | apply Plus.alloc | apply Plus.drew))⟩
theorem ref_clamp (n : Int) : Calls Tryd.prog 14 #[.int .i64 n] w fun e w' => e = .returned (.int .i64 (fcl n)) ∧ w.Plus w' := by
  by_cases h1 : 1073741824 < n
  · have h : fcl n = 1073741824 := by unfold fcl; omega
    rw [h]
    clear h
    go_enter Tryd.func14, Tryd.ntmps14
    go_wp2
    go_ret
    exact ⟨rfl, by (repeat (first | exact Plus.refl _ | apply Plus.plus | apply Plus.alloc | apply Plus.drew))⟩
  by_cases h2 : n < -1073741824
  · have h : fcl n = -1073741824 := by unfold fcl; omega
    rw [h]
    clear h
    go_enter Tryd.func14, Tryd.ntmps14
    go_wp2
    go_ret
    exact ⟨rfl, by (repeat (first | exact Plus.refl _ | apply Plus.plus | apply Plus.alloc | apply Plus.drew))⟩
  · have h : fcl n = n := by unfold fcl; omega
    rw [h]
    clear h
    go_enter Tryd.func14, Tryd.ntmps14
    go_wp2
    go_ret
    exact ⟨rfl, by (repeat (first | exact Plus.refl _ | apply Plus.plus | apply Plus.alloc | apply Plus.drew))⟩
theorem mul_any (a b : Int) : Calls Tryd.prog 18 #[.int .i64 a, .int .i64 b] w fun e w' => e = .returned (.int .i64 (fmul a b)) ∧ w.Plus w' := by
  have hb := fcl_mul_in a b
  have h1 : wrap64 (fcl a * fcl b) = fcl a * fcl b := w64_id (by omega) (by omega)
  have h2 : IntKind.i64.wrap (fcl a * fcl b) = fcl a * fcl b := wrap_id (by omega) (by omega)
  go_enter Tryd.func18, Tryd.ntmps18
  go_wp2_with (first | (go_at_call 13; (with_reducible refine (clamp_any _ _).mono ?_); rintro e w' ⟨rfl, ey, rfl⟩) | (go_at_call 14; (with_reducible refine (ref_clamp _ _).mono ?_); rintro e w' ⟨rfl, ey, rfl⟩))
  go_ret
  exact ⟨rfl, by (repeat (first | exact Plus.refl _ | apply Plus.plus | apply Plus.alloc | apply Plus.drew))⟩
theorem ref_mul_any (a b : Int) : Calls Tryd.prog 19 #[.int .i64 a, .int .i64 b] w fun e w' => e = .returned (.int .i64 (fmul a b)) ∧ w.Plus w' := by
  have hb := fcl_mul_in a b
  have hE : fmul a b = fcl ((fcl a * fcl b - (if (fcl a * fcl b).tmod 256 < 0 then (fcl a * fcl b).tmod 256 + 256 else (fcl a * fcl b).tmod 256)).tdiv 256) := by rw [ref_mul]; rfl
  have h1 : wrap64 (fcl a * fcl b) = fcl a * fcl b := w64_id (by omega) (by omega)
  have h2 : IntKind.i64.wrap (fcl a * fcl b) = fcl a * fcl b := wrap_id (by omega) (by omega)
  obtain ⟨m1, m2, m3⟩ := tmod_facts (fcl a * fcl b) 256 (by decide)
  have m4 : -256 < (fcl a * fcl b).tmod 256 ∧ (fcl a * fcl b).tmod 256 < 256 := by omega
  clear m1 m2 m3
  obtain ⟨r, hr⟩ : ∃ r, (fcl a * fcl b).tmod 256 = r := ⟨_, rfl⟩
  rw [hr] at hE m4
  by_cases hr0 : r < 0
  · rw [if_pos hr0] at hE
    rw [hE]
    clear hE
    go_enter Tryd.func19, Tryd.ntmps19
    go_wp2_with (first | (go_at_call 13; (with_reducible refine (clamp_any _ _).mono ?_); rintro e w' ⟨rfl, ey, rfl⟩) | (go_at_call 14; (with_reducible refine (ref_clamp _ _).mono ?_); rintro e w' ⟨rfl, ey, rfl⟩))
    go_ret
    exact ⟨rfl, by (repeat (first | exact Plus.refl _ | apply Plus.plus | apply Plus.alloc | apply Plus.drew))⟩
  · rw [if_neg hr0] at hE
    rw [hE]
    clear hE
    go_enter Tryd.func19, Tryd.ntmps19
    go_wp2_with (first | (go_at_call 13; (with_reducible refine (clamp_any _ _).mono ?_); rintro e w' ⟨rfl, ey, rfl⟩) | (go_at_call 14; (with_reducible refine (ref_clamp _ _).mono ?_); rintro e w' ⟨rfl, ey, rfl⟩))
    go_ret
    exact ⟨rfl, by (repeat (first | exact Plus.refl _ | apply Plus.plus | apply Plus.alloc | apply Plus.drew))⟩
end
end Go.Proofs.YtndbcjgbcplgcaaDoor
