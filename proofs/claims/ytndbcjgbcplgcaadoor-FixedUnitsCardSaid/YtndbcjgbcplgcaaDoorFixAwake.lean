/- fixed: awake: walk. -/
import Derived.Test.YtndbcjgbcplgcaaDoorFix2
import Derived.Test.YtndbcjgbcplgcaaDoorFix7
set_option linter.unusedSimpArgs false
set_option linter.unusedVariables false
namespace Go.Proofs.YtndbcjgbcplgcaaDoor
open Go.RowKit
theorem readP_ok : readP [45, 50, 46, 53] = (-640, 0) := by
  have h := read_show (-640) (by decide) (by decide)
  have e : showL (-640) = [45, 50, 46, 53] := by decide +kernel
  rwa [e] at h
theorem readP_bad : readP [50, 46, 53, 48] = (0, 2) := by decide +kernel
theorem show_one : txt (showL 1) = ⟨#[48, 46, 48, 48, 51, 57, 48, 54, 50, 53]⟩ := by decide +kernel
theorem awake_any (w : World) : Calls Tryd.prog 15 #[] w fun e w' => e = .returned (.bool true) ∧ w.Plus w' := by
  have d1 := Lib.hid (fun w => by have := div_any w (-1) 512; rw [show fdivV (-1) 512 = (-1, 0) by decide] at this; exact this)
  have d2 := Lib.hid (fun w => by have := div_any w 1 0; rw [show fdivV 1 0 = (0, 11) by decide] at this; exact this)
  have r1 := Lib.hid (fun w => by have := read_any ⟨#[45, 50, 46, 53]⟩ w (by decide); rw [show bytes ⟨#[45, 50, 46, 53]⟩ = [45, 50, 46, 53] from rfl, readP_ok] at this; exact this)
  have r2 := Lib.hid (fun w => by have := read_any ⟨#[50, 46, 53, 48]⟩ w (by decide); rw [show bytes ⟨#[50, 46, 53, 48]⟩ = [50, 46, 53, 48] from rfl, readP_bad] at this; exact this)
  have m1 := Lib.hid (fun w => by have := mul_any w 384 (-384); rw [show fmul 384 (-384) = -576 by decide] at this; exact this)
  have s1 := Lib.hid (fun w => by have := show_any w 1; rw [show_one] at this; exact this)
  have a1 : ∀ (w : World) (b : Nat), b < w.heap.size → w.cell? ⟨b, 0, none⟩ = some (.int .i64 1073741824) → w.cell? ⟨b, 1, none⟩ = some (.int .i64 1) → w.cell? ⟨b, 2, none⟩ = some (.int .i64 (-1)) →
      Calls Tryd.prog 16 #[.slice (some ⟨b, 0, none⟩) 3 3] w fun e w' => e = .returned (.int .i64 1073741823) ∧ w.Plus w' := fun w b h0 h1 h2 h3 => by
    have := add_any w (some ⟨b, 0, none⟩) 3 [1073741824, 1, -1] (by decide) (fun _ => ⟨b, 0, rfl, h0, fun i j hi hj => by
      have hj0 : j = 0 := by omega
      subst hj0
      have hi3 : i = 0 ∨ i = 1 ∨ i = 2 := by simp at hi; omega
      rcases hi3 with rfl | rfl | rfl
      · exact h1
      · exact h2
      · exact h3⟩)
    rw [show fadd [1073741824, 1, -1] = 1073741823 by decide] at this
    exact this
  replace a1 := Lib.hid a1
  go_enter Tryd.func15, Tryd.ntmps15
  go_wp2_with (first | (go_at_call 20; (with_reducible refine (d1.out _).mono ?_); rintro e w' ⟨rfl, e1, rfl⟩) | (go_at_call 20; (with_reducible refine (d2.out _).mono ?_); rintro e w' ⟨rfl, e2, rfl⟩) | (go_at_call 24; (with_reducible refine (r1.out _).mono ?_); rintro e w' ⟨rfl, e3, rfl⟩) | (go_at_call 24; (with_reducible refine (r2.out _).mono ?_); rintro e w' ⟨rfl, e4, rfl⟩) | (go_at_call 16; (with_reducible refine (a1.out _ _ (by simp [go_sem]) (by simp [go_sem]) (by simp [go_sem]) (by simp [go_sem])).mono ?_); rintro e w' ⟨rfl, e5, rfl⟩) | (go_at_call 18; (with_reducible refine (m1.out _).mono ?_); rintro e w' ⟨rfl, e6, rfl⟩) | (go_at_call 22; (with_reducible refine (s1.out _).mono ?_); rintro e w' ⟨rfl, e7, rfl⟩))
  go_ret
  exact ⟨rfl, by (repeat (first | exact Plus.refl _ | apply Plus.plus | apply Plus.alloc | apply Plus.drew))⟩
end Go.Proofs.YtndbcjgbcplgcaaDoor
