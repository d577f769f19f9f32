/- zones: May. -/
import Derived.Test.YteaikedgbgdcnaaZonesC
set_option linter.unusedSimpArgs false
set_option linter.unusedVariables false
namespace Go.Proofs.Yteaikedgbgdcnaa
open Go.RowKit
def May (c : Cfg) : Cfg := ⟨1 + c.cols % 4, 1 + c.rows % 4, 256 + c.side % 5000, c.radius % (256 + c.side % 5000 + 1), c.speed % (256 + c.side % 5000 + 1), 1 + c.ids % 16, 1 + c.queue % 64⟩
theorem May_ok (c : Cfg) : (May c).ok := by
  have h1 := Int.emod_nonneg c.radius (show 256 + c.side % 5000 + 1 ≠ 0 by omega)
  have h2 := Int.emod_lt_of_pos c.radius (show 0 < 256 + c.side % 5000 + 1 by omega)
  have h3 := Int.emod_nonneg c.speed (show 256 + c.side % 5000 + 1 ≠ 0 by omega)
  have h4 := Int.emod_lt_of_pos c.speed (show 0 < 256 + c.side % 5000 + 1 by omega)
  simp only [Cfg.ok, May]
  omega
set_option maxHeartbeats 2000000 in
theorem may_any (a b s r p i q : Int) (w : World) :
    Calls Try.prog 15 #[(Cfg.mk a b s r p i q).v] w fun e w' => e = .returned (May (Cfg.mk a b s r p i q)).v ∧ w.Plus w' := by
  unfold Cfg.v May
  simp only
  have g0 : IntKind.i64.wrap (1 + a % 4) = 1 + a % 4 := iw_id (by omega) (by omega)
  have g1 : IntKind.i64.wrap (1 + b % 4) = 1 + b % 4 := iw_id (by omega) (by omega)
  have g2 : IntKind.i64.wrap (256 + s % 5000) = 256 + s % 5000 := iw_id (by omega) (by omega)
  have g3 : IntKind.i64.wrap (1 + i % 16) = 1 + i % 16 := iw_id (by omega) (by omega)
  have g4 : IntKind.i64.wrap (1 + q % 64) = 1 + q % 64 := iw_id (by omega) (by omega)
  go_enter Try.func15, Try.ntmps15
  go_upto_region 1 with fail
  obtain ⟨L, hL⟩ : ∃ L, L = (w.alloc (.cells #[.int .i64 a, .int .i64 b, .int .i64 s, .int .i64 r, .int .i64 p, .int .i64 i, .int .i64 q] 23)).alloc (.cells #[.int .i64 0, .int .i64 0, .int .i64 0, .int .i64 0, .int .i64 0, .int .i64 0, .int .i64 0] 23) := ⟨_, rfl⟩
  have HL := Lib.hid hL
  clear hL
  go_cut [3] (fun s5 wx => ∃ n, s5 = .pointer (some ⟨n, 0, none⟩) ∧ NewIn L 23 #[.int .i64 (1 + a % 4), .int .i64 (1 + b % 4), .int .i64 (256 + s % 5000), .int .i64 0, .int .i64 0, .int .i64 (1 + i % 16), .int .i64 (1 + q % 64)] n wx)
  case first =>
    go_region_held3 (fun w' => w'.cell? ⟨w.heap.size, 0, none⟩ = some (.int .i64 a) ∧ w'.cell? ⟨w.heap.size, 1, none⟩ = some (.int .i64 b) ∧ w'.cell? ⟨w.heap.size, 2, none⟩ = some (.int .i64 s) ∧ w'.cell? ⟨w.heap.size, 5, none⟩ = some (.int .i64 i) ∧ w'.cell? ⟨w.heap.size, 6, none⟩ = some (.int .i64 q)) (simp [go_sem])
      (first | (go_at_call 25; (with_reducible refine (mod_any _ _ _ (by omega) (by omega)).mono ?_); rintro e w' ⟨rfl, ey, rfl⟩))
    all_goals (go_wp2_with fail; go_meet)
    all_goals
      refine ⟨_, rfl, ?_⟩
      rw [HL.out]
      repeat (first | apply NewIn.plus | apply NewIn.drew)
      exact NewIn.mk (by (repeat (first | exact Plus.refl _ | apply Plus.plus | apply Plus.alloc | apply Plus.drew))) _ _ (by simp [go_sem])
  have hL := HL.out
  subst hL
  clear HL
  obtain ⟨n, rfl, e1, e2, hn, rfl⟩ := hcut
  simp only [World.size_plus, World.size_alloc] at hn
  subst hn
  go_wp2_with (first | (go_at_call 25; (with_reducible refine (mod_any _ _ _ (by omega) (by omega)).mono ?_); rintro e w' ⟨rfl, ey, rfl⟩))
  exact bodyPost_ret (v := .agg #[.int .i64 (1 + a % 4), .int .i64 (1 + b % 4), .int .i64 (256 + s % 5000), .int .i64 (r % (256 + s % 5000 + 1)), .int .i64 (p % (256 + s % 5000 + 1)), .int .i64 (1 + i % 16), .int .i64 (1 + q % 64)]) (by simp [results, Try.results15, go_sem]) rfl ⟨rfl, by (repeat (first | exact Plus.refl _ | apply Plus.plus | apply Plus.alloc | apply Plus.drew))⟩
end Go.Proofs.Yteaikedgbgdcnaa
