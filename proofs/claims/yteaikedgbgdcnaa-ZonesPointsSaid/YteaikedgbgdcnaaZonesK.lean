/- zones: awake: walk. -/
import Derived.Test.YteaikedgbgdcnaaZonesJ
set_option linter.unusedSimpArgs false
set_option linter.unusedVariables false
namespace Go.Proofs.Yteaikedgbgdcnaa
open Go.RowKit
theorem lit3 (w : World) (t : TypeId) (n : Nat) [h : SizeN w n] : RowsAt (w.alloc (.cells #[.int .i64 1, .int .i64 2, .int .i64 3] t)) (some ⟨n, 0, none⟩) 1 3 (intAt [1, 2, 3]) := by
  intro _
  refine ⟨n, 0, rfl, by rw [World.size_alloc, h.size]; omega, fun i j hi hj => ?_⟩
  obtain rfl : j = 0 := by omega
  have : i = 0 ∨ i = 1 ∨ i = 2 := by omega
  rcases this with rfl | rfl | rfl <;> (rw [World.cell?_alloc_new']; rfl)
theorem ok22 : (Cfg.mk 2 2 256 10 0 1 1).ok := by simp only [Cfg.ok]; omega
theorem near_one : pick (nearI 2 2 256 10 250 250) (2 * 2 : Int).toNat = [1, 2, 3] := by decide +kernel
theorem near_two : pick (nearI 2 2 256 10 0 0) (2 * 2 : Int).toNat = [] := by decide +kernel
theorem beside_one : pick (besI 2 2 0) (2 * 2 : Int).toNat = [1, 2, 3] := by decide +kernel
theorem of_one : ofI 2 2 256 256 0 = 1 := by decide +kernel
theorem of_two : ofI 2 2 256 0 256 = 2 := by decide +kernel
theorem of_three : ofI 2 2 256 512 0 = -1 := by decide +kernel
theorem in_one : inI (-5) (2 * 256) = 0 := by decide +kernel
theorem in_two : inI 600 (2 * 256) = 511 := by decide +kernel
set_option maxHeartbeats 1000000 in
theorem awake_any (w : World) : Calls Try.prog 14 #[] w fun e w' => e = .returned (.bool true) ∧ w.Plus w' := by
  have ho := ok22.okk
  have hNew := fun w => new_ok 2 2 256 10 0 1 1 w ok22
  unfold Cfg.v at hNew
  simp only at hNew
  have hIn := fun k w hm => in_any 2 2 256 10 k w (-5) 600 ho hm
  rw [in_one, in_two] at hIn
  have hO := fun k x y w hm => of_any 2 2 256 10 k w x y ho hm
  have hN1 := fun k w hm => near_map 2 2 256 10 k w 250 250 ho hm
  rw [near_one] at hN1
  have hN2 := fun k w hm => near_map 2 2 256 10 k w 0 0 ho hm
  rw [near_two] at hN2
  have hB := fun k w hm => beside_any 2 2 256 10 k w 0 ho hm (by omega)
  rw [beside_one] at hB
  have hS : ∀ w A B c d, RowsAt w A 1 3 (intAt [1, 2, 3]) → RowsAt w B 1 3 (intAt [1, 2, 3]) → Calls Try.prog 20 #[.slice A 3 c, .slice B 3 d] w fun e w' => e = .returned (.bool true) ∧ w.Plus w' :=
    fun w A B c d ha hb => same_any w [1, 2, 3] [1, 2, 3] A B c d (by simp) (by simp) ha hb rfl
  unfold Left at hN1 hN2 hB
  simp only [List.length_cons, List.length_nil, Nat.zero_add, Nat.reduceAdd] at hN1 hN2 hB
  have o1 := of_one
  have o2 := of_two
  have o3 := of_three
  replace hNew := Lib.hid hNew
  replace hIn := Lib.hid hIn
  replace hO := Lib.hid hO
  replace hN1 := Lib.hid hN1
  replace hN2 := Lib.hid hN2
  replace hB := Lib.hid hB
  replace hS := Lib.hid hS
  clear ho
  go_enter Try.func14, Try.ntmps14
  go_wp2_with (first
    | (go_at_call 11; (with_reducible refine (hNew.out _).mono ?_); rintro e w' ⟨k, rfl, hm, e0, rfl⟩)
    | (go_at_call 16; (with_reducible refine (hIn.out _ _ (hm.plus (by (repeat (first | exact Plus.refl _ | apply Plus.plus | apply Plus.alloc | apply Plus.drew))))).mono ?_); rintro e w' ⟨rfl, e1, rfl⟩)
    | (go_at_call 18; (with_reducible refine (hO.out _ _ _ _ (hm.plus (by (repeat (first | exact Plus.refl _ | apply Plus.plus | apply Plus.alloc | apply Plus.drew))))).mono ?_); rintro e w' ⟨rfl, e2, rfl⟩)
    | (go_at_call 21; (with_reducible refine (hN1.out _ _ (hm.plus (by (repeat (first | exact Plus.refl _ | apply Plus.plus | apply Plus.alloc | apply Plus.drew))))).mono ?_); rintro e w' ⟨A, c, rfl, hr, e3, rfl⟩)
    | (go_at_call 21; (with_reducible refine (hN2.out _ _ (hm.plus (by (repeat (first | exact Plus.refl _ | apply Plus.plus | apply Plus.alloc | apply Plus.drew))))).mono ?_); rintro e w' ⟨A2, c2, rfl, hr2, e4, rfl⟩)
    | (go_at_call 23; (with_reducible refine (hB.out _ _ (hm.plus (by (repeat (first | exact Plus.refl _ | apply Plus.plus | apply Plus.alloc | apply Plus.drew))))).mono ?_); rintro e w' ⟨A, c, rfl, hr, e5, rfl⟩)
    | (go_at_call 20; (with_reducible refine (hS.out _ _ _ _ _ (hr.plus (by (repeat (first | exact Plus.refl _ | apply Plus.plus | apply Plus.alloc | apply Plus.drew)))) (lit3 _ _ _)).mono ?_); rintro e w' ⟨rfl, e6, rfl⟩))
  go_ret
  exact ⟨rfl, by (repeat (first | exact Plus.refl _ | apply Plus.plus | apply Plus.alloc | apply Plus.drew))⟩
end Go.Proofs.Yteaikedgbgdcnaa
