/- octet: awake: walk. -/
import Derived.Test.YtgcmoalilghfbaaReader2
set_option linter.unusedSimpArgs false
set_option linter.unusedVariables false
namespace Go.Proofs.Ytgcmoalilghfbaa
open Go.RowKit
theorem lit_i1 (w : World) (t : TypeId) (n : Nat) (a : Int) [h : SizeN w n] : RowsAt (w.alloc (.cells #[.int .i64 a] t)) (some ⟨n, 0, none⟩) 1 1 (intAt [a]) := by
  intro _
  refine ⟨n, 0, rfl, by rw [World.size_alloc, h.size]; omega, fun i j hi hj => ?_⟩
  obtain rfl : j = 0 := by omega
  obtain rfl : i = 0 := by omega
  rw [World.cell?_alloc_new']; rfl
theorem lit_i3 (w : World) (t : TypeId) (n : Nat) (a b c : Int) [h : SizeN w n] : RowsAt (w.alloc (.cells #[.int .i64 a, .int .i64 b, .int .i64 c] t)) (some ⟨n, 0, none⟩) 1 3 (intAt [a, b, c]) := by
  intro _
  refine ⟨n, 0, rfl, by rw [World.size_alloc, h.size]; omega, fun i j hi hj => ?_⟩
  obtain rfl : j = 0 := by omega
  have : i = 0 ∨ i = 1 ∨ i = 2 := by omega
  rcases this with rfl | rfl | rfl <;> (rw [World.cell?_alloc_new']; rfl)
theorem lit_s1 (w : World) (t : TypeId) (n : Nat) (a : ByteArray) [h : SizeN w n] : RowsAt (w.alloc (.cells #[.string a] t)) (some ⟨n, 0, none⟩) 1 1 (strAt [a]) := by
  intro _
  refine ⟨n, 0, rfl, by rw [World.size_alloc, h.size]; omega, fun i j hi hj => ?_⟩
  obtain rfl : j = 0 := by omega
  obtain rfl : i = 0 := by omega
  rw [World.cell?_alloc_new']; rfl
/-- one number's bytes, asked for in a call of its own -/
theorem int_one (w : World) (t : TypeId) (n : Nat) (a : Int) (c : Nat) [h : SizeN w n] (ha : In64 a) :
    Calls Try.prog 12 #[.slice (some ⟨n, 0, none⟩) 1 c] (w.alloc (.cells #[.int .i64 a] t)) fun e w' => e = .returned (.string (txt (enc a))) ∧ (w.alloc (.cells #[.int .i64 a] t)).Plus w' := by
  have := int_any [a] (some ⟨n, 0, none⟩) c (w.alloc (.cells #[.int .i64 a] t)) (by simp) (by simpa using ha) (lit_i1 w t n a)
  simpa [encs] using this
theorem text_one (w : World) (t : TypeId) (n : Nat) (a : ByteArray) (c : Nat) [h : SizeN w n] (ha : a.size ≤ 200000) :
    Calls Try.prog 14 #[.slice (some ⟨n, 0, none⟩) 1 c] (w.alloc (.cells #[.string a] t)) fun e w' => e = .returned (.string (txt (encT a))) ∧ (w.alloc (.cells #[.string a] t)).Plus w' := by
  have := text_any [a] (some ⟨n, 0, none⟩) c (w.alloc (.cells #[.string a] t)) (by simp) (by simpa using ha) (lit_s1 w t n a)
  simpa [encTs] using this
theorem RdAt.plus' {w w' : World} {N : Nat} {s : ByteArray} {b : Bool} (h : RdAt w N s b) (hp : w.Plus w') : RdAt w' N s b := by
  obtain ⟨e, rfl⟩ := hp
  exact h.plus e
theorem aw1 : rInt ⟨#[1, 0]⟩ false = (0, ⟨#[]⟩, true) := by decide +kernel
theorem aw2 : txt (enc 5) ++ txt (encT ⟨#[97, 98]⟩) = ⟨#[1, 5, 1, 2, 97, 98]⟩ := by decide +kernel
theorem aw3 : rInt ⟨#[1, 5, 1, 2, 97, 98]⟩ false = (5, ⟨#[1, 2, 97, 98]⟩, false) := by decide +kernel
theorem aw4 : rText ⟨#[1, 2, 97, 98]⟩ false = (⟨#[97, 98]⟩, ⟨#[]⟩, false) := by decide +kernel
theorem aw5 : txt (encs [0, -1, 64]) = ⟨#[0, 128, 1, 64]⟩ := by decide +kernel
theorem aw6 : txt (encT ⟨#[97, 98]⟩) = ⟨#[1, 2, 97, 98]⟩ := by decide +kernel
set_option maxHeartbeats 1000000 in
theorem awake_any (w : World) : Calls Try.prog 10 #[] w fun e w' => e = .returned (.bool true) ∧ w.Plus w' := by
  have hO1 := fun w => of_new w ⟨#[1, 0]⟩ (by decide)
  have hO2 := fun w => of_new w (txt (enc 5) ++ txt (encT ⟨#[97, 98]⟩)) (by rw [aw2]; decide)
  rw [aw2] at hO2
  have hR1 := fun w N h => rdInt w N ⟨#[1, 0]⟩ false h (by decide)
  rw [aw1] at hR1
  have hR2 := fun w N h => rdInt w N ⟨#[1, 5, 1, 2, 97, 98]⟩ false h (by decide)
  rw [aw3] at hR2
  have hT := fun w N h => rdText w N ⟨#[1, 2, 97, 98]⟩ false h (by decide)
  rw [aw4] at hT
  have hI := fun w t n c [SizeN w n] => int_one w t n 5 c (by simp [In64])
  have hS := fun w t n c [SizeN w n] => text_one w t n ⟨#[97, 98]⟩ c (by decide)
  have hI3 := fun w t n c [SizeN w n] => int_any [0, -1, 64] (some ⟨n, 0, none⟩) c (w.alloc (.cells #[.int .i64 0, .int .i64 (-1), .int .i64 64] t)) (by simp) (by simp [In64]) (lit_i3 w t n 0 (-1) 64)
  have a2 := aw2
  rw [aw6] at a2 hS
  rw [aw5] at hI3
  replace hO1 := Lib.hid hO1
  replace hO2 := Lib.hid hO2
  replace hR1 := Lib.hid hR1
  replace hR2 := Lib.hid hR2
  replace hT := Lib.hid hT
  simp only [List.length_cons, List.length_nil, Nat.zero_add, Nat.reduceAdd] at hI3
  have d1 : ∀ w N, RdAt w N ⟨#[]⟩ true → Calls Try.prog 19 #[rdV N] w fun e w' => e = .returned (.int .i64 2) ∧ w.Plus w' := fun w N h => rdDone w N ⟨#[]⟩ true h
  have d2 : ∀ w N, RdAt w N ⟨#[]⟩ false → Calls Try.prog 19 #[rdV N] w fun e w' => e = .returned (.int .i64 0) ∧ w.Plus w' := fun w N h => rdDone w N ⟨#[]⟩ false h
  have l2 : ∀ w N, RdAt w N ⟨#[]⟩ false → Calls Try.prog 18 #[rdV N] w fun e w' => e = .returned (.int .i64 0) ∧ w.Plus w' := fun w N h => rdLeft w N ⟨#[]⟩ false h (by decide)
  replace d1 := Lib.hid d1
  replace d2 := Lib.hid d2
  replace l2 := Lib.hid l2
  go_enter Try.func10, Try.ntmps10
  go_upto_region 2 with (first | (go_at_call 15; (with_reducible refine (hO1.out _).mono ?_); rintro e w' ⟨N1, rfl, hN1, hr1, e1, rfl⟩))
  go_cut [2] (fun q wx => ∃ N2, q = rdV N2 ∧ RdAt wx N2 ⟨#[1, 5, 1, 2, 97, 98]⟩ false ∧ RdAt wx N1 ⟨#[1, 0]⟩ false ∧ N1 < N2 ∧ w.Plus wx)
  case first =>
    go_wp2_with (first | (go_at_call 12; (with_reducible refine (hI _ _ _ _).mono ?_); rintro e w' ⟨rfl, e2, rfl⟩) | (go_at_call 14; (with_reducible refine (hS _ _ _ _).mono ?_); rintro e w' ⟨rfl, e3, rfl⟩) | (go_at_call 15; (with_reducible refine (hO2.out _).mono ?_); rintro e w' ⟨N2, rfl, hN2, hr2, e4, rfl⟩))
    go_meet
    refine ⟨_, rfl, hr2, hr1.plus' (by (repeat (first | exact Plus.refl _ | apply Plus.plus | apply Plus.alloc | apply Plus.drew))), ?_, by (repeat (first | exact Plus.refl _ | apply Plus.plus | apply Plus.alloc | apply Plus.drew))⟩
    have := hr1.lt
    simp [go_sem] at hN2 this
    omega
  obtain ⟨N2, rfl, hr2, hr1', hne, hp⟩ := hcut
  have hN : w.heap.size ≤ N1 := by simpa [go_sem] using hN1
  go_wp2_with (first
    | (go_at_call 16; (with_reducible refine (hR1.out _ N1 hr1').mono ?_); rintro e w1 ⟨rfl, hr1b, hu1⟩)
    | (go_at_call 16; (with_reducible refine (hR2.out _ N2 (hu1.rd (by omega) hr2)).mono ?_); rintro e w2 ⟨rfl, hr2b, hu2⟩)
    | (go_at_call 17; (with_reducible refine (hT.out _ N2 hr2b).mono ?_); rintro e w3 ⟨rfl, hr2c, hu3⟩; have hr1c := hu3.rd (show N1 ≠ N2 by omega) (hu2.rd (show N1 ≠ N2 by omega) hr1b); have hp3 := hu3.toPlus (hu2.toPlus (hu1.toPlus hp hN) (by omega)) (by omega))
    | (go_at_call 12; (with_reducible refine (hI3 _ _ _ _).mono ?_); rintro e w' ⟨rfl, e2, rfl⟩) | (go_at_call 14; (with_reducible refine (hS _ _ _ _).mono ?_); rintro e w' ⟨rfl, e3, rfl⟩)
    | (go_at_call 19; (with_reducible refine (d1.out _ N1 (hr1c.plus' (by (repeat (first | exact Plus.refl _ | apply Plus.plus | apply Plus.alloc | apply Plus.drew))))).mono ?_); rintro e w' ⟨rfl, e4, rfl⟩)
    | (go_at_call 18; (with_reducible refine (l2.out _ N2 (hr2c.plus' (by (repeat (first | exact Plus.refl _ | apply Plus.plus | apply Plus.alloc | apply Plus.drew))))).mono ?_); rintro e w' ⟨rfl, e5, rfl⟩)
    | (go_at_call 19; (with_reducible refine (d2.out _ N2 (hr2c.plus' (by (repeat (first | exact Plus.refl _ | apply Plus.plus | apply Plus.alloc | apply Plus.drew))))).mono ?_); rintro e w' ⟨rfl, e6, rfl⟩))
  go_ret
  exact ⟨rfl, Plus.trans hp3 (by (repeat (first | exact Plus.refl _ | apply Plus.plus | apply Plus.alloc | apply Plus.drew)))⟩
end Go.Proofs.Ytgcmoalilghfbaa
