/- codec: PutID, the reference's ID and rest: walks. -/
import Derived.Test.YtjfjecjigakdnaaCod1
set_option linter.unusedSimpArgs false
set_option linter.unusedVariables false
namespace Go.Proofs.Ytjfjecjigakdnaa
open Go.RowKit
theorem int_at1 (w : World) (b c : Nat) (x : Int) [hb : InW b w] (h0 : w.cell? ⟨b, 0, none⟩ = some (nI x)) (hx : Octs.In64 x) :
    Calls Try.prog 45 #[.slice (some ⟨b, 0, none⟩) 1 c] w fun e w' => e = .returned (.string (Octs.txt (Octs.enc x))) ∧ w.Plus w' := by
  have := Octs.int_any [x] (some ⟨b, 0, none⟩) c w (by simp) (by simpa using hx) (fun _ => ⟨b, 0, rfl, hb.lt, fun i j hi hj => by
    obtain rfl : j = 0 := by omega
    obtain rfl : i = 0 := by simp at hi; omega
    exact h0⟩)
  simpa [Octs.encs] using this
theorem int_at3 (w : World) (b c : Nat) (x y z : Int) [hb : InW b w] (h0 : w.cell? ⟨b, 0, none⟩ = some (nI x)) (h1 : w.cell? ⟨b, 1, none⟩ = some (nI y)) (h2 : w.cell? ⟨b, 2, none⟩ = some (nI z)) (hx : Octs.In64 x) (hy : Octs.In64 y) (hz : Octs.In64 z) :
    Calls Try.prog 45 #[.slice (some ⟨b, 0, none⟩) 3 c] w fun e w' => e = .returned (.string (Octs.txt (Octs.encs [x, y, z]))) ∧ w.Plus w' := by
  have := Octs.int_any [x, y, z] (some ⟨b, 0, none⟩) c w (by simp) (by simp; exact ⟨hx, hy, hz⟩) (fun _ => ⟨b, 0, rfl, hb.lt, fun i j hi hj => by
    obtain rfl : j = 0 := by omega
    have : i = 0 ∨ i = 1 ∨ i = 2 := by simp at hi; omega
    rcases this with rfl | rfl | rfl
    · exact h0
    · exact h1
    · exact h2⟩)
  exact this
set_option maxRecDepth 100000
set_option maxHeartbeats 400000
theorem putID_any (a : IdR) (ha : IdI a) (w : World) : Calls Try.prog 11 #[a.v] w fun e w' => e = .returned (.string (Octs.txt (encI a))) ∧ w.Plus w' := by
  have kC := fun w' => checkID_any a w'
  unfold encI idInts
  obtain ⟨h1, h2, h3⟩ := ha
  have kI := Lib.hid (fun w b c [InW b w] h0 h1' h2' => int_at3 w b c a.s a.i a.g h0 h1' h2' h1 h2 h3)
  clear h1 h2 h3
  cases hb : idB a with
  | false =>
    rw [hb] at kC
    simp only [Bool.false_eq_true, if_false] at kC ⊢
    replace kC := Lib.hid kC
    clear hb
    go_enter Try.func11, Try.ntmps11
    go_wp2_with (go_at_call 44; (with_reducible refine (kC.out _).mono ?_); rintro e w' ⟨rfl, e1, rfl⟩)
    go_ret
    exact ⟨rfl, by (repeat (first | exact Plus.refl _ | apply Plus.plus | apply Plus.alloc | apply Plus.drew))⟩
  | true =>
    rw [hb] at kC
    simp only [if_true] at kC ⊢
    generalize Octs.txt (Octs.encs [a.s, a.i, a.g]) = X at *
    replace kC := Lib.hid kC
    clear hb
    go_enter Try.func11, Try.ntmps11
    go_wp2_with (first
      | (go_at_call 44; (with_reducible refine (kC.out _).mono ?_); rintro e w' ⟨rfl, e1, rfl⟩)
      | (go_at_call 45; (with_reducible refine (kI.out _ _ _ (by simp [go_sem]) (by simp [go_sem]) (by simp [go_sem])).mono ?_); rintro e w' ⟨rfl, e2, rfl⟩))
    go_ret
    exact ⟨rfl, by (repeat (first | exact Plus.refl _ | apply Plus.plus | apply Plus.alloc | apply Plus.drew))⟩
/-- a number's bytes, small -/
theorem refInt_G : ∃ G : Int → ByteArray, (∀ n, G n = Octs.txt (Octs.enc n)) ∧ (∀ n, (G n).size ≤ 9) ∧ ∀ n, Octs.In64 n → ∀ w : World, Calls Try.prog 47 #[nI n] w fun e w' => e = .returned (.string (G n)) ∧ w.Plus w' :=
  ⟨fun n => Octs.txt (Octs.enc n), fun _ => rfl, fun n => by
    have := Octs.enc_le n
    rw [← Octs.txt_size] at this
    exact this, fun n hn w => Octs.refInt_any n w hn⟩
theorem refID_any (a : IdR) (ha : IdI a) (w : World) : Calls Try.prog 12 #[a.v] w fun e w' => e = .returned (.string (Octs.txt (encI a))) ∧ w.Plus w' := by
  have kC := fun w' => rightID_any a w'
  unfold encI idInts
  obtain ⟨h1, h2, h3⟩ := ha
  obtain ⟨G, hG, hZ, kG⟩ := refInt_G
  replace kG := Lib.hid kG
  cases hb : idB a with
  | false =>
    rw [hb] at kC
    simp only [Bool.false_eq_true, if_false] at kC ⊢
    replace kC := Lib.hid kC
    clear hb hZ hG
    go_enter Try.func12, Try.ntmps12
    go_wp2_with (go_at_call 46; (with_reducible refine (kC.out _).mono ?_); rintro e w' ⟨rfl, e1, rfl⟩)
    go_ret
    exact ⟨rfl, by (repeat (first | exact Plus.refl _ | apply Plus.plus | apply Plus.alloc | apply Plus.drew))⟩
  | true =>
    rw [hb] at kC
    simp only [if_true] at kC ⊢
    have hE : Octs.txt (Octs.encs [a.s, a.i, a.g]) = G a.s ++ G a.i ++ G a.g := by
      rw [hG, hG, hG]
      simp [Octs.txt_append, Octs.encs]
    rw [hE]
    have z1 := hZ a.s
    have z2 := hZ a.i
    have z3 := hZ a.g
    obtain ⟨is, ii, ig⟩ := a
    dsimp only at *
    have hs : (G is ++ G ii).size = (G is).size + (G ii).size := ByteArray.size_append
    have q1 : ¬ 9223372036854775807 < (G is).size + (G ii).size := by omega
    have q2 : ¬ 9223372036854775807 < (G is ++ G ii).size + (G ig).size := by omega
    have q3 : ¬ 9223372036854775807 < (G is).size + (G ii).size + (G ig).size := by omega
    replace kC := Lib.hid kC
    replace hs := Lib.hid hs
    clear hb hE hZ hG z1 z2 z3
    go_enter Try.func12, Try.ntmps12
    go_upto_region 3 with (go_at_call 46; (with_reducible refine (kC.out _).mono ?_); rintro e w' ⟨rfl, e1, rfl⟩)
    refine wp_region_grow (by kernel_rfl) (by kernel_rfl) ?_
    repeat (go_big_quiet_step ((go_at_call 47; exact Calls.plus_of (kG.out _ (by assumption) _))))
    refine wpQuiet_nil ?_
    intro ex
    go_wp2_with fail
    go_ret
    exact ⟨rfl, by (repeat (first | exact Plus.refl _ | apply Plus.plus | apply Plus.alloc | apply Plus.drew))⟩
end Go.Proofs.Ytjfjecjigakdnaa
