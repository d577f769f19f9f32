/- codec: Encode, the reference's: walks. -/
import Derived.Test.YtpdlgflbcgemnaaGreatDoorCodMc
import Derived.Test.YtpdlgflbcgemnaaGreatDoorGC
set_option linter.unusedSimpArgs false
set_option linter.unusedVariables false
namespace Go.Proofs.YtpdlgflbcgemnaaGreatDoor
open Go.RowKit Octs
set_option maxHeartbeats 1000000
set_option maxRecDepth 100000
theorem idI_ok {a : IdR} (h : idB a = true) : IdI a := idB_in h
theorem bdI_ok {b : BdR} (h : rightB b = true) (hi : IdI b.id) : BdI b := by
  obtain ⟨hm, hf⟩ := rightB_in h
  exact ⟨hi, by unfold Octs.In64; omega, hf 4, hf 5, hf 6, hf 7, hf 8, hf 9, hf 10⟩
theorem bdI_okB {b : BdR} (h : okB b = true) : BdI b := by
  unfold okB at h
  simp only [Bool.and_eq_true] at h
  exact bdI_ok h.1.1 (idB_in h.2)
theorem in0 : Octs.In64 0 := in64 (by decide)
theorem idI_zero : IdI idZ := ⟨in0, in0, in0⟩
theorem bdI_zero : BdI bdZ := ⟨idI_zero, in0, in0, in0, in0, in0, in0, in0, in0⟩
theorem takesB_in {m : Int} (h : takesB m = true) : Octs.In64 m := by
  unfold takesB at h
  simp at h
  unfold Octs.In64
  omega
theorem cmI_ok {c : CmdR} (h : okC c = true) : CmI c := by
  obtain ⟨k, i, b, m⟩ := c
  unfold okC at h
  simp only at h
  split at h
  · rename_i hk
    simp only [Bool.and_eq_true, decide_eq_true_eq] at h
    obtain ⟨⟨rfl, rfl⟩, h3⟩ := h
    exact ⟨in64 (by simp only [hk]; decide), idI_zero, bdI_okB h3, in0⟩
  split at h
  · rename_i hk hk2
    simp only [Bool.and_eq_true, decide_eq_true_eq] at h
    obtain ⟨⟨h1, rfl⟩, rfl⟩ := h
    exact ⟨in64 (by simp only [hk2]; decide), idB_in h1, bdI_zero, in0⟩
  split at h
  · rename_i hk hk2 hk3
    simp only [Bool.and_eq_true, decide_eq_true_eq] at h
    obtain ⟨⟨⟨⟨h1, rfl⟩, h3⟩, h4⟩, h5⟩ := h
    exact ⟨in64 (by simp only [hk3]; decide), idB_in h1, bdI_ok h5 (by rw [h3]; exact idI_zero), in0⟩
  split at h
  · rename_i hk hk2 hk3 hk4
    simp only [Bool.and_eq_true, decide_eq_true_eq] at h
    obtain ⟨⟨h1, rfl⟩, h3⟩ := h
    exact ⟨in64 (by simp only [hk4]; decide), idB_in h1, bdI_zero, takesB_in h3⟩
  · cases h
section
variable (k t n : Int) (Lc Lb Li : Nat) (Ac Ab Ai : Option Addr) (cc cb ci : Nat) (W : World) (Ek Et EL : ByteArray)
theorem encCore_1 (hk : Ek.size ≤ 9) (ht : Et.size ≤ 9) (hl : EL.size ≤ 200000) (kK : ∀ w, W.Plus w → Calls Tryz.prog 26 #[msgV k t n (.slice Ac Lc cc) (.slice Ab Lb cb) (.slice Ai Li ci)] w fun e w' => e = .returned (nI 0) ∧ w.Plus w')
    (kO : ∀ w, Calls Tryz.prog 27 #[nI k] w fun e w' => e = .returned (.tuple #[fldV true false true false false, .bool true]) ∧ w.Plus w')
    (kI : ∀ w b c [InW b w], w.cell? ⟨b, 0, none⟩ = some (nI k) → Calls Tryz.prog 28 #[.slice (some ⟨b, 0, none⟩) 1 c] w fun e w' => e = .returned (.string Ek) ∧ w.Plus w')
    (kT : ∀ w b c [InW b w], w.cell? ⟨b, 0, none⟩ = some (nI t) → Calls Tryz.prog 28 #[.slice (some ⟨b, 0, none⟩) 1 c] w fun e w' => e = .returned (.string Et) ∧ w.Plus w')
    (kL : ∀ w, W.Plus w → Calls Tryz.prog 29 #[.func (.func 30) #[] #[], .slice Ac Lc cc] w fun e w' => e = .returned (.string EL) ∧ w.Plus w') :
    Calls Tryz.prog 9 #[msgV k t n (.slice Ac Lc cc) (.slice Ab Lb cb) (.slice Ai Li ci)] W fun e w' => e = .returned (.tuple #[.string (Ek ++ Et ++ EL), nI 0]) ∧ W.Plus w' := by
  have hs1 : ¬ 9223372036854775807 < Ek.size + Et.size := by omega
  have hs2 : ¬ 9223372036854775807 < (Ek ++ Et).size + EL.size := by rw [ByteArray.size_append]; omega
  have hs3 : ¬ 9223372036854775807 < Ek.size + Et.size + EL.size := by omega
  replace kK := Lib.hid kK
  replace kO := Lib.hid kO
  replace kI := Lib.hid kI
  replace kT := Lib.hid kT
  replace kL := Lib.hid kL
  clear hk ht hl
  go_enter Tryz.func9, Tryz.ntmps9
  go_wp2_with (first
    | (go_at_call 26; (with_reducible refine (kK.out _ (by (repeat (first | exact Plus.refl _ | apply Plus.plus | apply Plus.alloc | apply Plus.drew)))).mono ?_); rintro e w' ⟨rfl, e1, rfl⟩)
    | (go_at_call 27; (with_reducible refine (kO.out _).mono ?_); rintro e w' ⟨rfl, e2, rfl⟩)
    | (go_at_call 28; refine (kI.out _ _ _ ?_).mono ?_; (focus (simp [go_sem]; done)); rintro e w' ⟨rfl, e3, rfl⟩; clear kI)
    | (go_at_call 28; refine (kT.out _ _ _ ?_).mono ?_; (focus (simp [go_sem]; done)); rintro e w' ⟨rfl, e4, rfl⟩)
    | (go_at_call 29; (with_reducible refine (kL.out _ (by (repeat (first | exact Plus.refl _ | apply Plus.plus | apply Plus.alloc | apply Plus.drew)))).mono ?_); rintro e w' ⟨rfl, e5, rfl⟩))
  exact bodyPost_ret (v := .tuple #[.string (Ek ++ Et ++ EL), nI 0]) (by simp [results, Tryz.results9, go_sem]) rfl ⟨rfl, by (repeat (first | exact Plus.refl _ | apply Plus.plus | apply Plus.alloc | apply Plus.drew))⟩
theorem encCore_2 (hk : Ek.size ≤ 9) (ht : Et.size ≤ 9) (kK : ∀ w, W.Plus w → Calls Tryz.prog 26 #[msgV k t n (.slice Ac Lc cc) (.slice Ab Lb cb) (.slice Ai Li ci)] w fun e w' => e = .returned (nI 0) ∧ w.Plus w')
    (kO : ∀ w, Calls Tryz.prog 27 #[nI k] w fun e w' => e = .returned (.tuple #[fldV true false false false false, .bool true]) ∧ w.Plus w')
    (kI : ∀ w b c [InW b w], w.cell? ⟨b, 0, none⟩ = some (nI k) → Calls Tryz.prog 28 #[.slice (some ⟨b, 0, none⟩) 1 c] w fun e w' => e = .returned (.string Ek) ∧ w.Plus w')
    (kT : ∀ w b c [InW b w], w.cell? ⟨b, 0, none⟩ = some (nI t) → Calls Tryz.prog 28 #[.slice (some ⟨b, 0, none⟩) 1 c] w fun e w' => e = .returned (.string Et) ∧ w.Plus w') :
    Calls Tryz.prog 9 #[msgV k t n (.slice Ac Lc cc) (.slice Ab Lb cb) (.slice Ai Li ci)] W fun e w' => e = .returned (.tuple #[.string (Ek ++ Et), nI 0]) ∧ W.Plus w' := by
  have hs1 : ¬ 9223372036854775807 < Ek.size + Et.size := by omega
  replace kK := Lib.hid kK
  replace kO := Lib.hid kO
  replace kI := Lib.hid kI
  replace kT := Lib.hid kT
  clear hk ht
  go_enter Tryz.func9, Tryz.ntmps9
  go_wp2_with (first
    | (go_at_call 26; (with_reducible refine (kK.out _ (by (repeat (first | exact Plus.refl _ | apply Plus.plus | apply Plus.alloc | apply Plus.drew)))).mono ?_); rintro e w' ⟨rfl, e1, rfl⟩)
    | (go_at_call 27; (with_reducible refine (kO.out _).mono ?_); rintro e w' ⟨rfl, e2, rfl⟩)
    | (go_at_call 28; refine (kI.out _ _ _ ?_).mono ?_; (focus (simp [go_sem]; done)); rintro e w' ⟨rfl, e3, rfl⟩; clear kI)
    | (go_at_call 28; refine (kT.out _ _ _ ?_).mono ?_; (focus (simp [go_sem]; done)); rintro e w' ⟨rfl, e4, rfl⟩))
  exact bodyPost_ret (v := .tuple #[.string (Ek ++ Et), nI 0]) (by simp [results, Tryz.results9, go_sem]) rfl ⟨rfl, by (repeat (first | exact Plus.refl _ | apply Plus.plus | apply Plus.alloc | apply Plus.drew))⟩
theorem encCore_4 (hk : Ek.size ≤ 9) (ht : Et.size ≤ 9) (hl : EL.size ≤ 200000) (kK : ∀ w, W.Plus w → Calls Tryz.prog 26 #[msgV k t n (.slice Ac Lc cc) (.slice Ab Lb cb) (.slice Ai Li ci)] w fun e w' => e = .returned (nI 0) ∧ w.Plus w')
    (kO : ∀ w, Calls Tryz.prog 27 #[nI k] w fun e w' => e = .returned (.tuple #[fldV true false false false true, .bool true]) ∧ w.Plus w')
    (kI : ∀ w b c [InW b w], w.cell? ⟨b, 0, none⟩ = some (nI k) → Calls Tryz.prog 28 #[.slice (some ⟨b, 0, none⟩) 1 c] w fun e w' => e = .returned (.string Ek) ∧ w.Plus w')
    (kT : ∀ w b c [InW b w], w.cell? ⟨b, 0, none⟩ = some (nI t) → Calls Tryz.prog 28 #[.slice (some ⟨b, 0, none⟩) 1 c] w fun e w' => e = .returned (.string Et) ∧ w.Plus w')
    (kL : ∀ w, W.Plus w → Calls Tryz.prog 33 #[.func (.func 34) #[] #[], .slice Ai Li ci] w fun e w' => e = .returned (.string EL) ∧ w.Plus w') :
    Calls Tryz.prog 9 #[msgV k t n (.slice Ac Lc cc) (.slice Ab Lb cb) (.slice Ai Li ci)] W fun e w' => e = .returned (.tuple #[.string (Ek ++ Et ++ EL), nI 0]) ∧ W.Plus w' := by
  have hs1 : ¬ 9223372036854775807 < Ek.size + Et.size := by omega
  have hs2 : ¬ 9223372036854775807 < (Ek ++ Et).size + EL.size := by rw [ByteArray.size_append]; omega
  have hs3 : ¬ 9223372036854775807 < Ek.size + Et.size + EL.size := by omega
  replace kK := Lib.hid kK
  replace kO := Lib.hid kO
  replace kI := Lib.hid kI
  replace kT := Lib.hid kT
  replace kL := Lib.hid kL
  clear hk ht hl
  go_enter Tryz.func9, Tryz.ntmps9
  go_wp2_with (first
    | (go_at_call 26; (with_reducible refine (kK.out _ (by (repeat (first | exact Plus.refl _ | apply Plus.plus | apply Plus.alloc | apply Plus.drew)))).mono ?_); rintro e w' ⟨rfl, e1, rfl⟩)
    | (go_at_call 27; (with_reducible refine (kO.out _).mono ?_); rintro e w' ⟨rfl, e2, rfl⟩)
    | (go_at_call 28; refine (kI.out _ _ _ ?_).mono ?_; (focus (simp [go_sem]; done)); rintro e w' ⟨rfl, e3, rfl⟩; clear kI)
    | (go_at_call 28; refine (kT.out _ _ _ ?_).mono ?_; (focus (simp [go_sem]; done)); rintro e w' ⟨rfl, e4, rfl⟩)
    | (go_at_call 33; (with_reducible refine (kL.out _ (by (repeat (first | exact Plus.refl _ | apply Plus.plus | apply Plus.alloc | apply Plus.drew)))).mono ?_); rintro e w' ⟨rfl, e5, rfl⟩))
  exact bodyPost_ret (v := .tuple #[.string (Ek ++ Et ++ EL), nI 0]) (by simp [results, Tryz.results9, go_sem]) rfl ⟨rfl, by (repeat (first | exact Plus.refl _ | apply Plus.plus | apply Plus.alloc | apply Plus.drew))⟩
theorem encCore_7 (hk : Ek.size ≤ 9) (ht : Et.size ≤ 9) (hl : EL.size ≤ 200000) (kK : ∀ w, W.Plus w → Calls Tryz.prog 26 #[msgV k t n (.slice Ac Lc cc) (.slice Ab Lb cb) (.slice Ai Li ci)] w fun e w' => e = .returned (nI 0) ∧ w.Plus w')
    (kO : ∀ w, Calls Tryz.prog 27 #[nI k] w fun e w' => e = .returned (.tuple #[fldV false true false true false, .bool true]) ∧ w.Plus w')
    (kI : ∀ w b c [InW b w], w.cell? ⟨b, 0, none⟩ = some (nI k) → Calls Tryz.prog 28 #[.slice (some ⟨b, 0, none⟩) 1 c] w fun e w' => e = .returned (.string Ek) ∧ w.Plus w')
    (kT : ∀ w b c [InW b w], w.cell? ⟨b, 0, none⟩ = some (nI n) → Calls Tryz.prog 28 #[.slice (some ⟨b, 0, none⟩) 1 c] w fun e w' => e = .returned (.string Et) ∧ w.Plus w')
    (kL : ∀ w, W.Plus w → Calls Tryz.prog 31 #[.func (.func 32) #[] #[], .slice Ab Lb cb] w fun e w' => e = .returned (.string EL) ∧ w.Plus w') :
    Calls Tryz.prog 9 #[msgV k t n (.slice Ac Lc cc) (.slice Ab Lb cb) (.slice Ai Li ci)] W fun e w' => e = .returned (.tuple #[.string (Ek ++ Et ++ EL), nI 0]) ∧ W.Plus w' := by
  have hs1 : ¬ 9223372036854775807 < Ek.size + Et.size := by omega
  have hs2 : ¬ 9223372036854775807 < (Ek ++ Et).size + EL.size := by rw [ByteArray.size_append]; omega
  have hs3 : ¬ 9223372036854775807 < Ek.size + Et.size + EL.size := by omega
  replace kK := Lib.hid kK
  replace kO := Lib.hid kO
  replace kI := Lib.hid kI
  replace kT := Lib.hid kT
  replace kL := Lib.hid kL
  clear hk ht hl
  go_enter Tryz.func9, Tryz.ntmps9
  go_wp2_with (first
    | (go_at_call 26; (with_reducible refine (kK.out _ (by (repeat (first | exact Plus.refl _ | apply Plus.plus | apply Plus.alloc | apply Plus.drew)))).mono ?_); rintro e w' ⟨rfl, e1, rfl⟩)
    | (go_at_call 27; (with_reducible refine (kO.out _).mono ?_); rintro e w' ⟨rfl, e2, rfl⟩)
    | (go_at_call 28; refine (kI.out _ _ _ ?_).mono ?_; (focus (simp [go_sem]; done)); rintro e w' ⟨rfl, e3, rfl⟩; clear kI)
    | (go_at_call 28; refine (kT.out _ _ _ ?_).mono ?_; (focus (simp [go_sem]; done)); rintro e w' ⟨rfl, e4, rfl⟩)
    | (go_at_call 31; (with_reducible refine (kL.out _ (by (repeat (first | exact Plus.refl _ | apply Plus.plus | apply Plus.alloc | apply Plus.drew)))).mono ?_); rintro e w' ⟨rfl, e5, rfl⟩))
  exact bodyPost_ret (v := .tuple #[.string (Ek ++ Et ++ EL), nI 0]) (by simp [results, Tryz.results9, go_sem]) rfl ⟨rfl, by (repeat (first | exact Plus.refl _ | apply Plus.plus | apply Plus.alloc | apply Plus.drew))⟩
theorem encCore_8 (hk : Ek.size ≤ 9) (ht : Et.size ≤ 9) (kK : ∀ w, W.Plus w → Calls Tryz.prog 26 #[msgV k t n (.slice Ac Lc cc) (.slice Ab Lb cb) (.slice Ai Li ci)] w fun e w' => e = .returned (nI 0) ∧ w.Plus w')
    (kO : ∀ w, Calls Tryz.prog 27 #[nI k] w fun e w' => e = .returned (.tuple #[fldV false true false false false, .bool true]) ∧ w.Plus w')
    (kI : ∀ w b c [InW b w], w.cell? ⟨b, 0, none⟩ = some (nI k) → Calls Tryz.prog 28 #[.slice (some ⟨b, 0, none⟩) 1 c] w fun e w' => e = .returned (.string Ek) ∧ w.Plus w')
    (kT : ∀ w b c [InW b w], w.cell? ⟨b, 0, none⟩ = some (nI n) → Calls Tryz.prog 28 #[.slice (some ⟨b, 0, none⟩) 1 c] w fun e w' => e = .returned (.string Et) ∧ w.Plus w') :
    Calls Tryz.prog 9 #[msgV k t n (.slice Ac Lc cc) (.slice Ab Lb cb) (.slice Ai Li ci)] W fun e w' => e = .returned (.tuple #[.string (Ek ++ Et), nI 0]) ∧ W.Plus w' := by
  have hs1 : ¬ 9223372036854775807 < Ek.size + Et.size := by omega
  replace kK := Lib.hid kK
  replace kO := Lib.hid kO
  replace kI := Lib.hid kI
  replace kT := Lib.hid kT
  clear hk ht
  go_enter Tryz.func9, Tryz.ntmps9
  go_wp2_with (first
    | (go_at_call 26; (with_reducible refine (kK.out _ (by (repeat (first | exact Plus.refl _ | apply Plus.plus | apply Plus.alloc | apply Plus.drew)))).mono ?_); rintro e w' ⟨rfl, e1, rfl⟩)
    | (go_at_call 27; (with_reducible refine (kO.out _).mono ?_); rintro e w' ⟨rfl, e2, rfl⟩)
    | (go_at_call 28; refine (kI.out _ _ _ ?_).mono ?_; (focus (simp [go_sem]; done)); rintro e w' ⟨rfl, e3, rfl⟩; clear kI)
    | (go_at_call 28; refine (kT.out _ _ _ ?_).mono ?_; (focus (simp [go_sem]; done)); rintro e w' ⟨rfl, e4, rfl⟩))
  exact bodyPost_ret (v := .tuple #[.string (Ek ++ Et), nI 0]) (by simp [results, Tryz.results9, go_sem]) rfl ⟨rfl, by (repeat (first | exact Plus.refl _ | apply Plus.plus | apply Plus.alloc | apply Plus.drew))⟩
theorem encCore_12 (hk : Ek.size ≤ 9) (ht : Et.size ≤ 9) (hl : EL.size ≤ 200000) (kK : ∀ w, W.Plus w → Calls Tryz.prog 26 #[msgV k t n (.slice Ac Lc cc) (.slice Ab Lb cb) (.slice Ai Li ci)] w fun e w' => e = .returned (nI 0) ∧ w.Plus w')
    (kO : ∀ w, Calls Tryz.prog 27 #[nI k] w fun e w' => e = .returned (.tuple #[fldV true false false true false, .bool true]) ∧ w.Plus w')
    (kI : ∀ w b c [InW b w], w.cell? ⟨b, 0, none⟩ = some (nI k) → Calls Tryz.prog 28 #[.slice (some ⟨b, 0, none⟩) 1 c] w fun e w' => e = .returned (.string Ek) ∧ w.Plus w')
    (kT : ∀ w b c [InW b w], w.cell? ⟨b, 0, none⟩ = some (nI t) → Calls Tryz.prog 28 #[.slice (some ⟨b, 0, none⟩) 1 c] w fun e w' => e = .returned (.string Et) ∧ w.Plus w')
    (kL : ∀ w, W.Plus w → Calls Tryz.prog 31 #[.func (.func 32) #[] #[], .slice Ab Lb cb] w fun e w' => e = .returned (.string EL) ∧ w.Plus w') :
    Calls Tryz.prog 9 #[msgV k t n (.slice Ac Lc cc) (.slice Ab Lb cb) (.slice Ai Li ci)] W fun e w' => e = .returned (.tuple #[.string (Ek ++ Et ++ EL), nI 0]) ∧ W.Plus w' := by
  have hs1 : ¬ 9223372036854775807 < Ek.size + Et.size := by omega
  have hs2 : ¬ 9223372036854775807 < (Ek ++ Et).size + EL.size := by rw [ByteArray.size_append]; omega
  have hs3 : ¬ 9223372036854775807 < Ek.size + Et.size + EL.size := by omega
  replace kK := Lib.hid kK
  replace kO := Lib.hid kO
  replace kI := Lib.hid kI
  replace kT := Lib.hid kT
  replace kL := Lib.hid kL
  clear hk ht hl
  go_enter Tryz.func9, Tryz.ntmps9
  go_wp2_with (first
    | (go_at_call 26; (with_reducible refine (kK.out _ (by (repeat (first | exact Plus.refl _ | apply Plus.plus | apply Plus.alloc | apply Plus.drew)))).mono ?_); rintro e w' ⟨rfl, e1, rfl⟩)
    | (go_at_call 27; (with_reducible refine (kO.out _).mono ?_); rintro e w' ⟨rfl, e2, rfl⟩)
    | (go_at_call 28; refine (kI.out _ _ _ ?_).mono ?_; (focus (simp [go_sem]; done)); rintro e w' ⟨rfl, e3, rfl⟩; clear kI)
    | (go_at_call 28; refine (kT.out _ _ _ ?_).mono ?_; (focus (simp [go_sem]; done)); rintro e w' ⟨rfl, e4, rfl⟩)
    | (go_at_call 31; (with_reducible refine (kL.out _ (by (repeat (first | exact Plus.refl _ | apply Plus.plus | apply Plus.alloc | apply Plus.drew)))).mono ?_); rintro e w' ⟨rfl, e5, rfl⟩))
  exact bodyPost_ret (v := .tuple #[.string (Ek ++ Et ++ EL), nI 0]) (by simp [results, Tryz.results9, go_sem]) rfl ⟨rfl, by (repeat (first | exact Plus.refl _ | apply Plus.plus | apply Plus.alloc | apply Plus.drew))⟩
theorem encNo (kK : ∀ w, W.Plus w → Calls Tryz.prog 26 #[msgV k t n (.slice Ac Lc cc) (.slice Ab Lb cb) (.slice Ai Li ci)] w fun e w' => e = .returned (nI 1) ∧ w.Plus w') : Calls Tryz.prog 9 #[msgV k t n (.slice Ac Lc cc) (.slice Ab Lb cb) (.slice Ai Li ci)] W fun e w' => e = .returned (.tuple #[.string ⟨#[]⟩, nI 1]) ∧ W.Plus w' := by
  replace kK := Lib.hid kK
  go_enter Tryz.func9, Tryz.ntmps9
  go_wp2_with (go_at_call 26; (with_reducible refine (kK.out _ (by (repeat (first | exact Plus.refl _ | apply Plus.plus | apply Plus.alloc | apply Plus.drew)))).mono ?_); rintro e w' ⟨rfl, e1, rfl⟩)
  exact bodyPost_ret (v := .tuple #[.string ⟨#[]⟩, nI 1]) (by simp [results, Tryz.results9, go_sem]) rfl ⟨rfl, by (repeat (first | exact Plus.refl _ | apply Plus.plus | apply Plus.alloc | apply Plus.drew))⟩
end
theorem encM_1 (m : MsgR) (h1 : fT m.kind = true) (h2 : fN m.kind = false) (h3 : fC m.kind = true) (h4 : fB m.kind = false) (h5 : fI m.kind = false) : Octs.txt (encM m) = Octs.txt (Octs.enc m.kind) ++ Octs.txt (Octs.enc m.t) ++ Octs.txt (encL encC m.cs) := by
  unfold encM
  rw [h1, h2, h3, h4, h5]
  simp [Octs.txt_append]
theorem encM_2 (m : MsgR) (h1 : fT m.kind = true) (h2 : fN m.kind = false) (h3 : fC m.kind = false) (h4 : fB m.kind = false) (h5 : fI m.kind = false) : Octs.txt (encM m) = Octs.txt (Octs.enc m.kind) ++ Octs.txt (Octs.enc m.t) := by
  unfold encM
  rw [h1, h2, h3, h4, h5]
  simp [Octs.txt_append]
theorem encM_4 (m : MsgR) (h1 : fT m.kind = true) (h2 : fN m.kind = false) (h3 : fC m.kind = false) (h4 : fB m.kind = false) (h5 : fI m.kind = true) : Octs.txt (encM m) = Octs.txt (Octs.enc m.kind) ++ Octs.txt (Octs.enc m.t) ++ Octs.txt (encL encI m.is) := by
  unfold encM
  rw [h1, h2, h3, h4, h5]
  simp [Octs.txt_append]
theorem encM_7 (m : MsgR) (h1 : fT m.kind = false) (h2 : fN m.kind = true) (h3 : fC m.kind = false) (h4 : fB m.kind = true) (h5 : fI m.kind = false) : Octs.txt (encM m) = Octs.txt (Octs.enc m.kind) ++ Octs.txt (Octs.enc m.n) ++ Octs.txt (encL encB m.bs) := by
  unfold encM
  rw [h1, h2, h3, h4, h5]
  simp [Octs.txt_append]
theorem encM_8 (m : MsgR) (h1 : fT m.kind = false) (h2 : fN m.kind = true) (h3 : fC m.kind = false) (h4 : fB m.kind = false) (h5 : fI m.kind = false) : Octs.txt (encM m) = Octs.txt (Octs.enc m.kind) ++ Octs.txt (Octs.enc m.n) := by
  unfold encM
  rw [h1, h2, h3, h4, h5]
  simp [Octs.txt_append]
theorem encM_12 (m : MsgR) (h1 : fT m.kind = true) (h2 : fN m.kind = false) (h3 : fC m.kind = false) (h4 : fB m.kind = true) (h5 : fI m.kind = false) : Octs.txt (encM m) = Octs.txt (Octs.enc m.kind) ++ Octs.txt (Octs.enc m.t) ++ Octs.txt (encL encB m.bs) := by
  unfold encM
  rw [h1, h2, h3, h4, h5]
  simp [Octs.txt_append]
def encV (m : MsgR) : Value := if okM m then .tuple #[.string (Octs.txt (encM m)), nI 0] else .tuple #[.string ⟨#[]⟩, nI 1]
theorem okM_parts {m : MsgR} (h : okM m = true) : (1 ≤ m.kind ∧ m.kind ≤ 12) ∧ Octs.In64 m.t ∧ Octs.In64 m.n ∧ (m.cs.length ≤ 1100 ∧ ∀ x ∈ m.cs, CmI x) ∧ (m.bs.length ≤ 1100 ∧ ∀ x ∈ m.bs, BdI x) ∧ (m.is.length ≤ 1100 ∧ ∀ x ∈ m.is, IdI x) := by
  unfold okM at h
  simp only [Bool.and_eq_true] at h
  obtain ⟨⟨⟨⟨⟨⟨h1, h2⟩, h3⟩, h4⟩, h5⟩, h6⟩, h7⟩ := h
  have num : ∀ (b : Bool) (n : Int), numB b n = true → Octs.In64 n := fun b n h => by
    unfold numB at h
    unfold Octs.In64
    cases b <;> simp at h <;> omega
  have lst : ∀ {α : Type} (ok : α → Bool) (b : Bool) (xs : List α) (m : Nat), m ≤ 1100 → allB ok b xs m = true → xs.length ≤ 1100 ∧ ∀ x ∈ xs, ok x = true := fun ok b xs m hm h => by
    unfold allB at h
    simp only [Bool.and_eq_true, decide_eq_true_eq, List.all_eq_true] at h
    exact ⟨by omega, h.2⟩
  have l4 := lst _ _ _ _ (by decide) h4
  have l5 := lst _ _ _ _ (by decide) h5
  have l6 := lst _ _ _ _ (by decide) h6
  unfold fK at h1
  simp at h1
  exact ⟨h1, num _ _ h2, num _ _ h3, ⟨l4.1, fun x hx => cmI_ok (l4.2 x hx)⟩, ⟨l5.1, fun x hx => bdI_okB (l5.2 x hx)⟩, ⟨l6.1, fun x hx => idB_in (l6.2 x hx)⟩⟩
theorem lsz {α : Type} (en : α → List UInt8) (m : Nat) (hm : m ≤ 150) (h : ∀ x, (en x).length ≤ m) (xs : List α) (hx : xs.length ≤ 1100) : (Octs.txt (encL en xs)).size ≤ 200000 := by
  rw [Octs.txt_size]
  unfold encL
  rw [List.length_append]
  have h1 := encLs_le en m h xs
  have h2 := Octs.enc_le (xs.length : Int)
  have h3 : xs.length * m ≤ 1100 * 150 := Nat.mul_le_mul hx hm
  omega
theorem isz (n : Int) : (Octs.txt (Octs.enc n)).size ≤ 9 := by rw [Octs.txt_size]; exact Octs.enc_le n
theorem encode_any (m : MsgR) (a : MAt) (W : World) (h : MRows W m a) : Calls Tryz.prog 9 #[mV m a] W fun e w' => e = .returned (encV m) ∧ W.Plus w' := by
  have kK := fun w (p : W.Plus w) => checkMsg_any m a w (h.plus p)
  unfold encV
  cases hok : okM m with
  | false =>
    rw [hok] at kK
    exact encNo _ _ _ _ _ _ _ _ _ _ _ _ W kK
  | true =>
    rw [hok] at kK
    obtain ⟨hk, ht, hn, ⟨c1, c2⟩, ⟨b1, b2⟩, ⟨i1, i2⟩⟩ := okM_parts hok
    have hk64 : Octs.In64 m.kind := by unfold Octs.In64; omega
    have kO := fun w => of_any m.kind w
    have kI := fun w b c [InW b w] h0 => int_at1 w b c m.kind h0 hk64
    have kT := fun w b c [InW b w] h0 => int_at1 w b c m.t h0 ht
    have kN := fun w b c [InW b w] h0 => int_at1 w b c m.n h0 hn
    rcases (by omega : m.kind = 1 ∨ m.kind = 2 ∨ m.kind = 3 ∨ m.kind = 4 ∨ m.kind = 5 ∨ m.kind = 6 ∨ m.kind = 7 ∨ m.kind = 8 ∨ m.kind = 9 ∨ m.kind = 10 ∨ m.kind = 11 ∨ m.kind = 12) with e | e | e | e | e | e | e | e | e | e | e | e
    · have f1 : fT m.kind = true := by rw [e]; rfl
      have f2 : fN m.kind = false := by rw [e]; rfl
      have f3 : fC m.kind = true := by rw [e]; rfl
      have f4 : fB m.kind = false := by rw [e]; rfl
      have f5 : fI m.kind = false := by rw [e]; rfl
      rw [f1, f2, f3, f4, f5, show fK m.kind = true by rw [e]; rfl] at kO
      rw [if_pos rfl, encM_1 m f1 f2 f3 f4 f5]
      exact encCore_1 m.kind m.t m.n m.cs.length m.bs.length m.is.length a.Ac a.Ab a.Ai a.cc a.cb a.ci W _ _ (Octs.txt (encL encC m.cs)) (isz _) (isz _) (lsz encC 108 (by decide) (fun x => encC_le x) m.cs c1) kK kO kI kT (fun w p => listC_any m.cs c2 c1 a.Ac a.cc w (h.c.plus p))
    · have f1 : fT m.kind = true := by rw [e]; rfl
      have f2 : fN m.kind = false := by rw [e]; rfl
      have f3 : fC m.kind = false := by rw [e]; rfl
      have f4 : fB m.kind = false := by rw [e]; rfl
      have f5 : fI m.kind = false := by rw [e]; rfl
      rw [f1, f2, f3, f4, f5, show fK m.kind = true by rw [e]; rfl] at kO
      rw [if_pos rfl, encM_2 m f1 f2 f3 f4 f5]
      exact encCore_2 m.kind m.t m.n m.cs.length m.bs.length m.is.length a.Ac a.Ab a.Ai a.cc a.cb a.ci W _ _ (isz _) (isz _)  kK kO kI kT 
    · have f1 : fT m.kind = true := by rw [e]; rfl
      have f2 : fN m.kind = false := by rw [e]; rfl
      have f3 : fC m.kind = false := by rw [e]; rfl
      have f4 : fB m.kind = false := by rw [e]; rfl
      have f5 : fI m.kind = false := by rw [e]; rfl
      rw [f1, f2, f3, f4, f5, show fK m.kind = true by rw [e]; rfl] at kO
      rw [if_pos rfl, encM_2 m f1 f2 f3 f4 f5]
      exact encCore_2 m.kind m.t m.n m.cs.length m.bs.length m.is.length a.Ac a.Ab a.Ai a.cc a.cb a.ci W _ _ (isz _) (isz _)  kK kO kI kT 
    · have f1 : fT m.kind = true := by rw [e]; rfl
      have f2 : fN m.kind = false := by rw [e]; rfl
      have f3 : fC m.kind = false := by rw [e]; rfl
      have f4 : fB m.kind = false := by rw [e]; rfl
      have f5 : fI m.kind = true := by rw [e]; rfl
      rw [f1, f2, f3, f4, f5, show fK m.kind = true by rw [e]; rfl] at kO
      rw [if_pos rfl, encM_4 m f1 f2 f3 f4 f5]
      exact encCore_4 m.kind m.t m.n m.cs.length m.bs.length m.is.length a.Ac a.Ab a.Ai a.cc a.cb a.ci W _ _ (Octs.txt (encL encI m.is)) (isz _) (isz _) (lsz encI 27 (by decide) (fun x => encI_le x) m.is i1) kK kO kI kT (fun w p => listI_any m.is i2 i1 a.Ai a.ci w (h.i.plus p))
    · have f1 : fT m.kind = true := by rw [e]; rfl
      have f2 : fN m.kind = false := by rw [e]; rfl
      have f3 : fC m.kind = false := by rw [e]; rfl
      have f4 : fB m.kind = false := by rw [e]; rfl
      have f5 : fI m.kind = false := by rw [e]; rfl
      rw [f1, f2, f3, f4, f5, show fK m.kind = true by rw [e]; rfl] at kO
      rw [if_pos rfl, encM_2 m f1 f2 f3 f4 f5]
      exact encCore_2 m.kind m.t m.n m.cs.length m.bs.length m.is.length a.Ac a.Ab a.Ai a.cc a.cb a.ci W _ _ (isz _) (isz _)  kK kO kI kT 
    · have f1 : fT m.kind = true := by rw [e]; rfl
      have f2 : fN m.kind = false := by rw [e]; rfl
      have f3 : fC m.kind = false := by rw [e]; rfl
      have f4 : fB m.kind = false := by rw [e]; rfl
      have f5 : fI m.kind = false := by rw [e]; rfl
      rw [f1, f2, f3, f4, f5, show fK m.kind = true by rw [e]; rfl] at kO
      rw [if_pos rfl, encM_2 m f1 f2 f3 f4 f5]
      exact encCore_2 m.kind m.t m.n m.cs.length m.bs.length m.is.length a.Ac a.Ab a.Ai a.cc a.cb a.ci W _ _ (isz _) (isz _)  kK kO kI kT 
    · have f1 : fT m.kind = false := by rw [e]; rfl
      have f2 : fN m.kind = true := by rw [e]; rfl
      have f3 : fC m.kind = false := by rw [e]; rfl
      have f4 : fB m.kind = true := by rw [e]; rfl
      have f5 : fI m.kind = false := by rw [e]; rfl
      rw [f1, f2, f3, f4, f5, show fK m.kind = true by rw [e]; rfl] at kO
      rw [if_pos rfl, encM_7 m f1 f2 f3 f4 f5]
      exact encCore_7 m.kind m.t m.n m.cs.length m.bs.length m.is.length a.Ac a.Ab a.Ai a.cc a.cb a.ci W _ _ (Octs.txt (encL encB m.bs)) (isz _) (isz _) (lsz encB 99 (by decide) (fun x => encB_le x) m.bs b1) kK kO kI kN (fun w p => listB_any m.bs b2 b1 a.Ab a.cb w (h.b.plus p))
    · have f1 : fT m.kind = false := by rw [e]; rfl
      have f2 : fN m.kind = true := by rw [e]; rfl
      have f3 : fC m.kind = false := by rw [e]; rfl
      have f4 : fB m.kind = false := by rw [e]; rfl
      have f5 : fI m.kind = false := by rw [e]; rfl
      rw [f1, f2, f3, f4, f5, show fK m.kind = true by rw [e]; rfl] at kO
      rw [if_pos rfl, encM_8 m f1 f2 f3 f4 f5]
      exact encCore_8 m.kind m.t m.n m.cs.length m.bs.length m.is.length a.Ac a.Ab a.Ai a.cc a.cb a.ci W _ _ (isz _) (isz _)  kK kO kI kN 
    · have f1 : fT m.kind = false := by rw [e]; rfl
      have f2 : fN m.kind = true := by rw [e]; rfl
      have f3 : fC m.kind = false := by rw [e]; rfl
      have f4 : fB m.kind = false := by rw [e]; rfl
      have f5 : fI m.kind = false := by rw [e]; rfl
      rw [f1, f2, f3, f4, f5, show fK m.kind = true by rw [e]; rfl] at kO
      rw [if_pos rfl, encM_8 m f1 f2 f3 f4 f5]
      exact encCore_8 m.kind m.t m.n m.cs.length m.bs.length m.is.length a.Ac a.Ab a.Ai a.cc a.cb a.ci W _ _ (isz _) (isz _)  kK kO kI kN 
    · have f1 : fT m.kind = false := by rw [e]; rfl
      have f2 : fN m.kind = true := by rw [e]; rfl
      have f3 : fC m.kind = false := by rw [e]; rfl
      have f4 : fB m.kind = false := by rw [e]; rfl
      have f5 : fI m.kind = false := by rw [e]; rfl
      rw [f1, f2, f3, f4, f5, show fK m.kind = true by rw [e]; rfl] at kO
      rw [if_pos rfl, encM_8 m f1 f2 f3 f4 f5]
      exact encCore_8 m.kind m.t m.n m.cs.length m.bs.length m.is.length a.Ac a.Ab a.Ai a.cc a.cb a.ci W _ _ (isz _) (isz _)  kK kO kI kN 
    · have f1 : fT m.kind = true := by rw [e]; rfl
      have f2 : fN m.kind = false := by rw [e]; rfl
      have f3 : fC m.kind = false := by rw [e]; rfl
      have f4 : fB m.kind = false := by rw [e]; rfl
      have f5 : fI m.kind = false := by rw [e]; rfl
      rw [f1, f2, f3, f4, f5, show fK m.kind = true by rw [e]; rfl] at kO
      rw [if_pos rfl, encM_2 m f1 f2 f3 f4 f5]
      exact encCore_2 m.kind m.t m.n m.cs.length m.bs.length m.is.length a.Ac a.Ab a.Ai a.cc a.cb a.ci W _ _ (isz _) (isz _)  kK kO kI kT 
    · have f1 : fT m.kind = true := by rw [e]; rfl
      have f2 : fN m.kind = false := by rw [e]; rfl
      have f3 : fC m.kind = false := by rw [e]; rfl
      have f4 : fB m.kind = true := by rw [e]; rfl
      have f5 : fI m.kind = false := by rw [e]; rfl
      rw [f1, f2, f3, f4, f5, show fK m.kind = true by rw [e]; rfl] at kO
      rw [if_pos rfl, encM_12 m f1 f2 f3 f4 f5]
      exact encCore_12 m.kind m.t m.n m.cs.length m.bs.length m.is.length a.Ac a.Ab a.Ai a.cc a.cb a.ci W _ _ (Octs.txt (encL encB m.bs)) (isz _) (isz _) (lsz encB 99 (by decide) (fun x => encB_le x) m.bs b1) kK kO kI kT (fun w p => listB_any m.bs b2 b1 a.Ab a.cb w (h.b.plus p))
end Go.Proofs.YtpdlgflbcgemnaaGreatDoor
