/- arch: Put, Remove: walk. -/
import Derived.Test.YtkdagljoiacaaaaAr8
set_option linter.unusedSimpArgs false
set_option linter.unusedVariables false
namespace Go.Proofs.Ytkdagljoiacaaaa
open Go.RowKit
theorem Own.at_plus {W wx : World} {l : List Asn} (h : Own W wx l) : ∀ wz, wx.Plus wz → Own W wz l := by
  rintro wz ⟨e, rfl⟩
  exact h.plus e
set_option maxRecDepth 100000 in
set_option maxHeartbeats 4000000 in
theorem put_O {W wx : World} {S : Nat} {T : Tabs} {l : List Asn} (h : Own W wx (storeA S T :: l)) (hg : GoodT T) (b : BdR) (ht : total T ≤ 90000) :
    Calls Try.prog 30 #[chP S, b.v] wx (OwnTo W (nI (putS T b).2) (storeA S (putS T b).1 :: l)) := by
  have hW := Lib.hid (Own.at_plus h)
  have kC := fun wz => check_any b wz
  by_cases hb : okB b = true
  · rw [hb, if_pos rfl] at kC
    have kH := Lib.hid (fun wz (p : wx.Plus wz) => has_store (hW.out wz p) b.id (okB_id hb))
    cases hf : findT T b.id with
    | some p =>
      have hp : putS T b = (T, 7) := by unfold putS; rw [if_pos hb, hf]; rfl
      rw [hp]
      rw [hf] at kH
      simp only [Option.isSome_some] at kH
      clear hp hf hb
      replace kC := Lib.hid kC
      replace h := Lib.hid h
      go_enter Try.func30, Try.ntmps30
      go_wp2_with (first | (go_at_call 48; (with_reducible refine (kC.out _).mono ?_); rintro e w' ⟨rfl, ey, rfl⟩) | (go_at_call 46; (with_reducible refine (kH.out _ (by (repeat (first | exact Plus.refl _ | apply Plus.plus | apply Plus.alloc | apply Plus.drew)))).mono ?_); rintro e w' ⟨rfl, ey, rfl⟩))
      go_ret
      exact ⟨rfl, hW.out _ (by (repeat (first | exact Plus.refl _ | apply Plus.plus | apply Plus.alloc | apply Plus.drew)))⟩
    | none =>
      have hp : putS T b = (putT T b, 0) := by unfold putS; rw [if_pos hb, hf]; rfl
      have kA := Lib.hid (fun wz (p : wx.Plus wz) => add_O (hW.out wz p) hg b hb hf (by omega))
      rw [hp]
      rw [hf] at kH
      simp only [Option.isSome_none] at kH
      clear hp hf hb
      replace kC := Lib.hid kC
      replace h := Lib.hid h
      go_enter Try.func30, Try.ntmps30
      go_wp2_with (first | (go_at_call 48; (with_reducible refine (kC.out _).mono ?_); rintro e w' ⟨rfl, ey, rfl⟩) | (go_at_call 46; (with_reducible refine (kH.out _ (by (repeat (first | exact Plus.refl _ | apply Plus.plus | apply Plus.alloc | apply Plus.drew)))).mono ?_); rintro e w' ⟨rfl, ey, rfl⟩) | (go_at_call 49; (with_reducible refine (kA.out _ (by (repeat (first | exact Plus.refl _ | apply Plus.plus | apply Plus.alloc | apply Plus.drew)))).mono ?_); rintro e w9 ⟨rfl, O9⟩))
      go_ret
      exact ⟨rfl, O9⟩
  · have hb' : okB b = false := by simpa using hb
    have hp : putS T b = (T, 1) := by unfold putS; rw [if_neg hb]
    rw [hb'] at kC
    rw [hp]
    simp only [Bool.false_eq_true, if_false] at kC
    clear hp hb hb'
    replace kC := Lib.hid kC
    replace h := Lib.hid h
    go_enter Try.func30, Try.ntmps30
    go_wp2_with (go_at_call 48; (with_reducible refine (kC.out _).mono ?_); rintro e w' ⟨rfl, ey, rfl⟩)
    go_ret
    exact ⟨rfl, hW.out _ (by (repeat (first | exact Plus.refl _ | apply Plus.plus | apply Plus.alloc | apply Plus.drew)))⟩
set_option maxRecDepth 100000 in
set_option maxHeartbeats 4000000 in
theorem remove_O {W wx : World} {S : Nat} {T : Tabs} {l : List Asn} (h : Own W wx (storeA S T :: l)) (hg : GoodT T) (a : IdR) (ha : IdW a) (ht : total T ≤ 90000) :
    Calls Try.prog 31 #[chP S, a.v] wx (OwnTo W (.bool (removeS T a).2) (storeA S (removeS T a).1 :: l)) := by
  have hW := Lib.hid (Own.at_plus h)
  have kH := Lib.hid (fun wz (p : wx.Plus wz) => has_store (hW.out wz p) a ha)
  cases hf : findT T a with
  | none =>
    have hp : removeS T a = (T, false) := by unfold removeS; rw [hf]
    rw [hp]
    rw [hf] at kH
    simp only [Option.isSome_none] at kH
    clear hp hf
    replace h := Lib.hid h
    go_enter Try.func31, Try.ntmps31
    go_wp2_with (go_at_call 46; (with_reducible refine (kH.out _ (by (repeat (first | exact Plus.refl _ | apply Plus.plus | apply Plus.alloc | apply Plus.drew)))).mono ?_); rintro e w' ⟨rfl, ey, rfl⟩)
    go_ret
    exact ⟨rfl, hW.out _ (by (repeat (first | exact Plus.refl _ | apply Plus.plus | apply Plus.alloc | apply Plus.drew)))⟩
  | some p =>
    obtain ⟨m, i⟩ := p
    have hp : removeS T a = (cutT T m i, true) := by unfold removeS; rw [hf]
    have kA := Lib.hid (fun wz (p : wx.Plus wz) => cut_O (hW.out wz p) hg a m i hf ha (by omega))
    rw [hp]
    rw [hf] at kH
    simp only [Option.isSome_some] at kH
    clear hp hf
    replace h := Lib.hid h
    go_enter Try.func31, Try.ntmps31
    go_wp2_with (first | (go_at_call 46; (with_reducible refine (kH.out _ (by (repeat (first | exact Plus.refl _ | apply Plus.plus | apply Plus.alloc | apply Plus.drew)))).mono ?_); rintro e w' ⟨rfl, ey, rfl⟩) | (go_at_call 50; (with_reducible refine (kA.out _ (by (repeat (first | exact Plus.refl _ | apply Plus.plus | apply Plus.alloc | apply Plus.drew)))).mono ?_); rintro e w9 ⟨rfl, O9⟩))
    go_ret
    exact ⟨rfl, O9⟩
end Go.Proofs.Ytkdagljoiacaaaa
