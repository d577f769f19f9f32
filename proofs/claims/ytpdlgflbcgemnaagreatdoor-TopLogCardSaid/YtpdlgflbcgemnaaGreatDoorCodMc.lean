/- codec: CheckMsg, long: walks. -/
import Derived.Test.YtpdlgflbcgemnaaGreatDoorCodMs
set_option linter.unusedSimpArgs false
set_option linter.unusedVariables false
namespace Go.Proofs.YtpdlgflbcgemnaaGreatDoor
open Go.RowKit Octs
set_option maxHeartbeats 1000000
set_option maxRecDepth 100000
/-- where a message's lists lie -/
structure MAt where
  Ac : Option Addr
  Ab : Option Addr
  Ai : Option Addr
  cc : Nat
  cb : Nat
  ci : Nat
abbrev mV (m : MsgR) (a : MAt) : Value := msgV m.kind m.t m.n (.slice a.Ac m.cs.length a.cc) (.slice a.Ab m.bs.length a.cb) (.slice a.Ai m.is.length a.ci)
structure MRows (w : World) (m : MsgR) (a : MAt) : Prop where
  c : RowsAt w a.Ac 16 m.cs.length (rowFC m.cs)
  b : RowsAt w a.Ab 11 m.bs.length (rowFB m.bs)
  i : RowsAt w a.Ai 3 m.is.length (rowFI m.is)
theorem MRows.plus {w w' : World} {m : MsgR} {a : MAt} (h : MRows w m a) (p : w.Plus w') : MRows w' m a := ⟨h.c.plus p, h.b.plus p, h.i.plus p⟩
theorem wrapLen (n : Nat) (h : n ≤ 9223372036854775807) : wrap64 (n : Int) = n := w64_id (by omega) (by omega)
section
variable (k t n : Int) (Lc Lb Li : Nat) (Ac Ab Ai : Option Addr) (cc cb ci : Nat) (ft fn fc fb fi : Bool) (W : World)
theorem checkCore_n1 (kO : ∀ w, Calls Tryz.prog 27 #[nI k] w fun e w' => e = .returned (.tuple #[fldV ft fn fc fb fi, .bool false]) ∧ w.Plus w')  : Calls Tryz.prog 26 #[msgV k t n (.slice Ac Lc cc) (.slice Ab Lb cb) (.slice Ai Li ci)] W fun e w' => e = .returned (nI 1) ∧ W.Plus w' := by
  replace kO := Lib.hid kO
  go_enter Tryz.func26, Tryz.ntmps26
  go_wp2_with (first
    | (go_at_call 27; (with_reducible refine (kO.out _).mono ?_); rintro e w' ⟨rfl, e1, rfl⟩)
    | (go_at_call 60; (with_reducible refine (k2.out _).mono ?_); rintro e w' ⟨rfl, e2, rfl⟩)
    | (go_at_call 60; (with_reducible refine (k3.out _).mono ?_); rintro e w' ⟨rfl, e3, rfl⟩)
    | (go_at_call 61; (with_reducible refine (k4.out _ (by (repeat (first | exact Plus.refl _ | apply Plus.plus | apply Plus.alloc | apply Plus.drew)))).mono ?_); rintro e w' ⟨rfl, e4, rfl⟩)
    | (go_at_call 63; (with_reducible refine (k5.out _ (by (repeat (first | exact Plus.refl _ | apply Plus.plus | apply Plus.alloc | apply Plus.drew)))).mono ?_); rintro e w' ⟨rfl, e5, rfl⟩)
    | (go_at_call 65; (with_reducible refine (k6.out _ (by (repeat (first | exact Plus.refl _ | apply Plus.plus | apply Plus.alloc | apply Plus.drew)))).mono ?_); rintro e w' ⟨rfl, e6, rfl⟩))
  go_ret
  exact ⟨rfl, by (repeat (first | exact Plus.refl _ | apply Plus.plus | apply Plus.alloc | apply Plus.drew))⟩
theorem checkCore_n2 (kO : ∀ w, Calls Tryz.prog 27 #[nI k] w fun e w' => e = .returned (.tuple #[fldV ft fn fc fb fi, .bool true]) ∧ w.Plus w') (k2 : ∀ w, Calls Tryz.prog 60 #[.bool ft, nI t] w fun e w' => e = .returned (.bool false) ∧ w.Plus w')  : Calls Tryz.prog 26 #[msgV k t n (.slice Ac Lc cc) (.slice Ab Lb cb) (.slice Ai Li ci)] W fun e w' => e = .returned (nI 1) ∧ W.Plus w' := by
  replace kO := Lib.hid kO
  replace k2 := Lib.hid k2
  go_enter Tryz.func26, Tryz.ntmps26
  go_wp2_with (first
    | (go_at_call 27; (with_reducible refine (kO.out _).mono ?_); rintro e w' ⟨rfl, e1, rfl⟩)
    | (go_at_call 60; (with_reducible refine (k2.out _).mono ?_); rintro e w' ⟨rfl, e2, rfl⟩)
    | (go_at_call 60; (with_reducible refine (k3.out _).mono ?_); rintro e w' ⟨rfl, e3, rfl⟩)
    | (go_at_call 61; (with_reducible refine (k4.out _ (by (repeat (first | exact Plus.refl _ | apply Plus.plus | apply Plus.alloc | apply Plus.drew)))).mono ?_); rintro e w' ⟨rfl, e4, rfl⟩)
    | (go_at_call 63; (with_reducible refine (k5.out _ (by (repeat (first | exact Plus.refl _ | apply Plus.plus | apply Plus.alloc | apply Plus.drew)))).mono ?_); rintro e w' ⟨rfl, e5, rfl⟩)
    | (go_at_call 65; (with_reducible refine (k6.out _ (by (repeat (first | exact Plus.refl _ | apply Plus.plus | apply Plus.alloc | apply Plus.drew)))).mono ?_); rintro e w' ⟨rfl, e6, rfl⟩))
  go_ret
  exact ⟨rfl, by (repeat (first | exact Plus.refl _ | apply Plus.plus | apply Plus.alloc | apply Plus.drew))⟩
theorem checkCore_n3 (kO : ∀ w, Calls Tryz.prog 27 #[nI k] w fun e w' => e = .returned (.tuple #[fldV ft fn fc fb fi, .bool true]) ∧ w.Plus w') (k2 : ∀ w, Calls Tryz.prog 60 #[.bool ft, nI t] w fun e w' => e = .returned (.bool true) ∧ w.Plus w') (k3 : ∀ w, Calls Tryz.prog 60 #[.bool fn, nI n] w fun e w' => e = .returned (.bool false) ∧ w.Plus w')  : Calls Tryz.prog 26 #[msgV k t n (.slice Ac Lc cc) (.slice Ab Lb cb) (.slice Ai Li ci)] W fun e w' => e = .returned (nI 1) ∧ W.Plus w' := by
  replace kO := Lib.hid kO
  replace k2 := Lib.hid k2
  replace k3 := Lib.hid k3
  go_enter Tryz.func26, Tryz.ntmps26
  go_wp2_with (first
    | (go_at_call 27; (with_reducible refine (kO.out _).mono ?_); rintro e w' ⟨rfl, e1, rfl⟩)
    | (go_at_call 60; (with_reducible refine (k2.out _).mono ?_); rintro e w' ⟨rfl, e2, rfl⟩)
    | (go_at_call 60; (with_reducible refine (k3.out _).mono ?_); rintro e w' ⟨rfl, e3, rfl⟩)
    | (go_at_call 61; (with_reducible refine (k4.out _ (by (repeat (first | exact Plus.refl _ | apply Plus.plus | apply Plus.alloc | apply Plus.drew)))).mono ?_); rintro e w' ⟨rfl, e4, rfl⟩)
    | (go_at_call 63; (with_reducible refine (k5.out _ (by (repeat (first | exact Plus.refl _ | apply Plus.plus | apply Plus.alloc | apply Plus.drew)))).mono ?_); rintro e w' ⟨rfl, e5, rfl⟩)
    | (go_at_call 65; (with_reducible refine (k6.out _ (by (repeat (first | exact Plus.refl _ | apply Plus.plus | apply Plus.alloc | apply Plus.drew)))).mono ?_); rintro e w' ⟨rfl, e6, rfl⟩))
  go_ret
  exact ⟨rfl, by (repeat (first | exact Plus.refl _ | apply Plus.plus | apply Plus.alloc | apply Plus.drew))⟩
theorem checkCore_n4 (kO : ∀ w, Calls Tryz.prog 27 #[nI k] w fun e w' => e = .returned (.tuple #[fldV ft fn fc fb fi, .bool true]) ∧ w.Plus w') (k2 : ∀ w, Calls Tryz.prog 60 #[.bool ft, nI t] w fun e w' => e = .returned (.bool true) ∧ w.Plus w') (k3 : ∀ w, Calls Tryz.prog 60 #[.bool fn, nI n] w fun e w' => e = .returned (.bool true) ∧ w.Plus w') (k4 : ∀ w, W.Plus w → Calls Tryz.prog 61 #[.bool fc, .slice Ac Lc cc, nI 64, .func (.func 62) #[] #[]] w fun e w' => e = .returned (.bool false) ∧ w.Plus w')  : Calls Tryz.prog 26 #[msgV k t n (.slice Ac Lc cc) (.slice Ab Lb cb) (.slice Ai Li ci)] W fun e w' => e = .returned (nI 1) ∧ W.Plus w' := by
  replace kO := Lib.hid kO
  replace k2 := Lib.hid k2
  replace k3 := Lib.hid k3
  replace k4 := Lib.hid k4
  go_enter Tryz.func26, Tryz.ntmps26
  go_wp2_with (first
    | (go_at_call 27; (with_reducible refine (kO.out _).mono ?_); rintro e w' ⟨rfl, e1, rfl⟩)
    | (go_at_call 60; (with_reducible refine (k2.out _).mono ?_); rintro e w' ⟨rfl, e2, rfl⟩)
    | (go_at_call 60; (with_reducible refine (k3.out _).mono ?_); rintro e w' ⟨rfl, e3, rfl⟩)
    | (go_at_call 61; (with_reducible refine (k4.out _ (by (repeat (first | exact Plus.refl _ | apply Plus.plus | apply Plus.alloc | apply Plus.drew)))).mono ?_); rintro e w' ⟨rfl, e4, rfl⟩)
    | (go_at_call 63; (with_reducible refine (k5.out _ (by (repeat (first | exact Plus.refl _ | apply Plus.plus | apply Plus.alloc | apply Plus.drew)))).mono ?_); rintro e w' ⟨rfl, e5, rfl⟩)
    | (go_at_call 65; (with_reducible refine (k6.out _ (by (repeat (first | exact Plus.refl _ | apply Plus.plus | apply Plus.alloc | apply Plus.drew)))).mono ?_); rintro e w' ⟨rfl, e6, rfl⟩))
  go_ret
  exact ⟨rfl, by (repeat (first | exact Plus.refl _ | apply Plus.plus | apply Plus.alloc | apply Plus.drew))⟩
theorem checkCore_n5 (kO : ∀ w, Calls Tryz.prog 27 #[nI k] w fun e w' => e = .returned (.tuple #[fldV ft fn fc fb fi, .bool true]) ∧ w.Plus w') (k2 : ∀ w, Calls Tryz.prog 60 #[.bool ft, nI t] w fun e w' => e = .returned (.bool true) ∧ w.Plus w') (k3 : ∀ w, Calls Tryz.prog 60 #[.bool fn, nI n] w fun e w' => e = .returned (.bool true) ∧ w.Plus w') (k4 : ∀ w, W.Plus w → Calls Tryz.prog 61 #[.bool fc, .slice Ac Lc cc, nI 64, .func (.func 62) #[] #[]] w fun e w' => e = .returned (.bool true) ∧ w.Plus w') (k5 : ∀ w, W.Plus w → Calls Tryz.prog 63 #[.bool fb, .slice Ab Lb cb, nI 1024, .func (.func 64) #[] #[]] w fun e w' => e = .returned (.bool false) ∧ w.Plus w')  : Calls Tryz.prog 26 #[msgV k t n (.slice Ac Lc cc) (.slice Ab Lb cb) (.slice Ai Li ci)] W fun e w' => e = .returned (nI 1) ∧ W.Plus w' := by
  replace kO := Lib.hid kO
  replace k2 := Lib.hid k2
  replace k3 := Lib.hid k3
  replace k4 := Lib.hid k4
  replace k5 := Lib.hid k5
  go_enter Tryz.func26, Tryz.ntmps26
  go_wp2_with (first
    | (go_at_call 27; (with_reducible refine (kO.out _).mono ?_); rintro e w' ⟨rfl, e1, rfl⟩)
    | (go_at_call 60; (with_reducible refine (k2.out _).mono ?_); rintro e w' ⟨rfl, e2, rfl⟩)
    | (go_at_call 60; (with_reducible refine (k3.out _).mono ?_); rintro e w' ⟨rfl, e3, rfl⟩)
    | (go_at_call 61; (with_reducible refine (k4.out _ (by (repeat (first | exact Plus.refl _ | apply Plus.plus | apply Plus.alloc | apply Plus.drew)))).mono ?_); rintro e w' ⟨rfl, e4, rfl⟩)
    | (go_at_call 63; (with_reducible refine (k5.out _ (by (repeat (first | exact Plus.refl _ | apply Plus.plus | apply Plus.alloc | apply Plus.drew)))).mono ?_); rintro e w' ⟨rfl, e5, rfl⟩)
    | (go_at_call 65; (with_reducible refine (k6.out _ (by (repeat (first | exact Plus.refl _ | apply Plus.plus | apply Plus.alloc | apply Plus.drew)))).mono ?_); rintro e w' ⟨rfl, e6, rfl⟩))
  go_ret
  exact ⟨rfl, by (repeat (first | exact Plus.refl _ | apply Plus.plus | apply Plus.alloc | apply Plus.drew))⟩
theorem checkCore_n6 (kO : ∀ w, Calls Tryz.prog 27 #[nI k] w fun e w' => e = .returned (.tuple #[fldV ft fn fc fb fi, .bool true]) ∧ w.Plus w') (k2 : ∀ w, Calls Tryz.prog 60 #[.bool ft, nI t] w fun e w' => e = .returned (.bool true) ∧ w.Plus w') (k3 : ∀ w, Calls Tryz.prog 60 #[.bool fn, nI n] w fun e w' => e = .returned (.bool true) ∧ w.Plus w') (k4 : ∀ w, W.Plus w → Calls Tryz.prog 61 #[.bool fc, .slice Ac Lc cc, nI 64, .func (.func 62) #[] #[]] w fun e w' => e = .returned (.bool true) ∧ w.Plus w') (k5 : ∀ w, W.Plus w → Calls Tryz.prog 63 #[.bool fb, .slice Ab Lb cb, nI 1024, .func (.func 64) #[] #[]] w fun e w' => e = .returned (.bool true) ∧ w.Plus w') (k6 : ∀ w, W.Plus w → Calls Tryz.prog 65 #[.bool fi, .slice Ai Li ci, nI 1024, .func (.func 66) #[] #[]] w fun e w' => e = .returned (.bool false) ∧ w.Plus w')  : Calls Tryz.prog 26 #[msgV k t n (.slice Ac Lc cc) (.slice Ab Lb cb) (.slice Ai Li ci)] W fun e w' => e = .returned (nI 1) ∧ W.Plus w' := by
  replace kO := Lib.hid kO
  replace k2 := Lib.hid k2
  replace k3 := Lib.hid k3
  replace k4 := Lib.hid k4
  replace k5 := Lib.hid k5
  replace k6 := Lib.hid k6
  go_enter Tryz.func26, Tryz.ntmps26
  go_wp2_with (first
    | (go_at_call 27; (with_reducible refine (kO.out _).mono ?_); rintro e w' ⟨rfl, e1, rfl⟩)
    | (go_at_call 60; (with_reducible refine (k2.out _).mono ?_); rintro e w' ⟨rfl, e2, rfl⟩)
    | (go_at_call 60; (with_reducible refine (k3.out _).mono ?_); rintro e w' ⟨rfl, e3, rfl⟩)
    | (go_at_call 61; (with_reducible refine (k4.out _ (by (repeat (first | exact Plus.refl _ | apply Plus.plus | apply Plus.alloc | apply Plus.drew)))).mono ?_); rintro e w' ⟨rfl, e4, rfl⟩)
    | (go_at_call 63; (with_reducible refine (k5.out _ (by (repeat (first | exact Plus.refl _ | apply Plus.plus | apply Plus.alloc | apply Plus.drew)))).mono ?_); rintro e w' ⟨rfl, e5, rfl⟩)
    | (go_at_call 65; (with_reducible refine (k6.out _ (by (repeat (first | exact Plus.refl _ | apply Plus.plus | apply Plus.alloc | apply Plus.drew)))).mono ?_); rintro e w' ⟨rfl, e6, rfl⟩))
  go_ret
  exact ⟨rfl, by (repeat (first | exact Plus.refl _ | apply Plus.plus | apply Plus.alloc | apply Plus.drew))⟩
theorem checkCore_ok (kO : ∀ w, Calls Tryz.prog 27 #[nI k] w fun e w' => e = .returned (.tuple #[fldV ft fn fc fb fi, .bool true]) ∧ w.Plus w') (k2 : ∀ w, Calls Tryz.prog 60 #[.bool ft, nI t] w fun e w' => e = .returned (.bool true) ∧ w.Plus w') (k3 : ∀ w, Calls Tryz.prog 60 #[.bool fn, nI n] w fun e w' => e = .returned (.bool true) ∧ w.Plus w') (k4 : ∀ w, W.Plus w → Calls Tryz.prog 61 #[.bool fc, .slice Ac Lc cc, nI 64, .func (.func 62) #[] #[]] w fun e w' => e = .returned (.bool true) ∧ w.Plus w') (k5 : ∀ w, W.Plus w → Calls Tryz.prog 63 #[.bool fb, .slice Ab Lb cb, nI 1024, .func (.func 64) #[] #[]] w fun e w' => e = .returned (.bool true) ∧ w.Plus w') (k6 : ∀ w, W.Plus w → Calls Tryz.prog 65 #[.bool fi, .slice Ai Li ci, nI 1024, .func (.func 66) #[] #[]] w fun e w' => e = .returned (.bool true) ∧ w.Plus w') (h7 : (k == 7) = false) : Calls Tryz.prog 26 #[msgV k t n (.slice Ac Lc cc) (.slice Ab Lb cb) (.slice Ai Li ci)] W fun e w' => e = .returned (nI 0) ∧ W.Plus w' := by
  replace kO := Lib.hid kO
  replace k2 := Lib.hid k2
  replace k3 := Lib.hid k3
  replace k4 := Lib.hid k4
  replace k5 := Lib.hid k5
  replace k6 := Lib.hid k6
  go_enter Tryz.func26, Tryz.ntmps26
  go_wp2_with (first
    | (go_at_call 27; (with_reducible refine (kO.out _).mono ?_); rintro e w' ⟨rfl, e1, rfl⟩)
    | (go_at_call 60; (with_reducible refine (k2.out _).mono ?_); rintro e w' ⟨rfl, e2, rfl⟩)
    | (go_at_call 60; (with_reducible refine (k3.out _).mono ?_); rintro e w' ⟨rfl, e3, rfl⟩)
    | (go_at_call 61; (with_reducible refine (k4.out _ (by (repeat (first | exact Plus.refl _ | apply Plus.plus | apply Plus.alloc | apply Plus.drew)))).mono ?_); rintro e w' ⟨rfl, e4, rfl⟩)
    | (go_at_call 63; (with_reducible refine (k5.out _ (by (repeat (first | exact Plus.refl _ | apply Plus.plus | apply Plus.alloc | apply Plus.drew)))).mono ?_); rintro e w' ⟨rfl, e5, rfl⟩)
    | (go_at_call 65; (with_reducible refine (k6.out _ (by (repeat (first | exact Plus.refl _ | apply Plus.plus | apply Plus.alloc | apply Plus.drew)))).mono ?_); rintro e w' ⟨rfl, e6, rfl⟩))
  go_ret
  exact ⟨rfl, by (repeat (first | exact Plus.refl _ | apply Plus.plus | apply Plus.alloc | apply Plus.drew))⟩
theorem checkCore_seven (kO : ∀ w, Calls Tryz.prog 27 #[nI k] w fun e w' => e = .returned (.tuple #[fldV ft fn fc fb fi, .bool true]) ∧ w.Plus w') (k2 : ∀ w, Calls Tryz.prog 60 #[.bool ft, nI t] w fun e w' => e = .returned (.bool true) ∧ w.Plus w') (k3 : ∀ w, Calls Tryz.prog 60 #[.bool fn, nI n] w fun e w' => e = .returned (.bool true) ∧ w.Plus w') (k4 : ∀ w, W.Plus w → Calls Tryz.prog 61 #[.bool fc, .slice Ac Lc cc, nI 64, .func (.func 62) #[] #[]] w fun e w' => e = .returned (.bool true) ∧ w.Plus w') (k5 : ∀ w, W.Plus w → Calls Tryz.prog 63 #[.bool fb, .slice Ab Lb cb, nI 1024, .func (.func 64) #[] #[]] w fun e w' => e = .returned (.bool true) ∧ w.Plus w') (k6 : ∀ w, W.Plus w → Calls Tryz.prog 65 #[.bool fi, .slice Ai Li ci, nI 1024, .func (.func 66) #[] #[]] w fun e w' => e = .returned (.bool true) ∧ w.Plus w') (h7 : (k == 7) = true) (hl : ((Lb : Int) == 1) = true) : Calls Tryz.prog 26 #[msgV k t n (.slice Ac Lc cc) (.slice Ab Lb cb) (.slice Ai Li ci)] W fun e w' => e = .returned (nI 0) ∧ W.Plus w' := by
  replace kO := Lib.hid kO
  replace k2 := Lib.hid k2
  replace k3 := Lib.hid k3
  replace k4 := Lib.hid k4
  replace k5 := Lib.hid k5
  replace k6 := Lib.hid k6
  go_enter Tryz.func26, Tryz.ntmps26
  go_wp2_with (first
    | (go_at_call 27; (with_reducible refine (kO.out _).mono ?_); rintro e w' ⟨rfl, e1, rfl⟩)
    | (go_at_call 60; (with_reducible refine (k2.out _).mono ?_); rintro e w' ⟨rfl, e2, rfl⟩)
    | (go_at_call 60; (with_reducible refine (k3.out _).mono ?_); rintro e w' ⟨rfl, e3, rfl⟩)
    | (go_at_call 61; (with_reducible refine (k4.out _ (by (repeat (first | exact Plus.refl _ | apply Plus.plus | apply Plus.alloc | apply Plus.drew)))).mono ?_); rintro e w' ⟨rfl, e4, rfl⟩)
    | (go_at_call 63; (with_reducible refine (k5.out _ (by (repeat (first | exact Plus.refl _ | apply Plus.plus | apply Plus.alloc | apply Plus.drew)))).mono ?_); rintro e w' ⟨rfl, e5, rfl⟩)
    | (go_at_call 65; (with_reducible refine (k6.out _ (by (repeat (first | exact Plus.refl _ | apply Plus.plus | apply Plus.alloc | apply Plus.drew)))).mono ?_); rintro e w' ⟨rfl, e6, rfl⟩))
  go_ret
  exact ⟨rfl, by (repeat (first | exact Plus.refl _ | apply Plus.plus | apply Plus.alloc | apply Plus.drew))⟩
theorem checkCore_sevenNo (kO : ∀ w, Calls Tryz.prog 27 #[nI k] w fun e w' => e = .returned (.tuple #[fldV ft fn fc fb fi, .bool true]) ∧ w.Plus w') (k2 : ∀ w, Calls Tryz.prog 60 #[.bool ft, nI t] w fun e w' => e = .returned (.bool true) ∧ w.Plus w') (k3 : ∀ w, Calls Tryz.prog 60 #[.bool fn, nI n] w fun e w' => e = .returned (.bool true) ∧ w.Plus w') (k4 : ∀ w, W.Plus w → Calls Tryz.prog 61 #[.bool fc, .slice Ac Lc cc, nI 64, .func (.func 62) #[] #[]] w fun e w' => e = .returned (.bool true) ∧ w.Plus w') (k5 : ∀ w, W.Plus w → Calls Tryz.prog 63 #[.bool fb, .slice Ab Lb cb, nI 1024, .func (.func 64) #[] #[]] w fun e w' => e = .returned (.bool true) ∧ w.Plus w') (k6 : ∀ w, W.Plus w → Calls Tryz.prog 65 #[.bool fi, .slice Ai Li ci, nI 1024, .func (.func 66) #[] #[]] w fun e w' => e = .returned (.bool true) ∧ w.Plus w') (h7 : (k == 7) = true) (hl : ((Lb : Int) == 1) = false) : Calls Tryz.prog 26 #[msgV k t n (.slice Ac Lc cc) (.slice Ab Lb cb) (.slice Ai Li ci)] W fun e w' => e = .returned (nI 1) ∧ W.Plus w' := by
  replace kO := Lib.hid kO
  replace k2 := Lib.hid k2
  replace k3 := Lib.hid k3
  replace k4 := Lib.hid k4
  replace k5 := Lib.hid k5
  replace k6 := Lib.hid k6
  go_enter Tryz.func26, Tryz.ntmps26
  go_wp2_with (first
    | (go_at_call 27; (with_reducible refine (kO.out _).mono ?_); rintro e w' ⟨rfl, e1, rfl⟩)
    | (go_at_call 60; (with_reducible refine (k2.out _).mono ?_); rintro e w' ⟨rfl, e2, rfl⟩)
    | (go_at_call 60; (with_reducible refine (k3.out _).mono ?_); rintro e w' ⟨rfl, e3, rfl⟩)
    | (go_at_call 61; (with_reducible refine (k4.out _ (by (repeat (first | exact Plus.refl _ | apply Plus.plus | apply Plus.alloc | apply Plus.drew)))).mono ?_); rintro e w' ⟨rfl, e4, rfl⟩)
    | (go_at_call 63; (with_reducible refine (k5.out _ (by (repeat (first | exact Plus.refl _ | apply Plus.plus | apply Plus.alloc | apply Plus.drew)))).mono ?_); rintro e w' ⟨rfl, e5, rfl⟩)
    | (go_at_call 65; (with_reducible refine (k6.out _ (by (repeat (first | exact Plus.refl _ | apply Plus.plus | apply Plus.alloc | apply Plus.drew)))).mono ?_); rintro e w' ⟨rfl, e6, rfl⟩))
  go_ret
  exact ⟨rfl, by (repeat (first | exact Plus.refl _ | apply Plus.plus | apply Plus.alloc | apply Plus.drew))⟩
end
theorem checkMsg_any (m : MsgR) (a : MAt) (W : World) (h : MRows W m a) : Calls Tryz.prog 26 #[mV m a] W fun e w' => e = .returned (nI (if okM m then 0 else 1)) ∧ W.Plus w' := by
  have kO := fun w => of_any m.kind w
  have k2 := fun w => number_any (fT m.kind) m.t w
  have k3 := fun w => number_any (fN m.kind) m.n w
  have k4 := fun w (p : W.Plus w) => allC_any (fC m.kind) m.cs 64 64 rfl (by decide) a.Ac a.cc w (h.c.plus p)
  have k5 := fun w (p : W.Plus w) => allB_any (fB m.kind) m.bs 1024 1024 rfl (by decide) a.Ab a.cb w (h.b.plus p)
  have k6 := fun w (p : W.Plus w) => allI_any (fI m.kind) m.is 1024 1024 rfl (by decide) a.Ai a.ci w (h.i.plus p)
  cases h1 : fK m.kind with
  | false =>
    have e : okM m = false := by unfold okM; rw [h1]; simp
    rw [e]
    rw [h1] at kO
    simp only [Bool.false_eq_true, if_false]
    exact checkCore_n1 _ _ _ _ _ _ _ _ _ _ _ _ _ _ _ _ _ W kO
  | true =>
  rw [h1] at kO
  cases h2 : numB (fT m.kind) m.t with
  | false =>
    have e : okM m = false := by unfold okM; rw [h1, h2]; simp
    rw [e]
    rw [h2] at k2
    simp only [Bool.false_eq_true, if_false]
    exact checkCore_n2 _ _ _ _ _ _ _ _ _ _ _ _ _ _ _ _ _ W kO k2
  | true =>
  rw [h2] at k2
  cases h3 : numB (fN m.kind) m.n with
  | false =>
    have e : okM m = false := by unfold okM; rw [h1, h2, h3]; simp
    rw [e]
    rw [h3] at k3
    simp only [Bool.false_eq_true, if_false]
    exact checkCore_n3 _ _ _ _ _ _ _ _ _ _ _ _ _ _ _ _ _ W kO k2 k3
  | true =>
  rw [h3] at k3
  cases h4 : allB okC (fC m.kind) m.cs 64 with
  | false =>
    have e : okM m = false := by unfold okM; rw [h1, h2, h3, h4]; simp
    rw [e]
    rw [h4] at k4
    simp only [Bool.false_eq_true, if_false]
    exact checkCore_n4 _ _ _ _ _ _ _ _ _ _ _ _ _ _ _ _ _ W kO k2 k3 k4
  | true =>
  rw [h4] at k4
  cases h5 : allB okB (fB m.kind) m.bs 1024 with
  | false =>
    have e : okM m = false := by unfold okM; rw [h1, h2, h3, h4, h5]; simp
    rw [e]
    rw [h5] at k5
    simp only [Bool.false_eq_true, if_false]
    exact checkCore_n5 _ _ _ _ _ _ _ _ _ _ _ _ _ _ _ _ _ W kO k2 k3 k4 k5
  | true =>
  rw [h5] at k5
  cases h6 : allB idB (fI m.kind) m.is 1024 with
  | false =>
    have e : okM m = false := by unfold okM; rw [h1, h2, h3, h4, h5, h6]; simp
    rw [e]
    rw [h6] at k6
    simp only [Bool.false_eq_true, if_false]
    exact checkCore_n6 _ _ _ _ _ _ _ _ _ _ _ _ _ _ _ _ _ W kO k2 k3 k4 k5 k6
  | true =>
  rw [h6] at k6
  have e : okM m = !(decide (m.kind = 7) && decide (m.bs.length ≠ 1)) := by unfold okM; rw [h1, h2, h3, h4, h5, h6]; simp
  by_cases h7 : m.kind = 7
  · by_cases h8 : m.bs.length = 1
    · have := checkCore_seven m.kind m.t m.n m.cs.length m.bs.length m.is.length a.Ac a.Ab a.Ai a.cc a.cb a.ci _ _ _ _ _ W kO k2 k3 k4 k5 k6 (by simpa using h7) (by rw [h8]; rfl)
      have e2 : okM m = true := by rw [e]; simp [h7, h8]
      rw [e2]
      simp only [if_true]
      exact this
    · have := checkCore_sevenNo m.kind m.t m.n m.cs.length m.bs.length m.is.length a.Ac a.Ab a.Ai a.cc a.cb a.ci _ _ _ _ _ W kO k2 k3 k4 k5 k6 (by simpa using h7) (by rw [beq_eq_false_iff_ne]; omega)
      have e2 : okM m = false := by rw [e]; simp [h7, h8]
      rw [e2]
      simp only [Bool.false_eq_true, if_false]
      exact this
  · have := checkCore_ok m.kind m.t m.n m.cs.length m.bs.length m.is.length a.Ac a.Ab a.Ai a.cc a.cb a.ci _ _ _ _ _ W kO k2 k3 k4 k5 k6 (by rw [beq_eq_false_iff_ne]; exact h7)
    have e2 : okM m = true := by rw [e]; simp [h7]
    rw [e2]
    simp only [if_true]
    exact this
/-- has a message more than is looked at? -/
def longM (m : MsgR) : Bool := decide (1100 < m.cs.length) || decide (1100 < m.bs.length) || decide (1100 < m.is.length)
end Go.Proofs.YtpdlgflbcgemnaaGreatDoor
