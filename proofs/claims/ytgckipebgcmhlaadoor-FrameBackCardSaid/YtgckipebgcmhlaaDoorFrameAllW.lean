/- FrameAll: walk. -/
import Derived.Test.YtgckipebgcmhlaaDoorSame
set_option linter.unusedSimpArgs false
set_option linter.unusedVariables false
namespace Go.Proofs.YtgckipebgcmhlaaDoor
open Go.RowKit
open Go.Crc hiding step
theorem all_len (s : ByteArray) : (allOf s 0).1.length ≤ s.size := by
  have key : ∀ f l a, AllRel s l a → s.size - a ≤ f → (allOf s 0).1.length ≤ s.size := by
    intro f
    induction f with
    | zero =>
      intro l a h hf
      have hc : ¬ code s a = 0 := fun h => by have := code_zero h; omega
      rw [h.stop hc]
      have := h.len; have := h.le
      simp; omega
    | succ f ih =>
      intro l a h hf
      by_cases hc : code s a = 0
      · have := code_zero hc
        exact ih _ _ (h.next hc) (by omega)
      · rw [h.stop hc]
        have := h.len; have := h.le
        simp; omega
  exact key s.size [] 0 (AllRel.start s) (by omega)
theorem own_strs {w : World} {base : Nat} {v : Value} {l : List ByteArray} (h : w.ownsRow base 9 1 v l.length (l.map Value.string)) : ∃ A c, v = .slice A l.length c ∧ RowsAt w A 1 l.length (strAt l) :=
  h.rows (strAt l) (fun i hi => by simp [strAt, List.getD, hi])
theorem all_rows (s : ByteArray) (w : World) (hT : Nib w) (hs : s.size ≤ 1000000) :
    Calls Tryd.prog 17 #[.string s] w fun e w' => ∃ A c, e = .returned (.tuple #[.slice A (allOf s 0).1.length c, .int .i64 (allOf s 0).2]) ∧ RowsAt w' A 1 (allOf s 0).1.length (strAt (allOf s 0).1) ∧ w.Plus w' :=
  (all_any s w hT hs).mono fun e w' ⟨v, he, hown, hp⟩ => by
    obtain ⟨A, c, rfl, hr⟩ := own_strs hown
    exact ⟨A, c, he, hr, hp⟩
theorem ref_all_rows (s : ByteArray) (w : World) (hs : s.size ≤ 1000000) :
    Calls Tryd.prog 18 #[.string s] w fun e w' => ∃ A c, e = .returned (.tuple #[.slice A (allOf s 0).1.length c, .int .i64 (allOf s 0).2]) ∧ RowsAt w' A 1 (allOf s 0).1.length (strAt (allOf s 0).1) ∧ w.Plus w' :=
  (ref_all_any s w hs).mono fun e w' ⟨v, he, hown, hp⟩ => by
    obtain ⟨A, c, rfl, hr⟩ := own_strs hown
    exact ⟨A, c, he, hr, hp⟩
theorem frameAll_walk (s : ByteArray) (w : World) (hT : Nib w) (hs : s.size ≤ 140737488351232) :
    Calls Tryd.prog 6 #[.string s] w fun e w' => e = .returned (.bool true) ∧ w.Plus w' := by
  by_cases hl : 100000 < s.size
  · go_enter Tryd.func6, Tryd.ntmps6
    have hl2 : (100000 : Int) < s.size := by omega
    go_wp2_with (first | (go_at_call 10; (with_reducible refine (awake_any _ (hT.plus (by (repeat (first | exact Plus.refl _ | apply Plus.plus | apply Plus.alloc | apply Plus.drew))))).mono ?_); rintro e w' ⟨rfl, ey, rfl⟩))
    go_ret
    exact ⟨rfl, by (repeat (first | exact Plus.refl _ | apply Plus.plus | apply Plus.alloc | apply Plus.drew))⟩
  · have hl2 : ¬ (100000 : Int) < s.size := by omega
    have h1 := fun w hT => all_rows s w hT (by omega)
    have h2 := fun w => ref_all_rows s w (by omega)
    have h3 := all_len s
    generalize (allOf s 0).1 = l at h1 h2 h3
    generalize (allOf s 0).2 = n at h1 h2
    go_enter Tryd.func6, Tryd.ntmps6
    go_wp2_with (first | (go_at_call 17; (with_reducible refine (h1 _ (hT.plus (by (repeat (first | exact Plus.refl _ | apply Plus.plus | apply Plus.alloc | apply Plus.drew))))).mono ?_); rintro e w' ⟨A, c, rfl, hr1, e1, rfl⟩) | (go_at_call 18; (with_reducible refine (h2 _).mono ?_); rintro e w' ⟨B, d, rfl, hr2, e2, rfl⟩) | (go_at_call 19; (with_reducible refine (same_eq l _ _ _ _ _ (by omega) (hr1.plus (by (repeat (first | exact Plus.refl _ | apply Plus.plus | apply Plus.alloc | apply Plus.drew)))) (hr2.plus (by (repeat (first | exact Plus.refl _ | apply Plus.plus | apply Plus.alloc | apply Plus.drew))))).mono ?_); rintro e w' ⟨rfl, e3, rfl⟩) | (go_at_call 10; (with_reducible refine (awake_any _ (hT.plus (by (repeat (first | exact Plus.refl _ | apply Plus.plus | apply Plus.alloc | apply Plus.drew))))).mono ?_); rintro e w' ⟨rfl, ey, rfl⟩))
    go_ret
    exact ⟨rfl, by (repeat (first | exact Plus.refl _ | apply Plus.plus | apply Plus.alloc | apply Plus.drew))⟩
end Go.Proofs.YtgckipebgcmhlaaDoor
