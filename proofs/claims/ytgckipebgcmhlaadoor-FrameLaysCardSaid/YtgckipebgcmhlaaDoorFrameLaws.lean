/- the frame laws: walks. -/
import Derived.Test.YtgckipebgcmhlaaDoorAwake
set_option linter.unusedSimpArgs false
set_option linter.unusedVariables false
namespace Go.Proofs.YtgckipebgcmhlaaDoor
open Go.RowKit
open Go.Crc hiding step
theorem frameReads_walk (s : ByteArray) (i : Int) (w : World) (hT : Nib w) (hs : s.size ≤ 140737488351232) :
    Calls Tryd.prog 5 #[.string s, .int .i64 i] w fun e w' => e = .returned (.bool true) ∧ w.Plus w' := by
  by_cases hl : 100000 < s.size
  · go_enter Tryd.func5, Tryd.ntmps5
    have hl2 : (100000 : Int) < s.size := by omega
    go_wp2_with (first | (go_at_call 10; (with_reducible refine (awake_any _ (hT.plus (by (repeat (first | exact Plus.refl _ | apply Plus.plus | apply Plus.alloc | apply Plus.drew))))).mono ?_); rintro e w' ⟨rfl, ey, rfl⟩))
    go_ret
    exact ⟨rfl, by (repeat (first | exact Plus.refl _ | apply Plus.plus | apply Plus.alloc | apply Plus.drew))⟩
  · have hl2 : ¬ (100000 : Int) < s.size := by omega
    have hF : ∃ (y : ByteArray) (n k : Int), (∀ w, Nib w → Calls Tryd.prog 15 #[.string s, .int .i64 i] w fun e w' => e = .returned (.tuple #[.string y, .int .i64 n, .int .i64 k]) ∧ w.Plus w') ∧
        (∀ w, Calls Tryd.prog 16 #[.string s, .int .i64 i] w fun e w' => e = .returned (.tuple #[.string y, .int .i64 n, .int .i64 k]) ∧ w.Plus w') := by
      by_cases hi : i < 0 ∨ (s.size : Int) < i
      · exact ⟨_, _, _, fun w hT => first_out s i w (by omega) hi, fun w => ref_first_out s i w (by omega) hi⟩
      · obtain ⟨a, rfl⟩ : ∃ a : Nat, i = a := ⟨i.toNat, by omega⟩
        have hshape : ∃ (y : ByteArray) (n k : Int), firstV s a = .tuple #[.string y, .int .i64 n, .int .i64 k] := by
          unfold firstV
          split
          · exact ⟨_, _, _, rfl⟩
          · exact ⟨_, _, _, rfl⟩
        obtain ⟨y, n, k, hV⟩ := hshape
        exact ⟨y, n, k, fun w hT => hV ▸ first_any s a w hT (by omega) (by omega), fun w => hV ▸ ref_first_any s a w (by omega) (by omega)⟩
    obtain ⟨y, n, k, h1, h2⟩ := hF
    go_enter Tryd.func5, Tryd.ntmps5
    go_wp2_with (first | (go_at_call 15; (with_reducible refine (h1 _ (hT.plus (by (repeat (first | exact Plus.refl _ | apply Plus.plus | apply Plus.alloc | apply Plus.drew))))).mono ?_); rintro e w' ⟨rfl, ey, rfl⟩) | (go_at_call 16; (with_reducible refine (h2 _).mono ?_); rintro e w' ⟨rfl, ey, rfl⟩) | (go_at_call 10; (with_reducible refine (awake_any _ (hT.plus (by (repeat (first | exact Plus.refl _ | apply Plus.plus | apply Plus.alloc | apply Plus.drew))))).mono ?_); rintro e w' ⟨rfl, ey, rfl⟩))
    go_ret
    exact ⟨rfl, by (repeat (first | exact Plus.refl _ | apply Plus.plus | apply Plus.alloc | apply Plus.drew))⟩
theorem frameLays_walk (s : ByteArray) (w : World) (hT : Nib w) (hs : s.size ≤ 140737488351232) :
    Calls Tryd.prog 4 #[.string s] w fun e w' => e = .returned (.bool true) ∧ w.Plus w' := by
  by_cases hl : 100000 < s.size
  · have h1 := fun w => frame_long s w hs (by omega)
    go_enter Tryd.func4, Tryd.ntmps4
    have hl2 : (100000 : Int) < s.size := by omega
    go_wp2_with (first | (go_at_call 13; (with_reducible refine (h1 _).mono ?_); rintro e w' ⟨rfl, ey, rfl⟩) | (go_at_call 10; (with_reducible refine (awake_any _ (hT.plus (by (repeat (first | exact Plus.refl _ | apply Plus.plus | apply Plus.alloc | apply Plus.drew))))).mono ?_); rintro e w' ⟨rfl, ey, rfl⟩))
    go_ret
    exact ⟨rfl, by (repeat (first | exact Plus.refl _ | apply Plus.plus | apply Plus.alloc | apply Plus.drew))⟩
  · have hl2 : ¬ (100000 : Int) < s.size := by omega
    have hF : ∃ (y : ByteArray) (k : Int), (∀ w, Nib w → Calls Tryd.prog 13 #[.string s] w fun e w' => e = .returned (.tuple #[.string y, .int .i64 k]) ∧ w.Plus w') ∧
        (∀ w, Calls Tryd.prog 14 #[.string s] w fun e w' => e = .returned (.tuple #[.string y, .int .i64 k]) ∧ w.Plus w') := by
      by_cases h6 : s.size ≤ 65536
      · exact ⟨_, _, fun w hT => frame_short s w hT h6, fun w => ref_frame_short s w h6⟩
      · exact ⟨_, _, fun w hT => frame_long s w hs (by omega), fun w => ref_frame_long s w hs (by omega)⟩
    obtain ⟨y, k, h1, h2⟩ := hF
    go_enter Tryd.func4, Tryd.ntmps4
    go_wp2_with (first | (go_at_call 13; (with_reducible refine (h1 _ (hT.plus (by (repeat (first | exact Plus.refl _ | apply Plus.plus | apply Plus.alloc | apply Plus.drew))))).mono ?_); rintro e w' ⟨rfl, ey, rfl⟩) | (go_at_call 14; (with_reducible refine (h2 _).mono ?_); rintro e w' ⟨rfl, ey, rfl⟩) | (go_at_call 10; (with_reducible refine (awake_any _ (hT.plus (by (repeat (first | exact Plus.refl _ | apply Plus.plus | apply Plus.alloc | apply Plus.drew))))).mono ?_); rintro e w' ⟨rfl, ey, rfl⟩))
    go_ret
    exact ⟨rfl, by (repeat (first | exact Plus.refl _ | apply Plus.plus | apply Plus.alloc | apply Plus.drew))⟩
end Go.Proofs.YtgckipebgcmhlaaDoor
