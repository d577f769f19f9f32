/- the laws' helpers: awake, same, long. -/
import Derived.Test.YtgckipebgcmhlaaDoorAll
set_option linter.unusedSimpArgs false
set_option linter.unusedVariables false
namespace Go.Proofs.YtgckipebgcmhlaaDoor
open Go.RowKit
open Go.Crc hiding step
theorem ab_first : firstV (txt (framed [97, 98])) 0 = .tuple #[.string (txt [97, 98]), .int .i64 9, .int .i64 0] := by
  have hc : code (txt (framed [97, 98])) 0 = 0 := by decide +kernel
  have hn : num (txt (framed [97, 98])) 0 = 2 := by decide +kernel
  have hp : part (txt (framed [97, 98])) 3 2 = [97, 98] := by decide +kernel
  unfold firstV
  rw [if_pos hc, hn, hp]
  rfl
theorem ab_all : (allOf (txt (framed [97, 98] ++ framed [97, 98] ++ [120])) 0).1.length = 2 ∧ (allOf (txt (framed [97, 98] ++ framed [97, 98] ++ [120])) 0).2 = 18 := by decide +kernel
theorem ab_sum : sum ([49, 50, 51, 52] ++ [53, 54, 55, 56, 57]) = 3421780262 := by decide +kernel
theorem ab_len : (framed [97, 98]).length = 9 := by decide +kernel
theorem awake_any (w : World) (hT : Nib w) : Calls Tryd.prog 10 #[] w fun e w' => e = .returned (.bool true) ∧ w.Plus w' := by
  have hFr : ∀ (w : World), Nib w → Calls Tryd.prog 13 #[.string ⟨#[97, 98]⟩] w fun e w' => e = .returned (.tuple #[.string (txt (framed [97, 98])), .int .i64 0]) ∧ w.Plus w' := fun w hT => frame_short ⟨#[97, 98]⟩ w hT (by decide)
  have hsz : (txt (framed [97, 98])).size = 9 := by rw [txt_size, ab_len]
  have hFi : ∀ (w : World), Nib w → Calls Tryd.prog 15 #[.string (txt (framed [97, 98])), .int .i64 0] w fun e w' => e = .returned (.tuple #[.string (txt [97, 98]), .int .i64 9, .int .i64 0]) ∧ w.Plus w' := fun w hT => by
    have := first_any (txt (framed [97, 98])) 0 w hT (by omega) (Nat.zero_le _)
    rwa [ab_first] at this
  have hAl : ∀ (w : World), Nib w → Calls Tryd.prog 17 #[.string (txt (framed [97, 98]) ++ txt (framed [97, 98]) ++ ⟨#[120]⟩)] w fun e w' => ∃ A c, e = .returned (.tuple #[.slice A 2 c, .int .i64 18]) ∧ w.Plus w' := fun w hT => by
    have e1 : txt (framed [97, 98]) ++ txt (framed [97, 98]) ++ ⟨#[120]⟩ = txt (framed [97, 98] ++ framed [97, 98] ++ [120]) := by rw [← txt_append, ← txt_append]; rfl
    rw [e1]
    refine (all_any _ w hT (by rw [txt_size]; simp [ab_len])).mono ?_
    rintro e w' ⟨v, rfl, hown, hp⟩
    obtain ⟨A, c, rfl, _⟩ := hown.rows (fun i _ => (((allOf (txt (framed [97, 98] ++ framed [97, 98] ++ [120])) 0).1.map Value.string).getD i (.bool true))) (fun i hi => by
      rw [List.getD_eq_getElem?_getD, List.getElem?_eq_getElem (by simpa using hi)]; rfl)
    rw [ab_all.1, ab_all.2]
    exact ⟨A, c, rfl, hp⟩
  have hs1 : ∀ (b c : Nat) (w : World), Nib w → b < w.heap.size → w.cell? ⟨b, 0, none⟩ = some (.string ⟨#[49, 50, 51, 52]⟩) → w.cell? ⟨b, 1, none⟩ = some (.string ⟨#[53, 54, 55, 56, 57]⟩) →
      Calls Tryd.prog 11 #[.slice (some ⟨b, 0, none⟩) 2 c] w fun e w' => e = .returned (.int .u32 3421780262) ∧ w.Plus w' := fun b c w hT hb h0 h1 => by
    have := sum_two ⟨#[49, 50, 51, 52]⟩ ⟨#[53, 54, 55, 56, 57]⟩ b c w hT (by decide) (by decide) hb h0 h1
    have e : bytes ⟨#[49, 50, 51, 52]⟩ ++ bytes ⟨#[53, 54, 55, 56, 57]⟩ = [49, 50, 51, 52] ++ [53, 54, 55, 56, 57] := rfl
    rw [e, ab_sum] at this
    exact this
  generalize txt (framed [97, 98]) = f at *
  have htx : txt [97, 98] = ⟨#[97, 98]⟩ := rfl
  rw [htx] at hFi
  go_enter Tryd.func10, Tryd.ntmps10
  go_wp2_with (first
    | (go_at_call 13; (with_reducible refine (hFr _ (hT.plus (by (repeat (first | exact Plus.refl _ | apply Plus.plus | apply Plus.alloc | apply Plus.drew))))).mono ?_); rintro e w' ⟨rfl, e1, rfl⟩)
    | (go_at_call 15; (with_reducible refine (hFi _ (hT.plus (by (repeat (first | exact Plus.refl _ | apply Plus.plus | apply Plus.alloc | apply Plus.drew))))).mono ?_); rintro e w' ⟨rfl, e2, rfl⟩)
    | (go_at_call 17; (with_reducible refine (hAl _ (hT.plus (by (repeat (first | exact Plus.refl _ | apply Plus.plus | apply Plus.alloc | apply Plus.drew))))).mono ?_); rintro e w' ⟨A, c, rfl, e3, rfl⟩)
    | (go_at_call 11; (with_reducible refine (hs1 _ _ _ (hT.plus (by (repeat (first | exact Plus.refl _ | apply Plus.plus | apply Plus.alloc | apply Plus.drew)))) (by simp [go_sem]) (by simp [go_sem]) (by simp [go_sem])).mono ?_); rintro e w' ⟨rfl, e4, rfl⟩)
    | fail)
  go_ret
  exact ⟨rfl, by (repeat (first | exact Plus.refl _ | apply Plus.plus | apply Plus.alloc | apply Plus.drew))⟩
end Go.Proofs.YtgckipebgcmhlaaDoor
