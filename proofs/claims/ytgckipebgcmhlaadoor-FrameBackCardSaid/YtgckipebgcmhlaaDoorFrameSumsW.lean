/- FrameSums: walk. -/
import Derived.Test.YtgckipebgcmhlaaDoorSame
set_option linter.unusedSimpArgs false
set_option linter.unusedVariables false
namespace Go.Proofs.YtgckipebgcmhlaaDoor
open Go.RowKit
open Go.Crc hiding step
/-- the bytes of the first k strings -/
def upto (xs : List ByteArray) (k : Nat) : Nat := (allBytes (xs.take k)).length
theorem upto_next (xs : List ByteArray) (k : Nat) (h : k < xs.length) : upto xs (k + 1) = upto xs k + (xs.getD k ByteArray.empty).size := by
  unfold upto
  rw [allBytes_take xs k h, List.length_append, bytes_length]
theorem upto_mono (xs : List ByteArray) (k : Nat) (h : k ≤ xs.length) : upto xs k ≤ upto xs xs.length := by
  unfold upto
  rw [List.take_length]
  conv => rhs; rw [← List.take_append_drop k xs]
  unfold allBytes
  rw [List.flatMap_append, List.length_append]
  exact Nat.le_add_right _ _
def isLong (xs : List ByteArray) : Bool := decide (50 < xs.length) || decide (100000 < upto xs xs.length)
theorem long_any (xs : List ByteArray) (A : Option Addr) (c : Nat) (w : World) (hn : xs.length ≤ 140737488351232) (hr : RowsAt w A 1 xs.length (strAt xs)) (hs : ∀ k, (xs.getD k ByteArray.empty).size ≤ 140737488351232) :
    Calls Tryd.prog 9 #[.slice A xs.length c] w fun e w' => e = .returned (.bool (isLong xs)) ∧ w.Plus w' := by
  by_cases hl : 50 < xs.length
  · have hl2 : (50 : Int) < xs.length := by omega
    have hL : isLong xs = true := by simp [isLong, hl]
    rw [hL]
    go_enter Tryd.func9, Tryd.ntmps9
    go_wp2_with fail
    go_ret
    exact ⟨rfl, by (repeat (first | exact Plus.refl _ | apply Plus.plus | apply Plus.alloc | apply Plus.drew))⟩
  · have hl2 : ¬ (50 : Int) < xs.length := by omega
    go_enter Tryd.func9, Tryd.ntmps9
    go_wp2
    go_loopw [3, 4] (fun n i wr => ∃ k : Nat, k ≤ xs.length ∧ i = .int .i64 k ∧ n = .int .i64 (upto xs k) ∧ upto xs k ≤ 100000 ∧ w.Plus wr) (fun _ i _ => xs.length - (intOf i).toNat)
    case atStart => exact ⟨0, Nat.zero_le _, rfl, rfl, Nat.zero_le _, by (repeat (first | exact Plus.refl _ | apply Plus.plus | apply Plus.alloc | apply Plus.drew))⟩
    case round =>
      obtain ⟨k, hk, rfl, rfl, hu, e, rfl⟩ := hrel
      by_cases hlt : k < xs.length
      · obtain ⟨b1, o1, rfl, hb1, hc1⟩ := hr (by omega)
        haveI : InW b1 w := ⟨hb1⟩
        have c1 := hc1 k 0 hlt (by omega)
        clear hc1 hr
        unfold strAt at c1
        simp only [Nat.add_zero, Nat.mul_one] at c1
        have hsk := hs k
        have hnx := upto_next xs k hlt
        have hmx := upto_mono xs (k + 1) hlt
        generalize xs.getD k ByteArray.empty = y at c1 hsk hnx
        generalize upto xs k = n at hu hnx
        by_cases hbig : 100000 < n + y.size
        · have hbig2 : (100000 : Int) < n + y.size := by omega
          have hL : isLong xs = true := by simp [isLong]; omega
          replace hnx := Lib.hid hnx
          replace hmx := Lib.hid hmx
          replace hL := Lib.hid hL
          go_wp2
          go_ret
          exact ⟨by simp [hL.out, Array.getD], by (repeat (first | exact Plus.refl _ | apply Plus.plus | apply Plus.alloc | apply Plus.drew))⟩
        · have hbig2 : ¬ (100000 : Int) < n + y.size := by omega
          replace hnx := Lib.hid hnx
          replace hmx := Lib.hid hmx
          go_wp2
          go_roundw
          case rel => exact ⟨k + 1, hlt, by simp, by rw [hnx.out]; simp, by rw [hnx.out]; omega, by (repeat (first | exact Plus.refl _ | apply Plus.plus | apply Plus.alloc | apply Plus.drew))⟩
          case measure => simp [intOf]; omega
      · have hke : k = xs.length := by omega
        subst hke
        have hL : isLong xs = false := by simp [isLong]; omega
        replace hL := Lib.hid hL
        generalize upto xs xs.length = n at hu
        go_wp2
        go_ret
        exact ⟨by simp [hL.out, Array.getD], by (repeat (first | exact Plus.refl _ | apply Plus.plus | apply Plus.alloc | apply Plus.drew))⟩
theorem not_long {xs : List ByteArray} (h : ¬ isLong xs = true) : xs.length ≤ 50 ∧ upto xs xs.length ≤ 100000 := by
  simp [isLong] at h
  omega
theorem frameSums_walk (xs : List ByteArray) (A : Option Addr) (c : Nat) (w : World) (hT : Nib w) (hn : xs.length ≤ 140737488351232) (hr : RowsAt w A 1 xs.length (strAt xs)) (hs : ∀ k, (xs.getD k ByteArray.empty).size ≤ 140737488351232) :
    Calls Tryd.prog 3 #[.slice A xs.length c] w fun e w' => e = .returned (.bool true) ∧ w.Plus w' := by
  have hL := fun w hr => long_any xs A c w hn hr hs
  by_cases hl : isLong xs = true
  · rw [hl] at hL
    go_enter Tryd.func3, Tryd.ntmps3
    go_wp2_with (first | (go_at_call 9; (with_reducible refine (hL _ (hr.plus (by (repeat (first | exact Plus.refl _ | apply Plus.plus | apply Plus.alloc | apply Plus.drew))))).mono ?_); rintro e w' ⟨rfl, ey, rfl⟩) | (go_at_call 10; (with_reducible refine (awake_any _ (hT.plus (by (repeat (first | exact Plus.refl _ | apply Plus.plus | apply Plus.alloc | apply Plus.drew))))).mono ?_); rintro e w' ⟨rfl, ey, rfl⟩))
    go_ret
    exact ⟨rfl, by (repeat (first | exact Plus.refl _ | apply Plus.plus | apply Plus.alloc | apply Plus.drew))⟩
  · have hb := not_long hl
    rw [show isLong xs = false by simpa using hl] at hL
    have hS := fun w hr hT => sum_any xs A c w (by omega) hr hT hs
    have hall : (allBytes xs).length ≤ 100000 := by
      have := hb.2
      unfold upto at this
      rwa [List.take_length] at this
    have hsum := sum_lt (allBytes xs)
    have hbt := bytes_txt (allBytes xs)
    have hts : (txt (allBytes xs)).size ≤ 100000 := by rw [txt_size]; exact hall
    have hR := fun w => refsum (txt (allBytes xs)) w (by omega)
    have hO := fun b c w hT hb h0 => sum_one (txt (allBytes xs)) b c w hT (by omega) hb h0
    rw [hbt] at hR hO
    clear hl hsum
    replace hb := Lib.hid hb
    replace hall := Lib.hid hall
    go_enter Tryd.func3, Tryd.ntmps3
    go_wp2_with (first | (go_at_call 9; (with_reducible refine (hL _ (hr.plus (by (repeat (first | exact Plus.refl _ | apply Plus.plus | apply Plus.alloc | apply Plus.drew))))).mono ?_); rintro e w' ⟨rfl, ey, rfl⟩) | (go_at_call 10; (with_reducible refine (awake_any _ (hT.plus (by (repeat (first | exact Plus.refl _ | apply Plus.plus | apply Plus.alloc | apply Plus.drew))))).mono ?_); rintro e w' ⟨rfl, ey, rfl⟩))
    clear hL
    go_loopw [3, 4] (fun t i wr => ∃ k : Nat, k ≤ xs.length ∧ i = .int .i64 k ∧ t = .string (txt (allBytes (xs.take k))) ∧ w.Plus wr) (fun _ i _ => xs.length - (intOf i).toNat)
    case atStart => exact ⟨0, Nat.zero_le _, rfl, rfl, by (repeat (first | exact Plus.refl _ | apply Plus.plus | apply Plus.alloc | apply Plus.drew))⟩
    case round =>
      obtain ⟨k, hk, rfl, rfl, e, rfl⟩ := hrel
      by_cases hlt : k < xs.length
      · obtain ⟨b1, o1, rfl, hb1, hc1⟩ := hr (by omega)
        haveI : InW b1 w := ⟨hb1⟩
        have c1 := hc1 k 0 hlt (by omega)
        clear hc1 hr hS
        unfold strAt at c1
        simp only [Nat.add_zero, Nat.mul_one] at c1
        have hnx := allBytes_take xs k hlt
        have hup : (allBytes (xs.take (k + 1))).length ≤ 100000 := by
          have h1 := upto_mono xs (k + 1) hlt
          have h2 := hb.out.2
          unfold upto at h1 h2
          omega
        rw [hnx, List.length_append, bytes_length] at hup
        generalize xs.getD k ByteArray.empty = y at c1 hup hnx
        have hzz : (txt (allBytes (xs.take k))).size + y.size ≤ 100000 := by rw [txt_size]; exact hup
        generalize allBytes (xs.take k) = B at hzz hnx hup
        clear hup
        replace hnx := Lib.hid hnx
        go_wp2
        go_roundw
        case rel => exact ⟨k + 1, hlt, by simp, by rw [hnx.out, ← txt_append]; rfl, by (repeat (first | exact Plus.refl _ | apply Plus.plus | apply Plus.alloc | apply Plus.drew))⟩
        case measure => simp [intOf]; omega
      · have hke : k = xs.length := by omega
        subst hke
        rw [List.take_length]
        generalize txt (allBytes xs) = t at hts hR hO
        generalize sum (allBytes xs) = m at hS hR hO
        go_wp2_with (first | (go_at_call 11; (with_reducible refine (hS _ (hr.plus (by (repeat (first | exact Plus.refl _ | apply Plus.plus | apply Plus.alloc | apply Plus.drew)))) (hT.plus (by (repeat (first | exact Plus.refl _ | apply Plus.plus | apply Plus.alloc | apply Plus.drew))))).mono ?_); rintro e w' ⟨rfl, e1, rfl⟩) | (go_at_call 11; (with_reducible refine (hO _ _ _ (hT.plus (by (repeat (first | exact Plus.refl _ | apply Plus.plus | apply Plus.alloc | apply Plus.drew)))) (by simp [go_sem]) (by simp [go_sem])).mono ?_); rintro e w' ⟨rfl, e2, rfl⟩) | (go_at_call 12; (with_reducible refine (hR _).mono ?_); rintro e w' ⟨rfl, e3, rfl⟩) | (go_at_call 10; (with_reducible refine (awake_any _ (hT.plus (by (repeat (first | exact Plus.refl _ | apply Plus.plus | apply Plus.alloc | apply Plus.drew))))).mono ?_); rintro e w' ⟨rfl, ey, rfl⟩))
        go_ret
        exact ⟨rfl, by (repeat (first | exact Plus.refl _ | apply Plus.plus | apply Plus.alloc | apply Plus.drew))⟩
end Go.Proofs.YtgckipebgcmhlaaDoor
