/- the laws' helpers over slices of texts: same, long. -/
import Derived.Test.YtgckipebgcmhlaaDoorAwake
set_option linter.unusedSimpArgs false
set_option linter.unusedVariables false
namespace Go.Proofs.YtgckipebgcmhlaaDoor
open Go.RowKit
open Go.Crc hiding step
theorem same_len (A B : Option Addr) (n m c d : Nat) (w : World) (hn : n ≤ 140737488351232) (hm : m ≤ 140737488351232) (h : n ≠ m) :
    Calls Tryd.prog 19 #[.slice A n c, .slice B m d] w fun e w' => e = .returned (.bool false) ∧ w.Plus w' := by
  have h2 : ¬ (n : Int) = m := by omega
  have h3 : ((n : Int) == m) = false := by simp; omega
  go_enter Tryd.func19, Tryd.ntmps19
  go_wp2_with fail
  go_ret
  exact ⟨rfl, by (repeat (first | exact Plus.refl _ | apply Plus.plus | apply Plus.alloc | apply Plus.drew))⟩
theorem same_eq (xs : List ByteArray) (A B : Option Addr) (c d : Nat) (w : World) (hn : xs.length ≤ 140737488351232) (ha : RowsAt w A 1 xs.length (strAt xs)) (hb : RowsAt w B 1 xs.length (strAt xs)) :
    Calls Tryd.prog 19 #[.slice A xs.length c, .slice B xs.length d] w fun e w' => e = .returned (.bool true) ∧ w.Plus w' := by
  go_enter Tryd.func19, Tryd.ntmps19
  go_wp2
  go_loopw [5] (fun i wr => ∃ k : Nat, k ≤ xs.length ∧ i = .int .i64 k ∧ w.Plus wr) (fun i _ => xs.length - (intOf i).toNat)
  case atStart => exact ⟨0, Nat.zero_le _, rfl, by (repeat (first | exact Plus.refl _ | apply Plus.plus | apply Plus.alloc | apply Plus.drew))⟩
  case round =>
    obtain ⟨k, hk, rfl, e, rfl⟩ := hrel
    by_cases hlt : k < xs.length
    · obtain ⟨b1, o1, rfl, hb1, hc1⟩ := ha (by omega)
      obtain ⟨b2, o2, rfl, hb2, hc2⟩ := hb (by omega)
      haveI : InW b1 w := ⟨hb1⟩
      haveI : InW b2 w := ⟨hb2⟩
      have c1 := hc1 k 0 hlt (by omega)
      have c2 := hc2 k 0 hlt (by omega)
      clear hc1 hc2 ha hb
      unfold strAt at c1 c2
      simp only [Nat.add_zero, Nat.mul_one] at c1 c2
      generalize xs.getD k ByteArray.empty = y at c1 c2
      go_wp2
      go_region
      go_wp2
      go_roundw
      case rel => exact ⟨k + 1, hlt, by simp, by (repeat (first | exact Plus.refl _ | apply Plus.plus | apply Plus.alloc | apply Plus.drew))⟩
      case measure => simp [intOf]; omega
    · have hke : k = xs.length := by omega
      subst hke
      go_wp2
      go_ret
      exact ⟨rfl, by (repeat (first | exact Plus.refl _ | apply Plus.plus | apply Plus.alloc | apply Plus.drew))⟩
end Go.Proofs.YtgckipebgcmhlaaDoor
