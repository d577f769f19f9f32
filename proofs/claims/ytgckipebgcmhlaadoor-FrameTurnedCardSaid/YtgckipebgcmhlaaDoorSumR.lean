/- the reference's sum: walk. -/
import Derived.Test.YtgckipebgcmhlaaDoorSum
set_option linter.unusedSimpArgs false
set_option linter.unusedVariables false
namespace Go.Proofs.YtgckipebgcmhlaaDoor
open Go.RowKit
open Go.Crc hiding step
theorem refsum (y : ByteArray) (w : World) (hsz : y.size ≤ 140737488351232) :
    Calls Tryd.prog 12 #[.string y] w fun e w' => e = .returned (.int .u32 ((sum (bytes y) : Nat) : Int)) ∧ w.Plus w' := by
  go_enter Tryd.func12, Tryd.ntmps12
  go_wp2
  go_loop [3, 4, 5, 6] (fun s i k o => ∃ n : Nat, n ≤ y.size ∧ i = .int .i64 n ∧ s = .int .u32 ((run 4294967295 ((bytes y).take n) : Nat) : Int)) (fun _ i _ _ => y.size - (intOf i).toNat)
  case atStart => exact ⟨0, Nat.zero_le _, rfl, rfl⟩
  case round =>
    obtain ⟨i, hi, rfl, rfl⟩ := hrel
    have hri : run 4294967295 ((bytes y).take i) < 4294967296 := run_lt _ (by omega)
    by_cases hlt2 : i < y.size
    · have hstep := Lib.hid (bytes_take y i hlt2)
      have hsnoc := Lib.hid (run_snoc 4294967295 ((bytes y).take i) y[i])
      generalize hS : run 4294967295 ((bytes y).take i) = S at hri
      have hy := u8_lt y[i]
      have hy2 := y[i].toNat_lt
      have e0 : ((y[i].toNat : Nat) : Int) % 4294967296 = ((y[i].toNat : Nat) : Int) := by omega
      have e1 := u32_xor_nat S y[i].toNat hri hy
      have l1 := xor_lt hri hy
      have hsb := Lib.hid (step_bits S y[i].toNat)
      generalize S ^^^ y[i].toNat = c1 at e1 l1 hsb
      replace hS := Lib.hid hS
      go_wp2
      go_loop [3, 5, 6] (fun s k o => ∃ n : Nat, n ≤ 8 ∧ k = .int .i64 n ∧ s = .int .u32 ((bitn n c1 : Nat) : Int)) (fun _ k _ => 8 - (intOf k).toNat)
      case atStart => exact ⟨0, Nat.zero_le _, rfl, rfl⟩
      case round =>
        obtain ⟨n, hn, rfl, rfl⟩ := hrel
        by_cases hn8 : n < 8
        · have l2 := bitn_lt n l1
          have hbit := Lib.hid (show bitn (n + 1) c1 = bit (bitn n c1) from rfl)
          generalize hB : bitn n c1 = B at l2
          replace hB := Lib.hid hB
          by_cases hodd : B % 2 = 1
          · have o1 : (B : Int) % 2 = 1 := by omega
            have d2 : (B : Int) / 2 = ((B / 2 : Nat) : Int) := by omega
            have e2 : bits .xor .u32 ((B / 2 : Nat) : Int) 3988292384 = (((B / 2) ^^^ 3988292384 : Nat) : Int) := u32_xor_nat (B / 2) 3988292384 (by omega) (by omega)
            have hb := Lib.hid (show bit B = (B / 2) ^^^ 3988292384 by unfold bit; rw [if_pos hodd])
            generalize B / 2 = h2 at d2 e2 hb
            generalize h2 ^^^ 3988292384 = h3 at e2 hb
            go_wp2
            go_round
            · exact ⟨n + 1, hn8, by simp, by rw [hbit.out, hB.out, hb.out]⟩
            · simp [intOf]; omega
          · have o1 : (B : Int) % 2 = 0 := by omega
            have d2 : (B : Int) / 2 = ((B / 2 : Nat) : Int) := by omega
            have hb := Lib.hid (show bit B = B / 2 by unfold bit; rw [if_neg hodd])
            generalize B / 2 = h2 at d2 hb
            go_wp2
            go_round
            · exact ⟨n + 1, hn8, by simp, by rw [hbit.out, hB.out, hb.out]⟩
            · simp [intOf]; omega
        · have : n = 8 := by omega
          subst this
          go_wp2
          go_round
          · exact ⟨i + 1, hlt2, by simp, by rw [hstep.out, hsnoc.out, hS.out, hsb.out]⟩
          · simp [intOf]; omega
    · have hie : i = y.size := by omega
      subst hie
      rw [bytes_end] at hri ⊢
      have hm : (4294967295 : Int) - ((run 4294967295 (bytes y) : Nat) : Int) = ((sum (bytes y) : Nat) : Int) := by unfold sum; omega
      have hm2 := sum_lt (bytes y)
      go_wp2
      go_ret
      exact ⟨rfl, by (repeat (first | exact Plus.refl _ | apply Plus.plus | apply Plus.alloc | apply Plus.drew))⟩
end Go.Proofs.YtgckipebgcmhlaaDoor
