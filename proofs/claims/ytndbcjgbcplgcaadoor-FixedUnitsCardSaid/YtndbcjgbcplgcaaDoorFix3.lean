/- fixed: digits, Show, and the reference's: walks. -/
import Derived.Test.YtndbcjgbcplgcaaDoorFix1
import Derived.Lib.Hide
set_option linter.unusedSimpArgs false
set_option linter.unusedVariables false
namespace Go.Proofs.YtndbcjgbcplgcaaDoor
open Go.RowKit
section
theorem conv_dig (r m : Nat) (w : World) (hr : r < 10) (h : w.cell? ⟨m, 0, none⟩ = some (.int .u8 (48 + (r : Int)))) :
    (convert 46 9 (.slice (some ⟨m, 0, none⟩) 1 1)).run Tryd.prog w = .ok (.string (txt [dg r])) w :=
  run_convert_bytes_back (P := Tryd.prog) w 46 9 5 ⟨m, 0, none⟩ 1 [dg r] (by kernel_rfl) (by kernel_rfl) (by kernel_rfl)
    (fun j hj => by
      have hj0 : j = 0 := by simp at hj; omega
      subst hj0
      have e : (((dg r).toNat : Nat) : Int) = 48 + (r : Int) := by rw [dg_val r hr]; omega
      simpa [Addr.add, e] using h)
variable (w : World)
theorem digits_any (n : Nat) (hn : n < 1000000000000) : Calls Tryd.prog 27 #[.int .i64 n] w fun e w' => e = .returned (.string (txt (dec n))) ∧ w.Plus w' := by
  have h12 := dec_len12 n
  obtain ⟨D, hD⟩ : ∃ D, D = dec n := ⟨_, rfl⟩
  rw [← hD] at h12 ⊢
  go_enter Tryd.func27, Tryd.ntmps27
  go_wp2_with fail
  go_loopw [0, 3] (fun i s wr => ∃ (m : Nat) (l : List UInt8), i = .int .i64 m ∧ s = .string (txt l) ∧ D = dec m ++ l ∧ m ≤ n ∧ w.Plus wr) (fun i _ _ => (intOf i).toNat)
  case atStart => exact ⟨n, [], rfl, rfl, by simpa using hD, Nat.le_refl _, by (repeat (first | exact Plus.refl _ | apply Plus.plus | apply Plus.alloc | apply Plus.drew))⟩
  case round =>
    obtain ⟨m, l, rfl, rfl, hl, hm, hp⟩ := hrel
    have hll : (txt l).size ≤ 12 := by rw [txt_size]; rw [hl] at h12; simp at h12; omega
    obtain ⟨r, hr⟩ : ∃ r : Nat, r = m % 10 := ⟨_, rfl⟩
    obtain ⟨q, hq⟩ : ∃ q : Nat, q = m / 10 := ⟨_, rfl⟩
    have hr1 : (m : Int) % 10 = (r : Int) := by omega
    have hq1 : (m : Int) / 10 = (q : Int) := by omega
    have hr10 : r < 10 := by omega
    have hc := fun g w h => conv_dig r g w hr10 h
    have hw2 : IntKind.u8.wrap (48 + (r : Int)) = 48 + (r : Int) := by rw [IntKind.wrap_u8]; omega
    have hone : (txt [dg r]).size ≤ 12 := by rw [txt_size]; simp
    have hcat := txt_append [dg r] l
    have hm2 : (m : Int) ≤ 1000000000000 := by omega
    by_cases h10 : m < 10
    · have hE := Lib.hid (show D = dg r :: l by rw [hl, dec_small h10, hr, Nat.mod_eq_of_lt h10]; rfl)
      obtain rfl : q = 0 := by omega
      replace hr := Lib.hid hr
      replace hq := Lib.hid hq
      replace hl := Lib.hid hl
      replace hD := Lib.hid hD
      generalize txt [dg r] = T at *
      generalize hU : txt l = U at *
      replace hU := Lib.hid hU
      go_wp2_with fail
      go_ret
      exact ⟨by rw [hE.out]; rfl, Plus.trans hp (by (repeat (first | exact Plus.refl _ | apply Plus.plus | apply Plus.alloc | apply Plus.drew)))⟩
    · have hE := Lib.hid (show D = dec q ++ (dg r :: l) by rw [hl, dec_step (by omega) (by omega), ← hq, ← hr]; simp)
      have hq0 : ((q : Int) == 0) = false := by rw [beq_eq_false_iff_ne]; omega
      have hqm : q < m := by omega
      replace hr := Lib.hid hr
      replace hq := Lib.hid hq
      replace hl := Lib.hid hl
      replace hD := Lib.hid hD
      generalize txt [dg r] = T at *
      generalize hU : txt l = U at *
      replace hU := Lib.hid hU
      go_wp2_with fail
      go_roundw
      case rel => exact ⟨q, dg r :: l, rfl, rfl, hE.out, by omega, Plus.trans hp (by (repeat (first | exact Plus.refl _ | apply Plus.plus | apply Plus.alloc | apply Plus.drew)))⟩
      case measure => simp [intOf]; omega
def trimN (l : List UInt8) : Nat := (trimZ l).length
theorem trimZ_snoc0 (l : List UInt8) : trimZ (l ++ [48]) = trimZ l := by unfold trimZ; simp
theorem trimZ_snoc (l : List UInt8) (c : UInt8) (h : c ≠ 48) : trimZ (l ++ [c]) = l ++ [c] := by
  unfold trimZ
  rw [List.reverse_append, List.reverse_singleton, List.singleton_append, List.dropWhile_cons, if_neg (by simpa using h)]
  simp
theorem take_snoc' (s : ByteArray) (k : Nat) (h : k < s.size) : (bytes s).take (k + 1) = (bytes s).take k ++ [s[k]] := bytes_take s k h
theorem trim_byte (s : ByteArray) (hs : s.size ≤ 1000000) : Calls Tryd.prog 32 #[.string s, .int .u8 48] w fun e w' => e = .returned (.string (txt (trimZ (bytes s)))) ∧ w.Plus w' := by
  obtain ⟨R, hR⟩ : ∃ R, R = trimZ (bytes s) := ⟨_, rfl⟩
  rw [← hR]
  replace hR := Lib.hid hR
  go_enter Tryd.func32, Tryd.ntmps32
  go_wp2_with fail
  go_loop [0] (fun x => ∃ y : ByteArray, x = .string y ∧ R = trimZ (bytes y) ∧ y.size ≤ 1000000) (fun x => match x with | .string y => y.size | _ => 0)
  case atStart => exact ⟨s, rfl, hR.out, hs⟩
  case round =>
    obtain ⟨y, rfl, hy, hys⟩ := hrel
    by_cases h0 : 0 < y.size
    · obtain ⟨k, hk⟩ : ∃ k, y.size = k + 1 := ⟨y.size - 1, by omega⟩
      have hsn := bytes_take y k (by omega)
      rw [← hk, bytes_end] at hsn
      have hk1 : (y.size : Int) - 1 = (k : Int) := by omega
      have hkl : k < y.size := by omega
      have hE := extract_txt y 0 k
      rw [List.drop_zero] at hE
      by_cases hc : y[k] = 48
      · have hc1 : ((y[k].toNat : Nat) : Int) = 48 := by rw [hc]; rfl
        have hnx := Lib.hid (show R = trimZ (bytes (y.extract 0 k)) by rw [hE, bytes_txt, hy]; conv => { lhs; rw [hsn, hc, trimZ_snoc0] })
        have hez : (y.extract 0 k).size ≤ 1000000 ∧ (y.extract 0 k).size < y.size := by rw [ByteArray.size_extract]; omega
        replace hc := Lib.hid hc
        replace hsn := Lib.hid hsn
        replace hE := Lib.hid hE
        replace hy := Lib.hid hy
        replace hk := Lib.hid hk
        go_wp2_with fail
        go_round
        case rel => exact ⟨_, rfl, hnx.out, hez.1⟩
        case measure => simp; omega
      · have hc1 : ((y[k].toNat : Nat) : Int) ≠ 48 := fun e => hc (by apply UInt8.toNat_inj.1; show y[k].toNat = 48; omega)
        have hc2 : (((y[k].toNat : Nat) : Int) == 48) = false := by rw [beq_eq_false_iff_ne]; exact hc1
        have hnx := Lib.hid (show R = bytes y by rw [hy, hsn, trimZ_snoc _ _ hc])
        replace hc := Lib.hid hc
        replace hsn := Lib.hid hsn
        replace hE := Lib.hid hE
        replace hy := Lib.hid hy
        replace hk := Lib.hid hk
        go_wp2_with fail
        go_ret
        exact ⟨by rw [hnx.out]; rfl, by (repeat (first | exact Plus.refl _ | apply Plus.plus | apply Plus.alloc | apply Plus.drew))⟩
    · have hz := (size_zero y).1 (by omega)
      subst hz
      have hnx := Lib.hid (show R = [] from hy)
      replace hy := Lib.hid hy
      go_wp2_with fail
      go_ret
      exact ⟨by rw [hnx.out]; rfl, by (repeat (first | exact Plus.refl _ | apply Plus.plus | apply Plus.alloc | apply Plus.drew))⟩
end
end Go.Proofs.YtndbcjgbcplgcaaDoor
