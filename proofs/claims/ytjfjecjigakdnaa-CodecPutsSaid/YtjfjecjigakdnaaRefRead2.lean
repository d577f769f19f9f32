/- the reference's Reader: Int, a number that may be: walk. -/
import Derived.Test.YtjfjecjigakdnaaRefRead
set_option linter.unusedSimpArgs false
set_option linter.unusedVariables false
namespace Go.Proofs.Ytjfjecjigakdnaa.Octs
open Go.RowKit
section
variable (w : World) (N : Nat) (s : ByteArray) (b : Bool)
set_option maxRecDepth 100000 in
set_option maxHeartbeats 400000 in
theorem refIntOk (k q c1v : Nat) (L : List UInt8) (h : RdAt w N s false) (hs : s.size ≤ 1000000000) (h0 : 0 < s.size) (hk : s[0].toNat % 128 = k) (h8 : k ≤ 8) (hks : k < s.size) (hq : q = 1 + k) (hc1 : ∀ h : 1 < s.size, s[1].toNat = c1v) (hz : ¬ (0 < k ∧ c1v = 0))
    (h88 : ¬ (k = 8 ∧ 127 < c1v)) (hL : ((bytes s).drop 1).take k = L) (hDl : num L < 9223372036854775808) :
    Calls Try.prog 56 #[rdV N] w (RdPost w N (.int .i64 (if 127 < s[0].toNat then -(num L : Int) - 1 else num L)) (s.extract q s.size) false) := by
  generalize hR : (if 127 < s[0].toNat then -(num L : Int) - 1 else (num L : Int)) = R
  replace hR := Lib.hid hR
  replace hDl := Lib.hid hDl
  replace hz := Lib.hid hz
  replace h88 := Lib.hid h88
  have hLl : L.length = k := by rw [← hL, List.length_take, List.length_drop, bytes_length]; omega
  have hget : ∀ m (h1 : 1 ≤ m) (h2 : m ≤ k) (h3 : m < s.size), L.getD (m - 1) 0 = s[m] := fun m h1 h2 h3 => by
    have e := part_get s k (m - 1) (by omega) hks
    rw [hL, show 1 + (m - 1) = m by omega, byte_get s m h3] at e
    exact e
  have hr := Lib.hid h
  obtain ⟨lt, c0, c1, f0, f1⟩ := h
  haveI : InW N w := ⟨lt⟩
  have hz0 : ((s.size : Int) == 0) = false := by rw [beq_eq_false_iff_ne]; omega
  have h8i : ¬ (8 : Int) < k := by omega
  have hki : ¬ (s.size : Int) < (q : Int) := by omega
  have hki2 : (q : Int) ≤ s.size := by omega
  have hki3 : q ≤ s.size := by omega
  have hw0 : wrap64 ((s[0].toNat : Nat) : Int) = ((s[0].toNat : Nat) : Int) := w64_id (by omega) (by have := s[0].toNat_lt; omega)
  have hrem : ((s[0].toNat : Nat) : Int).tmod 128 = (k : Int) := by rw [Int.tmod_eq_emod_of_nonneg (by omega)]; omega
  have hw1 : 1 + (k : Int) = (q : Int) := by omega
  have hw6 : wrap64 (q : Int) = (q : Int) := w64_id (by omega) (by omega)
  replace hw6 := Lib.hid hw6
  replace hw0 := Lib.hid hw0
  replace hrem := Lib.hid hrem
  replace hw1 := Lib.hid hw1
  replace hq := Lib.hid hq
  replace hk := Lib.hid hk
  replace hget := Lib.hid hget
  replace hL := Lib.hid hL
  replace hc1 := Lib.hid hc1
  replace hLl := Lib.hid hLl
  go_enter Try.func56, Try.ntmps56
  have x0 := hw0.out
  have x1 := hw1.out
  have x3 := hw6.out
  have x2 := hrem.out
  go_upto_region 5 with fail
  clear x0 x1 x2 x3
  go_cut [63] (fun t wx => t = .bool false ∧ wx = w)
  case first =>
    by_cases hk0 : k = 0
    · have hk0i : ¬ (0 : Int) < k := by omega
      have hk8i : ((k : Int) == 8) = false := by rw [beq_eq_false_iff_ne]; omega
      replace hk0 := Lib.hid hk0
      have x0 := hw0.out
      have x1 := hw1.out
      have x3 := hw6.out
      have x2 := hrem.out
      go_wp2_with fail
      go_meet
      exact ⟨rfl, rfl⟩
    · have hk0i : (0 : Int) < k := by omega
      have h1n : 1 < s.size := by omega
      have h1i : (1 : Int) < s.size := by omega
      have e1 := hc1.out h1n
      have hz1i : (((s[1].toNat : Nat) : Int) == 0) = false := by
        rw [beq_eq_false_iff_ne]
        intro hq
        exact hz.out ⟨by omega, by omega⟩
      by_cases hk8 : k = 8
      · have hk8i : ((k : Int) == 8) = true := by rw [beq_iff_eq]; omega
        have h127i : ¬ (127 : Int) < ((s[1].toNat : Nat) : Int) := fun hq => h88.out ⟨hk8, by omega⟩
        replace e1 := Lib.hid e1
        replace hk8 := Lib.hid hk8
        have x0 := hw0.out
        have x1 := hw1.out
        have x3 := hw6.out
        have x2 := hrem.out
        go_wp2_with fail
        go_meet
        exact ⟨rfl, rfl⟩
      · have hk8i : ((k : Int) == 8) = false := by rw [beq_eq_false_iff_ne]; omega
        replace e1 := Lib.hid e1
        have x0 := hw0.out
        have x1 := hw1.out
        have x3 := hw6.out
        have x2 := hrem.out
        go_wp2_with fail
        go_meet
        exact ⟨rfl, rfl⟩
  obtain ⟨rfl, rfl⟩ := hcut
  have x0 := hw0.out
  have x1 := hw1.out
  have x3 := hw6.out
  have x2 := hrem.out
  go_wp2_with fail
  clear x0 x1 x2 x3
  go_loop [4, 5] (fun n i => ∃ m : Nat, 1 ≤ m ∧ m ≤ k + 1 ∧ i = .int .i64 m ∧ n = .int .i64 (num (L.take (m - 1)))) (fun _ i => k + 1 - (intOf i).toNat)
  case atStart => exact ⟨1, Nat.le_refl _, by omega, rfl, by simp [num]⟩
  case round =>
    obtain ⟨m, h1, hm, rfl, rfl⟩ := hrel
    by_cases hlt : m ≤ k
    · have hmi : (m : Int) ≤ k := by omega
      have hms : (m : Int) < s.size := by omega
      have hms2 : m < s.size := by omega
      have e1 := hget.out m h1 hlt hms2
      have hlen := hLl.out
      have htk := take_getD 0 L (m - 1) (by omega)
      rw [show m - 1 + 1 = m by omega, e1] at htk
      have hnx : num (L.take m) = 256 * num (L.take (m - 1)) + s[m].toNat := by rw [htk, num_snoc]
      have hbnd : num (L.take m) < 9223372036854775808 := by
        by_cases h7 : m ≤ 7
        · have := num_lt7 (L.take m) (by rw [List.length_take]; omega)
          omega
        · rw [List.take_of_length_le (by omega)]
          exact hDl.out
      have hc := s[m].toNat_lt
      rw [hnx] at hbnd
      generalize num (L.take (m - 1)) = d at *
      obtain ⟨hw2, hw3, hw4, hw5⟩ : wrap64 (256 * (d : Int)) = 256 * d ∧ wrap64 ((s[m].toNat : Nat) : Int) = ((s[m].toNat : Nat) : Int) ∧ wrap64 (256 * (d : Int) + ((s[m].toNat : Nat) : Int)) = 256 * (d : Int) + ((s[m].toNat : Nat) : Int) ∧ wrap64 ((m : Int) + 1) = m + 1 :=
        ⟨w64_id (by omega) (by omega), w64_id (by omega) (by omega), w64_id (by omega) (by omega), w64_id (by omega) (by omega)⟩
      clear htk hlen e1
      replace hnx := Lib.hid hnx
      replace hbnd := Lib.hid hbnd
      replace hw2 := Lib.hid hw2
      replace hw4 := Lib.hid hw4
      go_wp2_with fail
      go_round
      all_goals clear hw3 hw5
      case rel => exact ⟨m + 1, by omega, by omega, by simp, by rw [hw2.out, hw4.out, show m + 1 - 1 = m by omega, hnx.out]; simp⟩
      case measure => simp [intOf]; omega
    · have hmk : m = k + 1 := by omega
      have hmi : ¬ (m : Int) ≤ k := by omega
      have hmi2 : (k : Int) < m := by omega
      rw [show m - 1 = k by omega, List.take_of_length_le (by have := hLl.out; omega)]
      have hD := hDl.out
      have hR' := hR.out
      clear hR
      generalize num L = D at *
      obtain ⟨hw2, hw3⟩ : wrap64 (-(D : Int)) = -D ∧ wrap64 (-(D : Int) - 1) = -D - 1 := ⟨w64_id (by omega) (by omega), w64_id (by omega) (by omega)⟩
      replace hw2 := Lib.hid hw2
      replace hw3 := Lib.hid hw3
      clear hmk
      by_cases hneg : 127 < s[0].toNat
      · have hni : (127 : Int) < ((s[0].toNat : Nat) : Int) := by omega
        rw [if_pos hneg] at hR'
        replace hR' := Lib.hid hR'
        have x0 := hw0.out
        have x1 := hw1.out
        have x3 := hw6.out
        have x2 := hrem.out
        go_wp2_with fail
        go_ret
        exact ⟨by rw [← hR'.out]; rfl, (hr.out.set0 _), ((Upd.refl _ _).setCell _ _)⟩
      · have hni : ¬ (127 : Int) < ((s[0].toNat : Nat) : Int) := by omega
        rw [if_neg hneg] at hR'
        replace hR' := Lib.hid hR'
        have x0 := hw0.out
        have x1 := hw1.out
        have x3 := hw6.out
        have x2 := hrem.out
        go_wp2_with fail
        go_ret
        exact ⟨by rw [← hR'.out]; rfl, (hr.out.set0 _), ((Upd.refl _ _).setCell _ _)⟩
end
end Go.Proofs.Ytjfjecjigakdnaa.Octs
