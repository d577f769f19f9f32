/- Plain laws and walks: CodL, CodLr. -/
import Derived.Test.YtpdlgflbcgemnaaGreatDoorGd
import Derived.Test.YtpdlgflbcgemnaaGreatDoorGD
import Derived.Test.YtpdlgflbcgemnaaGreatDoorBld
-- CodL
/- codec: List: walks. -/
set_option linter.unusedSimpArgs false
set_option linter.unusedVariables false
namespace Go.Proofs.YtpdlgflbcgemnaaGreatDoor
open Go.RowKit
set_option maxHeartbeats 1000000
set_option maxRecDepth 100000
theorem len_i64 (n : Nat) (h : n ≤ 1100) : Octs.In64 (n : Int) := by unfold Octs.In64; omega
theorem listI_any (xs : List IdR) (hI : ∀ x ∈ xs, IdI x) (hlen : xs.length ≤ 1100) (A : Option Addr) (cp : Nat) (w : World) (h : RowsAt w A 3 xs.length (rowFI xs)) :
    Calls Tryz.prog 33 #[.func (.func 34) #[] #[], .slice A xs.length cp] w fun e w' => e = .returned (.string (Octs.txt (encL encI xs))) ∧ w.Plus w' := by
  have kI := Lib.hid (fun w b c [InW b w] h0 => int_at1 w b c (xs.length : Int) h0 (len_i64 _ hlen))
  have kP := fun (x : IdR) (hx : x ∈ xs) w => putID_any x (hI x hx) w
  have hle := encLs_le encI 27 (fun x => encI_le x)
  have hE9 := Octs.enc_le (xs.length : Int)
  obtain ⟨L, hL⟩ : ∃ L, L = xs.length := ⟨_, rfl⟩
  have hB0 := Bld.fresh w
  have hP0 := Plus.refl w
  unfold encL
  obtain ⟨E, hE⟩ : ∃ E, E = Octs.enc (xs.length : Int) := ⟨_, rfl⟩
  rw [← hE] at hE9 ⊢
  replace hE' := hE
  rw [← hE] at kI
  have hT : Octs.txt E = ⟨E.toArray⟩ := rfl
  rw [hT] at kI
  replace kP : RowKit.Hid (∀ (x : IdR) (hx : x ∈ xs) w, Calls Tryz.prog 34 #[x.v] w fun e w' => e = .returned (.string ⟨(encI x).toArray⟩) ∧ w.Plus w') := Lib.hid kP
  have hX : ∀ k x, xs[k]? = some x → x ∈ xs := fun k x h => List.mem_of_getElem? h
  replace hX := Lib.hid hX
  replace h := Lib.hid (fun wz (p : w.Plus wz) => h.plus p)
  rw [← hL] at kI hlen ⊢
  replace hle := Lib.hid hle
  replace hL := Lib.hid hL
  replace hB0 := Lib.hid hB0
  clear hE hE' hT hI
  have hLi : (L : Int) ≤ 1100 := by omega
  go_enter Tryz.func33, Tryz.ntmps33
  go_wp2_with (first
    | (go_at_call 28; (with_reducible refine (kI.out _ _ _ (by simp [go_sem])).mono ?_); rintro e w' ⟨rfl, e1, rfl⟩)
    | (go_at_call 68; (with_reducible refine (bld_write (hB0.out.atP (by (repeat (first | exact Plus.refl _ | apply Plus.plus | apply Plus.alloc | apply Plus.drew)))) (by simp; omega)).mono ?_); rintro e w1 ⟨rfl, hB1⟩))
  replace hB1 := Lib.hid hB1
  clear hB0 kI
  go_loopw [15] (fun i wr => ∃ k : Nat, k ≤ L ∧ i = nI k ∧ Hid (Bld w wr (E ++ encLs encI (xs.take k)))) (fun i _ => L - (intOf i).toNat)
  case atStart => exact ⟨0, by omega, rfl, by simpa [encLs] using hB1⟩
  case round =>
    obtain ⟨k, hk, rfl, hB⟩ := hrel
    by_cases hlt : k < L
    · have hlti : (k : Int) < L := by omega
      obtain ⟨x, hx⟩ : ∃ x, xs[k]? = some x := ⟨_, List.getElem?_eq_getElem (by rw [← hL.out]; exact hlt)⟩
      have hm := hX.out _ _ hx
      obtain ⟨g, o, rfl, hg, ⟨c0, c1, c2⟩⟩ := rowI (h.out _ hB.out.1) k x hx (by rw [← hL.out]; exact hlt)
      have hq := encLs_take encI xs k x hx
      have hl1 := hle.out (xs.take k)
      have hl2 := encI_le x
      rw [List.length_take, ← hL.out] at hl1
      have hwl : (E ++ encLs encI (xs.take k)).length + (encI x).length ≤ 140737488355328 := by
        rw [List.length_append]
        have : min k L * 27 ≤ 1100 * 27 := Nat.mul_le_mul_right _ (by omega)
        omega
      replace hwl := Lib.hid hwl
      replace hq := Lib.hid hq
      have kx := Lib.hid (kP.out x hm)
      clear hx hm hl1 hl2
      go_wp2_with (first
        | (go_at_call 34; (with_reducible refine (kx.out _).mono ?_); rintro e w' ⟨rfl, e2, rfl⟩)
        | (go_at_call 68; (with_reducible refine (bld_write (hB.out.atP (by (repeat (first | exact Plus.refl _ | apply Plus.plus | apply Plus.alloc | apply Plus.drew)))) hwl.out).mono ?_); rintro e w2 ⟨rfl, hB2⟩))
      go_roundw
      case rel => exact ⟨k + 1, hlt, by go_num, by rw [hq.out, ← List.append_assoc]; exact hB2⟩
      case measure => simp [intOf]; omega
    · obtain rfl : k = L := by omega
      have hkk : ¬ (k : Int) < k := by omega
      have hall : xs.take k = xs := by rw [hL.out, List.take_length]
      rw [hall] at hB
      go_wp2_with (go_at_call 69; (with_reducible refine (bld_string hB.out).mono ?_); rintro e w3 ⟨rfl, e3, rfl⟩)
      go_ret
      exact ⟨rfl, by (repeat (first | exact Plus.refl _ | apply Plus.plus | apply Plus.alloc | apply Plus.drew))⟩
theorem listB_any (xs : List BdR) (hI : ∀ x ∈ xs, BdI x) (hlen : xs.length ≤ 1100) (A : Option Addr) (cp : Nat) (w : World) (h : RowsAt w A 11 xs.length (rowFB xs)) :
    Calls Tryz.prog 31 #[.func (.func 32) #[] #[], .slice A xs.length cp] w fun e w' => e = .returned (.string (Octs.txt (encL encB xs))) ∧ w.Plus w' := by
  have kI := Lib.hid (fun w b c [InW b w] h0 => int_at1 w b c (xs.length : Int) h0 (len_i64 _ hlen))
  have kP := fun (x : BdR) (hx : x ∈ xs) w => putBundle_any x (hI x hx) w
  have hle := encLs_le encB 99 (fun x => encB_le x)
  have hE9 := Octs.enc_le (xs.length : Int)
  obtain ⟨L, hL⟩ : ∃ L, L = xs.length := ⟨_, rfl⟩
  have hB0 := Bld.fresh w
  have hP0 := Plus.refl w
  unfold encL
  obtain ⟨E, hE⟩ : ∃ E, E = Octs.enc (xs.length : Int) := ⟨_, rfl⟩
  rw [← hE] at hE9 ⊢
  replace hE' := hE
  rw [← hE] at kI
  have hT : Octs.txt E = ⟨E.toArray⟩ := rfl
  rw [hT] at kI
  replace kP : RowKit.Hid (∀ (x : BdR) (hx : x ∈ xs) w, Calls Tryz.prog 32 #[x.v] w fun e w' => e = .returned (.string ⟨(encB x).toArray⟩) ∧ w.Plus w') := Lib.hid kP
  have hX : ∀ k x, xs[k]? = some x → x ∈ xs := fun k x h => List.mem_of_getElem? h
  replace hX := Lib.hid hX
  replace h := Lib.hid (fun wz (p : w.Plus wz) => h.plus p)
  rw [← hL] at kI hlen ⊢
  replace hle := Lib.hid hle
  replace hL := Lib.hid hL
  replace hB0 := Lib.hid hB0
  clear hE hE' hT hI
  have hLi : (L : Int) ≤ 1100 := by omega
  go_enter Tryz.func31, Tryz.ntmps31
  go_wp2_with (first
    | (go_at_call 28; (with_reducible refine (kI.out _ _ _ (by simp [go_sem])).mono ?_); rintro e w' ⟨rfl, e1, rfl⟩)
    | (go_at_call 68; (with_reducible refine (bld_write (hB0.out.atP (by (repeat (first | exact Plus.refl _ | apply Plus.plus | apply Plus.alloc | apply Plus.drew)))) (by simp; omega)).mono ?_); rintro e w1 ⟨rfl, hB1⟩))
  replace hB1 := Lib.hid hB1
  clear hB0 kI
  go_loopw [15] (fun i wr => ∃ k : Nat, k ≤ L ∧ i = nI k ∧ Hid (Bld w wr (E ++ encLs encB (xs.take k)))) (fun i _ => L - (intOf i).toNat)
  case atStart => exact ⟨0, by omega, rfl, by simpa [encLs] using hB1⟩
  case round =>
    obtain ⟨k, hk, rfl, hB⟩ := hrel
    by_cases hlt : k < L
    · have hlti : (k : Int) < L := by omega
      obtain ⟨x, hx⟩ : ∃ x, xs[k]? = some x := ⟨_, List.getElem?_eq_getElem (by rw [← hL.out]; exact hlt)⟩
      have hm := hX.out _ _ hx
      obtain ⟨g, o, rfl, hg, ⟨c0, c1, c2, c3, c4, c5, c6, c7, c8, c9, c10⟩⟩ := rowB (h.out _ hB.out.1) k x hx (by rw [← hL.out]; exact hlt)
      have hq := encLs_take encB xs k x hx
      have hl1 := hle.out (xs.take k)
      have hl2 := encB_le x
      rw [List.length_take, ← hL.out] at hl1
      have hwl : (E ++ encLs encB (xs.take k)).length + (encB x).length ≤ 140737488355328 := by
        rw [List.length_append]
        have : min k L * 99 ≤ 1100 * 99 := Nat.mul_le_mul_right _ (by omega)
        omega
      replace hwl := Lib.hid hwl
      replace hq := Lib.hid hq
      have kx := Lib.hid (kP.out x hm)
      clear hx hm hl1 hl2
      go_wp2_with (first
        | (go_at_call 32; (with_reducible refine (kx.out _).mono ?_); rintro e w' ⟨rfl, e2, rfl⟩)
        | (go_at_call 68; (with_reducible refine (bld_write (hB.out.atP (by (repeat (first | exact Plus.refl _ | apply Plus.plus | apply Plus.alloc | apply Plus.drew)))) hwl.out).mono ?_); rintro e w2 ⟨rfl, hB2⟩))
      go_roundw
      case rel => exact ⟨k + 1, hlt, by go_num, by rw [hq.out, ← List.append_assoc]; exact hB2⟩
      case measure => simp [intOf]; omega
    · obtain rfl : k = L := by omega
      have hkk : ¬ (k : Int) < k := by omega
      have hall : xs.take k = xs := by rw [hL.out, List.take_length]
      rw [hall] at hB
      go_wp2_with (go_at_call 69; (with_reducible refine (bld_string hB.out).mono ?_); rintro e w3 ⟨rfl, e3, rfl⟩)
      go_ret
      exact ⟨rfl, by (repeat (first | exact Plus.refl _ | apply Plus.plus | apply Plus.alloc | apply Plus.drew))⟩
theorem listC_any (xs : List CmdR) (hI : ∀ x ∈ xs, CmI x) (hlen : xs.length ≤ 1100) (A : Option Addr) (cp : Nat) (w : World) (h : RowsAt w A 16 xs.length (rowFC xs)) :
    Calls Tryz.prog 29 #[.func (.func 30) #[] #[], .slice A xs.length cp] w fun e w' => e = .returned (.string (Octs.txt (encL encC xs))) ∧ w.Plus w' := by
  have kI := Lib.hid (fun w b c [InW b w] h0 => int_at1 w b c (xs.length : Int) h0 (len_i64 _ hlen))
  have kP := fun (x : CmdR) (hx : x ∈ xs) w => putCmd_any x (hI x hx) w
  have hle := encLs_le encC 108 (fun x => encC_le x)
  have hE9 := Octs.enc_le (xs.length : Int)
  obtain ⟨L, hL⟩ : ∃ L, L = xs.length := ⟨_, rfl⟩
  have hB0 := Bld.fresh w
  have hP0 := Plus.refl w
  unfold encL
  obtain ⟨E, hE⟩ : ∃ E, E = Octs.enc (xs.length : Int) := ⟨_, rfl⟩
  rw [← hE] at hE9 ⊢
  replace hE' := hE
  rw [← hE] at kI
  have hT : Octs.txt E = ⟨E.toArray⟩ := rfl
  rw [hT] at kI
  replace kP : RowKit.Hid (∀ (x : CmdR) (hx : x ∈ xs) w, Calls Tryz.prog 30 #[x.v] w fun e w' => e = .returned (.string ⟨(encC x).toArray⟩) ∧ w.Plus w') := Lib.hid kP
  have hX : ∀ k x, xs[k]? = some x → x ∈ xs := fun k x h => List.mem_of_getElem? h
  replace hX := Lib.hid hX
  replace h := Lib.hid (fun wz (p : w.Plus wz) => h.plus p)
  rw [← hL] at kI hlen ⊢
  replace hle := Lib.hid hle
  replace hL := Lib.hid hL
  replace hB0 := Lib.hid hB0
  clear hE hE' hT hI
  have hLi : (L : Int) ≤ 1100 := by omega
  go_enter Tryz.func29, Tryz.ntmps29
  go_wp2_with (first
    | (go_at_call 28; (with_reducible refine (kI.out _ _ _ (by simp [go_sem])).mono ?_); rintro e w' ⟨rfl, e1, rfl⟩)
    | (go_at_call 68; (with_reducible refine (bld_write (hB0.out.atP (by (repeat (first | exact Plus.refl _ | apply Plus.plus | apply Plus.alloc | apply Plus.drew)))) (by simp; omega)).mono ?_); rintro e w1 ⟨rfl, hB1⟩))
  replace hB1 := Lib.hid hB1
  clear hB0 kI
  go_loopw [15] (fun i wr => ∃ k : Nat, k ≤ L ∧ i = nI k ∧ Hid (Bld w wr (E ++ encLs encC (xs.take k)))) (fun i _ => L - (intOf i).toNat)
  case atStart => exact ⟨0, by omega, rfl, by simpa [encLs] using hB1⟩
  case round =>
    obtain ⟨k, hk, rfl, hB⟩ := hrel
    by_cases hlt : k < L
    · have hlti : (k : Int) < L := by omega
      obtain ⟨x, hx⟩ : ∃ x, xs[k]? = some x := ⟨_, List.getElem?_eq_getElem (by rw [← hL.out]; exact hlt)⟩
      have hm := hX.out _ _ hx
      obtain ⟨g, o, rfl, hg, ⟨c0, c1, c2, c3, c4, c5, c6, c7, c8, c9, c10, c11, c12, c13, c14, c15⟩⟩ := rowC (h.out _ hB.out.1) k x hx (by rw [← hL.out]; exact hlt)
      have hq := encLs_take encC xs k x hx
      have hl1 := hle.out (xs.take k)
      have hl2 := encC_le x
      rw [List.length_take, ← hL.out] at hl1
      have hwl : (E ++ encLs encC (xs.take k)).length + (encC x).length ≤ 140737488355328 := by
        rw [List.length_append]
        have : min k L * 108 ≤ 1100 * 108 := Nat.mul_le_mul_right _ (by omega)
        omega
      replace hwl := Lib.hid hwl
      replace hq := Lib.hid hq
      have kx := Lib.hid (kP.out x hm)
      clear hx hm hl1 hl2
      go_wp2_with (first
        | (go_at_call 30; (with_reducible refine (kx.out _).mono ?_); rintro e w' ⟨rfl, e2, rfl⟩)
        | (go_at_call 68; (with_reducible refine (bld_write (hB.out.atP (by (repeat (first | exact Plus.refl _ | apply Plus.plus | apply Plus.alloc | apply Plus.drew)))) hwl.out).mono ?_); rintro e w2 ⟨rfl, hB2⟩))
      go_roundw
      case rel => exact ⟨k + 1, hlt, by go_num, by rw [hq.out, ← List.append_assoc]; exact hB2⟩
      case measure => simp [intOf]; omega
    · obtain rfl : k = L := by omega
      have hkk : ¬ (k : Int) < k := by omega
      have hall : xs.take k = xs := by rw [hL.out, List.take_length]
      rw [hall] at hB
      go_wp2_with (go_at_call 69; (with_reducible refine (bld_string hB.out).mono ?_); rintro e w3 ⟨rfl, e3, rfl⟩)
      go_ret
      exact ⟨rfl, by (repeat (first | exact Plus.refl _ | apply Plus.plus | apply Plus.alloc | apply Plus.drew))⟩
end Go.Proofs.YtpdlgflbcgemnaaGreatDoor
-- CodLr
/- codec: the reference's lists: walks. -/
set_option linter.unusedSimpArgs false
set_option linter.unusedVariables false
namespace Go.Proofs.YtpdlgflbcgemnaaGreatDoor
open Go.RowKit
set_option maxHeartbeats 1000000
set_option maxRecDepth 100000
end Go.Proofs.YtpdlgflbcgemnaaGreatDoor
