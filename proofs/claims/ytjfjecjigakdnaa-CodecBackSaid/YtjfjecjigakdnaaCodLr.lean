/- codec: the reference's lists: walks. -/
import Derived.Test.YtjfjecjigakdnaaCodL
set_option linter.unusedSimpArgs false
set_option linter.unusedVariables false
namespace Go.Proofs.Ytjfjecjigakdnaa
open Go.RowKit
set_option maxHeartbeats 1000000
set_option maxRecDepth 100000
theorem refListI_any (xs : List IdR) (hI : ∀ x ∈ xs, IdI x) (hlen : xs.length ≤ 1100) (A : Option Addr) (cp : Nat) (w : World) (h : RowsAt w A 3 xs.length (rowFI xs)) :
    Calls Try.prog 76 #[.slice A xs.length cp] w fun e w' => e = .returned (.string (Octs.txt (encL encI xs))) ∧ w.Plus w' := by
  have kI := fun w => Octs.refInt_any (xs.length : Int) w (len_i64 _ hlen)
  have kP := fun (x : IdR) (hx : x ∈ xs) w => refID_any x (hI x hx) w
  have hle := encLs_le encI 27 (fun x => encI_le x)
  have hE9 := Octs.enc_le (xs.length : Int)
  obtain ⟨L, hL⟩ : ∃ L, L = xs.length := ⟨_, rfl⟩
  have hP0 := Plus.refl w
  unfold encL
  generalize Octs.enc (xs.length : Int) = E at *
  have hX : ∀ k x, xs[k]? = some x → x ∈ xs := fun k x h => List.mem_of_getElem? h
  replace hX := Lib.hid hX
  replace kP := Lib.hid kP
  replace h := Lib.hid (fun wz (p : w.Plus wz) => h.plus p)
  obtain ⟨V, hV⟩ : ∃ V : Nat → ByteArray, V = fun k => Octs.txt (E ++ encLs encI (xs.take k)) := ⟨_, rfl⟩
  have hV0 : Octs.txt E = V 0 := by rw [hV]; simp [encLs]
  have hVn : Octs.txt (E ++ encLs encI xs) = V xs.length := by rw [hV]; simp
  have hVs : ∀ k x, xs[k]? = some x → V (k + 1) = V k ++ Octs.txt (encI x) := fun k x hx => by
    rw [hV]
    simp only
    rw [encLs_take encI xs k x hx, Octs.txt_append, List.append_assoc]
  have hVl : ∀ k, k ≤ xs.length → (V k).size ≤ 200000 := fun k hk => by
    rw [hV]
    simp only
    rw [Octs.txt_size, List.length_append]
    have h1 := hle (xs.take k)
    rw [List.length_take] at h1
    have : min k xs.length * 27 ≤ 1100 * 27 := Nat.mul_le_mul_right _ (by omega)
    omega
  rw [hVn]
  rw [hV0] at kI
  rw [← hL] at kI hlen hVl ⊢
  replace kI := Lib.hid kI
  replace hVs := Lib.hid hVs
  replace hVl := Lib.hid hVl
  replace hL := Lib.hid hL
  clear hI hV hV0 hVn hle hE9
  have hLi : (L : Int) ≤ 1100 := by omega
  go_enter Try.func76, Try.ntmps76
  go_wp2_with (go_at_call 47; (with_reducible refine (kI.out _).mono ?_); rintro e w' ⟨rfl, e1, rfl⟩)
  go_loopw [3, 4] (fun s i wr => ∃ k : Nat, k ≤ L ∧ s = .string (V k) ∧ i = nI k ∧ w.Plus wr) (fun _ i _ => L - (intOf i).toNat)
  case atStart => exact ⟨0, by omega, rfl, rfl, by (repeat (first | exact Plus.refl _ | apply Plus.plus | apply Plus.alloc | apply Plus.drew))⟩
  case round =>
    obtain ⟨k, hk, rfl, rfl, hp⟩ := hrel
    by_cases hlt : k < L
    · have hlti : (k : Int) < L := by omega
      obtain ⟨x, hx⟩ : ∃ x, xs[k]? = some x := ⟨_, List.getElem?_eq_getElem (by rw [← hL.out]; exact hlt)⟩
      have hm := hX.out _ _ hx
      obtain ⟨g, o, rfl, hg, ⟨c0, c1, c2⟩⟩ := rowI (h.out _ hp) k x hx (by rw [← hL.out]; exact hlt)
      have hq := hVs.out k x hx
      have hl1 := hVl.out k hk
      have hl2 := encI_le x
      rw [← Octs.txt_size] at hl2
      have kx := kP.out x hm
      generalize Octs.txt (encI x) = X at *
      have hsz : ¬ 9223372036854775807 < (V k).size + X.size := by omega
      replace hq := Lib.hid hq
      replace kx := Lib.hid kx
      replace hp := Lib.hid hp
      clear hx hm hl1 hl2
      go_wp2_with (go_at_call 12; (with_reducible refine (kx.out _).mono ?_); rintro e w' ⟨rfl, e2, rfl⟩)
      go_roundw
      case rel => exact ⟨k + 1, hlt, by rw [hq.out], by go_num, Plus.plus hp.out e2⟩
      case measure => simp [intOf]; omega
    · obtain rfl : k = L := by omega
      have hkk : ¬ (k : Int) < k := by omega
      go_wp2_with fail
      go_ret
      exact ⟨rfl, hp⟩
theorem refListB_any (xs : List BdR) (hI : ∀ x ∈ xs, BdI x) (hlen : xs.length ≤ 1100) (A : Option Addr) (cp : Nat) (w : World) (h : RowsAt w A 11 xs.length (rowFB xs)) :
    Calls Try.prog 27 #[.slice A xs.length cp] w fun e w' => e = .returned (.string (Octs.txt (encL encB xs))) ∧ w.Plus w' := by
  have kI := fun w => Octs.refInt_any (xs.length : Int) w (len_i64 _ hlen)
  have kP := fun (x : BdR) (hx : x ∈ xs) w => refBundle_any x (hI x hx) w
  have hle := encLs_le encB 99 (fun x => encB_le x)
  have hE9 := Octs.enc_le (xs.length : Int)
  obtain ⟨L, hL⟩ : ∃ L, L = xs.length := ⟨_, rfl⟩
  have hP0 := Plus.refl w
  unfold encL
  generalize Octs.enc (xs.length : Int) = E at *
  have hX : ∀ k x, xs[k]? = some x → x ∈ xs := fun k x h => List.mem_of_getElem? h
  replace hX := Lib.hid hX
  replace kP := Lib.hid kP
  replace h := Lib.hid (fun wz (p : w.Plus wz) => h.plus p)
  obtain ⟨V, hV⟩ : ∃ V : Nat → ByteArray, V = fun k => Octs.txt (E ++ encLs encB (xs.take k)) := ⟨_, rfl⟩
  have hV0 : Octs.txt E = V 0 := by rw [hV]; simp [encLs]
  have hVn : Octs.txt (E ++ encLs encB xs) = V xs.length := by rw [hV]; simp
  have hVs : ∀ k x, xs[k]? = some x → V (k + 1) = V k ++ Octs.txt (encB x) := fun k x hx => by
    rw [hV]
    simp only
    rw [encLs_take encB xs k x hx, Octs.txt_append, List.append_assoc]
  have hVl : ∀ k, k ≤ xs.length → (V k).size ≤ 200000 := fun k hk => by
    rw [hV]
    simp only
    rw [Octs.txt_size, List.length_append]
    have h1 := hle (xs.take k)
    rw [List.length_take] at h1
    have : min k xs.length * 99 ≤ 1100 * 99 := Nat.mul_le_mul_right _ (by omega)
    omega
  rw [hVn]
  rw [hV0] at kI
  rw [← hL] at kI hlen hVl ⊢
  replace kI := Lib.hid kI
  replace hVs := Lib.hid hVs
  replace hVl := Lib.hid hVl
  replace hL := Lib.hid hL
  clear hI hV hV0 hVn hle hE9
  have hLi : (L : Int) ≤ 1100 := by omega
  go_enter Try.func27, Try.ntmps27
  go_wp2_with (go_at_call 47; (with_reducible refine (kI.out _).mono ?_); rintro e w' ⟨rfl, e1, rfl⟩)
  go_loopw [3, 4] (fun s i wr => ∃ k : Nat, k ≤ L ∧ s = .string (V k) ∧ i = nI k ∧ w.Plus wr) (fun _ i _ => L - (intOf i).toNat)
  case atStart => exact ⟨0, by omega, rfl, rfl, by (repeat (first | exact Plus.refl _ | apply Plus.plus | apply Plus.alloc | apply Plus.drew))⟩
  case round =>
    obtain ⟨k, hk, rfl, rfl, hp⟩ := hrel
    by_cases hlt : k < L
    · have hlti : (k : Int) < L := by omega
      obtain ⟨x, hx⟩ : ∃ x, xs[k]? = some x := ⟨_, List.getElem?_eq_getElem (by rw [← hL.out]; exact hlt)⟩
      have hm := hX.out _ _ hx
      obtain ⟨g, o, rfl, hg, ⟨c0, c1, c2, c3, c4, c5, c6, c7, c8, c9, c10⟩⟩ := rowB (h.out _ hp) k x hx (by rw [← hL.out]; exact hlt)
      have hq := hVs.out k x hx
      have hl1 := hVl.out k hk
      have hl2 := encB_le x
      rw [← Octs.txt_size] at hl2
      have kx := kP.out x hm
      generalize Octs.txt (encB x) = X at *
      have hsz : ¬ 9223372036854775807 < (V k).size + X.size := by omega
      replace hq := Lib.hid hq
      replace kx := Lib.hid kx
      replace hp := Lib.hid hp
      clear hx hm hl1 hl2
      go_wp2_with (go_at_call 14; (with_reducible refine (kx.out _).mono ?_); rintro e w' ⟨rfl, e2, rfl⟩)
      go_roundw
      case rel => exact ⟨k + 1, hlt, by rw [hq.out], by go_num, Plus.plus hp.out e2⟩
      case measure => simp [intOf]; omega
    · obtain rfl : k = L := by omega
      have hkk : ¬ (k : Int) < k := by omega
      go_wp2_with fail
      go_ret
      exact ⟨rfl, hp⟩
theorem refListC_any (xs : List CmdR) (hI : ∀ x ∈ xs, CmI x) (hlen : xs.length ≤ 1100) (A : Option Addr) (cp : Nat) (w : World) (h : RowsAt w A 16 xs.length (rowFC xs)) :
    Calls Try.prog 75 #[.slice A xs.length cp] w fun e w' => e = .returned (.string (Octs.txt (encL encC xs))) ∧ w.Plus w' := by
  have kI := fun w => Octs.refInt_any (xs.length : Int) w (len_i64 _ hlen)
  have kP := fun (x : CmdR) (hx : x ∈ xs) w => refCmd_any x (hI x hx) w
  have hle := encLs_le encC 108 (fun x => encC_le x)
  have hE9 := Octs.enc_le (xs.length : Int)
  obtain ⟨L, hL⟩ : ∃ L, L = xs.length := ⟨_, rfl⟩
  have hP0 := Plus.refl w
  unfold encL
  generalize Octs.enc (xs.length : Int) = E at *
  have hX : ∀ k x, xs[k]? = some x → x ∈ xs := fun k x h => List.mem_of_getElem? h
  replace hX := Lib.hid hX
  replace kP := Lib.hid kP
  replace h := Lib.hid (fun wz (p : w.Plus wz) => h.plus p)
  obtain ⟨V, hV⟩ : ∃ V : Nat → ByteArray, V = fun k => Octs.txt (E ++ encLs encC (xs.take k)) := ⟨_, rfl⟩
  have hV0 : Octs.txt E = V 0 := by rw [hV]; simp [encLs]
  have hVn : Octs.txt (E ++ encLs encC xs) = V xs.length := by rw [hV]; simp
  have hVs : ∀ k x, xs[k]? = some x → V (k + 1) = V k ++ Octs.txt (encC x) := fun k x hx => by
    rw [hV]
    simp only
    rw [encLs_take encC xs k x hx, Octs.txt_append, List.append_assoc]
  have hVl : ∀ k, k ≤ xs.length → (V k).size ≤ 200000 := fun k hk => by
    rw [hV]
    simp only
    rw [Octs.txt_size, List.length_append]
    have h1 := hle (xs.take k)
    rw [List.length_take] at h1
    have : min k xs.length * 108 ≤ 1100 * 108 := Nat.mul_le_mul_right _ (by omega)
    omega
  rw [hVn]
  rw [hV0] at kI
  rw [← hL] at kI hlen hVl ⊢
  replace kI := Lib.hid kI
  replace hVs := Lib.hid hVs
  replace hVl := Lib.hid hVl
  replace hL := Lib.hid hL
  clear hI hV hV0 hVn hle hE9
  have hLi : (L : Int) ≤ 1100 := by omega
  go_enter Try.func75, Try.ntmps75
  go_wp2_with (go_at_call 47; (with_reducible refine (kI.out _).mono ?_); rintro e w' ⟨rfl, e1, rfl⟩)
  go_loopw [3, 4] (fun s i wr => ∃ k : Nat, k ≤ L ∧ s = .string (V k) ∧ i = nI k ∧ w.Plus wr) (fun _ i _ => L - (intOf i).toNat)
  case atStart => exact ⟨0, by omega, rfl, rfl, by (repeat (first | exact Plus.refl _ | apply Plus.plus | apply Plus.alloc | apply Plus.drew))⟩
  case round =>
    obtain ⟨k, hk, rfl, rfl, hp⟩ := hrel
    by_cases hlt : k < L
    · have hlti : (k : Int) < L := by omega
      obtain ⟨x, hx⟩ : ∃ x, xs[k]? = some x := ⟨_, List.getElem?_eq_getElem (by rw [← hL.out]; exact hlt)⟩
      have hm := hX.out _ _ hx
      obtain ⟨g, o, rfl, hg, ⟨c0, c1, c2, c3, c4, c5, c6, c7, c8, c9, c10, c11, c12, c13, c14, c15⟩⟩ := rowC (h.out _ hp) k x hx (by rw [← hL.out]; exact hlt)
      have hq := hVs.out k x hx
      have hl1 := hVl.out k hk
      have hl2 := encC_le x
      rw [← Octs.txt_size] at hl2
      have kx := kP.out x hm
      generalize Octs.txt (encC x) = X at *
      have hsz : ¬ 9223372036854775807 < (V k).size + X.size := by omega
      replace hq := Lib.hid hq
      replace kx := Lib.hid kx
      replace hp := Lib.hid hp
      clear hx hm hl1 hl2
      go_wp2_with (go_at_call 16; (with_reducible refine (kx.out _).mono ?_); rintro e w' ⟨rfl, e2, rfl⟩)
      go_roundw
      case rel => exact ⟨k + 1, hlt, by rw [hq.out], by go_num, Plus.plus hp.out e2⟩
      case measure => simp [intOf]; omega
    · obtain rfl : k = L := by omega
      have hkk : ¬ (k : Int) < k := by omega
      go_wp2_with fail
      go_ret
      exact ⟨rfl, hp⟩
end Go.Proofs.Ytjfjecjigakdnaa
