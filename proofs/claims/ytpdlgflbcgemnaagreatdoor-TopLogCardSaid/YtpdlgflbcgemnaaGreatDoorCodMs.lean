/- codec: of, number, all: walks. -/
import Derived.Test.YtpdlgflbcgemnaaGreatDoorGz
import Derived.Test.YtpdlgflbcgemnaaGreatDoorCod8
set_option linter.unusedSimpArgs false
set_option linter.unusedVariables false
namespace Go.Proofs.YtpdlgflbcgemnaaGreatDoor
open Go.RowKit Octs
set_option maxHeartbeats 400000
set_option maxRecDepth 100000
abbrev fldV (t n c b i : Bool) : Value := .agg #[.bool t, .bool n, .bool c, .bool b, .bool i]
theorem of_k1 (w : World) : Calls Tryz.prog 27 #[nI 1] w fun e w' => e = .returned (.tuple #[fldV true false true false false, .bool true]) ∧ w.Plus w' := by
  go_enter Tryz.func27, Tryz.ntmps27
  go_wp2_with fail
  exact bodyPost_ret (v := .tuple #[.agg #[.bool true, .bool false, .bool true, .bool false, .bool false], .bool true]) (by simp [results, Tryz.results27, go_sem]) rfl ⟨rfl, by (repeat (first | exact Plus.refl _ | apply Plus.plus | apply Plus.alloc | apply Plus.drew))⟩
theorem of_k2 (w : World) : Calls Tryz.prog 27 #[nI 2] w fun e w' => e = .returned (.tuple #[fldV true false false false false, .bool true]) ∧ w.Plus w' := by
  go_enter Tryz.func27, Tryz.ntmps27
  go_wp2_with fail
  exact bodyPost_ret (v := .tuple #[.agg #[.bool true, .bool false, .bool false, .bool false, .bool false], .bool true]) (by simp [results, Tryz.results27, go_sem]) rfl ⟨rfl, by (repeat (first | exact Plus.refl _ | apply Plus.plus | apply Plus.alloc | apply Plus.drew))⟩
theorem of_k3 (w : World) : Calls Tryz.prog 27 #[nI 3] w fun e w' => e = .returned (.tuple #[fldV true false false false false, .bool true]) ∧ w.Plus w' := by
  go_enter Tryz.func27, Tryz.ntmps27
  go_wp2_with fail
  exact bodyPost_ret (v := .tuple #[.agg #[.bool true, .bool false, .bool false, .bool false, .bool false], .bool true]) (by simp [results, Tryz.results27, go_sem]) rfl ⟨rfl, by (repeat (first | exact Plus.refl _ | apply Plus.plus | apply Plus.alloc | apply Plus.drew))⟩
theorem of_k4 (w : World) : Calls Tryz.prog 27 #[nI 4] w fun e w' => e = .returned (.tuple #[fldV true false false false true, .bool true]) ∧ w.Plus w' := by
  go_enter Tryz.func27, Tryz.ntmps27
  go_wp2_with fail
  exact bodyPost_ret (v := .tuple #[.agg #[.bool true, .bool false, .bool false, .bool false, .bool true], .bool true]) (by simp [results, Tryz.results27, go_sem]) rfl ⟨rfl, by (repeat (first | exact Plus.refl _ | apply Plus.plus | apply Plus.alloc | apply Plus.drew))⟩
theorem of_k5 (w : World) : Calls Tryz.prog 27 #[nI 5] w fun e w' => e = .returned (.tuple #[fldV true false false false false, .bool true]) ∧ w.Plus w' := by
  go_enter Tryz.func27, Tryz.ntmps27
  go_wp2_with fail
  exact bodyPost_ret (v := .tuple #[.agg #[.bool true, .bool false, .bool false, .bool false, .bool false], .bool true]) (by simp [results, Tryz.results27, go_sem]) rfl ⟨rfl, by (repeat (first | exact Plus.refl _ | apply Plus.plus | apply Plus.alloc | apply Plus.drew))⟩
theorem of_k6 (w : World) : Calls Tryz.prog 27 #[nI 6] w fun e w' => e = .returned (.tuple #[fldV true false false false false, .bool true]) ∧ w.Plus w' := by
  go_enter Tryz.func27, Tryz.ntmps27
  go_wp2_with fail
  exact bodyPost_ret (v := .tuple #[.agg #[.bool true, .bool false, .bool false, .bool false, .bool false], .bool true]) (by simp [results, Tryz.results27, go_sem]) rfl ⟨rfl, by (repeat (first | exact Plus.refl _ | apply Plus.plus | apply Plus.alloc | apply Plus.drew))⟩
theorem of_k7 (w : World) : Calls Tryz.prog 27 #[nI 7] w fun e w' => e = .returned (.tuple #[fldV false true false true false, .bool true]) ∧ w.Plus w' := by
  go_enter Tryz.func27, Tryz.ntmps27
  go_wp2_with fail
  exact bodyPost_ret (v := .tuple #[.agg #[.bool false, .bool true, .bool false, .bool true, .bool false], .bool true]) (by simp [results, Tryz.results27, go_sem]) rfl ⟨rfl, by (repeat (first | exact Plus.refl _ | apply Plus.plus | apply Plus.alloc | apply Plus.drew))⟩
theorem of_k8 (w : World) : Calls Tryz.prog 27 #[nI 8] w fun e w' => e = .returned (.tuple #[fldV false true false false false, .bool true]) ∧ w.Plus w' := by
  go_enter Tryz.func27, Tryz.ntmps27
  go_wp2_with fail
  exact bodyPost_ret (v := .tuple #[.agg #[.bool false, .bool true, .bool false, .bool false, .bool false], .bool true]) (by simp [results, Tryz.results27, go_sem]) rfl ⟨rfl, by (repeat (first | exact Plus.refl _ | apply Plus.plus | apply Plus.alloc | apply Plus.drew))⟩
theorem of_k9 (w : World) : Calls Tryz.prog 27 #[nI 9] w fun e w' => e = .returned (.tuple #[fldV false true false false false, .bool true]) ∧ w.Plus w' := by
  go_enter Tryz.func27, Tryz.ntmps27
  go_wp2_with fail
  exact bodyPost_ret (v := .tuple #[.agg #[.bool false, .bool true, .bool false, .bool false, .bool false], .bool true]) (by simp [results, Tryz.results27, go_sem]) rfl ⟨rfl, by (repeat (first | exact Plus.refl _ | apply Plus.plus | apply Plus.alloc | apply Plus.drew))⟩
theorem of_k10 (w : World) : Calls Tryz.prog 27 #[nI 10] w fun e w' => e = .returned (.tuple #[fldV false true false false false, .bool true]) ∧ w.Plus w' := by
  go_enter Tryz.func27, Tryz.ntmps27
  go_wp2_with fail
  exact bodyPost_ret (v := .tuple #[.agg #[.bool false, .bool true, .bool false, .bool false, .bool false], .bool true]) (by simp [results, Tryz.results27, go_sem]) rfl ⟨rfl, by (repeat (first | exact Plus.refl _ | apply Plus.plus | apply Plus.alloc | apply Plus.drew))⟩
theorem of_k11 (w : World) : Calls Tryz.prog 27 #[nI 11] w fun e w' => e = .returned (.tuple #[fldV true false false false false, .bool true]) ∧ w.Plus w' := by
  go_enter Tryz.func27, Tryz.ntmps27
  go_wp2_with fail
  exact bodyPost_ret (v := .tuple #[.agg #[.bool true, .bool false, .bool false, .bool false, .bool false], .bool true]) (by simp [results, Tryz.results27, go_sem]) rfl ⟨rfl, by (repeat (first | exact Plus.refl _ | apply Plus.plus | apply Plus.alloc | apply Plus.drew))⟩
theorem of_k12 (w : World) : Calls Tryz.prog 27 #[nI 12] w fun e w' => e = .returned (.tuple #[fldV true false false true false, .bool true]) ∧ w.Plus w' := by
  go_enter Tryz.func27, Tryz.ntmps27
  go_wp2_with fail
  exact bodyPost_ret (v := .tuple #[.agg #[.bool true, .bool false, .bool false, .bool true, .bool false], .bool true]) (by simp [results, Tryz.results27, go_sem]) rfl ⟨rfl, by (repeat (first | exact Plus.refl _ | apply Plus.plus | apply Plus.alloc | apply Plus.drew))⟩
theorem of_no (k : Int) (h : ¬ (1 ≤ k ∧ k ≤ 12)) (w : World) : Calls Tryz.prog 27 #[nI k] w fun e w' => e = .returned (.tuple #[fldV false false false false false, .bool false]) ∧ w.Plus w' := by
  have e1 : (k == 1) = false := by rw [beq_eq_false_iff_ne]; omega
  have e2 : (k == 2) = false := by rw [beq_eq_false_iff_ne]; omega
  have e3 : (k == 3) = false := by rw [beq_eq_false_iff_ne]; omega
  have e4 : (k == 4) = false := by rw [beq_eq_false_iff_ne]; omega
  have e5 : (k == 5) = false := by rw [beq_eq_false_iff_ne]; omega
  have e6 : (k == 6) = false := by rw [beq_eq_false_iff_ne]; omega
  have e7 : (k == 7) = false := by rw [beq_eq_false_iff_ne]; omega
  have e8 : (k == 8) = false := by rw [beq_eq_false_iff_ne]; omega
  have e9 : (k == 9) = false := by rw [beq_eq_false_iff_ne]; omega
  have e10 : (k == 10) = false := by rw [beq_eq_false_iff_ne]; omega
  have e11 : (k == 11) = false := by rw [beq_eq_false_iff_ne]; omega
  have e12 : (k == 12) = false := by rw [beq_eq_false_iff_ne]; omega
  clear h
  go_enter Tryz.func27, Tryz.ntmps27
  go_wp2_with fail
  exact bodyPost_ret (v := .tuple #[.agg #[.bool false, .bool false, .bool false, .bool false, .bool false], .bool false]) (by simp [results, Tryz.results27, go_sem]) rfl ⟨rfl, by (repeat (first | exact Plus.refl _ | apply Plus.plus | apply Plus.alloc | apply Plus.drew))⟩
theorem of_any (k : Int) (w : World) : Calls Tryz.prog 27 #[nI k] w fun e w' => e = .returned (.tuple #[fldV (fT k) (fN k) (fC k) (fB k) (fI k), .bool (fK k)]) ∧ w.Plus w' := by
  by_cases h : 1 ≤ k ∧ k ≤ 12
  · rcases (by omega : k = 1 ∨ k = 2 ∨ k = 3 ∨ k = 4 ∨ k = 5 ∨ k = 6 ∨ k = 7 ∨ k = 8 ∨ k = 9 ∨ k = 10 ∨ k = 11 ∨ k = 12) with rfl | rfl | rfl | rfl | rfl | rfl | rfl | rfl | rfl | rfl | rfl | rfl
    · exact of_k1 w
    · exact of_k2 w
    · exact of_k3 w
    · exact of_k4 w
    · exact of_k5 w
    · exact of_k6 w
    · exact of_k7 w
    · exact of_k8 w
    · exact of_k9 w
    · exact of_k10 w
    · exact of_k11 w
    · exact of_k12 w
  · have e1 : fT k = false := by unfold fT; simp; omega
    have e2 : fN k = false := by unfold fN; simp; omega
    have e3 : fC k = false := by unfold fC; simp; omega
    have e4 : fB k = false := by unfold fB; simp; omega
    have e5 : fI k = false := by unfold fI; simp; omega
    have e6 : fK k = false := by unfold fK; simp; omega
    rw [e1, e2, e3, e4, e5, e6]
    exact of_no k h w
theorem number_any (has : Bool) (n : Int) (w : World) : Calls Tryz.prog 60 #[.bool has, nI n] w fun e w' => e = .returned (.bool (numB has n)) ∧ w.Plus w' := by
  unfold numB
  cases has with
  | false =>
    simp only [Bool.false_eq_true, if_false]
    by_cases h : n = 0
    · subst h
      go_enter Tryz.func60, Tryz.ntmps60
      go_wp2_with fail
      go_ret
      exact ⟨rfl, by (repeat (first | exact Plus.refl _ | apply Plus.plus | apply Plus.alloc | apply Plus.drew))⟩
    · rw [decide_eq_false h]
      have e : (n == 0) = false := by rw [beq_eq_false_iff_ne]; exact h
      clear h
      go_enter Tryz.func60, Tryz.ntmps60
      go_wp2_with fail
      go_ret
      exact ⟨rfl, by (repeat (first | exact Plus.refl _ | apply Plus.plus | apply Plus.alloc | apply Plus.drew))⟩
  | true =>
    simp only [if_true]
    by_cases h1 : 1 ≤ n
    · by_cases h2 : n ≤ 1099511627776
      · rw [decide_eq_true h1, decide_eq_true h2]
        go_enter Tryz.func60, Tryz.ntmps60
        go_wp2_with fail
        go_ret
        exact ⟨rfl, by (repeat (first | exact Plus.refl _ | apply Plus.plus | apply Plus.alloc | apply Plus.drew))⟩
      · rw [decide_eq_true h1, decide_eq_false h2]
        go_enter Tryz.func60, Tryz.ntmps60
        go_wp2_with fail
        go_ret
        exact ⟨rfl, by (repeat (first | exact Plus.refl _ | apply Plus.plus | apply Plus.alloc | apply Plus.drew))⟩
    · rw [decide_eq_false h1]
      go_enter Tryz.func60, Tryz.ntmps60
      go_wp2_with fail
      go_ret
      exact ⟨rfl, by (repeat (first | exact Plus.refl _ | apply Plus.plus | apply Plus.alloc | apply Plus.drew))⟩
theorem all_take {α : Type} (ok : α → Bool) (xs : List α) (k : Nat) (x : α) (h : xs[k]? = some x) (ha : (xs.take k).all ok = true) (hx : ok x = true) : (xs.take (k + 1)).all ok = true := by
  rw [List.take_add_one, h, List.all_append, ha]
  simp [hx]
theorem all_no {α : Type} (ok : α → Bool) (xs : List α) (k : Nat) (x : α) (h : xs[k]? = some x) (hx : ok x = false) : xs.all ok = false := by
  rw [List.all_eq_false]
  exact ⟨x, List.mem_of_getElem? h, by simp [hx]⟩
theorem allI_loop (has : Bool) (xs : List IdR) (most : Nat) (hc : (has || decide (xs.length = 0)) = true) (hm : xs.length ≤ most) (hle : xs.length ≤ 1100) (A : Option Addr) (cp : Nat) (w : World) (h : RowsAt w A 3 xs.length (rowFI xs)) :
    Calls Tryz.prog 65 #[.bool has, .slice A xs.length cp, nI most, .func (.func 66) #[] #[]] w fun e w' => e = .returned (.bool (xs.all idB)) ∧ w.Plus w' := by
  have hmi : ¬ (most : Int) < xs.length := by omega
  have hz : has = true ∨ ¬ (0 : Int) < xs.length := by
    cases has with
    | true => exact .inl rfl
    | false => right; simp at hc; rw [hc]; decide
  clear hm hc
  rcases hz with rfl | hz
  · replace h := Lib.hid (fun wz (p : w.Plus wz) => h.plus p)
    have kC := Lib.hid (fun x w => checkID_any x w)
    have hX : ∀ k x, xs[k]? = some x → idB x = false → xs.all idB = false := fun k x h1 h2 => all_no idB xs k x h1 h2
    replace hX := Lib.hid hX
    have hT : xs.take xs.length = xs := List.take_length
    obtain ⟨L, hL⟩ : ∃ L, L = xs.length := ⟨_, rfl⟩
    rw [← hL] at hT hle hmi ⊢
    replace hL := Lib.hid hL
    replace hT := Lib.hid hT
    have hLi : (L : Int) ≤ 1100 := by omega
    go_enter Tryz.func65, Tryz.ntmps65
    go_wp2_with fail
    go_loopw [26] (fun i wr => ∃ k : Nat, k ≤ L ∧ i = nI k ∧ Hid ((xs.take k).all idB = true) ∧ w.Plus wr) (fun i _ => L - (intOf i).toNat)
    case atStart => exact ⟨0, by omega, rfl, rfl, Plus.refl _⟩
    case round =>
      obtain ⟨k, hk, rfl, ha, hp⟩ := hrel
      by_cases hlt : k < L
      · have hlti : (k : Int) < L := by omega
        obtain ⟨x, hx⟩ : ∃ x, xs[k]? = some x := ⟨_, List.getElem?_eq_getElem (by rw [← hL.out]; exact hlt)⟩
        obtain ⟨g, o, rfl, hg, ⟨c0, c1, c2⟩⟩ := rowI (h.out _ hp) k x hx (by rw [← hL.out]; exact hlt)
        replace h := Lib.hid h
        have kx := fun w => kC.out x w
        replace hp := Lib.hid hp
        cases hok : idB x with
        | false =>
          have hf := hX.out k x hx hok
          rw [hok] at kx
          simp only [Bool.false_eq_true, if_false] at kx
          replace kx := Lib.hid kx
          replace hf := Lib.hid hf
          clear hx hok
          go_wp2_with (go_at_call 66; (with_reducible refine (kx.out _).mono ?_); rintro e w' ⟨rfl, e2, rfl⟩)
          go_ret
          exact ⟨by rw [hf.out]; rfl, by (repeat (first | exact hp.out | apply Plus.plus | apply Plus.alloc | apply Plus.drew))⟩
        | true =>
          have hf := Lib.hid (all_take idB xs k x hx ha.out hok)
          rw [hok] at kx
          simp only [if_true] at kx
          replace kx := Lib.hid kx
          clear hx hok
          go_wp2_with (go_at_call 66; (with_reducible refine (kx.out _).mono ?_); rintro e w' ⟨rfl, e2, rfl⟩)
          go_roundw
          case rel => exact ⟨k + 1, hlt, by go_num, hf, by (repeat (first | exact hp.out | apply Plus.plus | apply Plus.alloc | apply Plus.drew))⟩
          case measure => simp [intOf]; omega
      · obtain rfl : k = L := by omega
        have hkk : ¬ (k : Int) < k := by omega
        rw [hT.out] at ha
        replace hp := Lib.hid hp
        go_wp2_with fail
        go_ret
        exact ⟨by rw [ha.out]; rfl, hp.out⟩
  · obtain rfl : xs = [] := List.length_eq_zero_iff.1 (by omega)
    clear hz h
    simp only [List.length_nil] at hmi ⊢
    have hmi : ¬ (most : Int) < 0 := by omega
    cases has
    · go_enter Tryz.func65, Tryz.ntmps65
      go_wp2_with fail
      go_loopw [26] (fun v wr => v = nI 0 ∧ w.Plus wr) (fun v _ => 0)
      case atStart => exact ⟨rfl, Plus.refl w⟩
      case round =>
        obtain ⟨rfl, hp⟩ := hrel
        replace hp := Lib.hid hp
        go_wp2_with fail
        go_ret
        exact ⟨rfl, hp.out⟩
    · go_enter Tryz.func65, Tryz.ntmps65
      go_wp2_with fail
      go_loopw [26] (fun v wr => v = nI 0 ∧ w.Plus wr) (fun v _ => 0)
      case atStart => exact ⟨rfl, Plus.refl w⟩
      case round =>
        obtain ⟨rfl, hp⟩ := hrel
        replace hp := Lib.hid hp
        go_wp2_with fail
        go_ret
        exact ⟨rfl, hp.out⟩
theorem allI_any (has : Bool) (xs : List IdR) (most : Nat) (mo : Int) (hmo : mo = (most : Int)) (hm : most ≤ 1024) (A : Option Addr) (cp : Nat) (w : World) (h : RowsAt w A 3 xs.length (rowFI xs)) :
    Calls Tryz.prog 65 #[.bool has, .slice A xs.length cp, nI mo, .func (.func 66) #[] #[]] w fun e w' => e = .returned (.bool (allB idB has xs most)) ∧ w.Plus w' := by
  subst hmo
  by_cases h1 : (has || decide (xs.length = 0)) = true
  · by_cases h2 : xs.length ≤ most
    · have e : allB idB has xs most = xs.all idB := by unfold allB; rw [h1, decide_eq_true h2]; simp
      rw [e]
      exact allI_loop has xs most h1 h2 (by omega) A cp w h
    · have e : allB idB has xs most = false := by unfold allB; rw [decide_eq_false h2]; simp
      rw [e]
      have hi : (most : Int) < xs.length := by omega
      have h0 : (0 : Int) < xs.length := by omega
      clear h h1 h2 e
      generalize xs.length = L at *
      cases has
      · go_enter Tryz.func65, Tryz.ntmps65
        go_wp2_with fail
        go_ret
        exact ⟨rfl, by (repeat (first | exact Plus.refl _ | apply Plus.plus | apply Plus.alloc | apply Plus.drew))⟩
      · go_enter Tryz.func65, Tryz.ntmps65
        go_wp2_with fail
        go_ret
        exact ⟨rfl, by (repeat (first | exact Plus.refl _ | apply Plus.plus | apply Plus.alloc | apply Plus.drew))⟩
  · have e : allB idB has xs most = false := by unfold allB; rw [Bool.eq_false_iff.2 h1]; simp
    rw [e]
    cases has with
    | true => simp at h1
    | false =>
      have h0 : (0 : Int) < xs.length := by simp at h1; have := List.length_pos_iff.2 h1; omega
      clear h h1 e
      generalize xs.length = L at *
      go_enter Tryz.func65, Tryz.ntmps65
      go_wp2_with fail
      go_ret
      exact ⟨rfl, by (repeat (first | exact Plus.refl _ | apply Plus.plus | apply Plus.alloc | apply Plus.drew))⟩
theorem allB_loop (has : Bool) (xs : List BdR) (most : Nat) (hc : (has || decide (xs.length = 0)) = true) (hm : xs.length ≤ most) (hle : xs.length ≤ 1100) (A : Option Addr) (cp : Nat) (w : World) (h : RowsAt w A 11 xs.length (rowFB xs)) :
    Calls Tryz.prog 63 #[.bool has, .slice A xs.length cp, nI most, .func (.func 64) #[] #[]] w fun e w' => e = .returned (.bool (xs.all okB)) ∧ w.Plus w' := by
  have hmi : ¬ (most : Int) < xs.length := by omega
  have hz : has = true ∨ ¬ (0 : Int) < xs.length := by
    cases has with
    | true => exact .inl rfl
    | false => right; simp at hc; rw [hc]; decide
  clear hm hc
  rcases hz with rfl | hz
  · replace h := Lib.hid (fun wz (p : w.Plus wz) => h.plus p)
    have kC := Lib.hid (fun x w => check_any x w)
    have hX : ∀ k x, xs[k]? = some x → okB x = false → xs.all okB = false := fun k x h1 h2 => all_no okB xs k x h1 h2
    replace hX := Lib.hid hX
    have hT : xs.take xs.length = xs := List.take_length
    obtain ⟨L, hL⟩ : ∃ L, L = xs.length := ⟨_, rfl⟩
    rw [← hL] at hT hle hmi ⊢
    replace hL := Lib.hid hL
    replace hT := Lib.hid hT
    have hLi : (L : Int) ≤ 1100 := by omega
    go_enter Tryz.func63, Tryz.ntmps63
    go_wp2_with fail
    go_loopw [26] (fun i wr => ∃ k : Nat, k ≤ L ∧ i = nI k ∧ Hid ((xs.take k).all okB = true) ∧ w.Plus wr) (fun i _ => L - (intOf i).toNat)
    case atStart => exact ⟨0, by omega, rfl, rfl, Plus.refl _⟩
    case round =>
      obtain ⟨k, hk, rfl, ha, hp⟩ := hrel
      by_cases hlt : k < L
      · have hlti : (k : Int) < L := by omega
        obtain ⟨x, hx⟩ : ∃ x, xs[k]? = some x := ⟨_, List.getElem?_eq_getElem (by rw [← hL.out]; exact hlt)⟩
        obtain ⟨g, o, rfl, hg, ⟨c0, c1, c2, c3, c4, c5, c6, c7, c8, c9, c10⟩⟩ := rowB (h.out _ hp) k x hx (by rw [← hL.out]; exact hlt)
        replace h := Lib.hid h
        have kx := fun w => kC.out x w
        replace hp := Lib.hid hp
        cases hok : okB x with
        | false =>
          have hf := hX.out k x hx hok
          rw [hok] at kx
          simp only [Bool.false_eq_true, if_false] at kx
          replace kx := Lib.hid kx
          replace hf := Lib.hid hf
          clear hx hok
          go_wp2_with (go_at_call 64; (with_reducible refine (kx.out _).mono ?_); rintro e w' ⟨rfl, e2, rfl⟩)
          go_ret
          exact ⟨by rw [hf.out]; rfl, by (repeat (first | exact hp.out | apply Plus.plus | apply Plus.alloc | apply Plus.drew))⟩
        | true =>
          have hf := Lib.hid (all_take okB xs k x hx ha.out hok)
          rw [hok] at kx
          simp only [if_true] at kx
          replace kx := Lib.hid kx
          clear hx hok
          go_wp2_with (go_at_call 64; (with_reducible refine (kx.out _).mono ?_); rintro e w' ⟨rfl, e2, rfl⟩)
          go_roundw
          case rel => exact ⟨k + 1, hlt, by go_num, hf, by (repeat (first | exact hp.out | apply Plus.plus | apply Plus.alloc | apply Plus.drew))⟩
          case measure => simp [intOf]; omega
      · obtain rfl : k = L := by omega
        have hkk : ¬ (k : Int) < k := by omega
        rw [hT.out] at ha
        replace hp := Lib.hid hp
        go_wp2_with fail
        go_ret
        exact ⟨by rw [ha.out]; rfl, hp.out⟩
  · obtain rfl : xs = [] := List.length_eq_zero_iff.1 (by omega)
    clear hz h
    simp only [List.length_nil] at hmi ⊢
    have hmi : ¬ (most : Int) < 0 := by omega
    cases has
    · go_enter Tryz.func63, Tryz.ntmps63
      go_wp2_with fail
      go_loopw [26] (fun v wr => v = nI 0 ∧ w.Plus wr) (fun v _ => 0)
      case atStart => exact ⟨rfl, Plus.refl w⟩
      case round =>
        obtain ⟨rfl, hp⟩ := hrel
        replace hp := Lib.hid hp
        go_wp2_with fail
        go_ret
        exact ⟨rfl, hp.out⟩
    · go_enter Tryz.func63, Tryz.ntmps63
      go_wp2_with fail
      go_loopw [26] (fun v wr => v = nI 0 ∧ w.Plus wr) (fun v _ => 0)
      case atStart => exact ⟨rfl, Plus.refl w⟩
      case round =>
        obtain ⟨rfl, hp⟩ := hrel
        replace hp := Lib.hid hp
        go_wp2_with fail
        go_ret
        exact ⟨rfl, hp.out⟩
theorem allB_any (has : Bool) (xs : List BdR) (most : Nat) (mo : Int) (hmo : mo = (most : Int)) (hm : most ≤ 1024) (A : Option Addr) (cp : Nat) (w : World) (h : RowsAt w A 11 xs.length (rowFB xs)) :
    Calls Tryz.prog 63 #[.bool has, .slice A xs.length cp, nI mo, .func (.func 64) #[] #[]] w fun e w' => e = .returned (.bool (allB okB has xs most)) ∧ w.Plus w' := by
  subst hmo
  by_cases h1 : (has || decide (xs.length = 0)) = true
  · by_cases h2 : xs.length ≤ most
    · have e : allB okB has xs most = xs.all okB := by unfold allB; rw [h1, decide_eq_true h2]; simp
      rw [e]
      exact allB_loop has xs most h1 h2 (by omega) A cp w h
    · have e : allB okB has xs most = false := by unfold allB; rw [decide_eq_false h2]; simp
      rw [e]
      have hi : (most : Int) < xs.length := by omega
      have h0 : (0 : Int) < xs.length := by omega
      clear h h1 h2 e
      generalize xs.length = L at *
      cases has
      · go_enter Tryz.func63, Tryz.ntmps63
        go_wp2_with fail
        go_ret
        exact ⟨rfl, by (repeat (first | exact Plus.refl _ | apply Plus.plus | apply Plus.alloc | apply Plus.drew))⟩
      · go_enter Tryz.func63, Tryz.ntmps63
        go_wp2_with fail
        go_ret
        exact ⟨rfl, by (repeat (first | exact Plus.refl _ | apply Plus.plus | apply Plus.alloc | apply Plus.drew))⟩
  · have e : allB okB has xs most = false := by unfold allB; rw [Bool.eq_false_iff.2 h1]; simp
    rw [e]
    cases has with
    | true => simp at h1
    | false =>
      have h0 : (0 : Int) < xs.length := by simp at h1; have := List.length_pos_iff.2 h1; omega
      clear h h1 e
      generalize xs.length = L at *
      go_enter Tryz.func63, Tryz.ntmps63
      go_wp2_with fail
      go_ret
      exact ⟨rfl, by (repeat (first | exact Plus.refl _ | apply Plus.plus | apply Plus.alloc | apply Plus.drew))⟩
theorem allC_loop (has : Bool) (xs : List CmdR) (most : Nat) (hc : (has || decide (xs.length = 0)) = true) (hm : xs.length ≤ most) (hle : xs.length ≤ 1100) (A : Option Addr) (cp : Nat) (w : World) (h : RowsAt w A 16 xs.length (rowFC xs)) :
    Calls Tryz.prog 61 #[.bool has, .slice A xs.length cp, nI most, .func (.func 62) #[] #[]] w fun e w' => e = .returned (.bool (xs.all okC)) ∧ w.Plus w' := by
  have hmi : ¬ (most : Int) < xs.length := by omega
  have hz : has = true ∨ ¬ (0 : Int) < xs.length := by
    cases has with
    | true => exact .inl rfl
    | false => right; simp at hc; rw [hc]; decide
  clear hm hc
  rcases hz with rfl | hz
  · replace h := Lib.hid (fun wz (p : w.Plus wz) => h.plus p)
    have kC := Lib.hid (fun x w => checkCmd_any x w)
    have hX : ∀ k x, xs[k]? = some x → okC x = false → xs.all okC = false := fun k x h1 h2 => all_no okC xs k x h1 h2
    replace hX := Lib.hid hX
    have hT : xs.take xs.length = xs := List.take_length
    obtain ⟨L, hL⟩ : ∃ L, L = xs.length := ⟨_, rfl⟩
    rw [← hL] at hT hle hmi ⊢
    replace hL := Lib.hid hL
    replace hT := Lib.hid hT
    have hLi : (L : Int) ≤ 1100 := by omega
    go_enter Tryz.func61, Tryz.ntmps61
    go_wp2_with fail
    go_loopw [26] (fun i wr => ∃ k : Nat, k ≤ L ∧ i = nI k ∧ Hid ((xs.take k).all okC = true) ∧ w.Plus wr) (fun i _ => L - (intOf i).toNat)
    case atStart => exact ⟨0, by omega, rfl, rfl, Plus.refl _⟩
    case round =>
      obtain ⟨k, hk, rfl, ha, hp⟩ := hrel
      by_cases hlt : k < L
      · have hlti : (k : Int) < L := by omega
        obtain ⟨x, hx⟩ : ∃ x, xs[k]? = some x := ⟨_, List.getElem?_eq_getElem (by rw [← hL.out]; exact hlt)⟩
        obtain ⟨g, o, rfl, hg, ⟨c0, c1, c2, c3, c4, c5, c6, c7, c8, c9, c10, c11, c12, c13, c14, c15⟩⟩ := rowC (h.out _ hp) k x hx (by rw [← hL.out]; exact hlt)
        replace h := Lib.hid h
        have kx := fun w => kC.out x w
        replace hp := Lib.hid hp
        cases hok : okC x with
        | false =>
          have hf := hX.out k x hx hok
          rw [hok] at kx
          simp only [Bool.false_eq_true, if_false] at kx
          replace kx := Lib.hid kx
          replace hf := Lib.hid hf
          clear hx hok
          go_wp2_with (go_at_call 62; (with_reducible refine (kx.out _).mono ?_); rintro e w' ⟨rfl, e2, rfl⟩)
          go_ret
          exact ⟨by rw [hf.out]; rfl, by (repeat (first | exact hp.out | apply Plus.plus | apply Plus.alloc | apply Plus.drew))⟩
        | true =>
          have hf := Lib.hid (all_take okC xs k x hx ha.out hok)
          rw [hok] at kx
          simp only [if_true] at kx
          replace kx := Lib.hid kx
          clear hx hok
          go_wp2_with (go_at_call 62; (with_reducible refine (kx.out _).mono ?_); rintro e w' ⟨rfl, e2, rfl⟩)
          go_roundw
          case rel => exact ⟨k + 1, hlt, by go_num, hf, by (repeat (first | exact hp.out | apply Plus.plus | apply Plus.alloc | apply Plus.drew))⟩
          case measure => simp [intOf]; omega
      · obtain rfl : k = L := by omega
        have hkk : ¬ (k : Int) < k := by omega
        rw [hT.out] at ha
        replace hp := Lib.hid hp
        go_wp2_with fail
        go_ret
        exact ⟨by rw [ha.out]; rfl, hp.out⟩
  · obtain rfl : xs = [] := List.length_eq_zero_iff.1 (by omega)
    clear hz h
    simp only [List.length_nil] at hmi ⊢
    have hmi : ¬ (most : Int) < 0 := by omega
    cases has
    · go_enter Tryz.func61, Tryz.ntmps61
      go_wp2_with fail
      go_loopw [26] (fun v wr => v = nI 0 ∧ w.Plus wr) (fun v _ => 0)
      case atStart => exact ⟨rfl, Plus.refl w⟩
      case round =>
        obtain ⟨rfl, hp⟩ := hrel
        replace hp := Lib.hid hp
        go_wp2_with fail
        go_ret
        exact ⟨rfl, hp.out⟩
    · go_enter Tryz.func61, Tryz.ntmps61
      go_wp2_with fail
      go_loopw [26] (fun v wr => v = nI 0 ∧ w.Plus wr) (fun v _ => 0)
      case atStart => exact ⟨rfl, Plus.refl w⟩
      case round =>
        obtain ⟨rfl, hp⟩ := hrel
        replace hp := Lib.hid hp
        go_wp2_with fail
        go_ret
        exact ⟨rfl, hp.out⟩
theorem allC_any (has : Bool) (xs : List CmdR) (most : Nat) (mo : Int) (hmo : mo = (most : Int)) (hm : most ≤ 1024) (A : Option Addr) (cp : Nat) (w : World) (h : RowsAt w A 16 xs.length (rowFC xs)) :
    Calls Tryz.prog 61 #[.bool has, .slice A xs.length cp, nI mo, .func (.func 62) #[] #[]] w fun e w' => e = .returned (.bool (allB okC has xs most)) ∧ w.Plus w' := by
  subst hmo
  by_cases h1 : (has || decide (xs.length = 0)) = true
  · by_cases h2 : xs.length ≤ most
    · have e : allB okC has xs most = xs.all okC := by unfold allB; rw [h1, decide_eq_true h2]; simp
      rw [e]
      exact allC_loop has xs most h1 h2 (by omega) A cp w h
    · have e : allB okC has xs most = false := by unfold allB; rw [decide_eq_false h2]; simp
      rw [e]
      have hi : (most : Int) < xs.length := by omega
      have h0 : (0 : Int) < xs.length := by omega
      clear h h1 h2 e
      generalize xs.length = L at *
      cases has
      · go_enter Tryz.func61, Tryz.ntmps61
        go_wp2_with fail
        go_ret
        exact ⟨rfl, by (repeat (first | exact Plus.refl _ | apply Plus.plus | apply Plus.alloc | apply Plus.drew))⟩
      · go_enter Tryz.func61, Tryz.ntmps61
        go_wp2_with fail
        go_ret
        exact ⟨rfl, by (repeat (first | exact Plus.refl _ | apply Plus.plus | apply Plus.alloc | apply Plus.drew))⟩
  · have e : allB okC has xs most = false := by unfold allB; rw [Bool.eq_false_iff.2 h1]; simp
    rw [e]
    cases has with
    | true => simp at h1
    | false =>
      have h0 : (0 : Int) < xs.length := by simp at h1; have := List.length_pos_iff.2 h1; omega
      clear h h1 e
      generalize xs.length = L at *
      go_enter Tryz.func61, Tryz.ntmps61
      go_wp2_with fail
      go_ret
      exact ⟨rfl, by (repeat (first | exact Plus.refl _ | apply Plus.plus | apply Plus.alloc | apply Plus.drew))⟩
end Go.Proofs.YtpdlgflbcgemnaaGreatDoor
