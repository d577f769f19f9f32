/- fixed: Show, and the reference's: walks. -/
import Derived.Test.YtndbcjgbcplgcaaDoorFix3
set_option linter.unusedSimpArgs false
set_option linter.unusedVariables false
namespace Go.Proofs.YtndbcjgbcplgcaaDoor
open Go.RowKit
theorem frac_step (r : Nat) (h : r < 256) : frac r = if r = 0 then [] else dg (r * 10 / 256) :: frac (r * 10 % 256) := by
  have H : ∀ r : Fin 256, frac r.val = if r.val = 0 then [] else dg (r.val * 10 / 256) :: frac (r.val * 10 % 256) := by decide +kernel
  exact H ⟨r, h⟩
def gm (r : Nat) : Nat := 256 - Nat.gcd r 256
theorem gm_step (r : Nat) (h : r < 256) (h0 : 0 < r) : gm (r * 10 % 256) < gm r := by
  have H : ∀ r : Fin 256, 0 < r.val → gm (r.val * 10 % 256) < gm r.val := by decide +kernel
  exact H ⟨r, h⟩ h0
theorem showN_len (n : Nat) : (showN n).length ≤ 21 := by
  have h1 := dec_len12 (n / 256)
  have h2 := (frac_facts (n % 256) (by omega)).1
  unfold showN
  split
  · omega
  · simp; omega
section
variable (w : World)
set_option maxRecDepth 100000 in
theorem trim_any (s : ByteArray) (hs : s.size ≤ 1000000) : Calls Tryd.prog 28 #[.string s, .string ⟨#[48]⟩] w fun e w' => e = .returned (.string (txt (trimZ (bytes s)))) ∧ w.Plus w' := by
  have hC : ∀ (w : World), Calls Tryd.prog 32 #[.string s, .int .u8 ((((⟨#[48]⟩ : ByteArray)[0]'(by decide)).toNat : Nat) : Int)] w fun e w' => e = .returned (.string (txt (trimZ (bytes s)))) ∧ w.Plus w' := fun w => trim_byte w s hs
  replace hC := Lib.hid hC
  by_cases h0 : s.size = 0
  · have hz := (size_zero s).1 h0
    subst hz
    replace h0 := Lib.hid h0
    go_enter Tryd.func28, Tryd.ntmps28
    go_wp2_with fail
    go_ret
    exact ⟨rfl, by (repeat (first | exact Plus.refl _ | apply Plus.plus | apply Plus.alloc | apply Plus.drew))⟩
  · have hz2 : s.toList.isEmpty = false := by
      rw [← decide_eq_emptyBytes, decide_eq_false_iff_not]
      intro e; exact h0 ((size_zero s).2 e)
    replace h0 := Lib.hid h0
    generalize hT : txt (trimZ (bytes s)) = T at *
    replace hT := Lib.hid hT
    go_enter Tryd.func28, Tryd.ntmps28
    go_wp2_with (first | (go_at_call 32; (with_reducible refine (hC.out _).mono ?_); rintro e w' ⟨rfl, ey, rfl⟩))
    go_ret
    exact ⟨rfl, by (repeat (first | exact Plus.refl _ | apply Plus.plus | apply Plus.alloc | apply Plus.drew))⟩
theorem show_pos (n : Int) (m : Nat) (hx : fcl n = m) (hm : m ≤ 1073741824) : Calls Tryd.prog 22 #[.int .i64 n] w fun e w' => e = .returned (.string (txt (showN m))) ∧ w.Plus w' := by
  have hC := clamp_any
  have hCl := Lib.hid (fun w => by have := clamp_any w n; rw [hx] at this; exact this)
  clear hC
  obtain ⟨r, hr⟩ : ∃ r : Nat, m % 256 = r := ⟨_, rfl⟩
  obtain ⟨q, hq⟩ : ∃ q : Nat, m / 256 = q := ⟨_, rfl⟩
  have hr1 : (m : Int) % 256 = (r : Int) := by omega
  have hq1 : (m : Int) / 256 = (q : Int) := by omega
  have hS : showN m = if r = 0 then dec q else dec q ++ 46 :: frac r := by rw [← hr, ← hq]; rfl
  have hDq := Lib.hid (fun w => digits_any w q (by omega))
  have hl1 : (txt (dec q)).size ≤ 12 := by rw [txt_size]; exact dec_len12 q
  have hm0 : ¬ (m : Int) < 0 := by omega
  have hr256 : r < 256 := by omega
  replace hr := Lib.hid hr
  replace hq := Lib.hid hq
  replace hx := Lib.hid hx
  by_cases h0 : r = 0
  · subst h0
    rw [if_pos rfl] at hS
    rw [hS]
    have hcat : ⟨#[]⟩ ++ txt (dec q) = txt (dec q) := by rw [show (⟨#[]⟩ : ByteArray) = txt [] from rfl, txt_append]; rfl
    replace hS := Lib.hid hS
    generalize txt (dec q) = T at *
    go_enter Tryd.func22, Tryd.ntmps22
    go_wp2_with (first | (go_at_call 13; (with_reducible refine (hCl.out _).mono ?_); rintro e w' ⟨rfl, ey, rfl⟩) | (go_at_call 27; (with_reducible refine (hDq.out _).mono ?_); rintro e w' ⟨rfl, ez, rfl⟩))
    go_ret
    exact ⟨rfl, by (repeat (first | exact Plus.refl _ | apply Plus.plus | apply Plus.alloc | apply Plus.drew))⟩
  · have hr0 : ((r : Int) == 0) = false := by rw [beq_eq_false_iff_ne]; omega
    rw [if_neg h0] at hS
    obtain ⟨z, hz⟩ : ∃ z : Nat, 100000000 + r * 390625 = z := ⟨_, rfl⟩
    have hz1 : 100000000 + (r : Int) * 390625 = (z : Int) := by omega
    have hz2 : 100000000 + 390625 * (r : Int) = (z : Int) := by omega
    have hDz := Lib.hid (fun w => digits_any w z (by omega))
    have hF := frac_trim r hr256
    rw [hz] at hF
    have hzl : 1 ≤ (txt (dec z)).size ∧ (txt (dec z)).size ≤ 12 := by rw [txt_size]; exact ⟨dec_len_pos z, dec_len12 z⟩
    have hTr : ∀ w, Calls Tryd.prog 28 #[.string ((txt (dec z)).extract 1 (txt (dec z)).size), .string ⟨#[48]⟩] w fun e w' => e = .returned (.string (txt (frac r))) ∧ w.Plus w' := fun w => by
      have := trim_any w ((txt (dec z)).extract 1 (txt (dec z)).size) (by rw [ByteArray.size_extract]; omega)
      have hex : (txt (dec z)).extract 1 (txt (dec z)).size = txt ((dec z).drop 1) := by rw [extract_txt, bytes_end, bytes_txt]
      rw [hex, bytes_txt, hF] at this
      rw [hex]
      exact this
    have hl2 : (txt (frac r)).size ≤ 12 := by rw [txt_size]; have := (frac_facts r hr256).1; omega
    have hcat : ⟨#[]⟩ ++ txt (dec q) = txt (dec q) := by rw [show (⟨#[]⟩ : ByteArray) = txt [] from rfl, txt_append]; rfl
    have hcat2 : txt (dec q) ++ ⟨#[46]⟩ ++ txt (frac r) = txt (showN m) := by rw [show (⟨#[46]⟩ : ByteArray) = txt [46] from rfl, txt_append, txt_append, hS]; simp
    have hl3 : (txt (dec q) ++ ⟨#[46]⟩).size ≤ 13 := by rw [show (⟨#[46]⟩ : ByteArray) = txt [46] from rfl, txt_append, txt_size]; rw [txt_size] at hl1; simp; omega
    replace hS := Lib.hid hS
    replace hz := Lib.hid hz
    replace hF := Lib.hid hF
    replace hTr := Lib.hid hTr
    generalize txt (dec q) = T at *
    generalize txt (dec z) = Z at *
    generalize txt (frac r) = U at *
    generalize txt (showN m) = R at *
    go_enter Tryd.func22, Tryd.ntmps22
    go_wp2_with (first | (go_at_call 13; (with_reducible refine (hCl.out _).mono ?_); rintro e w' ⟨rfl, ey, rfl⟩) | (go_at_call 27; (with_reducible refine (hDq.out _).mono ?_); rintro e w' ⟨rfl, ez, rfl⟩) | (go_at_call 27; (with_reducible refine (hDz.out _).mono ?_); rintro e w' ⟨rfl, ez2, rfl⟩) | (go_at_call 28; (with_reducible refine (hTr.out _).mono ?_); rintro e w' ⟨rfl, eu, rfl⟩))
    go_ret
    exact ⟨rfl, by (repeat (first | exact Plus.refl _ | apply Plus.plus | apply Plus.alloc | apply Plus.drew))⟩
theorem show_neg (n : Int) (m : Nat) (hx : fcl n = -(m : Int)) (hm : m ≤ 1073741824) (hp : 0 < m) : Calls Tryd.prog 22 #[.int .i64 n] w fun e w' => e = .returned (.string (txt (45 :: showN m))) ∧ w.Plus w' := by
  have hCl := Lib.hid (fun w => by have := clamp_any w n; rw [hx] at this; exact this)
  obtain ⟨r, hr⟩ : ∃ r : Nat, m % 256 = r := ⟨_, rfl⟩
  obtain ⟨q, hq⟩ : ∃ q : Nat, m / 256 = q := ⟨_, rfl⟩
  have hr1 : (m : Int) % 256 = (r : Int) := by omega
  have hq1 : (m : Int) / 256 = (q : Int) := by omega
  have hS : showN m = if r = 0 then dec q else dec q ++ 46 :: frac r := by rw [← hr, ← hq]; rfl
  have hDq := Lib.hid (fun w => digits_any w q (by omega))
  have hl1 : (txt (dec q)).size ≤ 12 := by rw [txt_size]; exact dec_len12 q
  have hm0 : -(m : Int) < 0 := by omega
  have hr256 : r < 256 := by omega
  replace hr := Lib.hid hr
  replace hq := Lib.hid hq
  replace hx := Lib.hid hx
  by_cases h0 : r = 0
  · subst h0
    rw [if_pos rfl] at hS
    rw [hS]
    have hcat : ⟨#[45]⟩ ++ txt (dec q) = txt (45 :: dec q) := by rw [show (⟨#[45]⟩ : ByteArray) = txt [45] from rfl, txt_append]; rfl
    replace hS := Lib.hid hS
    generalize txt (dec q) = T at *
    generalize txt (45 :: dec q) = T2 at *
    go_enter Tryd.func22, Tryd.ntmps22
    go_wp2_with (first | (go_at_call 13; (with_reducible refine (hCl.out _).mono ?_); rintro e w' ⟨rfl, ey, rfl⟩) | (go_at_call 27; (with_reducible refine (hDq.out _).mono ?_); rintro e w' ⟨rfl, ez, rfl⟩))
    go_ret
    exact ⟨rfl, by (repeat (first | exact Plus.refl _ | apply Plus.plus | apply Plus.alloc | apply Plus.drew))⟩
  · have hr0 : ((r : Int) == 0) = false := by rw [beq_eq_false_iff_ne]; omega
    rw [if_neg h0] at hS
    obtain ⟨z, hz⟩ : ∃ z : Nat, 100000000 + r * 390625 = z := ⟨_, rfl⟩
    have hz1 : 100000000 + (r : Int) * 390625 = (z : Int) := by omega
    have hz2 : 100000000 + 390625 * (r : Int) = (z : Int) := by omega
    have hDz := Lib.hid (fun w => digits_any w z (by omega))
    have hF := frac_trim r hr256
    rw [hz] at hF
    have hzl : 1 ≤ (txt (dec z)).size ∧ (txt (dec z)).size ≤ 12 := by rw [txt_size]; exact ⟨dec_len_pos z, dec_len12 z⟩
    have hTr : ∀ w, Calls Tryd.prog 28 #[.string ((txt (dec z)).extract 1 (txt (dec z)).size), .string ⟨#[48]⟩] w fun e w' => e = .returned (.string (txt (frac r))) ∧ w.Plus w' := fun w => by
      have := trim_any w ((txt (dec z)).extract 1 (txt (dec z)).size) (by rw [ByteArray.size_extract]; omega)
      have hex : (txt (dec z)).extract 1 (txt (dec z)).size = txt ((dec z).drop 1) := by rw [extract_txt, bytes_end, bytes_txt]
      rw [hex, bytes_txt, hF] at this
      rw [hex]
      exact this
    have hl2 : (txt (frac r)).size ≤ 12 := by rw [txt_size]; have := (frac_facts r hr256).1; omega
    have hcat : ⟨#[45]⟩ ++ txt (dec q) = txt (45 :: dec q) := by rw [show (⟨#[45]⟩ : ByteArray) = txt [45] from rfl, txt_append]; rfl
    have hcat2 : txt (45 :: dec q) ++ ⟨#[46]⟩ ++ txt (frac r) = txt (45 :: showN m) := by rw [show (⟨#[46]⟩ : ByteArray) = txt [46] from rfl, txt_append, txt_append, hS]; simp
    have hl4 : (txt (45 :: dec q)).size ≤ 13 := by rw [txt_size]; rw [txt_size] at hl1; simp; omega
    have hl3 : (txt (45 :: dec q) ++ ⟨#[46]⟩).size ≤ 14 := by rw [show (⟨#[46]⟩ : ByteArray) = txt [46] from rfl, txt_append, txt_size]; rw [txt_size] at hl1; simp; omega
    replace hS := Lib.hid hS
    replace hz := Lib.hid hz
    replace hF := Lib.hid hF
    replace hTr := Lib.hid hTr
    generalize txt (dec q) = T at *
    generalize txt (dec z) = Z at *
    generalize txt (frac r) = U at *
    generalize txt (45 :: dec q) = T2 at *
    generalize txt (45 :: showN m) = R at *
    go_enter Tryd.func22, Tryd.ntmps22
    go_wp2_with (first | (go_at_call 13; (with_reducible refine (hCl.out _).mono ?_); rintro e w' ⟨rfl, ey, rfl⟩) | (go_at_call 27; (with_reducible refine (hDq.out _).mono ?_); rintro e w' ⟨rfl, ez, rfl⟩) | (go_at_call 27; (with_reducible refine (hDz.out _).mono ?_); rintro e w' ⟨rfl, ez2, rfl⟩) | (go_at_call 28; (with_reducible refine (hTr.out _).mono ?_); rintro e w' ⟨rfl, eu, rfl⟩))
    go_ret
    exact ⟨rfl, by (repeat (first | exact Plus.refl _ | apply Plus.plus | apply Plus.alloc | apply Plus.drew))⟩
theorem show_any (n : Int) : Calls Tryd.prog 22 #[.int .i64 n] w fun e w' => e = .returned (.string (txt (showL n))) ∧ w.Plus w' := by
  have hc := fcl_in n
  have hS : showL n = if fcl n < 0 then 45 :: showN (-fcl n).toNat else showN (fcl n).toNat := rfl
  by_cases h : fcl n < 0
  · rw [hS, if_pos h]
    exact show_neg w n (-fcl n).toNat (by omega) (by omega) (by omega)
  · rw [hS, if_neg h]
    exact show_pos w n (fcl n).toNat (by omega) (by omega)
end
theorem dig10 (n : Nat) (h : n < 10) : (⟨#[48, 49, 50, 51, 52, 53, 54, 55, 56, 57]⟩ : ByteArray).extract n (n + 1) = txt [dg n] := by
  rw [extract_txt]
  have H : ∀ n : Fin 10, ((bytes ⟨#[48, 49, 50, 51, 52, 53, 54, 55, 56, 57]⟩).take (n.val + 1)).drop n.val = [dg n.val] := by decide
  rw [H ⟨n, h⟩]
theorem ref_digits : ∀ (n : Nat), n < 1000000000000 → ∀ w, Calls Tryd.prog 29 #[.int .i64 n] w fun e w' => e = .returned (.string (txt (dec n))) ∧ w.Plus w' := by
  intro n
  induction n using Nat.strongRecOn with
  | _ n ih =>
    intro hn w
    by_cases h10 : n < 10
    · have hx := dig10 n h10
      rw [← dec_small h10] at hx
      generalize txt (dec n) = T at *
      have hi : (n : Int) < 10 := by omega
      replace ih := Lib.hid ih
      go_enter Tryd.func29, Tryd.ntmps29
      go_wp2_with fail
      go_ret
      exact ⟨rfl, by (repeat (first | exact Plus.refl _ | apply Plus.plus | apply Plus.alloc | apply Plus.drew))⟩
    · obtain ⟨r, hr⟩ : ∃ r : Nat, n % 10 = r := ⟨_, rfl⟩
      obtain ⟨q, hq⟩ : ∃ q : Nat, n / 10 = q := ⟨_, rfl⟩
      have hr1 : (n : Int) % 10 = (r : Int) := by omega
      have hq1 : (n : Int) / 10 = (q : Int) := by omega
      have h1 := Lib.hid (fun w => ih q (by omega) (by omega) w)
      have h2 := Lib.hid (fun w => ih r (by omega) (by omega) w)
      have hl1 : (txt (dec q)).size ≤ 12 := by rw [txt_size]; exact dec_len12 q
      have hl2 : (txt (dec r)).size ≤ 12 := by rw [txt_size]; exact dec_len12 r
      have hcat : txt (dec q) ++ txt (dec r) = txt (dec n) := by
        rw [txt_append, dec_step (n := n) (by omega) hn, hq, hr, dec_small (n := r) (by omega)]
      have hqr : q < 1000000000000 ∧ r < 10 := by omega
      have hi : ¬ (n : Int) < 10 := by omega
      replace hr := Lib.hid hr
      replace hq := Lib.hid hq
      replace ih := Lib.hid ih
      generalize txt (dec n) = R at *
      generalize txt (dec q) = T at *
      generalize txt (dec r) = U at *
      go_enter Tryd.func29, Tryd.ntmps29
      go_wp2_with (first | (go_at_call 29; (with_reducible refine (h1.out _).mono ?_); rintro e w' ⟨rfl, ey, rfl⟩) | (go_at_call 29; (with_reducible refine (h2.out _).mono ?_); rintro e w' ⟨rfl, ez, rfl⟩))
      go_ret
      exact ⟨rfl, by (repeat (first | exact Plus.refl _ | apply Plus.plus | apply Plus.alloc | apply Plus.drew))⟩
section
variable (w : World)
theorem ref_show_pos (n : Int) (m : Nat) (hx : fcl n = m) (hm : m ≤ 1073741824) : Calls Tryd.prog 23 #[.int .i64 n] w fun e w' => e = .returned (.string (txt (showN m))) ∧ w.Plus w' := by
  have hCl := Lib.hid (fun w => by have := ref_clamp w n; rw [hx] at this; exact this)
  obtain ⟨r, hr⟩ : ∃ r : Nat, m % 256 = r := ⟨_, rfl⟩
  obtain ⟨q, hq⟩ : ∃ q : Nat, m / 256 = q := ⟨_, rfl⟩
  have hr1 : (m : Int) % 256 = (r : Int) := by omega
  have hq1 : (m : Int) / 256 = (q : Int) := by omega
  have hS : showN m = if r = 0 then dec q else dec q ++ 46 :: frac r := by rw [← hr, ← hq]; rfl
  have hDq := Lib.hid (fun w => ref_digits q (by omega) w)
  have hl1 : (txt (dec q)).size ≤ 12 := by rw [txt_size]; exact dec_len12 q
  have hm0 : ¬ (m : Int) < 0 := by omega
  have hr256 : r < 256 := by omega
  have hsl := showN_len m
  obtain ⟨L, hL⟩ : ∃ L, showN m = L := ⟨_, rfl⟩
  rw [hL] at hS hsl ⊢
  replace hr := Lib.hid hr
  replace hq := Lib.hid hq
  replace hx := Lib.hid hx
  replace hL := Lib.hid hL
  by_cases h0 : r = 0
  · subst h0
    rw [if_pos rfl] at hS
    rw [hS]
    replace hS := Lib.hid hS
    generalize txt (dec q) = T at *
    go_enter Tryd.func23, Tryd.ntmps23
    go_wp2_with (first | (go_at_call 14; (with_reducible refine (hCl.out _).mono ?_); rintro e w' ⟨rfl, ey, rfl⟩) | (go_at_call 29; (with_reducible refine (hDq.out _).mono ?_); rintro e w' ⟨rfl, ez, rfl⟩))
    go_loopw [3, 4] (fun s r wr => s = .string T ∧ r = .int .i64 0 ∧ w.Plus wr) (fun _ _ _ => 0)
    case atStart => exact ⟨rfl, by rw [hr1]; rfl, by (repeat (first | exact Plus.refl _ | apply Plus.plus | apply Plus.alloc | apply Plus.drew))⟩
    case round =>
      obtain ⟨rfl, rfl, hp⟩ := hrel
      go_wp2_with fail
      go_ret
      exact ⟨rfl, hp⟩
  · have hr0 : (0 : Int) < r := by omega
    rw [if_neg h0] at hS
    have hcat : txt (dec q) ++ ⟨#[46]⟩ = txt (dec q ++ [46]) := by rw [show (⟨#[46]⟩ : ByteArray) = txt [46] from rfl, txt_append]
    have hst := Lib.hid (show (dec q ++ [46]) ++ frac r = L by rw [hS]; simp)
    replace hS := Lib.hid hS
    generalize txt (dec q) = T at *
    generalize hP : dec q ++ [46] = P at *
    replace hP := Lib.hid hP
    go_enter Tryd.func23, Tryd.ntmps23
    go_wp2_with (first | (go_at_call 14; (with_reducible refine (hCl.out _).mono ?_); rintro e w' ⟨rfl, ey, rfl⟩) | (go_at_call 29; (with_reducible refine (hDq.out _).mono ?_); rintro e w' ⟨rfl, ez, rfl⟩))
    have hr0n : decide (0 < r) = true := decide_eq_true (by omega)
    simp only [hr1, hr0n]
    go_loopw [3, 4] (fun s i wr => ∃ (x : Nat) (l : List UInt8), s = .string (txt l) ∧ i = .int .i64 x ∧ x < 256 ∧ l ++ frac x = L ∧ w.Plus wr) (fun _ i _ => gm (intOf i).toNat)
    case atStart => exact ⟨r, P, rfl, rfl, hr256, hst.out, by (repeat (first | exact Plus.refl _ | apply Plus.plus | apply Plus.alloc | apply Plus.drew))⟩
    case round =>
      obtain ⟨x, l, rfl, rfl, hx, hl, hp⟩ := hrel
      have hll : (txt l).size ≤ 21 := by rw [txt_size]; rw [← hl] at hsl; simp at hsl; omega
      have hfs := frac_step x hx
      by_cases hx0 : x = 0
      · subst hx0
        rw [if_pos rfl] at hfs
        rw [hfs, List.append_nil] at hl
        replace hl := Lib.hid hl
        replace hfs := Lib.hid hfs
        generalize hU : txt l = U at *
        replace hU := Lib.hid hU
        go_wp2_with fail
        go_ret
        exact ⟨by rw [← hl.out, hU.out]; rfl, hp⟩
      · rw [if_neg hx0] at hfs
        have hgm := Lib.hid (gm_step x hx (by omega))
        obtain ⟨d, hd⟩ : ∃ d : Nat, x * 10 / 256 = d := ⟨_, rfl⟩
        obtain ⟨y, hy⟩ : ∃ y : Nat, x * 10 % 256 = y := ⟨_, rfl⟩
        have hd1 : (x : Int) * 10 / 256 = (d : Int) := by omega
        have hy1 : (x : Int) * 10 % 256 = (y : Int) := by omega
        have hd10 : d < 10 := by omega
        have hy2 : y < 256 := by omega
        have hDd := ref_digits d (by omega)
        rw [dec_small hd10] at hDd
        have hnx := Lib.hid (show (l ++ [dg d]) ++ frac y = L by rw [← hl, hfs, hd, hy]; simp)
        rw [hy] at hgm
        have hone : (txt [dg d]).size ≤ 12 := by rw [txt_size]; simp
        have hcat := txt_append l [dg d]
        have hx1 : (0 : Int) < x := by omega
        replace hDd := Lib.hid hDd
        replace hd := Lib.hid hd
        replace hy := Lib.hid hy
        replace hl := Lib.hid hl
        replace hfs := Lib.hid hfs
        generalize txt [dg d] = V at *
        generalize hU : txt l = U at *
        replace hU := Lib.hid hU
        go_wp2_with (first | (go_at_call 29; (with_reducible refine (hDd.out _).mono ?_); rintro e w' ⟨rfl, ey, rfl⟩))
        go_roundw
        case rel => exact ⟨y, l ++ [dg d], rfl, by first | rfl | rw [hy1], hy2, hnx.out, Plus.trans hp (by (repeat (first | exact Plus.refl _ | apply Plus.plus | apply Plus.alloc | apply Plus.drew)))⟩
        case measure => simpa [intOf, hy1] using hgm.out
theorem ref_show_any (n : Int) : Calls Tryd.prog 23 #[.int .i64 n] w fun e w' => e = .returned (.string (txt (showL n))) ∧ w.Plus w' := by
  have hc := fcl_in n
  have hS : showL n = if fcl n < 0 then 45 :: showN (-fcl n).toNat else showN (fcl n).toNat := rfl
  by_cases h : fcl n < 0
  · rw [if_pos h] at hS
    rw [hS]
    obtain ⟨m, hm⟩ : ∃ m : Nat, (-fcl n).toNat = m := ⟨_, rfl⟩
    have hx : fcl n = -(m : Int) := by omega
    have hC := ref_clamp
    have hCl := Lib.hid (fun w => by have := ref_clamp w n; rw [hx] at this; exact this)
    have hP := Lib.hid (fun w => ref_show_pos w (m : Int) m (fcl_id (by omega) (by omega)) (by omega))
    have hcat : ⟨#[45]⟩ ++ txt (showN m) = txt (45 :: showN m) := by rw [show (⟨#[45]⟩ : ByteArray) = txt [45] from rfl, txt_append]; rfl
    have hl := showN_len m
    have hsz : (txt (showN m)).size ≤ 21 := by rw [txt_size]; exact hl
    have hm0 : -(m : Int) < 0 := by omega
    have hm1 : m ≤ 1073741824 := by omega
    rw [hm]
    clear hC hS hl hm hc h
    replace hx := Lib.hid hx
    generalize txt (showN m) = T at *
    generalize txt (45 :: showN m) = U at *
    go_enter Tryd.func23, Tryd.ntmps23
    go_wp2_with (first | (go_at_call 14; (with_reducible refine (hCl.out _).mono ?_); rintro e w' ⟨rfl, ey, rfl⟩) | (go_at_call 23; (with_reducible refine (hP.out _).mono ?_); rintro e w' ⟨rfl, ez, rfl⟩))
    go_ret
    exact ⟨rfl, by (repeat (first | exact Plus.refl _ | apply Plus.plus | apply Plus.alloc | apply Plus.drew))⟩
  · rw [hS, if_neg h]
    exact ref_show_pos w n (fcl n).toNat (by omega) (by omega)
end
end Go.Proofs.YtndbcjgbcplgcaaDoor
