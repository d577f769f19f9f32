/- codec: a number's bytes are the only ones: plain laws. -/
import Derived.Test.YtjfjecjigakdnaaCodMP
set_option linter.unusedSimpArgs false
set_option linter.unusedVariables false
namespace Go.Proofs.Ytjfjecjigakdnaa.Octs
open Go.RowKit
theorem big_num : ∀ (k : Nat) (l : List UInt8), l.length = k → big (num l) k = l
  | 0, l, h => by
    have := List.length_eq_zero_iff.1 h
    subst this
    rfl
  | k + 1, l, h => by
    have hn : l ≠ [] := by intro e; subst e; simp at h
    obtain ⟨l', b, rfl⟩ : ∃ l' b, l = l' ++ [b] := ⟨l.dropLast, l.getLast hn, (List.dropLast_concat_getLast hn).symm⟩
    have hl : l'.length = k := by simpa using h
    have hb := b.toNat_lt
    rw [num_snoc, big, show (256 * num l' + b.toNat) / 256 = num l' by omega, big_num k l' hl]
    congr 2
    apply UInt8.toNat_inj.1
    rw [u8n]
    omega
theorem bsz_of (m k : Nat) (hk : k ≤ 8) (h1 : 0 < k → 256 ^ (k - 1) ≤ m) (h2 : m < 256 ^ k) : bsz m = k := by
  have h1' : k = 0 ∨ 256 ^ (k - 1) ≤ m := by
    rcases Nat.eq_zero_or_pos k with h | h
    · exact .inl h
    · exact .inr (h1 h)
  clear h1
  have : k = 0 ∨ k = 1 ∨ k = 2 ∨ k = 3 ∨ k = 4 ∨ k = 5 ∨ k = 6 ∨ k = 7 ∨ k = 8 := by omega
  unfold bsz
  rcases this with rfl | rfl | rfl | rfl | rfl | rfl | rfl | rfl | rfl <;>
    (simp only [Nat.reducePow, Nat.reduceSub] at h1' h2
     repeat' split
     all_goals omega)
theorem rInt_only (s : ByteArray) (n : Int) (s' : ByteArray) (h : rInt s false = (n, s', false)) : In64 n ∧ bytes s = enc n ++ bytes s' := by
  have hin := rInt_in s false
  rw [h] at hin
  refine ⟨hin, ?_⟩
  unfold rInt at h
  rw [if_neg (by simp)] at h
  by_cases ho : headOk s
  case neg =>
    rw [if_neg ho] at h
    simp at h
  rw [if_pos ho] at h
  obtain ⟨h1, h2, h3, h4, h5⟩ := ho
  simp only [Prod.mk.injEq, and_true] at h
  obtain ⟨rfl, rfl⟩ := h
  obtain ⟨l, rfl⟩ : ∃ l, s = txt l := ⟨bytes s, rfl⟩
  rw [bytes_txt] at h4 ⊢
  rw [txt_size] at h1 h3
  cases l with
  | nil => simp at h1
  | cons b0 r =>
    have hK : headK (txt (b0 :: r)) = b0.toNat % 128 := rfl
    have hD : headD (txt (b0 :: r)) = num (r.take (headK (txt (b0 :: r)))) := rfl
    have hN : headN (txt (b0 :: r)) = if 127 < b0.toNat then -(headD (txt (b0 :: r)) : Int) - 1 else headD (txt (b0 :: r)) := rfl
    rw [hN]
    generalize headD (txt (b0 :: r)) = D at *
    generalize headK (txt (b0 :: r)) = k at *
    have hx : (txt (b0 :: r)).extract (1 + k) (txt (b0 :: r)).size = txt (r.drop k) := by
      rw [txt_extract, txt_size]
      congr 1
      rw [show List.drop (1 + k) (b0 :: r) = r.drop k by rw [Nat.add_comm]; rfl]
      rw [List.take_of_length_le]
      simp [List.length_drop]
      omega
    rw [hx, bytes_txt]
    simp only [List.length_cons] at h3
    have hpl : (r.take k).length = k := by rw [List.length_take]; omega
    have hlt := num_lt (r.take k)
    rw [hpl, ← hD] at hlt
    have hbig : big D k = r.take k := by
      have := big_num k (r.take k) hpl
      rw [← hD] at this
      exact this
    have hb : bsz D = k := by
      refine bsz_of D k h2 (fun hk => ?_) hlt
      obtain ⟨k', rfl⟩ : ∃ k', k = k' + 1 := ⟨k - 1, by omega⟩
      cases r with
      | nil => simp at h3
      | cons r0 r1 =>
        have hr0 : ¬ r0.toNat = 0 := fun h => h4 ⟨hk, h⟩
        rw [List.take_succ_cons, num_cons] at hD
        have hl : (r1.take k').length = k' := by simpa using hpl
        rw [hl] at hD
        rw [hD, Nat.add_sub_cancel]
        have : 1 * 256 ^ k' ≤ r0.toNat * 256 ^ k' := Nat.mul_le_mul_right _ (by omega)
        omega
    have hb0 := b0.toNat_lt
    have hD63 : D < 9223372036854775808 := h5
    by_cases hneg : 127 < b0.toNat
    · rw [if_pos hneg]
      have hm : mag (-(D : Int) - 1) = D := by unfold mag; rw [if_pos (by omega)]; omega
      have hs : sgn (-(D : Int) - 1) = 128 := if_pos (by omega)
      unfold enc
      rw [hm, hs, hb, hbig]
      rw [List.cons_append, List.take_append_drop]
      congr 1
      apply UInt8.toNat_inj.1
      rw [u8n]
      omega
    · rw [if_neg hneg]
      have hm : mag (D : Int) = D := by unfold mag; rw [if_neg (by omega)]; omega
      have hs : sgn (D : Int) = 0 := if_neg (by omega)
      unfold enc
      rw [hm, hs, hb, hbig]
      rw [List.cons_append, List.take_append_drop]
      congr 1
      apply UInt8.toNat_inj.1
      rw [u8n]
      omega
end Go.Proofs.Ytjfjecjigakdnaa.Octs
