/- the reference's Reader: Int, Text, Count, Done: contracts. -/
import Derived.Test.YtjfjecjigakdnaaRefRead2
set_option linter.unusedSimpArgs false
set_option linter.unusedVariables false
namespace Go.Proofs.Ytjfjecjigakdnaa.Octs
open Go.RowKit
theorem rInt_inv (s : ByteArray) (b : Bool) (hb : b = true → s = ⟨#[]⟩) : (rInt s b).2.2 = true → (rInt s b).2.1 = ⟨#[]⟩ := by
  unfold rInt
  repeat' split
  · intro _; exact hb (by assumption)
  · intro h; cases h
  · intro _; rfl
theorem rText_inv (s : ByteArray) (b : Bool) (hb : b = true → s = ⟨#[]⟩) : (rText s b).2.2 = true → (rText s b).2.1 = ⟨#[]⟩ := by
  have hi := rInt_inv s b hb
  unfold rText
  repeat' split
  · intro _; exact hi (by assumption)
  · intro _; rfl
  · intro h; cases h
theorem rCount_inv (s : ByteArray) (b : Bool) (most : Int) (hb : b = true → s = ⟨#[]⟩) : (rCount s b most).2.2 = true → (rCount s b most).2.1 = ⟨#[]⟩ := by
  have hi := rInt_inv s b hb
  unfold rCount
  repeat' split
  · intro _; rfl
  · exact hi
theorem rText_size (s : ByteArray) (b : Bool) : (rText s b).2.1.size ≤ s.size := by
  have hi := rInt_size s b
  unfold rText
  repeat' split
  · exact hi
  · exact Nat.zero_le _
  · rw [ByteArray.size_extract]; omega
theorem rCount_size (s : ByteArray) (b : Bool) (most : Int) : (rCount s b most).2.1.size ≤ s.size := by
  have hi := rInt_size s b
  unfold rCount
  repeat' split
  · exact Nat.zero_le _
  · exact hi
section
variable (w : World) (N : Nat) (s : ByteArray) (b : Bool)
theorem refRdInt (h : RdAt w N s b) (hs : s.size ≤ 1000000000) (hb : b = true → s = ⟨#[]⟩) :
    Calls Try.prog 56 #[rdV N] w (RdPost w N (.int .i64 (rInt s b).1) (rInt s b).2.1 (rInt s b).2.2) := by
  cases b with
  | true =>
    obtain rfl := hb rfl
    exact refInt1 w N h
  | false =>
    have hE : ¬ headOk s → rInt s false = (0, ⟨#[]⟩, true) := fun h => by simp [rInt, h]
    by_cases hz : s.size = 0
    · rw [hE (fun h => by have := h.1; omega)]
      exact refInt2 w N s h hz
    have h0 : 0 < s.size := by omega
    have hc0 : (bytes s).getD 0 0 = s[0] := byte_get s 0 h0
    have hkd : s[0].toNat % 128 = headK s := by
      unfold headK
      rw [show s.data.toList.getD 0 0 = s[0] from hc0]
    by_cases h8 : headK s ≤ 8
    · by_cases hk : headK s < s.size
      · by_cases hz1 : 0 < headK s ∧ ((bytes s).getD 1 0).toNat = 0
        · rw [hE (fun h => h.2.2.2.1 hz1)]
          have e1 := byte_get s 1 (show 1 < s.size by omega)
          rw [e1] at hz1
          exact refInt5 w N s (headK s) h hs h0 hkd h8 (by omega) hz1.1 hz1.2
        · by_cases h88 : headK s = 8 ∧ 127 < ((bytes s).getD 1 0).toNat
          · rw [hE (fun h => (headD_small s hk h8).1 h.2.2.2.2 h88)]
            have e1 := byte_get s 1 (show 1 < s.size by omega)
            rw [e1] at h88 hz1
            exact refInt6 w N s h hs h0 (by rw [hkd]; exact h88.1) (by omega) (fun hq => hz1 ⟨by omega, hq⟩) h88.2
          · have hD := (headD_small s hk h8).2 h88
            have hok : headOk s := ⟨h0, h8, hk, hz1, hD⟩
            have hR : rInt s false = (headN s, s.extract (1 + headK s) s.size, false) := by simp [rInt, hok]
            rw [hR]
            have := refIntOk w N s (headK s) (1 + headK s) ((bytes s).getD 1 0).toNat (((bytes s).drop 1).take (headK s)) h hs h0 hkd h8 hk rfl (fun h => by rw [byte_get s 1 h]) hz1 h88 rfl hD
            unfold headN
            rw [hc0]
            exact this
      · rw [hE (fun h => hk h.2.2.1)]
        exact refInt4 w N s (headK s) h hs h0 hkd h8 (by omega)
    · rw [hE (fun h => h8 h.2.1)]
      exact refInt3 w N s (headK s) h hs h0 hkd (by omega)
theorem size_zero (s : ByteArray) : s.size = 0 ↔ s = ⟨#[]⟩ := by
  constructor
  · intro h
    rw [← txt_bytes s]
    have : bytes s = [] := List.eq_nil_of_length_eq_zero (by rw [bytes_length]; exact h)
    rw [this]; rfl
  · rintro rfl; rfl
end
end Go.Proofs.Ytjfjecjigakdnaa.Octs
