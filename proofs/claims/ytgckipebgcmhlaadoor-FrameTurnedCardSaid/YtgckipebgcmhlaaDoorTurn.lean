/- a frame with up to four neighbouring bytes turned is told: plain laws. -/
import Derived.Test.YtgckipebgcmhlaaDoorBack
set_option linter.unusedSimpArgs false
set_option linter.unusedVariables false
namespace Go.Proofs.YtgckipebgcmhlaaDoor
open Go.Crc hiding step
theorem xor_u8 {x y : UInt8} (h : x.toNat ^^^ y.toNat = 0) : x = y := UInt8.toNat_inj.1 (xor_zero_eq h)
theorem xor_u8_lt (x y : UInt8) : x.toNat ^^^ y.toNat < 256 := Nat.xor_lt_two_pow (n := 8) x.toNat_lt y.toNat_lt
theorem dstep_zero : dstep 0 0 = 0 := by decide
theorem run_short (c : Nat) (hc : c < 4294967296) : ∀ (X Y : List UInt8), X.length = Y.length → X.length ≤ 4 → run c X = run c Y → X = Y
  | [], [], _, _, _ => rfl
  | [x], [y], _, _, h => by
    have h1 : dstep 0 (x.toNat ^^^ y.toNat) = 0 := by
      have e0 : dstep 0 (x.toNat ^^^ y.toNat) = Crc.step c x.toNat ^^^ Crc.step c y.toNat := by rw [step_diff, Nat.xor_self]
      rw [e0]
      have h2 : Crc.step c x.toNat = Crc.step c y.toNat := h
      rw [h2, Nat.xor_self]
    have := four (e0 := 0) (e1 := 0) (e2 := 0) (by omega) (by omega) (by omega) (xor_u8_lt x y) (by rw [dstep_zero, dstep_zero, dstep_zero]; exact h1)
    rw [xor_u8 this.2.2.2]
  | [x, x1], [y, y1], _, _, h => by
    have h1 : dstep (dstep 0 (x.toNat ^^^ y.toNat)) (x1.toNat ^^^ y1.toNat) = 0 := by
      have e0 : dstep 0 (x.toNat ^^^ y.toNat) = Crc.step c x.toNat ^^^ Crc.step c y.toNat := by rw [step_diff, Nat.xor_self]
      rw [e0, ← step_diff]
      have h2 : Crc.step (Crc.step c x.toNat) x1.toNat = Crc.step (Crc.step c y.toNat) y1.toNat := h
      rw [h2, Nat.xor_self]
    have := four (e0 := 0) (e1 := 0) (by omega) (by omega) (xor_u8_lt x y) (xor_u8_lt x1 y1) (by rw [dstep_zero, dstep_zero]; exact h1)
    rw [xor_u8 this.2.2.1, xor_u8 this.2.2.2]
  | [x, x1, x2], [y, y1, y2], _, _, h => by
    have h1 : dstep (dstep (dstep 0 (x.toNat ^^^ y.toNat)) (x1.toNat ^^^ y1.toNat)) (x2.toNat ^^^ y2.toNat) = 0 := by
      have e0 : dstep 0 (x.toNat ^^^ y.toNat) = Crc.step c x.toNat ^^^ Crc.step c y.toNat := by rw [step_diff, Nat.xor_self]
      rw [e0, ← step_diff, ← step_diff]
      have h2 : Crc.step (Crc.step (Crc.step c x.toNat) x1.toNat) x2.toNat = Crc.step (Crc.step (Crc.step c y.toNat) y1.toNat) y2.toNat := h
      rw [h2, Nat.xor_self]
    have := four (e0 := 0) (by omega) (xor_u8_lt x y) (xor_u8_lt x1 y1) (xor_u8_lt x2 y2) (by rw [dstep_zero]; exact h1)
    rw [xor_u8 this.2.1, xor_u8 this.2.2.1, xor_u8 this.2.2.2]
  | [x, x1, x2, x3], [y, y1, y2, y3], _, _, h => by
    have h1 : dstep (dstep (dstep (dstep 0 (x.toNat ^^^ y.toNat)) (x1.toNat ^^^ y1.toNat)) (x2.toNat ^^^ y2.toNat)) (x3.toNat ^^^ y3.toNat) = 0 := by
      have e0 : dstep 0 (x.toNat ^^^ y.toNat) = Crc.step c x.toNat ^^^ Crc.step c y.toNat := by rw [step_diff, Nat.xor_self]
      rw [e0, ← step_diff, ← step_diff, ← step_diff]
      have h2 : Crc.step (Crc.step (Crc.step (Crc.step c x.toNat) x1.toNat) x2.toNat) x3.toNat = Crc.step (Crc.step (Crc.step (Crc.step c y.toNat) y1.toNat) y2.toNat) y3.toNat := h
      rw [h2, Nat.xor_self]
    have := four (xor_u8_lt x y) (xor_u8_lt x1 y1) (xor_u8_lt x2 y2) (xor_u8_lt x3 y3) h1
    rw [xor_u8 this.1, xor_u8 this.2.1, xor_u8 this.2.2.1, xor_u8 this.2.2.2]
  | _ :: _ :: _ :: _ :: _ :: _, _, _, h, _ => by simp at h
  | [], _ :: _, h, _, _ => by simp at h
  | _ :: _, [], h, _, _ => by simp at h
  | [_], _ :: _ :: _, h, _, _ => by simp at h
  | _ :: _ :: _, [_], h, _, _ => by simp at h
  | [_, _], _ :: _ :: _ :: _, h, _, _ => by simp at h
  | _ :: _ :: _ :: _, [_, _], h, _, _ => by simp at h
  | [_, _, _], _ :: _ :: _ :: _ :: _, h, _, _ => by simp at h
  | _ :: _ :: _ :: _ :: _, [_, _, _], h, _, _ => by simp at h
  | [_, _, _, _], _ :: _ :: _ :: _ :: _ :: _, h, _, _ => by simp at h
/-- lists that agree but for up to four neighbours, and sum alike, are alike -/
theorem burst {P Q : List UInt8} (hl : P.length = Q.length) (p : Nat) (hout : ∀ j, j < p ∨ p + 4 ≤ j → P[j]? = Q[j]?) (hs : sum P = sum Q) : P = Q := by
  have hr : run 4294967295 P = run 4294967295 Q := by
    have h1 := run_lt P (c := 4294967295) (by omega)
    have h2 := run_lt Q (c := 4294967295) (by omega)
    unfold sum at hs
    omega
  have e : ∀ L : List UInt8, L = L.take p ++ ((L.drop p).take 4 ++ L.drop (p + 4)) := fun L => by
    have : (L.drop p).drop 4 = L.drop (p + 4) := by rw [List.drop_drop]
    rw [← this, List.take_append_drop, List.take_append_drop]
  have h1 : P.take p = Q.take p := List.ext_getElem? fun j => by
    rw [List.getElem?_take, List.getElem?_take]
    split
    · rename_i h; exact hout j (.inl h)
    · rfl
  have h2 : P.drop (p + 4) = Q.drop (p + 4) := List.ext_getElem? fun j => by
    rw [List.getElem?_drop, List.getElem?_drop]
    exact hout _ (.inr (by omega))
  rw [e P, e Q, h1, h2, run_append, run_append, run_append, run_append] at hr
  have hc := run_lt (Q.take p) (c := 4294967295) (by omega)
  have h3 := run_inj _ (run_lt _ hc) (run_lt _ hc) hr
  have h4 := run_short _ hc _ _ (by simp [hl]) (by simp; omega) h3
  rw [e P, e Q, h1, h2, h4]
theorem framed_parts (S : List UInt8) : (framed S).take (3 + S.length) = headed S ∧ (framed S).drop (3 + S.length) = big (sum (headed S)) 4 ∧ (framed S).take 3 = big S.length 3 := by
  have hl : (headed S).length = 3 + S.length := by unfold headed; rw [List.length_append, big_length]
  refine ⟨?_, ?_, ?_⟩
  · unfold framed; rw [← hl]; exact List.take_left
  · unfold framed; rw [← hl]; exact List.drop_left
  · unfold framed headed
    rw [List.append_assoc, List.take_append_of_le_length (by rw [big_length]; exact Nat.le_refl _)]
    exact List.take_of_length_le (by rw [big_length]; exact Nat.le_refl _)
/-- turned within the text, or in one byte of the sum: not read -/
theorem turned_code (S L : List UInt8) (k : Nat) (hn : S.length ≤ 65536) (hl : L.length = (framed S).length) (hk : k < S.length + 4)
    (hout : ∀ j, (j < 3 + k ∨ 3 + k + 4 ≤ j ∨ (j ≠ 3 + k ∧ 3 + S.length ≤ j)) → L[j]? = (framed S)[j]?) (hne : L ≠ framed S) : code (txt L) 0 = 3 := by
  have hfl := framed_length S
  obtain ⟨hp1, hp2, hp3⟩ := framed_parts S
  have hsz : (txt L).size = 7 + S.length := by rw [txt_size, hl, hfl]
  have h3 : part (txt L) 0 3 = big S.length 3 := by
    rw [part_txt, List.drop_zero, ← hp3]
    refine List.ext_getElem? fun j => ?_
    rw [List.getElem?_take, List.getElem?_take]
    split
    · exact hout j (.inl (by omega))
    · rfl
  have hnum := num_head (by omega) (by omega) h3
  unfold code
  rw [hnum, hsz, if_neg (by omega), if_neg (by omega), if_neg (by omega), if_neg]
  intro he
  rw [part_txt, part_txt, List.drop_zero] at he
  simp only [Nat.zero_add] at he
  have hdl : (L.drop (3 + S.length)).take 4 = L.drop (3 + S.length) := List.take_of_length_le (by rw [List.length_drop, hl, hfl]; omega)
  rw [hdl] at he
  rcases Nat.lt_or_ge k S.length with hlt | hge
  · -- in the text
    have hT : L.drop (3 + S.length) = (framed S).drop (3 + S.length) := List.ext_getElem? fun j => by
      rw [List.getElem?_drop, List.getElem?_drop]
      exact hout _ (.inr (.inr ⟨by omega, by omega⟩))
    rw [hT, hp2] at he
    have hs := big_inj 4 _ _ (sum_lt _) (sum_lt _) he
    have hP : L.take (3 + S.length) = headed S := by
      refine burst ?_ (3 + k) ?_ hs
      · rw [List.length_take, hl, hfl, ← hp1, List.length_take, hfl]
      · intro j hj
        rw [← hp1, List.getElem?_take, List.getElem?_take]
        split
        · exact hout j (by omega)
        · rfl
    apply hne
    rw [← List.take_append_drop (3 + S.length) L, hP, hT, ← hp1, List.take_append_drop]
  · -- in the sum
    have hP : L.take (3 + S.length) = (framed S).take (3 + S.length) := List.ext_getElem? fun j => by
      rw [List.getElem?_take, List.getElem?_take]
      split
      · exact hout j (.inl (by omega))
      · rfl
    rw [hP, hp1, ← hp2] at he
    apply hne
    rw [← List.take_append_drop (3 + S.length) L, hP, ← he, List.take_append_drop]
theorem framed_code (S : List UInt8) (hn : S.length ≤ 65536) : firstV (txt (framed S)) 0 = .tuple #[.string (txt S), .int .i64 ((7 + S.length : Nat) : Int), .int .i64 0] := by
  have := code_frame (s := txt (framed S)) (a := 0) S hn (by rw [txt_size, framed_length]; omega) (by
    rw [part_txt, List.drop_zero]; exact List.take_of_length_le (by rw [framed_length]; exact Nat.le_refl _))
  unfold firstV
  rw [if_pos this.2.1, this.1, this.2.2]
end Go.Proofs.YtgckipebgcmhlaaDoor
