/- frames laid end to end read back, cut anywhere: plain laws. -/
import Derived.Test.YtgckipebgcmhlaaDoorAll
set_option linter.unusedSimpArgs false
set_option linter.unusedVariables false
namespace Go.Proofs.YtgckipebgcmhlaaDoor
open Go.Crc hiding step
theorem ofNat_inj {m n : Nat} (h : UInt8.ofNat m = UInt8.ofNat n) : m % 256 = n % 256 := by
  have := congrArg UInt8.toNat h
  simpa using this
theorem big_inj : ∀ (k m n : Nat), m < 256 ^ k → n < 256 ^ k → big m k = big n k → m = n
  | 0, m, n, hm, hn, _ => by simp at hm hn; omega
  | k + 1, m, n, hm, hn, h => by
    simp only [big] at h
    have h1 := List.append_inj' h rfl
    have h2 := big_inj k (m / 256) (n / 256) (by rw [Nat.pow_succ] at hm; omega) (by rw [Nat.pow_succ] at hn; omega) h1.1
    have h3 := ofNat_inj (List.cons.inj h1.2).1
    omega
theorem framed_length (l : List UInt8) : (framed l).length = 7 + l.length := by
  unfold framed headed
  simp [big_length]; omega
theorem num_lt (s : ByteArray) (a : Nat) : num s a < 16777216 := by
  have h0 := at8_lt s a
  have h1 := at8_lt s (a + 1)
  have h2 := at8_lt s (a + 2)
  unfold num; omega
theorem part_txt (L : List UInt8) (a n : Nat) : part (txt L) a n = (L.drop a).take n := rfl
/-- where a whole frame lies, it is read -/
theorem num_head {s : ByteArray} {a n : Nat} (h3 : a + 3 ≤ s.size) (hn : n < 16777216) (h : part s a 3 = big n 3) : num s a = n := by
  rw [part_three s a h3] at h
  exact big_inj 3 _ _ (num_lt s a) hn h
theorem code_frame {s : ByteArray} {a : Nat} (l : List UInt8) (hl : l.length ≤ 65536) (hs : a + (7 + l.length) ≤ s.size) (h : part s a (7 + l.length) = framed l) :
    num s a = l.length ∧ code s a = 0 ∧ part s (a + 3) l.length = l := by
  have e : framed l = big l.length 3 ++ (l ++ big (sum (headed l)) 4) := by unfold framed; rw [show headed l = big l.length 3 ++ l from rfl, List.append_assoc]
  have h3 : part s a 3 = big l.length 3 ∧ part s (a + 3) (l.length + 4) = l ++ big (sum (headed l)) 4 := by
    rw [show 7 + l.length = 3 + (l.length + 4) by omega, part_split, e] at h
    exact List.append_inj h (by rw [part_length s _ _ (by omega), big_length])
  have hn := num_head (by omega) (by omega) h3.1
  have h4 : part s (a + 3) l.length = l ∧ part s (a + 3 + l.length) 4 = big (sum (headed l)) 4 := by
    have h5 := h3.2
    rw [part_split] at h5
    exact List.append_inj h5 (by rw [part_length s _ _ (by omega)])
  refine ⟨hn, ?_, h4.1⟩
  have hp : part s a (3 + l.length) = headed l := by rw [part_split, h3.1, h4.1]; rfl
  unfold code
  rw [hn, if_neg (by omega), if_neg (by omega), if_neg (by omega), hp, if_pos h4.2.symm]
def frames (l : List ByteArray) : List UInt8 := l.flatMap fun y => framed (bytes y)
theorem frames_append (l m : List ByteArray) : frames (l ++ m) = frames l ++ frames m := List.flatMap_append
theorem frames_cons (y : ByteArray) (l : List ByteArray) : frames (y :: l) = framed (bytes y) ++ frames l := List.flatMap_cons
def fend (l : List ByteArray) (j : Nat) : Nat := (frames (l.take j)).length
theorem frames_split (l : List ByteArray) (j : Nat) : frames l = frames (l.take j) ++ frames (l.drop j) := by rw [← frames_append, List.take_append_drop]
theorem frames_at (l : List ByteArray) (j : Nat) (h : j < l.length) : (frames l).drop (fend l j) = framed (bytes (l.getD j ByteArray.empty)) ++ frames (l.drop (j + 1)) := by
  have e : (frames l).drop (fend l j) = frames (l.drop j) := by
    conv => lhs; rw [frames_split l j]
    exact List.drop_left
  rw [e, List.drop_eq_getElem_cons h, frames_cons]
  simp [List.getD, h]
theorem take_next (l : List ByteArray) (j : Nat) (h : j < l.length) : l.take (j + 1) = l.take j ++ [l.getD j ByteArray.empty] := by
  rw [List.take_add_one, List.getElem?_eq_getElem h]
  simp [List.getD, h]
theorem fend_next (l : List ByteArray) (j : Nat) (h : j < l.length) : fend l (j + 1) = fend l j + (7 + (l.getD j ByteArray.empty).size) := by
  unfold fend
  rw [take_next l j h, frames_append, List.length_append, frames_cons, List.length_append, framed_length, bytes_length]
  simp [frames]
theorem fend_all (l : List ByteArray) : fend l l.length = (frames l).length := by unfold fend; rw [List.take_length]
theorem fend_le (l : List ByteArray) (j : Nat) : fend l j ≤ (frames l).length := by
  rw [frames_split l j, List.length_append]; exact Nat.le_add_right _ _
theorem take_drop_take (F : List UInt8) (cut a m : Nat) (h : a + m ≤ cut) : ((F.take cut).drop a).take m = (F.drop a).take m := by
  rw [List.drop_take, List.take_take, Nat.min_eq_left (by omega)]
section
variable {l : List ByteArray} {cut : Nat}
theorem back_rel (hsm : ∀ k, (l.getD k ByteArray.empty).size ≤ 65536) (hcut : cut ≤ (frames l).length) :
    ∀ j, j ≤ l.length → fend l j ≤ cut → AllRel (txt ((frames l).take cut)) (l.take j) (fend l j)
  | 0, _, _ => by
    have : fend l 0 = 0 := by unfold fend; simp [frames]
    rw [this]
    exact AllRel.start _
  | j + 1, hj, hc => by
    have hf := fend_next l j hj
    have ih := back_rel hsm hcut j (by omega) (by omega)
    have hsz : (txt ((frames l).take cut)).size = cut := by rw [txt_size, List.length_take, Nat.min_eq_left hcut]
    have hb := bytes_length (l.getD j ByteArray.empty)
    have hk := hsm j
    have hcf := code_frame (s := txt ((frames l).take cut)) (a := fend l j) (bytes (l.getD j ByteArray.empty)) (by omega) (by omega) (by
      rw [part_txt, take_drop_take _ _ _ _ (by omega), frames_at l j hj, List.take_append_of_le_length (by rw [framed_length]; omega)]
      exact List.take_of_length_le (by rw [framed_length]; omega))
    have hn := ih.next hcf.2.1
    rw [hcf.1, hcf.2.2, txt_bytes, ← take_next l j hj] at hn
    rw [hf, ← hb]
    rw [Nat.add_assoc] at hn
    exact hn
theorem back_all (hsm : ∀ k, (l.getD k ByteArray.empty).size ≤ 65536) (hcut : cut ≤ (frames l).length) {j : Nat} (hj : j ≤ l.length) (hle : fend l j ≤ cut) (hst : j = l.length ∨ cut < fend l (j + 1)) :
    allOf (txt ((frames l).take cut)) 0 = (l.take j, fend l j) := by
  refine (back_rel hsm hcut j hj hle).stop ?_
  have hsz : (txt ((frames l).take cut)).size = cut := by rw [txt_size, List.length_take, Nat.min_eq_left hcut]
  intro h0
  have hz := code_zero h0
  rw [hsz] at hz
  rcases Nat.lt_or_ge j l.length with hlt | hge
  · have hf := fend_next l j hlt
    have hc : cut < fend l (j + 1) := hst.resolve_left (by omega)
    have hk := hsm j
    have h3 : part (txt ((frames l).take cut)) (fend l j) 3 = big (l.getD j ByteArray.empty).size 3 := by
      rw [part_txt, take_drop_take _ _ _ _ (by omega), frames_at l j hlt]
      unfold framed headed
      rw [List.append_assoc, List.append_assoc, List.take_append_of_le_length (by rw [big_length]; exact Nat.le_refl _), bytes_length]
      exact List.take_of_length_le (by rw [big_length]; exact Nat.le_refl _)
    have := num_head (by rw [hsz]; omega) (by omega) h3
    omega
  · obtain rfl : j = l.length := by omega
    rw [fend_all] at hz
    omega
theorem back_whole (hsm : ∀ k, (l.getD k ByteArray.empty).size ≤ 65536) : allOf (txt (frames l)) 0 = (l, (frames l).length) := by
  have := back_all (cut := (frames l).length) hsm (Nat.le_refl _) (Nat.le_refl _) (by rw [fend_all]; exact Nat.le_refl _) (.inl rfl)
  rwa [List.take_length, List.take_length, fend_all] at this
end
end Go.Proofs.YtgckipebgcmhlaaDoor
