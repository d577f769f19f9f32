/- octet.Int, octet.Text: walks. -/
import Derived.Test.YtjfjecjigakdnaaLay
import Derived.Lib.AppendStr
set_option linter.unusedSimpArgs false
set_option linter.unusedVariables false
namespace Go.Proofs.Ytjfjecjigakdnaa.Octs
open Go.RowKit
abbrev intAt (xs : List Int) : Nat → Nat → Value := fun i _ => .int .i64 (xs.getD i 0)
abbrev strAt (xs : List ByteArray) : Nat → Nat → Value := fun i _ => .string (xs.getD i ByteArray.empty)
def In64 (n : Int) : Prop := -9223372036854775808 ≤ n ∧ n ≤ 9223372036854775807
theorem take_getD {α : Type} (d : α) (xs : List α) (k : Nat) (h : k < xs.length) : xs.take (k + 1) = xs.take k ++ [xs.getD k d] := by
  rw [List.take_succ_eq_append_getElem h]
  simp [List.getD, h]
theorem getD_in {xs : List Int} (h : ∀ n ∈ xs, In64 n) (k : Nat) : In64 (xs.getD k 0) := by
  rw [List.getD_eq_getElem?_getD]
  cases hk : xs[k]? with
  | none => simp [In64]
  | some y => exact h y (List.mem_of_getElem? hk)
set_option maxHeartbeats 1000000 in
theorem int_any (xs : List Int) (A : Option Addr) (c : Nat) (w : World) (hn : xs.length ≤ 1000) (hb : ∀ n ∈ xs, In64 n) (hr : RowsAt w A 1 xs.length (intAt xs)) :
    Calls Try.prog 45 #[.slice A xs.length c] w fun e w' => e = .returned (.string (txt (encs xs))) ∧ w.Plus w' := by
  have hb' := Lib.hid (getD_in hb)
  clear hb
  go_enter Try.func45, Try.ntmps45
  go_wp2_with fail
  go_loopw [3, 8] (fun v i wr => ∃ k : Nat, k ≤ xs.length ∧ i = .int .i64 k ∧ wr.ownsRow w.heap.size 5 1 v (encs (xs.take k)).length ((encs (xs.take k)).map u8v) ∧ w.Plus wr) (fun _ i _ => xs.length - (intOf i).toNat)
  case atStart => exact ⟨0, Nat.zero_le _, rfl, World.ownsRow_nil _ _ _ _, by (repeat (first | exact Plus.refl _ | apply Plus.plus | apply Plus.alloc | apply Plus.drew))⟩
  case round =>
    obtain ⟨k, hk, rfl, hown, hp⟩ := hrel
    by_cases hlt : k < xs.length
    · obtain ⟨b1, o1, rfl, hb1, hc1⟩ := (hr.plus hp) (by omega)
      haveI : InW b1 wr := ⟨hb1⟩
      have c1 := hc1 k 0 hlt (by omega)
      clear hc1
      unfold intAt at c1
      simp only [Nat.add_zero, Nat.mul_one] at c1
      have hin := hb'.out k
      have htk := take_getD 0 xs k hlt
      have hle := encs_le (xs.take k)
      rw [List.length_take] at hle
      generalize xs.getD k 0 = y at c1 hin htk
      have hL := lay_any w wr (encs (xs.take k)) u3 y (by omega) hp hown hin
      have hen : encs (xs.take (k + 1)) = encs (xs.take k) ++ enc y := by rw [htk, encs_append]; simp [encs]
      replace hL := Lib.hid hL
      replace hen := Lib.hid hen
      clear htk hle
      go_wp2_with (first | (go_at_call 82; (with_reducible refine hL.out.mono ?_); rintro e w' ⟨v1, rfl, hown1, hp1⟩))
      refine ⟨⟨k + 1, hlt, by simp, by rw [hen.out]; exact hown1, hp1⟩, ?_⟩
      simp [intOf]; omega
    · have hke : k = xs.length := by omega
      subst hke
      rw [List.take_length] at hown
      have hconv := conv_all _ _ _ _ hown
      go_wp2_with fail
      go_ret
      exact ⟨rfl, hp⟩
theorem int_none (w : World) : Calls Try.prog 45 #[.slice none 0 0] w fun e w' => e = .returned (.string (txt [])) ∧ w.Plus w' :=
  int_any [] none 0 w (by simp) (by simp) (RowsAt.zero _ _ _ _)
theorem strCells_eq (s : ByteArray) : Lib.strCells s = (bytes s).map u8v := rfl
theorem encTs_append (l m : List ByteArray) : encTs (l ++ m) = encTs l ++ encTs m := by simp [encTs]
theorem encT_length (s : ByteArray) : (encT s).length ≤ 9 + s.size := by
  have := enc_le (s.size : Int)
  simp only [encT, List.length_append, bytes_length]
  omega
theorem encTs_le (l : List ByteArray) (h : ∀ s ∈ l, s.size ≤ 200000) : (encTs l).length ≤ 200009 * l.length := by
  induction l with
  | nil => simp [encTs]
  | cons s l ih =>
    have h1 := encT_length s
    have h2 := h s (by simp)
    have h3 := ih (fun t ht => h t (by simp [ht]))
    simp only [encTs, List.flatMap_cons, List.length_append, List.length_cons] at *
    omega
end Go.Proofs.Ytjfjecjigakdnaa.Octs
