/- session: Say: walks. -/
import Derived.Test.YtpmebmbibajcoaaSes1
set_option linter.unusedSimpArgs false
set_option linter.unusedVariables false
namespace Go.Proofs.Ytpmebmbibajcoaa
open Go.RowKit
abbrev strAt (xs : List ByteArray) : Nat → Nat → Value := fun i _ => .string (xs.getD i ⟨#[]⟩)
def longB (s : ByteArray) : Bool := decide (65472 < s.size)
theorem long_any (w : World) (s : ByteArray) : Calls Try.prog 32 #[.string s] w fun e w' => e = .returned (.bool (longB s)) ∧ w.Plus w' := by
  have hB : longB s = decide (65472 < s.size) := rfl
  generalize longB s = b at *
  by_cases h : 65472 < s.size
  · obtain rfl : b = true := by rw [hB]; simp [h]
    have hi : (65472 : Int) < s.size := by omega
    replace hB := Lib.hid hB
    go_enter Try.func32, Try.ntmps32
    go_wp2_with fail
    go_ret
    exact ⟨rfl, by (repeat (first | exact Plus.refl _ | apply Plus.plus | apply Plus.alloc | apply Plus.drew))⟩
  · obtain rfl : b = false := by rw [hB]; simp [h]
    have hi : ¬ (65472 : Int) < s.size := by omega
    replace hB := Lib.hid hB
    go_enter Try.func32, Try.ntmps32
    go_wp2_with fail
    go_ret
    exact ⟨rfl, by (repeat (first | exact Plus.refl _ | apply Plus.plus | apply Plus.alloc | apply Plus.drew))⟩
/-- the first text that is too long -/
def longAt : List ByteArray → Int
  | [] => -1
  | s :: l => if longB s then 0 else if longAt l = -1 then -1 else longAt l + 1
theorem longAt_ge (l : List ByteArray) : -1 ≤ longAt l := by
  induction l with
  | nil => decide
  | cons s l ih => unfold longAt; split; decide; split; decide; omega
theorem longAt_any (l : List ByteArray) : (0 ≤ longAt l ↔ l.any longB = true) := by
  induction l with
  | nil => simp [longAt]
  | cons s l ih =>
    have := longAt_ge l
    simp only [longAt, List.any_cons, Bool.or_eq_true]
    split
    · rename_i h; simp [h]
    · rename_i h
      split
      · rename_i h2; rw [h2] at ih; simp [h] at ih ⊢; exact ih
      · rw [← ih]; simp [h]; omega
theorem index_any (w : World) (A : Option Addr) (cp : Nat) (xs : List ByteArray) (hn : xs.length ≤ 140737488351232) (hr : RowsAt w A 1 xs.length (strAt xs)) (f : Value) (hf : f = .func (.func 32) #[] #[]) :
    Calls Try.prog 47 #[.slice A xs.length cp, f] w fun e w' => ∃ i : Int, e = .returned (.int .i64 i) ∧ (0 ≤ i ↔ xs.any longB = true) ∧ w.Plus w' := by
  subst hf
  go_enter Try.func47, Try.ntmps47
  go_wp2_with fail
  go_loopw [5, 8] (fun j i wr => ∃ k : Nat, k ≤ xs.length ∧ i = .int .i64 k ∧ (xs.take k).any longB = false ∧ w.Plus wr) (fun _ i _ => xs.length - (intOf i).toNat)
  case atStart => exact ⟨0, Nat.zero_le _, rfl, rfl, by (repeat (first | exact Plus.refl _ | apply Plus.plus | apply Plus.alloc | apply Plus.drew))⟩
  case round =>
    obtain ⟨k, hk, rfl, ha, hp⟩ := hrel
    by_cases hlt : k < xs.length
    · obtain ⟨b, o, rfl, hb, hc⟩ := (hr.plus hp) (by omega)
      have c1 := hc k 0 hlt (by omega)
      clear hc hr
      haveI : InW b wr := ⟨hb⟩
      have htk : xs.take (k + 1) = xs.take k ++ [xs.getD k ⟨#[]⟩] := by
        rw [List.take_succ_eq_append_getElem hlt]; congr 2
        rw [List.getD_eq_getElem?_getD, List.getElem?_eq_getElem hlt]; rfl
      have hmem : xs.getD k ⟨#[]⟩ ∈ xs := by
        rw [List.getD_eq_getElem?_getD, List.getElem?_eq_getElem hlt]; exact List.getElem_mem hlt
      unfold strAt at c1
      simp only [Nat.mul_one, Nat.add_zero] at c1
      generalize xs.getD k ⟨#[]⟩ = x at *
      have hL := fun w => long_any w x
      cases hx : longB x with
      | true =>
        rw [hx] at hL
        have hyes := Lib.hid (show xs.any longB = true from List.any_eq_true.2 ⟨x, hmem, hx⟩)
        replace hL := Lib.hid hL
        replace hx := Lib.hid hx
        replace ha := Lib.hid ha
        clear htk hmem
        go_wp2_with (first | (go_at_call 32; (with_reducible refine (hL.out _).mono ?_); rintro e w' ⟨rfl, ey, rfl⟩))
        go_ret
        exact ⟨k, rfl, ⟨fun _ => hyes.out, fun _ => by omega⟩, Plus.trans hp (by (repeat (first | exact Plus.refl _ | apply Plus.plus | apply Plus.alloc | apply Plus.drew)))⟩
      | false =>
        rw [hx] at hL
        have hnx := Lib.hid (show (xs.take (k + 1)).any longB = false by rw [htk, List.any_append, ha]; simp [hx])
        replace hL := Lib.hid hL
        replace hx := Lib.hid hx
        replace ha := Lib.hid ha
        clear htk hmem
        go_wp2_with (first | (go_at_call 32; (with_reducible refine (hL.out _).mono ?_); rintro e w' ⟨rfl, ey, rfl⟩))
        go_roundw
        case rel => exact ⟨k + 1, hlt, by go_num, hnx.out, Plus.trans hp (by (repeat (first | exact Plus.refl _ | apply Plus.plus | apply Plus.alloc | apply Plus.drew)))⟩
        case measure => simp [intOf]; omega
    · have hke : k = xs.length := by omega
      have hno := Lib.hid (show xs.any longB = false by rw [hke, List.take_length] at ha; exact ha)
      replace ha := Lib.hid ha
      replace hke := Lib.hid hke
      go_wp2_with fail
      go_ret
      exact ⟨-1, rfl, by rw [hno.out]; simp, hp⟩
def IdxPost (xs : List ByteArray) (w : World) (e : Ending) (w' : World) : Prop := ∃ i : Int, e = .returned (.int .i64 i) ∧ (0 ≤ i ↔ xs.any longB = true) ∧ w.Plus w'
abbrev sayFn : Value := .func (.func 32) #[] #[]
theorem contains_any (w : World) (A : Option Addr) (cp : Nat) (xs : List ByteArray) (hn : xs.length ≤ 140737488351232) (hr : RowsAt w A 1 xs.length (strAt xs)) :
    Calls Try.prog 31 #[.slice A xs.length cp, sayFn] w fun e w' => e = .returned (.bool (xs.any longB)) ∧ w.Plus w' := by
  have hI : ∀ w', w.Plus w' → Calls Try.prog 47 #[.slice A xs.length cp, sayFn] w' (IdxPost xs w') := fun w' hp => index_any w' A cp xs hn (hr.plus hp) _ rfl
  replace hI := Lib.hid hI
  replace hr := Lib.hid hr
  generalize hB : xs.any longB = B at *
  replace hB := Lib.hid hB
  cases B with
  | true =>
    go_enter Try.func31, Try.ntmps31
    go_wp2_with (first | (go_at_call 47; (with_reducible refine (hI.out _ (by (repeat (first | exact Plus.refl _ | apply Plus.plus | apply Plus.alloc | apply Plus.drew)))).mono ?_); rintro e w' ⟨i, rfl, hi, ey, rfl⟩; have hi0 : 0 ≤ i := hi.2 hB.out; clear hi))
    go_ret
    exact ⟨rfl, by (repeat (first | exact Plus.refl _ | apply Plus.plus | apply Plus.alloc | apply Plus.drew))⟩
  | false =>
    go_enter Try.func31, Try.ntmps31
    go_wp2_with (first | (go_at_call 47; (with_reducible refine (hI.out _ (by (repeat (first | exact Plus.refl _ | apply Plus.plus | apply Plus.alloc | apply Plus.drew)))).mono ?_); rintro e w' ⟨i, rfl, hi, ey, rfl⟩; have hi0 : decide (0 ≤ i) = false := decide_eq_false (fun h => Bool.false_ne_true (hB.out.symm.trans (hi.1 h))); clear hi))
    go_ret
    exact ⟨rfl, by (repeat (first | exact Plus.refl _ | apply Plus.plus | apply Plus.alloc | apply Plus.drew))⟩
end Go.Proofs.Ytpmebmbibajcoaa
