/- Plain laws and walks: Ses1, Ses2, Ses3, Ses4, Ses5, Ses6, Ses7, Ses8, Ses9, SesA, SesB, SesC. -/
import Derived.Test.YthmfmpkkbgapoaaGd
import Derived.Test.YthmfmpkkbgapoaaGa
import Derived.Laws.IdiomStrings
import Derived.Deep.RegionHeld3
import Derived.Deep.RegionLaw
import Derived.Deep.DeepCutAuto
import Derived.Deep.CutBlock
-- Ses1
/- session: the channel in memory; number, Check, New, Waiting, Epochs: walks. -/
set_option linter.unusedSimpArgs false
set_option linter.unusedVariables false
namespace Go.Proofs.Ythmfmpkkbgapoaa.Ses
open Go.RowKit
structure Post where
  mine : Int
  yours : Int
  ack : Int
  seq : Int
  text : ByteArray
abbrev Post.v (p : Post) : Value := .agg #[.int .i64 p.mine, .int .i64 p.yours, .int .i64 p.ack, .int .i64 p.seq, .string p.text]
def inT (n : Int) : Bool := decide (0 ≤ n ∧ n ≤ 1099511627776)
/-- may a post be? -/
def okPost (p : Post) : Bool := decide (1 ≤ p.mine) && (inT p.mine && (inT p.yours && (inT p.ack && (inT p.seq && (decide (p.text.size ≤ 65472) && !(decide (p.seq = 0) && decide (p.text ≠ ⟨#[]⟩)))))))
/-- an end of a channel -/
structure Ch where
  mine : Int
  yours : Int
  first : Int
  wait : List ByteArray
  last : Int
  met : Bool
  owes : Bool
/-- an end that lies in a world, in the blocks of S -/
structure ChAt (w : World) (N : Nat) (c : Ch) (S : Nat → Prop) : Prop where
  lt : N < w.heap.size
  sub : ∀ k, S k → k < w.heap.size
  own : S N
  c0 : w.cell? ⟨N, 0, none⟩ = some (.int .i64 c.mine)
  c1 : w.cell? ⟨N, 1, none⟩ = some (.int .i64 c.yours)
  c2 : w.cell? ⟨N, 2, none⟩ = some (.int .i64 c.first)
  c4 : w.cell? ⟨N, 4, none⟩ = some (.int .i64 c.last)
  c5 : w.cell? ⟨N, 5, none⟩ = some (.bool c.met)
  c6 : w.cell? ⟨N, 6, none⟩ = some (.bool c.owes)
  hf : ∀ i, w.frozen? ⟨N, i, none⟩ = false
  c3 : ∃ A cap, w.cell? ⟨N, 3, none⟩ = some (.slice A c.wait.length cap) ∧ Sl w 1 (.slice A c.wait.length cap) c.wait.length (c.wait.map Value.string) ∧ ∀ g, (Value.slice A c.wait.length cap).ownBlock = some g → S g ∧ g ≠ N
theorem ChAt.chg {w w' : World} {N : Nat} {c : Ch} {S T : Nat → Prop} (h : ChAt w N c S) (hc : Chg w w' T) (hd : ∀ k, S k → ¬ T k) : ChAt w' N c S := by
  obtain ⟨lt, sub, own, c0, c1, c2, c4, c5, c6, hf, A, cap, c3, hs, hg⟩ := h
  have hN := hd N own
  exact ⟨Nat.lt_of_lt_of_le lt hc.size, fun k hk => Nat.lt_of_lt_of_le (sub k hk) hc.size, own, (hc.cell lt hN).trans c0, (hc.cell lt hN).trans c1, (hc.cell lt hN).trans c2, (hc.cell lt hN).trans c4, (hc.cell lt hN).trans c5, (hc.cell lt hN).trans c6,
    fun i => (hc.frozen lt hN).trans (hf i), A, cap, (hc.cell lt hN).trans c3, hs.chg hc (fun g h => hd g (hg g h).1), hg⟩
theorem ChAt.plus {w : World} {N : Nat} {c : Ch} {S : Nat → Prop} (h : ChAt w N c S) (e : Ext) : ChAt (w.plus e) N c S := h.chg (Chg.of_plus w e fun _ => False) (fun _ _ h => h)
theorem ChAt.more {w : World} {N : Nat} {c : Ch} {S T : Nat → Prop} (h : ChAt w N c S) (hs : ∀ k, S k → T k) (ht : ∀ k, T k → k < w.heap.size) : ChAt w N c T := by
  obtain ⟨lt, sub, own, c0, c1, c2, c4, c5, c6, hf, A, cap, c3, hsl, hg⟩ := h
  exact ⟨lt, ht, hs N own, c0, c1, c2, c4, c5, c6, hf, A, cap, c3, hsl, fun g h => ⟨hs g (hg g h).1, (hg g h).2⟩⟩
abbrev chV (n : Nat) : Value := .pointer (some ⟨n, 0, none⟩)
/-- what a call of an end leaves -/
def ChPost (w : World) (N : Nat) (S : Nat → Prop) (v : Value) (c : Ch) (e : Ending) (w' : World) : Prop := e = .returned v ∧ ChAt w' N c (Grown S w w') ∧ Chg w w' S
theorem number_any (w : World) (n : Int) : Calls Try.prog 73 #[.int .i64 n] w fun e w' => e = .returned (.bool (inT n)) ∧ w.Plus w' := by
  have hI : inT n = decide (0 ≤ n ∧ n ≤ 1099511627776) := rfl
  generalize inT n = b at *
  by_cases h0 : 0 ≤ n
  · by_cases h1 : n ≤ 1099511627776
    · obtain rfl : b = true := by rw [hI]; simp [h0, h1]
      clear hI
      go_enter Try.func73, Try.ntmps73
      go_wp2_with fail
      go_ret
      exact ⟨rfl, by (repeat (first | exact Plus.refl _ | apply Plus.plus | apply Plus.alloc | apply Plus.drew))⟩
    · obtain rfl : b = false := by rw [hI]; simp [h1]
      clear hI
      go_enter Try.func73, Try.ntmps73
      go_wp2_with fail
      go_ret
      exact ⟨rfl, by (repeat (first | exact Plus.refl _ | apply Plus.plus | apply Plus.alloc | apply Plus.drew))⟩
  · obtain rfl : b = false := by rw [hI]; simp [h0]
    clear hI
    go_enter Try.func73, Try.ntmps73
    go_wp2_with fail
    go_ret
    exact ⟨rfl, by (repeat (first | exact Plus.refl _ | apply Plus.plus | apply Plus.alloc | apply Plus.drew))⟩
theorem empty_iff (s : ByteArray) : (s.toList.isEmpty = true ↔ s = ⟨#[]⟩) := by
  rw [← decide_eq_emptyBytes, decide_eq_true_iff]
  exact Iff.rfl
set_option maxRecDepth 100000 in
theorem check_any (w : World) (p : Post) : Calls Try.prog 52 #[p.v] w fun e w' => e = .returned (.int .i64 (if okPost p then 0 else 1)) ∧ w.Plus w' := by
  obtain ⟨m, y, a, s, t⟩ := p
  have hO : okPost ⟨m, y, a, s, t⟩ = (decide (1 ≤ m) && (inT m && (inT y && (inT a && (inT s && (decide (t.size ≤ 65472) && !(decide (s = 0) && decide (t ≠ ⟨#[]⟩)))))))) := rfl
  have n1 := fun w => number_any w m
  have n2 := fun w => number_any w y
  have n3 := fun w => number_any w a
  have n4 := fun w => number_any w s
  generalize okPost ⟨m, y, a, s, t⟩ = O at *
  simp only [Post.v]
  by_cases h1 : m < 1
  · obtain rfl : O = false := by rw [hO, decide_eq_false (by omega)]; rfl
    replace hO := Lib.hid hO
    replace n1 := Lib.hid n1
    replace n2 := Lib.hid n2
    replace n3 := Lib.hid n3
    replace n4 := Lib.hid n4
    go_enter Try.func52, Try.ntmps52
    go_wp2_with (first | (go_at_call 73; (with_reducible refine (n1.out _).mono ?_); rintro e w' ⟨rfl, e1, rfl⟩) | (go_at_call 73; (with_reducible refine (n2.out _).mono ?_); rintro e w' ⟨rfl, e2, rfl⟩) | (go_at_call 73; (with_reducible refine (n3.out _).mono ?_); rintro e w' ⟨rfl, e3, rfl⟩) | (go_at_call 73; (with_reducible refine (n4.out _).mono ?_); rintro e w' ⟨rfl, e4, rfl⟩))
    go_ret
    exact ⟨rfl, by (repeat (first | exact Plus.refl _ | apply Plus.plus | apply Plus.alloc | apply Plus.drew))⟩

  have h1b : decide (1 ≤ m) = true := decide_eq_true (by omega)
  rw [h1b, Bool.true_and] at hO
  clear h1b
  cases i1 : inT m with
  | false =>
    rw [i1] at hO n1
    obtain rfl : O = false := by rw [hO]; rfl
    replace hO := Lib.hid hO
    replace n1 := Lib.hid n1
    replace n2 := Lib.hid n2
    replace n3 := Lib.hid n3
    replace n4 := Lib.hid n4
    go_enter Try.func52, Try.ntmps52
    go_wp2_with (first | (go_at_call 73; (with_reducible refine (n1.out _).mono ?_); rintro e w' ⟨rfl, e1, rfl⟩) | (go_at_call 73; (with_reducible refine (n2.out _).mono ?_); rintro e w' ⟨rfl, e2, rfl⟩) | (go_at_call 73; (with_reducible refine (n3.out _).mono ?_); rintro e w' ⟨rfl, e3, rfl⟩) | (go_at_call 73; (with_reducible refine (n4.out _).mono ?_); rintro e w' ⟨rfl, e4, rfl⟩))
    go_ret
    exact ⟨rfl, by (repeat (first | exact Plus.refl _ | apply Plus.plus | apply Plus.alloc | apply Plus.drew))⟩

  | true =>
  rw [i1] at hO n1
  rw [Bool.true_and] at hO
  clear i1
  cases i2 : inT y with
  | false =>
    rw [i2] at hO n2
    obtain rfl : O = false := by rw [hO]; rfl
    replace hO := Lib.hid hO
    replace n1 := Lib.hid n1
    replace n2 := Lib.hid n2
    replace n3 := Lib.hid n3
    replace n4 := Lib.hid n4
    go_enter Try.func52, Try.ntmps52
    go_wp2_with (first | (go_at_call 73; (with_reducible refine (n1.out _).mono ?_); rintro e w' ⟨rfl, e1, rfl⟩) | (go_at_call 73; (with_reducible refine (n2.out _).mono ?_); rintro e w' ⟨rfl, e2, rfl⟩) | (go_at_call 73; (with_reducible refine (n3.out _).mono ?_); rintro e w' ⟨rfl, e3, rfl⟩) | (go_at_call 73; (with_reducible refine (n4.out _).mono ?_); rintro e w' ⟨rfl, e4, rfl⟩))
    go_ret
    exact ⟨rfl, by (repeat (first | exact Plus.refl _ | apply Plus.plus | apply Plus.alloc | apply Plus.drew))⟩

  | true =>
  rw [i2] at hO n2
  rw [Bool.true_and] at hO
  clear i2
  cases i3 : inT a with
  | false =>
    rw [i3] at hO n3
    obtain rfl : O = false := by rw [hO]; rfl
    replace hO := Lib.hid hO
    replace n1 := Lib.hid n1
    replace n2 := Lib.hid n2
    replace n3 := Lib.hid n3
    replace n4 := Lib.hid n4
    go_enter Try.func52, Try.ntmps52
    go_wp2_with (first | (go_at_call 73; (with_reducible refine (n1.out _).mono ?_); rintro e w' ⟨rfl, e1, rfl⟩) | (go_at_call 73; (with_reducible refine (n2.out _).mono ?_); rintro e w' ⟨rfl, e2, rfl⟩) | (go_at_call 73; (with_reducible refine (n3.out _).mono ?_); rintro e w' ⟨rfl, e3, rfl⟩) | (go_at_call 73; (with_reducible refine (n4.out _).mono ?_); rintro e w' ⟨rfl, e4, rfl⟩))
    go_ret
    exact ⟨rfl, by (repeat (first | exact Plus.refl _ | apply Plus.plus | apply Plus.alloc | apply Plus.drew))⟩

  | true =>
  rw [i3] at hO n3
  rw [Bool.true_and] at hO
  clear i3
  cases i4 : inT s with
  | false =>
    rw [i4] at hO n4
    obtain rfl : O = false := by rw [hO]; rfl
    replace hO := Lib.hid hO
    replace n1 := Lib.hid n1
    replace n2 := Lib.hid n2
    replace n3 := Lib.hid n3
    replace n4 := Lib.hid n4
    go_enter Try.func52, Try.ntmps52
    go_wp2_with (first | (go_at_call 73; (with_reducible refine (n1.out _).mono ?_); rintro e w' ⟨rfl, e1, rfl⟩) | (go_at_call 73; (with_reducible refine (n2.out _).mono ?_); rintro e w' ⟨rfl, e2, rfl⟩) | (go_at_call 73; (with_reducible refine (n3.out _).mono ?_); rintro e w' ⟨rfl, e3, rfl⟩) | (go_at_call 73; (with_reducible refine (n4.out _).mono ?_); rintro e w' ⟨rfl, e4, rfl⟩))
    go_ret
    exact ⟨rfl, by (repeat (first | exact Plus.refl _ | apply Plus.plus | apply Plus.alloc | apply Plus.drew))⟩

  | true =>
  rw [i4] at hO n4
  rw [Bool.true_and] at hO
  clear i4
  by_cases h5 : 65472 < t.size
  · obtain rfl : O = false := by rw [hO, decide_eq_false (by omega)]; rfl
    have h5i : (65472 : Int) < t.size := by omega
    have h5b : decide (65472 < t.size) = true := decide_eq_true h5
    replace hO := Lib.hid hO
    replace n1 := Lib.hid n1
    replace n2 := Lib.hid n2
    replace n3 := Lib.hid n3
    replace n4 := Lib.hid n4
    go_enter Try.func52, Try.ntmps52
    go_wp2_with (first | (go_at_call 73; (with_reducible refine (n1.out _).mono ?_); rintro e w' ⟨rfl, e1, rfl⟩) | (go_at_call 73; (with_reducible refine (n2.out _).mono ?_); rintro e w' ⟨rfl, e2, rfl⟩) | (go_at_call 73; (with_reducible refine (n3.out _).mono ?_); rintro e w' ⟨rfl, e3, rfl⟩) | (go_at_call 73; (with_reducible refine (n4.out _).mono ?_); rintro e w' ⟨rfl, e4, rfl⟩))
    go_ret
    exact ⟨rfl, by (repeat (first | exact Plus.refl _ | apply Plus.plus | apply Plus.alloc | apply Plus.drew))⟩

  have h5i : ¬ (65472 : Int) < t.size := by omega
  have h5b : decide (65472 < t.size) = false := decide_eq_false h5
  rw [decide_eq_true (show t.size ≤ 65472 by omega), Bool.true_and] at hO
  by_cases h6 : s = 0
  · by_cases h7 : t = ⟨#[]⟩
    · obtain rfl : O = true := by rw [hO]; simp [h7]
      subst h6 h7
      replace hO := Lib.hid hO
      replace n1 := Lib.hid n1
      replace n2 := Lib.hid n2
      replace n3 := Lib.hid n3
      replace n4 := Lib.hid n4
      go_enter Try.func52, Try.ntmps52
      go_wp2_with (first | (go_at_call 73; (with_reducible refine (n1.out _).mono ?_); rintro e w' ⟨rfl, e1, rfl⟩) | (go_at_call 73; (with_reducible refine (n2.out _).mono ?_); rintro e w' ⟨rfl, e2, rfl⟩) | (go_at_call 73; (with_reducible refine (n3.out _).mono ?_); rintro e w' ⟨rfl, e3, rfl⟩) | (go_at_call 73; (with_reducible refine (n4.out _).mono ?_); rintro e w' ⟨rfl, e4, rfl⟩))
      go_ret
      exact ⟨rfl, by (repeat (first | exact Plus.refl _ | apply Plus.plus | apply Plus.alloc | apply Plus.drew))⟩

    · obtain rfl : O = false := by rw [hO]; simp [h6, h7]
      have h7b : t.toList.isEmpty = false := by rw [Bool.eq_false_iff]; exact fun h => h7 ((empty_iff t).1 h)
      subst h6
      replace h7 := Lib.hid h7
      replace hO := Lib.hid hO
      replace n1 := Lib.hid n1
      replace n2 := Lib.hid n2
      replace n3 := Lib.hid n3
      replace n4 := Lib.hid n4
      go_enter Try.func52, Try.ntmps52
      go_wp2_with (first | (go_at_call 73; (with_reducible refine (n1.out _).mono ?_); rintro e w' ⟨rfl, e1, rfl⟩) | (go_at_call 73; (with_reducible refine (n2.out _).mono ?_); rintro e w' ⟨rfl, e2, rfl⟩) | (go_at_call 73; (with_reducible refine (n3.out _).mono ?_); rintro e w' ⟨rfl, e3, rfl⟩) | (go_at_call 73; (with_reducible refine (n4.out _).mono ?_); rintro e w' ⟨rfl, e4, rfl⟩))
      go_ret
      exact ⟨rfl, by (repeat (first | exact Plus.refl _ | apply Plus.plus | apply Plus.alloc | apply Plus.drew))⟩

  · obtain rfl : O = true := by rw [hO]; simp [h6]
    have h6b : (s == 0) = false := by rw [beq_eq_false_iff_ne]; exact h6
    replace hO := Lib.hid hO
    replace n1 := Lib.hid n1
    replace n2 := Lib.hid n2
    replace n3 := Lib.hid n3
    replace n4 := Lib.hid n4
    go_enter Try.func52, Try.ntmps52
    go_wp2_with (first | (go_at_call 73; (with_reducible refine (n1.out _).mono ?_); rintro e w' ⟨rfl, e1, rfl⟩) | (go_at_call 73; (with_reducible refine (n2.out _).mono ?_); rintro e w' ⟨rfl, e2, rfl⟩) | (go_at_call 73; (with_reducible refine (n3.out _).mono ?_); rintro e w' ⟨rfl, e3, rfl⟩) | (go_at_call 73; (with_reducible refine (n4.out _).mono ?_); rintro e w' ⟨rfl, e4, rfl⟩))
    go_ret
    exact ⟨rfl, by (repeat (first | exact Plus.refl _ | apply Plus.plus | apply Plus.alloc | apply Plus.drew))⟩

theorem new_bad (w : World) (m : Int) (h : m < 1 ∨ 1099511627776 < m) : Calls Try.prog 15 #[.int .i64 m] w fun e w' => e = .returned (.tuple #[.pointer none, .int .i64 1]) ∧ w.Plus w' := by
  by_cases h1 : m < 1
  · have h1b : decide (m < 1) = true := decide_eq_true h1
    go_enter Try.func15, Try.ntmps15
    go_wp2_with fail
    go_ret2
    exact ⟨rfl, by (repeat (first | exact Plus.refl _ | apply Plus.plus | apply Plus.alloc | apply Plus.drew))⟩
  · have h2 : 1099511627776 < m := by omega
    have h1b : decide (m < 1) = false := decide_eq_false h1
    go_enter Try.func15, Try.ntmps15
    go_wp2_with fail
    go_ret2
    exact ⟨rfl, by (repeat (first | exact Plus.refl _ | apply Plus.plus | apply Plus.alloc | apply Plus.drew))⟩
def NewCh (w : World) (m : Int) (e : Ending) (w' : World) : Prop := e = .returned (.tuple #[chV w.heap.size, .int .i64 0]) ∧ ChAt w' w.heap.size ⟨m, 0, 1, [], 0, false, false⟩ (fun k => k = w.heap.size) ∧ w.Plus w'
theorem new_any (w : World) (m : Int) (h : 1 ≤ m ∧ m ≤ 1099511627776) : Calls Try.prog 15 #[.int .i64 m] w (NewCh w m) := by
  have h1 : ¬ m < 1 := by omega
  have h2 : ¬ 1099511627776 < m := by omega
  clear h
  go_enter Try.func15, Try.ntmps15
  go_wp2_with fail
  go_ret2
  refine ⟨rfl, ⟨?_, ?_, rfl, ?_, ?_, ?_, ?_, ?_, ?_, ?_, none, 0, ?_, Sl.nil _ _, fun g hg => by cases hg⟩, by (repeat (first | exact Plus.refl _ | apply Plus.plus | apply Plus.alloc | apply Plus.drew))⟩
  all_goals simp [go_sem]
section
variable (w : World) (N : Nat) (c : Ch) (S : Nat → Prop)
theorem epochs_any (h : ChAt w N c S) : Calls Try.prog 17 #[chV N] w fun e w' => e = .returned (.tuple #[.int .i64 c.mine, .int .i64 c.yours]) ∧ w.Plus w' := by
  obtain ⟨lt, sub, own, c0, c1, c2, c4, c5, c6, hf, A, cap, c3, hs, hg⟩ := h
  haveI : InW N w := ⟨lt⟩
  go_enter Try.func17, Try.ntmps17
  go_upto_region 3 with fail
  refine wp_region_grow (by kernel_rfl) (by kernel_rfl) ?_
  repeat (go_big_quiet_step (fail))
  refine wpQuiet_nil ?_
  intro ex
  go_wp2_with fail
  go_ret2
  exact ⟨rfl, by (repeat (first | exact Plus.refl _ | apply Plus.plus | apply Plus.alloc | apply Plus.drew))⟩
end
end Go.Proofs.Ythmfmpkkbgapoaa.Ses
-- Ses2
/- session: Say: walks. -/
set_option linter.unusedSimpArgs false
set_option linter.unusedVariables false
namespace Go.Proofs.Ythmfmpkkbgapoaa.Ses
open Go.RowKit
abbrev strAt (xs : List ByteArray) : Nat → Nat → Value := fun i _ => .string (xs.getD i ⟨#[]⟩)
def longB (s : ByteArray) : Bool := decide (65472 < s.size)
theorem long_any (w : World) (s : ByteArray) : Calls Try.prog 28 #[.string s] w fun e w' => e = .returned (.bool (longB s)) ∧ w.Plus w' := by
  have hB : longB s = decide (65472 < s.size) := rfl
  generalize longB s = b at *
  by_cases h : 65472 < s.size
  · obtain rfl : b = true := by rw [hB]; simp [h]
    have hi : (65472 : Int) < s.size := by omega
    replace hB := Lib.hid hB
    go_enter Try.func28, Try.ntmps28
    go_wp2_with fail
    go_ret
    exact ⟨rfl, by (repeat (first | exact Plus.refl _ | apply Plus.plus | apply Plus.alloc | apply Plus.drew))⟩
  · obtain rfl : b = false := by rw [hB]; simp [h]
    have hi : ¬ (65472 : Int) < s.size := by omega
    replace hB := Lib.hid hB
    go_enter Try.func28, Try.ntmps28
    go_wp2_with fail
    go_ret
    exact ⟨rfl, by (repeat (first | exact Plus.refl _ | apply Plus.plus | apply Plus.alloc | apply Plus.drew))⟩
/-- the first text that is too long -/
def longAt : List ByteArray → Int
  | [] => -1
  | s :: l => if longB s then 0 else if longAt l = -1 then -1 else longAt l + 1
theorem longAt_ge (l : List ByteArray) : -1 ≤ longAt l := by
  induction l with
  | nil => decide
  | cons s l ih => unfold longAt; split; decide; split; decide; omega
theorem longAt_any (l : List ByteArray) : (0 ≤ longAt l ↔ l.any longB = true) := by
  induction l with
  | nil => simp [longAt]
  | cons s l ih =>
    have := longAt_ge l
    simp only [longAt, List.any_cons, Bool.or_eq_true]
    split
    · rename_i h; simp [h]
    · rename_i h
      split
      · rename_i h2; rw [h2] at ih; simp [h] at ih ⊢; exact ih
      · rw [← ih]; simp [h]; omega
theorem index_any (w : World) (A : Option Addr) (cp : Nat) (xs : List ByteArray) (hn : xs.length ≤ 140737488351232) (hr : RowsAt w A 1 xs.length (strAt xs)) (f : Value) (hf : f = .func (.func 28) #[] #[]) :
    Calls Try.prog 51 #[.slice A xs.length cp, f] w fun e w' => ∃ i : Int, e = .returned (.int .i64 i) ∧ (0 ≤ i ↔ xs.any longB = true) ∧ w.Plus w' := by
  subst hf
  go_enter Try.func51, Try.ntmps51
  go_wp2_with fail
  go_loopw [5, 8] (fun j i wr => ∃ k : Nat, k ≤ xs.length ∧ i = .int .i64 k ∧ (xs.take k).any longB = false ∧ w.Plus wr) (fun _ i _ => xs.length - (intOf i).toNat)
  case atStart => exact ⟨0, Nat.zero_le _, rfl, rfl, by (repeat (first | exact Plus.refl _ | apply Plus.plus | apply Plus.alloc | apply Plus.drew))⟩
  case round =>
    obtain ⟨k, hk, rfl, ha, hp⟩ := hrel
    by_cases hlt : k < xs.length
    · obtain ⟨b, o, rfl, hb, hc⟩ := (hr.plus hp) (by omega)
      have c1 := hc k 0 hlt (by omega)
      clear hc hr
      haveI : InW b wr := ⟨hb⟩
      have htk : xs.take (k + 1) = xs.take k ++ [xs.getD k ⟨#[]⟩] := by
        rw [List.take_succ_eq_append_getElem hlt]; congr 2
        rw [List.getD_eq_getElem?_getD, List.getElem?_eq_getElem hlt]; rfl
      have hmem : xs.getD k ⟨#[]⟩ ∈ xs := by
        rw [List.getD_eq_getElem?_getD, List.getElem?_eq_getElem hlt]; exact List.getElem_mem hlt
      unfold strAt at c1
      simp only [Nat.mul_one, Nat.add_zero] at c1
      generalize xs.getD k ⟨#[]⟩ = x at *
      have hL := fun w => long_any w x
      cases hx : longB x with
      | true =>
        rw [hx] at hL
        have hyes := Lib.hid (show xs.any longB = true from List.any_eq_true.2 ⟨x, hmem, hx⟩)
        replace hL := Lib.hid hL
        replace hx := Lib.hid hx
        replace ha := Lib.hid ha
        clear htk hmem
        go_wp2_with (first | (go_at_call 28; (with_reducible refine (hL.out _).mono ?_); rintro e w' ⟨rfl, ey, rfl⟩))
        go_ret
        exact ⟨k, rfl, ⟨fun _ => hyes.out, fun _ => by omega⟩, Plus.trans hp (by (repeat (first | exact Plus.refl _ | apply Plus.plus | apply Plus.alloc | apply Plus.drew)))⟩
      | false =>
        rw [hx] at hL
        have hnx := Lib.hid (show (xs.take (k + 1)).any longB = false by rw [htk, List.any_append, ha]; simp [hx])
        replace hL := Lib.hid hL
        replace hx := Lib.hid hx
        replace ha := Lib.hid ha
        clear htk hmem
        go_wp2_with (first | (go_at_call 28; (with_reducible refine (hL.out _).mono ?_); rintro e w' ⟨rfl, ey, rfl⟩))
        go_roundw
        case rel => exact ⟨k + 1, hlt, by go_num, hnx.out, Plus.trans hp (by (repeat (first | exact Plus.refl _ | apply Plus.plus | apply Plus.alloc | apply Plus.drew)))⟩
        case measure => simp [intOf]; omega
    · have hke : k = xs.length := by omega
      have hno := Lib.hid (show xs.any longB = false by rw [hke, List.take_length] at ha; exact ha)
      replace ha := Lib.hid ha
      replace hke := Lib.hid hke
      go_wp2_with fail
      go_ret
      exact ⟨-1, rfl, by rw [hno.out]; simp, hp⟩
def IdxPost (xs : List ByteArray) (w : World) (e : Ending) (w' : World) : Prop := ∃ i : Int, e = .returned (.int .i64 i) ∧ (0 ≤ i ↔ xs.any longB = true) ∧ w.Plus w'
abbrev sayFn : Value := .func (.func 28) #[] #[]
theorem contains_any (w : World) (A : Option Addr) (cp : Nat) (xs : List ByteArray) (hn : xs.length ≤ 140737488351232) (hr : RowsAt w A 1 xs.length (strAt xs)) :
    Calls Try.prog 27 #[.slice A xs.length cp, sayFn] w fun e w' => e = .returned (.bool (xs.any longB)) ∧ w.Plus w' := by
  have hI : ∀ w', w.Plus w' → Calls Try.prog 51 #[.slice A xs.length cp, sayFn] w' (IdxPost xs w') := fun w' hp => index_any w' A cp xs hn (hr.plus hp) _ rfl
  replace hI := Lib.hid hI
  replace hr := Lib.hid hr
  generalize hB : xs.any longB = B at *
  replace hB := Lib.hid hB
  cases B with
  | true =>
    go_enter Try.func27, Try.ntmps27
    go_wp2_with (first | (go_at_call 51; (with_reducible refine (hI.out _ (by (repeat (first | exact Plus.refl _ | apply Plus.plus | apply Plus.alloc | apply Plus.drew)))).mono ?_); rintro e w' ⟨i, rfl, hi, ey, rfl⟩; have hi0 : 0 ≤ i := hi.2 hB.out; clear hi))
    go_ret
    exact ⟨rfl, by (repeat (first | exact Plus.refl _ | apply Plus.plus | apply Plus.alloc | apply Plus.drew))⟩
  | false =>
    go_enter Try.func27, Try.ntmps27
    go_wp2_with (first | (go_at_call 51; (with_reducible refine (hI.out _ (by (repeat (first | exact Plus.refl _ | apply Plus.plus | apply Plus.alloc | apply Plus.drew)))).mono ?_); rintro e w' ⟨i, rfl, hi, ey, rfl⟩; have hi0 : decide (0 ≤ i) = false := decide_eq_false (fun h => Bool.false_ne_true (hB.out.symm.trans (hi.1 h))); clear hi))
    go_ret
    exact ⟨rfl, by (repeat (first | exact Plus.refl _ | apply Plus.plus | apply Plus.alloc | apply Plus.drew))⟩
end Go.Proofs.Ythmfmpkkbgapoaa.Ses
-- Ses3
/- session: what is stored into an end; Say: walks. -/
set_option linter.unusedSimpArgs false
set_option linter.unusedVariables false
namespace Go
theorem Src.ofRows {P : Program} {w : World} {size : Nat} {tx e' : TypeId} (hk : P.underlying tx = some (.slice e')) (hs0 : 0 < size) {A : Option Addr} {n : Nat} {f : Nat → Nat → Value} (hr : RowsAt w A size n f) (c : Nat) (news : List Value) (hl : news.length = n * size)
    (hf : ∀ i j, i < n → j < size → news[i * size + j]? = some (f i j)) (h1 : ∀ u ∈ news, u.oneCell' = true) : Src P size tx (.slice A n c) n news w := by
  by_cases hn : 0 < n
  · obtain ⟨b, off, rfl, hb, hc⟩ := hr hn
    refine Src.ofSlice (P := P) w hk ⟨b, off, none⟩ n c news hl (fun j u hu => ?_) h1
    have hj : j < n * size := by rw [← hl]; exact (List.getElem?_eq_some_iff.1 hu).1
    have hi : j / size < n := Nat.div_lt_of_lt_mul (by rw [Nat.mul_comm]; exact hj)
    have e1 : j / size * size + j % size = j := by rw [Nat.mul_comm]; exact Nat.div_add_mod j size
    have h2 := hc (j / size) (j % size) hi (Nat.mod_lt _ hs0)
    have h3 := hf (j / size) (j % size) hi (Nat.mod_lt _ hs0)
    rw [e1] at h2 h3
    rw [Addr.add_lit, h2, ← h3, hu]
  · obtain rfl : n = 0 := by omega
    obtain rfl : news = [] := List.eq_nil_of_length_eq_zero (by simpa using hl)
    cases A with
    | none => exact Src.ofNil (P := P) w hk c
    | some a => exact Src.ofSlice (P := P) w hk a 0 c [] (by simp) (fun j u h => by simp at h) h1
end Go
namespace Go.Proofs.Ythmfmpkkbgapoaa.Ses
open Go.RowKit
theorem infoStr : (Try.prog.info? 9).map (fun i => (i.zero, i.size, i.bytes)) = some (some (.string ⟨#[]⟩), 1, 16) := by kernel_rfl
theorem underStrs : Try.prog.underlying 78 = some (.slice 9) := by kernel_rfl
theorem ChAt.set0 {w : World} {N : Nat} {c : Ch} {S : Nat → Prop} (h : ChAt w N c S) (v : Int) : ChAt (w.setCell ⟨N, 0, none⟩ (.int .i64 v)) N { c with mine := v } S := by
  obtain ⟨lt, sub, own, c0, c1, c2, c4, c5, c6, hf, A, cap, c3, hs, hg⟩ := h
  refine ⟨by rw [World.size_setCell]; exact lt, fun k hk => by rw [World.size_setCell]; exact sub k hk, own, ?_, ?_, ?_, ?_, ?_, ?_, fun i => ?_, A, cap, ?_, hs.chg (Chg.of_setCell w _ _ (fun k => k = N) rfl) (fun g h => (hg g h).2), hg⟩
  all_goals simp [go_sem, c0, c1, c2, c3, c4, c5, c6, hf]
theorem ChAt.set1 {w : World} {N : Nat} {c : Ch} {S : Nat → Prop} (h : ChAt w N c S) (v : Int) : ChAt (w.setCell ⟨N, 1, none⟩ (.int .i64 v)) N { c with yours := v } S := by
  obtain ⟨lt, sub, own, c0, c1, c2, c4, c5, c6, hf, A, cap, c3, hs, hg⟩ := h
  refine ⟨by rw [World.size_setCell]; exact lt, fun k hk => by rw [World.size_setCell]; exact sub k hk, own, ?_, ?_, ?_, ?_, ?_, ?_, fun i => ?_, A, cap, ?_, hs.chg (Chg.of_setCell w _ _ (fun k => k = N) rfl) (fun g h => (hg g h).2), hg⟩
  all_goals simp [go_sem, c0, c1, c2, c3, c4, c5, c6, hf]
theorem ChAt.set2 {w : World} {N : Nat} {c : Ch} {S : Nat → Prop} (h : ChAt w N c S) (v : Int) : ChAt (w.setCell ⟨N, 2, none⟩ (.int .i64 v)) N { c with first := v } S := by
  obtain ⟨lt, sub, own, c0, c1, c2, c4, c5, c6, hf, A, cap, c3, hs, hg⟩ := h
  refine ⟨by rw [World.size_setCell]; exact lt, fun k hk => by rw [World.size_setCell]; exact sub k hk, own, ?_, ?_, ?_, ?_, ?_, ?_, fun i => ?_, A, cap, ?_, hs.chg (Chg.of_setCell w _ _ (fun k => k = N) rfl) (fun g h => (hg g h).2), hg⟩
  all_goals simp [go_sem, c0, c1, c2, c3, c4, c5, c6, hf]
theorem ChAt.set4 {w : World} {N : Nat} {c : Ch} {S : Nat → Prop} (h : ChAt w N c S) (v : Int) : ChAt (w.setCell ⟨N, 4, none⟩ (.int .i64 v)) N { c with last := v } S := by
  obtain ⟨lt, sub, own, c0, c1, c2, c4, c5, c6, hf, A, cap, c3, hs, hg⟩ := h
  refine ⟨by rw [World.size_setCell]; exact lt, fun k hk => by rw [World.size_setCell]; exact sub k hk, own, ?_, ?_, ?_, ?_, ?_, ?_, fun i => ?_, A, cap, ?_, hs.chg (Chg.of_setCell w _ _ (fun k => k = N) rfl) (fun g h => (hg g h).2), hg⟩
  all_goals simp [go_sem, c0, c1, c2, c3, c4, c5, c6, hf]
theorem ChAt.set5 {w : World} {N : Nat} {c : Ch} {S : Nat → Prop} (h : ChAt w N c S) (v : Bool) : ChAt (w.setCell ⟨N, 5, none⟩ (.bool v)) N { c with met := v } S := by
  obtain ⟨lt, sub, own, c0, c1, c2, c4, c5, c6, hf, A, cap, c3, hs, hg⟩ := h
  refine ⟨by rw [World.size_setCell]; exact lt, fun k hk => by rw [World.size_setCell]; exact sub k hk, own, ?_, ?_, ?_, ?_, ?_, ?_, fun i => ?_, A, cap, ?_, hs.chg (Chg.of_setCell w _ _ (fun k => k = N) rfl) (fun g h => (hg g h).2), hg⟩
  all_goals simp [go_sem, c0, c1, c2, c3, c4, c5, c6, hf]
theorem ChAt.set6 {w : World} {N : Nat} {c : Ch} {S : Nat → Prop} (h : ChAt w N c S) (v : Bool) : ChAt (w.setCell ⟨N, 6, none⟩ (.bool v)) N { c with owes := v } S := by
  obtain ⟨lt, sub, own, c0, c1, c2, c4, c5, c6, hf, A, cap, c3, hs, hg⟩ := h
  refine ⟨by rw [World.size_setCell]; exact lt, fun k hk => by rw [World.size_setCell]; exact sub k hk, own, ?_, ?_, ?_, ?_, ?_, ?_, fun i => ?_, A, cap, ?_, hs.chg (Chg.of_setCell w _ _ (fun k => k = N) rfl) (fun g h => (hg g h).2), hg⟩
  all_goals simp [go_sem, c0, c1, c2, c3, c4, c5, c6, hf]
/-- another slice of texts is stored -/
theorem ChAt.set3 {w : World} {N : Nat} {c : Ch} {S : Nat → Prop} (h : ChAt w N c S) (ws : List ByteArray) (A : Option Addr) (cap : Nat) (hs : Sl w 1 (.slice A ws.length cap) ws.length (ws.map Value.string)) (hg : ∀ g, (Value.slice A ws.length cap).ownBlock = some g → S g ∧ g ≠ N) :
    ChAt (w.setCell ⟨N, 3, none⟩ (.slice A ws.length cap)) N { c with wait := ws } S := by
  obtain ⟨lt, sub, own, c0, c1, c2, c4, c5, c6, hf, A0, cap0, c3, hs0, hg0⟩ := h
  refine ⟨by rw [World.size_setCell]; exact lt, fun k hk => by rw [World.size_setCell]; exact sub k hk, own, ?_, ?_, ?_, ?_, ?_, ?_, fun i => ?_, A, cap, ?_, hs.chg (Chg.of_setCell w _ _ (fun k => k = N) rfl) (fun g h => (hg g h).2), hg⟩
  all_goals simp [go_sem, c0, c1, c2, c3, c4, c5, c6, hf]
theorem ChAt.set3nil {w : World} {N : Nat} {c : Ch} {S : Nat → Prop} (h : ChAt w N c S) : ChAt (w.setCell ⟨N, 3, none⟩ (.slice none 0 0)) N { c with wait := [] } S :=
  h.set3 [] none 0 (Sl.nil _ _) (fun g hg => by cases hg)
/-- the end's own cells, where only the texts' row has changed -/
theorem ChAt.store3 {w w2 : World} {N : Nat} {c : Ch} {S : Nat → Prop} (h : ChAt w N c S) {T : Nat → Prop} (hch : Chg w w2 T) (hT : ∀ k, T k → S k ∧ k ≠ N) (ws : List ByteArray) (A : Option Addr) (cap : Nat)
    (hs : Sl w2 1 (.slice A ws.length cap) ws.length (ws.map Value.string)) (hg : ∀ g, (Value.slice A ws.length cap).ownBlock = some g → (S g ∧ g ≠ N) ∨ g = w.heap.size) :
    ChAt (w2.setCell ⟨N, 3, none⟩ (.slice A ws.length cap)) N { c with wait := ws } (Grown S w (w2.setCell ⟨N, 3, none⟩ (.slice A ws.length cap))) ∧ Chg w (w2.setCell ⟨N, 3, none⟩ (.slice A ws.length cap)) S := by
  obtain ⟨lt, sub, own, c0, c1, c2, c4, c5, c6, hf, A0, cap0, c3, hs0, hg0⟩ := h
  have hN : ¬ T N := fun h => (hT N h).2 rfl
  have lt2 : N < w2.heap.size := Nat.lt_of_lt_of_le lt hch.size
  have e : ∀ i, w2.cell? ⟨N, i, none⟩ = w.cell? ⟨N, i, none⟩ := fun i => hch.cell lt hN
  have e2 : ∀ i, w2.frozen? ⟨N, i, none⟩ = w.frozen? ⟨N, i, none⟩ := fun i => hch.frozen lt hN
  refine ⟨⟨by rw [World.size_setCell]; exact lt2, fun k hk => ?_, .inl own, ?_, ?_, ?_, ?_, ?_, ?_, fun i => ?_, A, cap, ?_, hs.chg (Chg.of_setCell w2 _ _ (fun k => k = N) rfl) (fun g h => ?_), fun g h => ?_⟩, (hch.mono fun k h => (hT k h).1).setCell _ _ (.inl own)⟩
  · rw [World.size_setCell]
    rcases hk with hk | hk
    · exact Nat.lt_of_lt_of_le (sub k hk) hch.size
    · rw [World.size_setCell] at hk; exact hk.2
  · simp [go_sem, e, c0]
  · simp [go_sem, e, c1]
  · simp [go_sem, e, c2]
  · simp [go_sem, e, c4]
  · simp [go_sem, e, c5]
  · simp [go_sem, e, c6]
  · simp [go_sem, e2, hf]
  · simp [go_sem, e, c3]
  · rcases hg g h with h2 | h2
    · exact h2.2
    · omega
  · have hgl := hs.lt g h
    rcases hg g h with h2 | h2
    · exact ⟨.inl h2.1, h2.2⟩
    · exact ⟨.inr ⟨by omega, by rw [World.size_setCell]; exact hgl⟩, by omega⟩
def strV (xs : List ByteArray) : List Value := xs.map Value.string
theorem src_strs {w : World} {A : Option Addr} {xs : List ByteArray} (hr : RowsAt w A 1 xs.length (strAt xs)) (cp : Nat) : Src Try.prog 1 78 (.slice A xs.length cp) xs.length (xs.map Value.string) w :=
  Src.ofRows underStrs (by decide) hr cp _ (by simp) (fun i j hi hj => by
    obtain rfl : j = 0 := by omega
    simp [strAt, List.getD_eq_getElem?_getD, List.getElem?_eq_getElem hi]) (fun u hu => by
    obtain ⟨s, _, rfl⟩ := List.mem_map.1 hu
    rfl)
def sayE (c : Ch) (xs : List ByteArray) : Int := if xs.any longB then 1 else if 1024 < (c.wait.length + xs.length : Nat) then 8 else 0
def sayC (c : Ch) (xs : List ByteArray) : Ch := if sayE c xs = 0 then { c with wait := c.wait ++ xs } else c
section
variable (w : World) (N : Nat) (c : Ch) (S : Nat → Prop)
theorem ChPost.same {w : World} {N : Nat} {c : Ch} {S : Nat → Prop} (h : ChAt w N c S) (v : Value) (e : Ext) : ChPost w N S v c (.returned v) (w.plus e) :=
  ⟨rfl, (h.plus e).more (fun k hk => .inl hk) (fun k hk => hk.elim (fun h2 => by rw [World.size_plus_eq]; have := h.sub k h2; omega) fun h2 => h2.2), Chg.of_plus w e S⟩
theorem say_nil (A : Option Addr) (n cp : Nat) : Calls Try.prog 6 #[.pointer none, .slice A n cp] w fun e w' => e = .returned (.int .i64 1) ∧ w.Plus w' := by
  go_enter Try.func6, Try.ntmps6
  go_wp2_with fail
  go_ret
  exact ⟨rfl, by (repeat (first | exact Plus.refl _ | apply Plus.plus | apply Plus.alloc | apply Plus.drew))⟩
set_option maxRecDepth 100000 in
set_option maxHeartbeats 1000000 in
theorem say_any (A : Option Addr) (cp : Nat) (xs : List ByteArray) (h : ChAt w N c S) (hn : xs.length ≤ 140737488351232) (hl : c.wait.length ≤ 1024) (hr : RowsAt w A 1 xs.length (strAt xs)) :
    Calls Try.prog 6 #[chV N, .slice A xs.length cp] w (ChPost w N S (.int .i64 (sayE c xs)) (sayC c xs)) := by
  obtain ⟨i0, hi0, hz0, hz1, hz2⟩ := info_parts infoStr
  have hh := Lib.hid h
  obtain ⟨lt, sub, own, c0, c1, c2, c4, c5, c6, hf, A0, cap0, c3, hs, hg⟩ := h
  have f3 := hf 3
  replace hf := Lib.hid hf
  haveI : InW N w := ⟨lt⟩
  have hC := Lib.hid (fun w' (hp : w.Plus w') => contains_any w' A cp xs hn (hr.plus hp))
  have hsrc := Lib.hid (fun w' (hp : w.Plus w') => src_strs (hr.plus hp) cp)
  replace hr := Lib.hid hr
  replace hs := Lib.hid hs
  replace hg := Lib.hid hg
  replace sub := Lib.hid sub
  by_cases ha : xs.any longB = true
  · have hE : sayE c xs = 1 := by unfold sayE; rw [if_pos ha]
    have hS : sayC c xs = c := by unfold sayC; rw [hE]; rfl
    rw [hE, hS]
    rw [ha] at hC
    clear hE hS
    replace ha := Lib.hid ha
    go_enter Try.func6, Try.ntmps6
    go_wp2_with (first | (go_at_call 27; (with_reducible refine (hC.out _ (by (repeat (first | exact Plus.refl _ | apply Plus.plus | apply Plus.alloc | apply Plus.drew)))).mono ?_); rintro e w' ⟨rfl, ey, rfl⟩))
    go_ret
    exact ChPost.same hh.out _ _
  have haf : xs.any longB = false := by simpa using ha
  rw [haf] at hC
  by_cases hfull : 1024 < c.wait.length + xs.length
  · have hE : sayE c xs = 8 := by unfold sayE; rw [if_neg ha, if_pos hfull]
    have hS : sayC c xs = c := by unfold sayC; rw [hE]; rfl
    rw [hE, hS]
    clear hE hS
    replace ha := Lib.hid ha
    replace haf := Lib.hid haf
    have hfi : (1024 : Int) - c.wait.length < xs.length := by omega
    go_enter Try.func6, Try.ntmps6
    go_wp2_with (first | (go_at_call 27; (with_reducible refine (hC.out _ (by (repeat (first | exact Plus.refl _ | apply Plus.plus | apply Plus.alloc | apply Plus.drew)))).mono ?_); rintro e w' ⟨rfl, ey, rfl⟩))
    go_ret
    exact ChPost.same hh.out _ _
  · have hE : sayE c xs = 0 := by unfold sayE; rw [if_neg ha, if_neg hfull]
    have hS : sayC c xs = { c with wait := c.wait ++ xs } := by unfold sayC; rw [hE]; rfl
    rw [hE, hS]
    clear hE hS
    replace ha := Lib.hid ha
    replace haf := Lib.hid haf
    have hfi : ¬ (1024 : Int) - c.wait.length < xs.length := by omega
    have hlen : (c.wait ++ xs).length = c.wait.length + xs.length := List.length_append
    have hmap : (c.wait ++ xs).map Value.string = c.wait.map Value.string ++ xs.map Value.string := List.map_append
    replace hlen := Lib.hid hlen
    replace hmap := Lib.hid hmap
    go_enter Try.func6, Try.ntmps6
    go_wp2_with (first | (go_at_call 27; (with_reducible refine (hC.out _ (by (repeat (first | exact Plus.refl _ | apply Plus.plus | apply Plus.alloc | apply Plus.drew)))).mono ?_); rintro e w' ⟨rfl, ey, rfl⟩) | (at_builtin; refine wpList_append_sl rfl _ _ 78 78 rfl 9 i0 (.string ⟨#[]⟩) 1 16 underStrs hi0 hz0 hz1 hz2 rfl rfl (hs.out.plus _) rfl (hsrc.out _ (by (repeat (first | exact Plus.refl _ | apply Plus.plus | apply Plus.alloc | apply Plus.drew)))) (by unfold maxLen; omega) (by omega) ?_; intro A2 cap2 w2 hs2 hch2 ho2 hm2; have lt2 : N < w2.heap.size := Nat.lt_of_lt_of_le (by simp [go_sem]; omega) hch2.size; haveI : InW N w2 := ⟨lt2⟩; have d3 := (hch2.cell (o := 3) (by simp [go_sem]; omega) (fun h => (hg.out N h).2 rfl)).trans ((World.cell?_plus w ey N 3).trans c3); have g3 := (hch2.frozen (o := 3) (by simp [go_sem]; omega) (fun h => (hg.out N h).2 rfl)).trans ((World.frozen?_plus w ey N 3).trans f3)))
    go_ret
    rw [← hlen.out, ← hmap.out] at hs2
    rw [← hlen.out] at ho2
    rw [← hlen.out]
    obtain ⟨k1, k2⟩ := (hh.out.plus ey).store3 hch2 (fun k hk => hg.out k hk) (c.wait ++ xs) A2 cap2 hs2 (fun g h => by
      rcases ho2 with h2 | h2
      · rw [h2] at h; exact .inl (hg.out g h)
      · rw [h2] at h; exact .inr (Option.some.inj h).symm)
    refine ⟨rfl, k1.more (fun k hk => ?_) (fun k hk => ?_), (Chg.of_plus w ey S).trans k2 (fun _ h _ => h)⟩
    · rcases hk with hk | hk
      · exact .inl hk
      · exact .inr ⟨by have := hk.1; rw [World.size_plus_eq] at this; omega, hk.2⟩
    · rcases hk with hk | hk
      · exact Nat.lt_of_lt_of_le (sub.out k hk) (by rw [World.size_setCell]; exact Nat.le_trans (by rw [World.size_plus_eq]; omega) hch2.size)
      · exact hk.2
end
end Go.Proofs.Ythmfmpkkbgapoaa.Ses
-- Ses4
/- session: Hear: what it says, and its frame. -/
set_option linter.unusedSimpArgs false
set_option linter.unusedVariables false
namespace Go.Proofs.Ythmfmpkkbgapoaa.Ses
open Go.RowKit
structure Hd where
  text : ByteArray
  is : Bool
  anew : Bool
abbrev Hd.v (h : Hd) : Value := .agg #[.string h.text, .bool h.is, .bool h.anew]
abbrev hd0 : Hd := ⟨⟨#[]⟩, false, false⟩
def ch1 (c : Ch) (p : Post) : Ch := if c.yours < p.mine then ⟨c.mine, p.mine, 1, [], 0, false, false⟩ else c
def ch2 (c : Ch) (p : Post) : Ch := { ch1 c p with owes := (ch1 c p).owes || (decide (c.yours < p.mine) || (decide (0 < p.seq) || decide (p.yours ≠ c.mine))) }
def ch3 (c : Ch) (p : Post) : Ch := { ch2 c p with met := true }
def hearN (c : Ch) (p : Post) : Int := min (p.ack - c.first + 1) (c.wait.length : Int)
def ch4 (c : Ch) (p : Post) : Ch := if 0 < hearN (ch3 c p) p then { ch3 c p with wait := (ch3 c p).wait.drop (hearN (ch3 c p) p).toNat, first := (ch3 c p).first + hearN (ch3 c p) p } else ch3 c p
def hear (c : Ch) (p : Post) : Hd × Int × Ch :=
  if okPost p = false then (hd0, 1, c)
  else if p.mine < c.yours then (hd0, 9, c)
  else if p.yours ≠ c.mine then (⟨⟨#[]⟩, false, decide (c.yours < p.mine)⟩, 0, ch2 c p)
  else if 0 < p.seq ∧ p.seq = (ch4 c p).last + 1 then (⟨p.text, true, decide (c.yours < p.mine)⟩, 0, { ch4 c p with last := (ch4 c p).last + 1 })
  else (⟨⟨#[]⟩, false, decide (c.yours < p.mine)⟩, 0, ch4 c p)
/-- the frame of Hear: the end, the post's block P, the answer's R, the local one H -/
structure Hr (w : World) (N : Nat) (S : Nat → Prop) (P R H : Nat) (c : Ch) (p : Post) (h : Hd) (wx : World) : Prop where
  ch : ChAt wx N c S
  chg : Chg w wx S
  ltP : P < wx.heap.size
  ltR : R < wx.heap.size
  ltH : H < wx.heap.size
  p0 : wx.cell? ⟨P, 0, none⟩ = some (.int .i64 p.mine)
  p1 : wx.cell? ⟨P, 1, none⟩ = some (.int .i64 p.yours)
  p2 : wx.cell? ⟨P, 2, none⟩ = some (.int .i64 p.ack)
  p3 : wx.cell? ⟨P, 3, none⟩ = some (.int .i64 p.seq)
  p4 : wx.cell? ⟨P, 4, none⟩ = some (.string p.text)
  h0 : wx.cell? ⟨H, 0, none⟩ = some (.string h.text)
  h1 : wx.cell? ⟨H, 1, none⟩ = some (.bool h.is)
  h2 : wx.cell? ⟨H, 2, none⟩ = some (.bool h.anew)
  r0 : wx.cell? ⟨R, 0, none⟩ = some (.string ⟨#[]⟩)
  r1 : wx.cell? ⟨R, 1, none⟩ = some (.bool false)
  r2 : wx.cell? ⟨R, 2, none⟩ = some (.bool false)
  hH : ∀ i, wx.frozen? ⟨H, i, none⟩ = false
  hR : ∀ i, wx.frozen? ⟨R, i, none⟩ = false
/-- the four blocks are four -/
structure Four (N P R H : Nat) : Prop where
  pn : P ≠ N
  rn : R ≠ N
  hn : H ≠ N
  ph : P ≠ H
  rh : R ≠ H
section
variable {w : World} {N : Nat} {S : Nat → Prop} {P R H : Nat} {c : Ch} {p : Post} {h : Hd} {wx : World}
theorem Hr.plus (k : Hr w N S P R H c p h wx) (e : Ext) : Hr w N S P R H c p h (wx.plus e) := by
  obtain ⟨ch, chg, ltP, ltR, ltH, p0, p1, p2, p3, p4, h0, h1, h2, r0, r1, r2, hH, hR⟩ := k
  haveI : InW P wx := ⟨ltP⟩
  haveI : InW R wx := ⟨ltR⟩
  haveI : InW H wx := ⟨ltH⟩
  exact ⟨ch.plus e, chg.plus e, InW.lt, InW.lt, InW.lt, by rw [World.cell?_plus]; exact p0, by rw [World.cell?_plus]; exact p1, by rw [World.cell?_plus]; exact p2, by rw [World.cell?_plus]; exact p3, by rw [World.cell?_plus]; exact p4,
    by rw [World.cell?_plus]; exact h0, by rw [World.cell?_plus]; exact h1, by rw [World.cell?_plus]; exact h2, by rw [World.cell?_plus]; exact r0, by rw [World.cell?_plus]; exact r1, by rw [World.cell?_plus]; exact r2,
    fun i => by rw [World.frozen?_plus]; exact hH i, fun i => by rw [World.frozen?_plus]; exact hR i⟩
theorem cell_other {w : World} {b o b' o' : Nat} {v : Value} (h : b' ≠ b) : (w.setCell ⟨b, o, none⟩ v).cell? ⟨b', o', none⟩ = w.cell? ⟨b', o', none⟩ :=
  World.cell?_setCell_other _ _ _ _ (fun e => h (by injection e with e1; exact e1.symm))
theorem Hr.setN (k : Hr w N S P R H c p h wx) (f : Four N P R H) {c' : Ch} {i : Nat} {v : Value} (hc : ChAt (wx.setCell ⟨N, i, none⟩ v) N c' S) : Hr w N S P R H c' p h (wx.setCell ⟨N, i, none⟩ v) := by
  obtain ⟨ch, chg, ltP, ltR, ltH, p0, p1, p2, p3, p4, h0, h1, h2, r0, r1, r2, hH, hR⟩ := k
  have s : (wx.setCell ⟨N, i, none⟩ v).heap.size = wx.heap.size := World.size_setCell ..
  exact ⟨hc, chg.setCell _ _ (.inl ch.own), by rw [s]; exact ltP, by rw [s]; exact ltR, by rw [s]; exact ltH, by rw [cell_other f.pn]; exact p0, by rw [cell_other f.pn]; exact p1, by rw [cell_other f.pn]; exact p2, by rw [cell_other f.pn]; exact p3, by rw [cell_other f.pn]; exact p4,
    by rw [cell_other f.hn]; exact h0, by rw [cell_other f.hn]; exact h1, by rw [cell_other f.hn]; exact h2, by rw [cell_other f.rn]; exact r0, by rw [cell_other f.rn]; exact r1, by rw [cell_other f.rn]; exact r2,
    fun i => by rw [World.frozen?_setCell]; exact hH i, fun i => by rw [World.frozen?_setCell]; exact hR i⟩
theorem ChPost.of_plus {w w' : World} {N : Nat} {c : Ch} {S : Nat → Prop} (h : ChAt w N c S) (v : Value) (hp : w.Plus w') : ChPost w N S v c (.returned v) w' := by
  obtain ⟨e, rfl⟩ := hp
  exact ChPost.same h v e
theorem okPost_bounds {p : Post} (h : okPost p = true) : (1 ≤ p.mine ∧ p.mine ≤ 1099511627776) ∧ (0 ≤ p.yours ∧ p.yours ≤ 1099511627776) ∧ (0 ≤ p.ack ∧ p.ack ≤ 1099511627776) ∧ (0 ≤ p.seq ∧ p.seq ≤ 1099511627776) := by
  unfold okPost inT at h
  simp only [Bool.and_eq_true, decide_eq_true_eq] at h
  omega
/-- the frame at the beginning -/
theorem Hr.start {w : World} {N : Nat} {c : Ch} {S : Nat → Prop} (h : ChAt w N c S) (p : Post) (ey : Ext) {P R H : Nat} (hP : P = w.heap.size) (hR : R = w.heap.size + 1) (hH : H = w.heap.size + 2) :
    Hr w N S P R H c p hd0 ((((w.alloc (.cells #[.int .i64 p.mine, .int .i64 p.yours, .int .i64 p.ack, .int .i64 p.seq, .string p.text] 90)).alloc (.cells #[.string ⟨#[]⟩, .bool false, .bool false] 96)).alloc (.cells #[.string ⟨#[]⟩, .bool false, .bool false] 96)).plus ey) ∧ Four N P R H := by
  subst hP hR hH
  have hl := h.lt
  refine ⟨Hr.plus ⟨?_, ((Chg.of_alloc w _ S).alloc _).alloc _, ?_, ?_, ?_, ?_, ?_, ?_, ?_, ?_, ?_, ?_, ?_, ?_, ?_, ?_, fun i => ?_, fun i => ?_⟩ ey, ⟨by omega, by omega, by omega, by omega, by omega⟩⟩
  · exact ((h.chg (Chg.of_alloc w _ fun _ => False) fun _ _ h => h).chg (Chg.of_alloc _ _ fun _ => False) fun _ _ h => h).chg (Chg.of_alloc _ _ fun _ => False) fun _ _ h => h
  all_goals simp [go_sem]
theorem Hr.done {w : World} {N : Nat} {S : Nat → Prop} {P R H : Nat} {c : Ch} {p : Post} {h : Hd} {wx : World} (k : Hr w N S P R H c p h wx) (hR : w.heap.size ≤ R) (hS : ¬ S R) (x y z v : Value) :
    ChPost w N S v c (.returned v) (((wx.setCell ⟨R, 0, none⟩ x).setCell ⟨R, 1, none⟩ y).setCell ⟨R, 2, none⟩ z) := by
  have hd : ∀ (w1 : World) i (u : Value), ChAt w1 N c S → ChAt (w1.setCell ⟨R, i, none⟩ u) N c S := fun w1 i u h => h.chg (Chg.of_setCell w1 _ _ (fun k => k = R) rfl) (fun k hk e => hS (e ▸ hk))
  have h3 := hd _ 2 z (hd _ 1 y (hd _ 0 x k.ch))
  refine ⟨rfl, h3.more (fun k hk => .inl hk) (fun i hi => hi.elim (fun h => h3.sub i h) fun h => h.2), ((k.chg.setCell _ _ (.inr hR)).setCell _ _ (.inr hR)).setCell _ _ (.inr hR)⟩
theorem Hr.setH2 (k : Hr w N S P R H c p h wx) (f : Four N P R H) (hw : w.heap.size ≤ H) (hS : ¬ S H) (b : Bool) : Hr w N S P R H c p { h with anew := b } (wx.setCell ⟨H, 2, none⟩ (.bool b)) := by
  obtain ⟨ch, chg, ltP, ltR, ltH, p0, p1, p2, p3, p4, h0, h1, h2, r0, r1, r2, hH, hR⟩ := k
  have s : (wx.setCell ⟨H, 2, none⟩ (.bool b)).heap.size = wx.heap.size := World.size_setCell ..
  haveI : InW H wx := ⟨ltH⟩
  exact ⟨ch.chg (Chg.of_setCell wx _ _ (fun k => k = H) rfl) (fun k hk e => hS (e ▸ hk)), chg.setCell _ _ (.inr hw), by rw [s]; exact ltP, by rw [s]; exact ltR, by rw [s]; exact ltH, by rw [cell_other f.ph]; exact p0, by rw [cell_other f.ph]; exact p1, by rw [cell_other f.ph]; exact p2, by rw [cell_other f.ph]; exact p3, by rw [cell_other f.ph]; exact p4,
    by simp [go_sem, h0], by simp [go_sem, h1], by simp [go_sem, h2], by rw [cell_other f.rh]; exact r0, by rw [cell_other f.rh]; exact r1, by rw [cell_other f.rh]; exact r2,
    fun i => by rw [World.frozen?_setCell]; exact hH i, fun i => by rw [World.frozen?_setCell]; exact hR i⟩
theorem Hr.setH01 (k : Hr w N S P R H c p h wx) (f : Four N P R H) (hw : w.heap.size ≤ H) (hS : ¬ S H) (t : ByteArray) (b : Bool) : Hr w N S P R H c p ⟨t, b, h.anew⟩ ((wx.setCell ⟨H, 0, none⟩ (.string t)).setCell ⟨H, 1, none⟩ (.bool b)) := by
  obtain ⟨ch, chg, ltP, ltR, ltH, p0, p1, p2, p3, p4, h0, h1, h2, r0, r1, r2, hH, hR⟩ := k
  have s : ((wx.setCell ⟨H, 0, none⟩ (.string t)).setCell ⟨H, 1, none⟩ (.bool b)).heap.size = wx.heap.size := by simp only [World.size_setCell]
  have e : ∀ b' o', b' ≠ H → ((wx.setCell ⟨H, 0, none⟩ (.string t)).setCell ⟨H, 1, none⟩ (.bool b)).cell? ⟨b', o', none⟩ = wx.cell? ⟨b', o', none⟩ := fun b' o' h => (cell_other h).trans (cell_other h)
  haveI : InW H wx := ⟨ltH⟩
  have hd : ∀ (w1 : World) i (u : Value), ChAt w1 N c S → ChAt (w1.setCell ⟨H, i, none⟩ u) N c S := fun w1 i u h => h.chg (Chg.of_setCell w1 _ _ (fun k => k = H) rfl) (fun k hk e => hS (e ▸ hk))
  exact ⟨hd _ _ _ (hd _ _ _ ch), (chg.setCell _ _ (.inr hw)).setCell _ _ (.inr hw), by rw [s]; exact ltP, by rw [s]; exact ltR, by rw [s]; exact ltH, by rw [e _ _ f.ph]; exact p0, by rw [e _ _ f.ph]; exact p1, by rw [e _ _ f.ph]; exact p2, by rw [e _ _ f.ph]; exact p3, by rw [e _ _ f.ph]; exact p4,
    by simp [go_sem, h0], by simp [go_sem, h1], by simp [go_sem, h2], by rw [e _ _ f.rh]; exact r0, by rw [e _ _ f.rh]; exact r1, by rw [e _ _ f.rh]; exact r2,
    fun i => by rw [World.frozen?_setCell, World.frozen?_setCell]; exact hH i, fun i => by rw [World.frozen?_setCell, World.frozen?_setCell]; exact hR i⟩
theorem ChPost.plus {w w' : World} {N : Nat} {c : Ch} {S : Nat → Prop} {v : Value} {e : Ending} (h : ChPost w N S v c e w') (x : Ext) : ChPost w N S v c e (w'.plus x) :=
  ⟨h.1, (h.2.1.plus x).more (fun k hk => hk.elim .inl fun h => .inr ⟨h.1, by rw [World.size_plus_eq]; omega⟩) (fun k hk => hk.elim (fun h2 => by have := h.2.1.sub k (.inl h2); rw [World.size_plus_eq]; omega) fun h => h.2), h.2.2.plus x⟩
end
end Go.Proofs.Ythmfmpkkbgapoaa.Ses
-- Ses5
/- session: Hear: walk. -/
set_option linter.unusedSimpArgs false
set_option linter.unusedVariables false
namespace Go.Proofs.Ythmfmpkkbgapoaa.Ses
open Go.RowKit
section
variable (w : World) (N : Nat) (c : Ch) (S : Nat → Prop) (p : Post)
def HearPost (w : World) (N : Nat) (S : Nat → Prop) (x : Hd × Int × Ch) (e : Ending) (w' : World) : Prop := ChPost w N S (.tuple #[x.1.v, .int .i64 x.2.1]) x.2.2 e w'
set_option maxRecDepth 100000 in
set_option maxHeartbeats 2000000 in
theorem hear_any (h : ChAt w N c S) (hf1 : 1 ≤ c.first ∧ c.first ≤ 1000000000000000) (hl1 : 0 ≤ c.last ∧ c.last ≤ 1000000000000000) (hw1 : c.wait.length ≤ 1000000) :
    Calls Try.prog 33 #[chV N, p.v] w (HearPost w N S (hear c p)) := by
  have hV : hear c p = if okPost p = false then (hd0, 1, c) else if p.mine < c.yours then (hd0, 9, c) else if p.yours ≠ c.mine then (⟨⟨#[]⟩, false, decide (c.yours < p.mine)⟩, 0, ch2 c p)
    else if 0 < p.seq ∧ p.seq = (ch4 c p).last + 1 then (⟨p.text, true, decide (c.yours < p.mine)⟩, 0, { ch4 c p with last := (ch4 c p).last + 1 }) else (⟨⟨#[]⟩, false, decide (c.yours < p.mine)⟩, 0, ch4 c p) := rfl
  have hK := fun w => check_any w p
  have hh := Lib.hid h
  obtain ⟨lt, sub, own, c0, c1, c2, c4, c5, c6, hf, A0, cap0, c3, hs, hg⟩ := h
  haveI : InW N w := ⟨lt⟩
  replace hs := Lib.hid hs
  replace hg := Lib.hid hg
  replace sub := Lib.hid sub
  replace hf := Lib.hid hf
  cases hok : okPost p with
  | false =>
    rw [if_pos hok] at hV
    rw [hV]
    rw [hok] at hK
    simp only [Bool.false_eq_true, if_false] at hK
    replace hok := Lib.hid hok
    replace hK := Lib.hid hK
    clear hV
    go_enter Try.func33, Try.ntmps33
    go_wp2_with (first | (go_at_call 52; (with_reducible refine (hK.out _).mono ?_); rintro e w' ⟨rfl, ey, rfl⟩))
    refine bodyPost_ret (v := .tuple #[.agg #[.string ⟨#[]⟩, .bool false, .bool false], .int .i64 1]) (by simp [results, Try.results33, go_sem]) rfl ?_
    exact ChPost.of_plus hh.out _ (by (repeat (first | exact Plus.refl _ | apply Plus.plus | apply Plus.alloc | apply Plus.drew)))
  | true =>
    rw [if_neg (by rw [hok]; simp)] at hV
    rw [hok] at hK
    simp only [if_true] at hK
    have hpb := okPost_bounds hok
    have hpb2 := hpb
    replace hok := Lib.hid hok
    replace hK := Lib.hid hK
    go_enter Try.func33, Try.ntmps33
    go_upto_region 4 with (first | (go_at_call 52; (with_reducible refine (hK.out _).mono ?_); rintro e w' ⟨rfl, ey, rfl⟩))
    obtain ⟨P, hP⟩ : ∃ P, P = w.heap.size := ⟨_, rfl⟩
    obtain ⟨R, hR⟩ : ∃ R, R = w.heap.size + 1 := ⟨_, rfl⟩
    obtain ⟨H, hH⟩ : ∃ H, H = w.heap.size + 1 + 1 := ⟨_, rfl⟩
    obtain ⟨hr, hfo⟩ := Hr.start hh.out p ey hP hR (by omega : H = w.heap.size + 2)
    obtain ⟨wx, hwx⟩ : ∃ wx, wx = (((w.alloc (.cells #[.int .i64 p.mine, .int .i64 p.yours, .int .i64 p.ack, .int .i64 p.seq, .string p.text] 90)).alloc (.cells #[.string ⟨#[]⟩, .bool false, .bool false] 96)).alloc (.cells #[.string ⟨#[]⟩, .bool false, .bool false] 96)).plus ey := ⟨_, rfl⟩
    rw [← hwx] at hr
    rw [← hH, ← hR, ← hP, ← hwx]
    clear hwx hP c0 c1 c2 c4 c5 c6 hf c3 hs hg lt
    have hRw : w.heap.size ≤ R := by omega
    have hHw : w.heap.size ≤ H := by omega
    have hSH : ¬ S H := fun h => by have := sub.out H h; omega
    replace hSH := Lib.hid hSH
    have hSR : ¬ S R := fun h => by have := sub.out R h; omega
    replace hR := Lib.hid hR
    replace hH := Lib.hid hH
    replace hSR := Lib.hid hSR
    have e1 : ¬ P = N := hfo.pn
    have e2 : ¬ N = P := fun h => hfo.pn h.symm
    have e3 : ¬ R = N := hfo.rn
    have e4 : ¬ N = R := fun h => hfo.rn h.symm
    have e5 : ¬ H = N := hfo.hn
    have e6 : ¬ N = H := fun h => hfo.hn h.symm
    have e7 : ¬ P = H := hfo.ph
    have e8 : ¬ H = P := fun h => hfo.ph h.symm
    have e9 : ¬ R = H := hfo.rh
    have e10 : ¬ H = R := fun h => hfo.rh h.symm
    replace hfo := Lib.hid hfo
    by_cases hst : p.mine < c.yours
    · rw [if_pos hst] at hV
      have hX := Lib.hid hV
      clear hV
      have hrk := Lib.hid hr
      obtain ⟨⟨lt, sub2, own2, c0, c1, c2, c4, c5, c6, hf, A0, cap0, c3, hs, hg⟩, chg, ltP, ltR, ltH, p0, p1, p2, p3, p4, h0, h1, h2, r0, r1, r2, hHf, hRf⟩ := hr
      haveI : InW N wx := ⟨lt⟩
      haveI : InW P wx := ⟨ltP⟩
      haveI : InW R wx := ⟨ltR⟩
      haveI : InW H wx := ⟨ltH⟩
      have f0 := hf 0
      have f1 := hf 1
      have f2 := hf 2
      have f3 := hf 3
      have f4 := hf 4
      have f5 := hf 5
      have f6 := hf 6
      have g0 := hHf 0
      have g1 := hHf 1
      have g2 := hHf 2
      have q0 := hRf 0
      have q1 := hRf 1
      have q2 := hRf 2
      replace hf := Lib.hid hf
      replace hHf := Lib.hid hHf
      replace hRf := Lib.hid hRf
      replace hs := Lib.hid hs
      replace hg := Lib.hid hg
      replace sub2 := Lib.hid sub2
      replace chg := Lib.hid chg

      refine wp_region_grow (by kernel_rfl) (by kernel_rfl) ?_
      repeat (go_big_quiet_step (fail))
      refine wpQuiet_nil ?_
      intro ex
      go_wp2_with fail
      refine bodyPost_ret (v := .tuple #[.agg #[.string ⟨#[]⟩, .bool false, .bool false], .int .i64 9]) (by simp [results, Try.results33, go_sem, *]) rfl ?_
      rw [HearPost, hX.out]
      exact (hrk.out.done hRw hSR.out _ _ _ _).plus _
    rw [if_neg hst] at hV
    have hst2 : c.yours ≤ p.mine := by omega
    have hr1 := hr
    have hrk := Lib.hid hr
    obtain ⟨⟨lt, sub2, own2, c0, c1, c2, c4, c5, c6, hf, A0, cap0, c3, hs, hg⟩, chg, ltP, ltR, ltH, p0, p1, p2, p3, p4, h0, h1, h2, r0, r1, r2, hHf, hRf⟩ := hr
    haveI : InW N wx := ⟨lt⟩
    haveI : InW P wx := ⟨ltP⟩
    haveI : InW R wx := ⟨ltR⟩
    haveI : InW H wx := ⟨ltH⟩
    have f0 := hf 0
    have f1 := hf 1
    have f2 := hf 2
    have f3 := hf 3
    have f4 := hf 4
    have f5 := hf 5
    have f6 := hf 6
    have g0 := hHf 0
    have g1 := hHf 1
    have g2 := hHf 2
    have q0 := hRf 0
    have q1 := hRf 1
    have q2 := hRf 2
    replace hf := Lib.hid hf
    replace hHf := Lib.hid hHf
    replace hRf := Lib.hid hRf
    replace hs := Lib.hid hs
    replace hg := Lib.hid hg
    replace sub2 := Lib.hid sub2
    replace chg := Lib.hid chg

    refine wp_region_grow (by kernel_rfl) (by kernel_rfl) ?_
    repeat (go_big_quiet_step (fail))
    refine wpQuiet_nil ?_
    intro ex
    go_upto_region 6 with fail
    refine wp_region_grow (by kernel_rfl) (by kernel_rfl) ?_
    repeat (go_big_quiet_step (fail))
    refine wpQuiet_nil ?_
    intro ex
    go_upto_if 32 with (fail)
    go_cut [] (fun wy => Hr w N S P R H (ch1 c p) p ⟨⟨#[]⟩, false, decide (c.yours < p.mine)⟩ wy)
    case first =>
      by_cases han : c.yours < p.mine
      · go_upto_region 7 with fail
        refine wp_region_grow_tail 9 (by kernel_rfl) (by kernel_rfl) ?_
        simp only [List.take_succ_cons, List.take_zero, List.drop_succ_cons, List.drop_zero]
        repeat (go_big_quiet_step (fail))
        refine wpQuiet_nil ?_
        intro ex
        go_wp2_with fail
        go_meet
        have hm1 : ch1 c p = ⟨c.mine, p.mine, 1, [], 0, false, false⟩ := if_pos han
        rw [hm1, decide_eq_true han]
        have k0 := hrk.out
        have k1 := k0.setN hfo.out (k0.ch.set0 c.mine)
        have k2 := k1.setN hfo.out (k1.ch.set1 p.mine)
        have k3 := k2.setN hfo.out (k2.ch.set2 1)
        have k4 := k3.setN hfo.out k3.ch.set3nil
        have k5 := k4.setN hfo.out (k4.ch.set4 0)
        have k6 := k5.setN hfo.out (k5.ch.set5 false)
        have k7 := k6.setN hfo.out (k6.ch.set6 false)
        have k8 : Hr w N S P R H ⟨c.mine, p.mine, 1, [], 0, false, false⟩ p ⟨⟨#[]⟩, false, true⟩ _ := k7.setH2 hfo.out hHw hSH.out true
        repeat (with_reducible apply Hr.plus)
        with_reducible exact k8
      · have hanb : decide (c.yours < p.mine) = false := decide_eq_false han
        go_wp2_with fail
        go_meet
        have hm1 : ch1 c p = c := if_neg (by omega)
        rw [hm1, hanb]
        repeat (with_reducible apply Hr.plus)
        with_reducible exact hrk.out
    clear e2 e4 e6 e8 e10 c0 c1 c2 c4 c5 c6 c3 lt own2 p0 p1 p2 p3 p4 h0 h1 h2 r0 r1 r2 g0 g1 g2 q0 q1 q2 f0 f1 f2 f3 f4 f5 f6 ltP ltR ltH hrk chg sub2 hs hg hf hHf hRf hr1
    have e2 : ¬ N = P := fun h => e1 h.symm
    have e4 : ¬ N = R := fun h => e3 h.symm
    have e6 : ¬ N = H := fun h => e5 h.symm
    have e8 : ¬ H = P := fun h => e7 h.symm
    have e10 : ¬ H = R := fun h => e9 h.symm
    obtain ⟨d, hd⟩ : ∃ d, d = ch1 c p := ⟨_, rfl⟩
    have hdb : d.mine = c.mine ∧ 1 ≤ d.first ∧ d.first ≤ 1000000000000000 ∧ 0 ≤ d.last ∧ d.last ≤ 1000000000000000 ∧ d.wait.length ≤ 1000000 := by
      rw [hd]; unfold ch1; split
      · simp
      · exact ⟨rfl, hf1.1, hf1.2, hl1.1, hl1.2, hw1⟩
    have hch4 : ch4 c p = if 0 < hearN (ch3 c p) p then { ch3 c p with wait := (ch3 c p).wait.drop (hearN (ch3 c p) p).toNat, first := (ch3 c p).first + hearN (ch3 c p) p } else ch3 c p := rfl
    have hch3 : ch3 c p = { ch2 c p with met := true } := rfl
    have hch2 : ch2 c p = { d with owes := d.owes || (decide (c.yours < p.mine) || (decide (0 < p.seq) || decide (p.yours ≠ c.mine))) } := by rw [hd]; rfl
    rw [← hd] at hcut
    clear hd
    generalize hear c p = X at *
    generalize ch4 c p = C4 at *
    generalize ch3 c p = C3 at *
    generalize ch2 c p = C2 at *
    generalize decide (c.yours < p.mine) = an at *
    rw [← hdb.1] at hV hch2
    obtain ⟨m0, y0, f0', ws, l0, mt0, ow0⟩ := d
    simp only at hdb hch2 hV hcut
    obtain ⟨hmm, hf2, hf3, hl2, hl3, hw2⟩ := hdb
    clear hmm
    clear hf1 hl1 hw1 hst hst2 hpb
    obtain ⟨pm, py, pa, ps, pt⟩ := p
    simp only at hpb2 hV hch4 hch2 hcut
    replace hV := Lib.hid hV
    replace hch4 := Lib.hid hch4
    replace hch3 := Lib.hid hch3
    replace hch2 := Lib.hid hch2
    have hr := hcut
    clear hcut
    have hrk := Lib.hid hr
    obtain ⟨⟨lt, sub2, own2, c0, c1, c2, c4, c5, c6, hf, A0, cap0, c3, hs, hg⟩, chg, ltP, ltR, ltH, p0, p1, p2, p3, p4, h0, h1, h2, r0, r1, r2, hHf, hRf⟩ := hr
    haveI : InW N wc := ⟨lt⟩
    haveI : InW P wc := ⟨ltP⟩
    haveI : InW R wc := ⟨ltR⟩
    haveI : InW H wc := ⟨ltH⟩
    have f0 := hf 0
    have f1 := hf 1
    have f2 := hf 2
    have f3 := hf 3
    have f4 := hf 4
    have f5 := hf 5
    have f6 := hf 6
    have g0 := hHf 0
    have g1 := hHf 1
    have g2 := hHf 2
    have q0 := hRf 0
    have q1 := hRf 1
    have q2 := hRf 2
    replace hf := Lib.hid hf
    replace hHf := Lib.hid hHf
    replace hRf := Lib.hid hRf
    replace hs := Lib.hid hs
    replace hg := Lib.hid hg
    replace sub2 := Lib.hid sub2
    replace chg := Lib.hid chg

    dsimp only at c0 c1 c2 c3 c4 c5 c6 p0 p1 p2 p3 p4 h0 h1 h2
    go_upto_region 9 with fail
    go_cut [] (fun wy => Hr w N S P R H ⟨m0, y0, f0', ws, l0, mt0, ow0 || (an || (decide (0 < ps) || decide (py ≠ m0)))⟩ ⟨pm, py, pa, ps, pt⟩ ⟨⟨#[]⟩, false, an⟩ wy)
    case first =>
      cases ow0 with
      | true =>
        have hval := Lib.hid (show (true || (an || (decide (0 < ps) || decide (py ≠ m0)))) = true from rfl)
        refine wp_region_grow_tail 25 (by kernel_rfl) (by kernel_rfl) ?_
        simp only [List.take_succ_cons, List.take_zero, List.drop_succ_cons, List.drop_zero]
        repeat (go_big_quiet_step (fail))
        refine wpQuiet_nil ?_
        intro ex
        go_wp2_with fail
        go_meet
        rw [hval.out]
        repeat (with_reducible apply Hr.plus)
        exact hrk.out.setN hfo.out (hrk.out.ch.set6 true)

      | false =>
        cases an with
        | true =>
          have hval := Lib.hid (show (false || (true || (decide (0 < ps) || decide (py ≠ m0)))) = true from rfl)
          refine wp_region_grow_tail 25 (by kernel_rfl) (by kernel_rfl) ?_
          simp only [List.take_succ_cons, List.take_zero, List.drop_succ_cons, List.drop_zero]
          repeat (go_big_quiet_step (fail))
          refine wpQuiet_nil ?_
          intro ex
          go_wp2_with fail
          go_meet
          rw [hval.out]
          repeat (with_reducible apply Hr.plus)
          exact hrk.out.setN hfo.out (hrk.out.ch.set6 true)

        | false =>
          by_cases hps : 0 < ps
          · have hval := Lib.hid (show (false || (false || (decide (0 < ps) || decide (py ≠ m0)))) = true by rw [decide_eq_true hps]; rfl)
            refine wp_region_grow_tail 25 (by kernel_rfl) (by kernel_rfl) ?_
            simp only [List.take_succ_cons, List.take_zero, List.drop_succ_cons, List.drop_zero]
            repeat (go_big_quiet_step (fail))
            refine wpQuiet_nil ?_
            intro ex
            go_wp2_with fail
            go_meet
            rw [hval.out]
            repeat (with_reducible apply Hr.plus)
            exact hrk.out.setN hfo.out (hrk.out.ch.set6 true)

          · have hpsb : decide (0 < ps) = false := decide_eq_false hps
            by_cases hpy : py = m0
            · have hval := Lib.hid (show (false || (false || (decide (0 < ps) || decide (py ≠ m0)))) = false by rw [hpsb, decide_eq_false (fun h => h hpy)]; rfl)
              have hb1 : (py != m0) = false := by rw [hpy]; simp
              replace hpy := Lib.hid hpy
              refine wp_region_grow_tail 25 (by kernel_rfl) (by kernel_rfl) ?_
              simp only [List.take_succ_cons, List.take_zero, List.drop_succ_cons, List.drop_zero]
              repeat (go_big_quiet_step (fail))
              refine wpQuiet_nil ?_
              intro ex
              go_wp2_with fail
              go_meet
              rw [hval.out]
              repeat (with_reducible apply Hr.plus)
              exact hrk.out.setN hfo.out (hrk.out.ch.set6 false)

            · have hval := Lib.hid (show (false || (false || (decide (0 < ps) || decide (py ≠ m0)))) = true by rw [hpsb, decide_eq_true hpy]; rfl)
              have hb1 : (py != m0) = true := by rw [bne_iff_ne]; exact hpy
              refine wp_region_grow_tail 25 (by kernel_rfl) (by kernel_rfl) ?_
              simp only [List.take_succ_cons, List.take_zero, List.drop_succ_cons, List.drop_zero]
              repeat (go_big_quiet_step (fail))
              refine wpQuiet_nil ?_
              intro ex
              go_wp2_with fail
              go_meet
              rw [hval.out]
              repeat (with_reducible apply Hr.plus)
              exact hrk.out.setN hfo.out (hrk.out.ch.set6 true)

    clear c0 c1 c2 c4 c5 c6 c3 lt own2 p0 p1 p2 p3 p4 h0 h1 h2 r0 r1 r2 g0 g1 g2 q0 q1 q2 f0 f1 f2 f3 f4 f5 f6 ltP ltR ltH hrk chg sub2 hs hg hf hHf hRf

    generalize (ow0 || (an || (decide (0 < ps) || decide (py ≠ m0)))) = ow1 at *
    have hr := hcut
    clear hcut
    have hrk := Lib.hid hr
    obtain ⟨⟨lt, sub2, own2, c0, c1, c2, c4, c5, c6, hf, A0, cap0, c3, hs, hg⟩, chg, ltP, ltR, ltH, p0, p1, p2, p3, p4, h0, h1, h2, r0, r1, r2, hHf, hRf⟩ := hr
    haveI : InW N wc := ⟨lt⟩
    haveI : InW P wc := ⟨ltP⟩
    haveI : InW R wc := ⟨ltR⟩
    haveI : InW H wc := ⟨ltH⟩
    have f0 := hf 0
    have f1 := hf 1
    have f2 := hf 2
    have f3 := hf 3
    have f4 := hf 4
    have f5 := hf 5
    have f6 := hf 6
    have g0 := hHf 0
    have g1 := hHf 1
    have g2 := hHf 2
    have q0 := hRf 0
    have q1 := hRf 1
    have q2 := hRf 2
    replace hf := Lib.hid hf
    replace hHf := Lib.hid hHf
    replace hRf := Lib.hid hRf
    replace hs := Lib.hid hs
    replace hg := Lib.hid hg
    replace sub2 := Lib.hid sub2
    replace chg := Lib.hid chg

    dsimp only at c0 c1 c2 c3 c4 c5 c6 p0 p1 p2 p3 p4 h0 h1 h2
    go_upto_region 10 with fail
    refine wp_region_grow (by kernel_rfl) (by kernel_rfl) ?_
    repeat (go_big_quiet_step (fail))
    refine wpQuiet_nil ?_
    intro ex
    by_cases hpy : py = m0
    · subst hpy
      have hpyb : (py != py) = false := by simp
      go_upto_region 12 with fail
      go_cut [] (fun wy => Hr w N S P R H ⟨py, y0, f0', ws, l0, true, ow1⟩ ⟨pm, py, pa, ps, pt⟩ ⟨⟨#[]⟩, false, an⟩ wy)
      case first =>
        go_wp2_with fail
        go_meet
        repeat (with_reducible apply Hr.plus)
        exact hrk.out.setN hfo.out (hrk.out.ch.set5 true)
      clear c0 c1 c2 c4 c5 c6 c3 lt own2 p0 p1 p2 p3 p4 h0 h1 h2 r0 r1 r2 g0 g1 g2 q0 q1 q2 f0 f1 f2 f3 f4 f5 f6 ltP ltR ltH hrk chg sub2 hs hg hf hHf hRf

      have hr := hcut
      clear hcut
      have hrk := Lib.hid hr
      obtain ⟨⟨lt, sub2, own2, c0, c1, c2, c4, c5, c6, hf, A0, cap0, c3, hs, hg⟩, chg, ltP, ltR, ltH, p0, p1, p2, p3, p4, h0, h1, h2, r0, r1, r2, hHf, hRf⟩ := hr
      haveI : InW N wc := ⟨lt⟩
      haveI : InW P wc := ⟨ltP⟩
      haveI : InW R wc := ⟨ltR⟩
      haveI : InW H wc := ⟨ltH⟩
      have f0 := hf 0
      have f1 := hf 1
      have f2 := hf 2
      have f3 := hf 3
      have f4 := hf 4
      have f5 := hf 5
      have f6 := hf 6
      have g0 := hHf 0
      have g1 := hHf 1
      have g2 := hHf 2
      have q0 := hRf 0
      have q1 := hRf 1
      have q2 := hRf 2
      replace hf := Lib.hid hf
      replace hHf := Lib.hid hHf
      replace hRf := Lib.hid hRf
      replace hs := Lib.hid hs
      replace hg := Lib.hid hg
      replace sub2 := Lib.hid sub2
      replace chg := Lib.hid chg

      dsimp only at c0 c1 c2 c3 c4 c5 c6 p0 p1 p2 p3 p4 h0 h1 h2
      go_upto_region 13 with fail
      go_cut [7] (fun t wy => t = .int .i64 (min (pa - f0' + 1) (ws.length : Int)) ∧ Hr w N S P R H ⟨py, y0, f0', ws, l0, true, ow1⟩ ⟨pm, py, pa, ps, pt⟩ ⟨⟨#[]⟩, false, an⟩ wy)
      case first =>
        refine wp_region_grow_tail 13 (by kernel_rfl) (by kernel_rfl) ?_
        simp only [List.take_succ_cons, List.take_zero, List.drop_succ_cons, List.drop_zero]
        repeat (go_big_quiet_step (fail))
        refine wpQuiet_nil ?_
        intro ex
        go_wp2_with fail
        go_meet
        refine ⟨rfl, ?_⟩
        repeat (with_reducible apply Hr.plus)
        exact hrk.out
      clear c0 c1 c2 c4 c5 c6 c3 lt own2 p0 p1 p2 p3 p4 h0 h1 h2 r0 r1 r2 g0 g1 g2 q0 q1 q2 f0 f1 f2 f3 f4 f5 f6 ltP ltR ltH hrk chg sub2 hs hg hf hHf hRf

      obtain ⟨rfl, hr⟩ := hcut
      obtain ⟨n, hn⟩ : ∃ n, n = min (pa - f0' + 1) (ws.length : Int) := ⟨_, rfl⟩
      rw [← hn]
      have hnb : n ≤ ws.length := by omega
      have hC3 : C3 = ⟨py, y0, f0', ws, l0, true, ow1⟩ := by rw [hch3.out, hch2.out]
      obtain ⟨E, hE⟩ : ∃ E : Ch, E = if 0 < n then ⟨py, y0, f0' + n, ws.drop n.toNat, l0, true, ow1⟩ else ⟨py, y0, f0', ws, l0, true, ow1⟩ := ⟨_, rfl⟩
      have hC4 : C4 = E := by
        rw [hch4.out, hC3, show hearN ⟨py, y0, f0', ws, l0, true, ow1⟩ ⟨pm, py, pa, ps, pt⟩ = n from hn.symm, hE]
      replace hC3 := Lib.hid hC3
      replace hC4 := Lib.hid hC4
      replace hE := Lib.hid hE
      replace hn := Lib.hid hn
      have hrk := Lib.hid hr
      obtain ⟨⟨lt, sub2, own2, c0, c1, c2, c4, c5, c6, hf, A0, cap0, c3, hs, hg⟩, chg, ltP, ltR, ltH, p0, p1, p2, p3, p4, h0, h1, h2, r0, r1, r2, hHf, hRf⟩ := hr
      haveI : InW N wc := ⟨lt⟩
      haveI : InW P wc := ⟨ltP⟩
      haveI : InW R wc := ⟨ltR⟩
      haveI : InW H wc := ⟨ltH⟩
      have f0 := hf 0
      have f1 := hf 1
      have f2 := hf 2
      have f3 := hf 3
      have f4 := hf 4
      have f5 := hf 5
      have f6 := hf 6
      have g0 := hHf 0
      have g1 := hHf 1
      have g2 := hHf 2
      have q0 := hRf 0
      have q1 := hRf 1
      have q2 := hRf 2
      replace hf := Lib.hid hf
      replace hHf := Lib.hid hHf
      replace hRf := Lib.hid hRf
      replace hs := Lib.hid hs
      replace hg := Lib.hid hg
      replace sub2 := Lib.hid sub2
      replace chg := Lib.hid chg

      dsimp only at c0 c1 c2 c3 c4 c5 c6 p0 p1 p2 p3 p4 h0 h1 h2
      go_upto_if 94 with (fail)
      go_cut [] (fun wy => Hr w N S P R H E ⟨pm, py, pa, ps, pt⟩ ⟨⟨#[]⟩, false, an⟩ wy)
      case first =>
        by_cases h0n : 0 < n
        · obtain ⟨k, rfl⟩ : ∃ k : Nat, n = k := ⟨n.toNat, by omega⟩
          have hk0 : 0 < k := by omega
          have hkl : k ≤ ws.length := by omega
          have hEk : E = ⟨py, y0, f0' + k, ws.drop k, l0, true, ow1⟩ := by rw [hE.out, if_pos h0n]; rfl
          replace hEk := Lib.hid hEk
          have hsl := hs.out
          rcases hsl.val with ⟨_, hz⟩ | ⟨g, off, cap, he, hgl, hcap1, hmx, hcells, hspare⟩
          · exact absurd hz (by dsimp only; omega)
          cases he
          dsimp only at hsl hcap1
          have e : ws.length - k = (ws.drop k).length := (List.length_drop ..).symm
          have hcut3 := hsl.cut k (off + k) (ws.length - k) (by omega) (fun _ => by omega) ⟨by omega, by omega⟩
          have hcB := hsl.cut k off 0
          rw [Nat.mul_one, ← List.map_drop] at hcut3 hcB
          simp only [e] at hcut3
          have k1 := hrk.out.setN hfo.out (hrk.out.ch.set3 (ws.drop k) _ _ hcut3 (fun g' h => hg.out g' h))
          have k2 := k1.setN hfo.out (k1.ch.set2 (f0' + k))
          clear k1 hcut3
          replace e := Lib.hid e
          replace k2 := Lib.hid k2
          replace hcB := Lib.hid hcB
          replace hsl := Lib.hid hsl
          clear hcells hspare
          unfold maxLen at hmx
          go_upto_region 15 with fail
          refine wp_region_grow_tail 19 (by kernel_rfl) (by kernel_rfl) ?_
          simp only [List.take_succ_cons, List.take_zero, List.drop_succ_cons, List.drop_zero]
          repeat (go_big_quiet_step (fail))
          refine wpQuiet_nil ?_
          intro ex
          go_wp2_with fail
          all_goals go_meet
          all_goals rw [hEk.out]
          all_goals repeat (with_reducible apply Hr.plus)
          all_goals first
            | (simp only [e.out]; exact k2.out)
            | (have hd : ws.drop k = [] := List.drop_eq_nil_of_le (by omega)
               rw [hd]
               have hcB2 := hcB.out (by omega) (fun h => by omega) ⟨by omega, by omega⟩
               rw [hd, show ws.length - k = 0 by omega] at hcB2
               have k3 := hrk.out.setN hfo.out (hrk.out.ch.set3 [] _ _ hcB2 (fun g' h => hg.out g' h))
               exact k3.setN hfo.out (k3.ch.set2 (f0' + k)))
        · have hEk : E = ⟨py, y0, f0', ws, l0, true, ow1⟩ := by rw [hE.out, if_neg h0n]
          replace hEk := Lib.hid hEk
          go_wp2_with fail
          go_meet
          rw [hEk.out]
          repeat (with_reducible apply Hr.plus)
          with_reducible exact hrk.out
      clear c0 c1 c2 c4 c5 c6 c3 lt own2 p0 p1 p2 p3 p4 h0 h1 h2 r0 r1 r2 g0 g1 g2 q0 q1 q2 f0 f1 f2 f3 f4 f5 f6 ltP ltR ltH hrk chg sub2 hs hg hf hHf hRf

      have hr := hcut
      clear hcut
      have hEl : E.last = l0 := by rw [hE.out]; split <;> rfl
      obtain ⟨em, ey', ef, ew, el, emt, eo⟩ := E
      simp only at hEl
      subst hEl
      have hX0 := hV.out
      rw [if_neg (by simp), hC4.out] at hX0
      simp only at hX0
      clear hE
      have hrk := Lib.hid hr
      obtain ⟨⟨lt, sub2, own2, c0, c1, c2, c4, c5, c6, hf, A0, cap0, c3, hs, hg⟩, chg, ltP, ltR, ltH, p0, p1, p2, p3, p4, h0, h1, h2, r0, r1, r2, hHf, hRf⟩ := hr
      haveI : InW N wc := ⟨lt⟩
      haveI : InW P wc := ⟨ltP⟩
      haveI : InW R wc := ⟨ltR⟩
      haveI : InW H wc := ⟨ltH⟩
      have f0 := hf 0
      have f1 := hf 1
      have f2 := hf 2
      have f3 := hf 3
      have f4 := hf 4
      have f5 := hf 5
      have f6 := hf 6
      have g0 := hHf 0
      have g1 := hHf 1
      have g2 := hHf 2
      have q0 := hRf 0
      have q1 := hRf 1
      have q2 := hRf 2
      replace hf := Lib.hid hf
      replace hHf := Lib.hid hHf
      replace hRf := Lib.hid hRf
      replace hs := Lib.hid hs
      replace hg := Lib.hid hg
      replace sub2 := Lib.hid sub2
      replace chg := Lib.hid chg

      dsimp only at c0 c1 c2 c3 c4 c5 c6 p0 p1 p2 p3 p4 h0 h1 h2
      by_cases hm : 0 < ps ∧ ps = el + 1
      · rw [if_pos hm] at hX0
        have hX := Lib.hid hX0
        clear hX0
        obtain ⟨hm1, hm2⟩ := hm
        have hm1b : decide (0 < ps) = true := decide_eq_true hm1
        have hm2b : (ps == el + 1) = true := by rw [beq_iff_eq]; exact hm2
        replace hm2 := Lib.hid hm2
        go_upto_region 17 with fail
        refine wp_region_grow (by kernel_rfl) (by kernel_rfl) ?_
        repeat (go_big_quiet_step (fail))
        refine wpQuiet_nil ?_
        intro ex
        go_wp2_with fail
        refine bodyPost_ret (v := .tuple #[.agg #[.string pt, .bool true, .bool an], .int .i64 0]) (by simp [results, Try.results33, go_sem, *]) rfl ?_
        rw [HearPost, hX.out]
        repeat (with_reducible apply ChPost.plus)

        have k1 := hrk.out.setN hfo.out (hrk.out.ch.set4 (el + 1))
        exact (k1.setH01 hfo.out hHw hSH.out pt true).done hRw hSR.out _ _ _ _
      · rw [if_neg hm] at hX0
        have hX := Lib.hid hX0
        clear hX0
        by_cases hm1 : 0 < ps
        · have hm1b : decide (0 < ps) = true := decide_eq_true hm1
          have hm2b : (ps == el + 1) = false := by rw [beq_eq_false_iff_ne]; exact fun e => hm ⟨hm1, e⟩
          replace hm := Lib.hid hm
          go_upto_region 17 with fail
          refine wp_region_grow (by kernel_rfl) (by kernel_rfl) ?_
          repeat (go_big_quiet_step (fail))
          refine wpQuiet_nil ?_
          intro ex
          go_wp2_with fail
          refine bodyPost_ret (v := .tuple #[.agg #[.string ⟨#[]⟩, .bool false, .bool an], .int .i64 0]) (by simp [results, Try.results33, go_sem, *]) rfl ?_
          rw [HearPost, hX.out]
          repeat (with_reducible apply ChPost.plus)

          exact hrk.out.done hRw hSR.out _ _ _ _
        · have hm1b : decide (0 < ps) = false := decide_eq_false hm1
          replace hm := Lib.hid hm
          go_upto_region 17 with fail
          refine wp_region_grow (by kernel_rfl) (by kernel_rfl) ?_
          repeat (go_big_quiet_step (fail))
          refine wpQuiet_nil ?_
          intro ex
          go_wp2_with fail
          refine bodyPost_ret (v := .tuple #[.agg #[.string ⟨#[]⟩, .bool false, .bool an], .int .i64 0]) (by simp [results, Try.results33, go_sem, *]) rfl ?_
          rw [HearPost, hX.out]
          repeat (with_reducible apply ChPost.plus)

          exact hrk.out.done hRw hSR.out _ _ _ _
    · have hX0 := hV.out
      rw [if_pos hpy, hch2.out] at hX0
      have hX := Lib.hid hX0
      clear hX0
      have hpyb : (py != m0) = true := by rw [bne_iff_ne]; exact hpy
      go_wp2_with fail
      refine bodyPost_ret (v := .tuple #[.agg #[.string ⟨#[]⟩, .bool false, .bool an], .int .i64 0]) (by simp [results, Try.results33, go_sem, *]) rfl ?_
      rw [HearPost, hX.out]
      repeat (with_reducible apply ChPost.plus)
      exact hrk.out.done hRw hSR.out _ _ _ _
end
end Go.Proofs.Ythmfmpkkbgapoaa.Ses
-- Ses6
/- session: Posts: what it tells, and its frame. -/
set_option linter.unusedSimpArgs false
set_option linter.unusedVariables false
namespace Go.Proofs.Ythmfmpkkbgapoaa.Ses
open Go.RowKit
def Post.cs (p : Post) : List Value := [.int .i64 p.mine, .int .i64 p.yours, .int .i64 p.ack, .int .i64 p.seq, .string p.text]
def postCs (l : List Post) : List Value := l.flatMap Post.cs
theorem postCs_append (l m : List Post) : postCs (l ++ m) = postCs l ++ postCs m := by simp [postCs]
theorem postCs_length (l : List Post) : (postCs l).length = l.length * 5 := by
  induction l with
  | nil => rfl
  | cons p l ih =>
    show (p.cs ++ postCs l).length = _
    rw [List.length_append, ih, List.length_cons]
    show 5 + l.length * 5 = _
    omega
def bareP (c : Ch) : Post := ⟨c.mine, c.yours, c.last, 0, ⟨#[]⟩⟩
def textP (c : Ch) (i : Nat) : Post := ⟨c.mine, c.yours, c.last, c.first + i, c.wait.getD i ⟨#[]⟩⟩
def textPs (c : Ch) (k : Nat) : List Post := (List.range k).map (textP c)
theorem textPs_succ (c : Ch) (k : Nat) : textPs c (k + 1) = textPs c k ++ [textP c k] := by simp [textPs, List.range_succ]
theorem textPs_length (c : Ch) (k : Nat) : (textPs c k).length = k := by simp [textPs]
def postK (c : Ch) : Nat := if c.yours = 0 then 0 else min c.wait.length 8
/-- what an end posts -/
def postsL (c : Ch) : List Post :=
  if postK c = 0 then (if c.owes then [bareP c] else []) ++ (if c.met then [] else [{ bareP c with yours := 0 }]) else textPs c (postK c)
/-- a post that lies in a world -/
structure PostAt (wx : World) (B : Nat) (p : Post) : Prop where
  ltB : B < wx.heap.size
  b0 : wx.cell? ⟨B, 0, none⟩ = some (.int .i64 p.mine)
  b1 : wx.cell? ⟨B, 1, none⟩ = some (.int .i64 p.yours)
  b2 : wx.cell? ⟨B, 2, none⟩ = some (.int .i64 p.ack)
  b3 : wx.cell? ⟨B, 3, none⟩ = some (.int .i64 p.seq)
  b4 : wx.cell? ⟨B, 4, none⟩ = some (.string p.text)
  hB : ∀ i, wx.frozen? ⟨B, i, none⟩ = false
theorem PostAt.chg {wx : World} {B : Nat} {p : Post} (k : PostAt wx B p) {w' : World} {T : Nat → Prop} (h : Chg wx w' T) (hB : ¬ T B) : PostAt w' B p := by
  obtain ⟨ltB, b0, b1, b2, b3, b4, hB'⟩ := k
  exact ⟨Nat.lt_of_lt_of_le ltB h.size, (h.cell ltB hB).trans b0, (h.cell ltB hB).trans b1, (h.cell ltB hB).trans b2, (h.cell ltB hB).trans b3, (h.cell ltB hB).trans b4, fun i => (h.frozen ltB hB).trans (hB' i)⟩
theorem PostAt.plus {wx : World} {B : Nat} {p : Post} (k : PostAt wx B p) (e : Ext) : PostAt (wx.plus e) B p := k.chg (Chg.of_plus wx e fun _ => False) (fun h => h)
theorem PostAt.drew {wx : World} {B : Nat} {p : Post} (k : PostAt wx B p) : PostAt wx.drew B p := k.chg (Chg.of_drew wx fun _ => False) (fun h => h)
theorem PostAt.alloc {wx : World} {B : Nat} {p : Post} (k : PostAt wx B p) (o : Obj) : PostAt (wx.alloc o) B p := k.chg (Chg.of_alloc wx o fun _ => False) (fun h => h)
theorem PostAt.new (wx : World) (p : Post) {n : Nat} (hn : n = wx.heap.size) : PostAt (wx.alloc (.cells #[.int .i64 p.mine, .int .i64 p.yours, .int .i64 p.ack, .int .i64 p.seq, .string p.text] 90)) n p := by
  subst hn
  refine ⟨?_, ?_, ?_, ?_, ?_, ?_, fun i => ?_⟩
  all_goals simp [go_sem]
theorem _root_.Go.Sl.le {w : World} {size : Nat} {A : Option Addr} {n c : Nat} {cs : List Value} (h : Sl w size (.slice A n c) n cs) : n ≤ c := by
  rcases h.val with ⟨he, rfl⟩ | ⟨g, off, cap, he, hl, hc, _⟩
  · omega
  · cases he; exact hc
theorem infoPost : (Try.prog.info? 90).map (fun i => (i.zero, i.size, i.bytes)) = some (some (.agg #[.int .i64 0, .int .i64 0, .int .i64 0, .int .i64 0, .string ⟨#[]⟩]), 5, 48) := by kernel_rfl
theorem underPosts : Try.prog.underlying 86 = some (.slice 90) := by kernel_rfl
theorem src_post {w : World} {g : Nat} {p : Post} (h : PostAt w g p) : Src Try.prog 5 86 (.slice (some ⟨g, 0, none⟩) 1 1) 1 (postCs [p]) w :=
  Src.ofSlice (P := Try.prog) w underPosts ⟨g, 0, none⟩ 1 1 (postCs [p]) rfl (fun j u hj => by
    obtain ⟨_, b0, b1, b2, b3, b4, _⟩ := h
    rw [Addr.add_lit, Nat.zero_add]
    match j, hj with
    | 0, hj => cases hj; exact b0
    | 1, hj => cases hj; exact b1
    | 2, hj => cases hj; exact b2
    | 3, hj => cases hj; exact b3
    | 4, hj => cases hj; exact b4
    | n + 5, hj => simp [postCs, Post.cs] at hj) (fun u hu => by
    simp only [postCs, Post.cs, List.flatMap_cons, List.flatMap_nil, List.append_nil, List.mem_cons, List.not_mem_nil, or_false] at hu
    rcases hu with rfl | rfl | rfl | rfl | rfl <;> rfl)
theorem src_cells (wx : World) (m y a s : Int) (t : ByteArray) {n : Nat} (hn : n = wx.heap.size) :
    Src Try.prog 5 86 (.slice (some ⟨n, 0, none⟩) 1 1) 1 [.int .i64 m, .int .i64 y, .int .i64 a, .int .i64 s, .string t] (wx.alloc (.cells #[.int .i64 m, .int .i64 y, .int .i64 a, .int .i64 s, .string t] 90)) :=
  src_post (PostAt.new wx ⟨m, y, a, s, t⟩ hn)
/-- what a call of Posts leaves -/
def PostsPost (w : World) (N : Nat) (S : Nat → Prop) (c : Ch) (l : List Post) (e : Ending) (w' : World) : Prop :=
  ∃ A cap, e = .returned (.slice A l.length cap) ∧ Sl w' 5 (.slice A l.length cap) l.length (postCs l) ∧ (∀ g, (Value.slice A l.length cap).ownBlock = some g → w.heap.size ≤ g ∧ ¬ S g) ∧ ChAt w' N c S ∧ Chg w w' S
end Go.Proofs.Ythmfmpkkbgapoaa.Ses
-- Ses7
/- session: Posts: walk. -/
set_option linter.unusedSimpArgs false
set_option linter.unusedVariables false
namespace Go.Proofs.Ythmfmpkkbgapoaa.Ses
open Go.RowKit
theorem posts_end {w : World} {N : Nat} {c : Ch} {S : Nat → Prop} {e3 : Ext} {A : Option Addr} {cap B : Nat} {l : List Post} (hh : ChAt w N c S) (hsl : Sl (w.plus e3) 5 (.slice A l.length cap) l.length (postCs l))
    (hog : ∀ g, (Value.slice A l.length cap).ownBlock = some g → w.heap.size ≤ g ∧ g ≠ B) :
    PostsPost w N S { c with owes := false } l (.returned (.slice A l.length cap)) ((w.setCell ⟨N, 6, none⟩ (.bool false)).plus e3) := by
  haveI : InW N w := ⟨hh.lt⟩
  rw [← World.setCell_plus]
  have hN : ∀ g, (Value.slice A l.length cap).ownBlock = some g → ¬ S g := fun g hg h => by have := (hog g hg).1; have := hh.sub g h; omega
  exact ⟨A, cap, rfl, hsl.chg (Chg.of_setCell _ _ _ (fun k => k = N) rfl) (fun g hg e => hN g hg (by rw [e]; exact hh.own)), fun g hg => ⟨(hog g hg).1, hN g hg⟩, (hh.plus e3).set6 false, (Chg.of_plus w e3 S).setCell ⟨N, 6, none⟩ _ (.inl hh.own)⟩
theorem own_next {w wx : World} {v v2 : Value} {B : Nat} (hog : ∀ g, v.ownBlock = some g → w.heap.size ≤ g ∧ g ≠ B) (ho2 : v2.ownBlock = v.ownBlock ∨ v2.ownBlock = some wx.heap.size) (h1 : w.heap.size ≤ wx.heap.size) (h2 : B < wx.heap.size) : ∀ g, v2.ownBlock = some g → w.heap.size ≤ g ∧ g ≠ B := fun g hg => by
  rcases ho2 with h | h
  · rw [h] at hg; exact hog g hg
  · rw [h] at hg
    have := Option.some.inj hg
    omega
set_option maxRecDepth 100000 in
set_option maxHeartbeats 2000000 in
theorem posts_any (w : World) (N : Nat) (c : Ch) (S : Nat → Prop) (h : ChAt w N c S) (hf1 : 0 ≤ c.first ∧ c.first ≤ 1000000000000000) (hw1 : c.wait.length ≤ 1000000) :
    Calls Try.prog 29 #[chV N] w (PostsPost w N S { c with owes := false } (postsL c)) := by
  obtain ⟨i0, hi0, hz0, hz1, hz2⟩ := info_parts infoPost
  have hh := Lib.hid h
  obtain ⟨lt, sub, own, c0, c1, c2, c4, c5, c6, hf, A0, cap0, c3, hs, hg⟩ := h
  haveI : InW N w := ⟨lt⟩
  replace hs := Lib.hid hs
  replace hg := Lib.hid hg
  replace sub := Lib.hid sub
  replace hf := Lib.hid hf
  go_enter Try.func29, Try.ntmps29
  go_upto_region 3 with fail
  go_cut [3] (fun s3 wx => ∃ B, s3 = .pointer (some ⟨B, 0, none⟩) ∧ w.heap.size ≤ B ∧ PostAt wx B (bareP c) ∧ w.Plus wx)
  case first =>
    go_region_held3 (fun w' => w'.cell? ⟨N, 0, none⟩ = some (.int .i64 c.mine) ∧ w'.cell? ⟨N, 1, none⟩ = some (.int .i64 c.yours) ∧ w'.cell? ⟨N, 4, none⟩ = some (.int .i64 c.last)) (simp [go_sem, *]) (fail)
    all_goals (go_wp2_with fail; go_meet)
    all_goals
      refine ⟨_, rfl, Nat.le_refl _, ?_, by (repeat (first | exact Plus.refl _ | apply Plus.plus | apply Plus.alloc | apply Plus.drew))⟩
      repeat (first | apply PostAt.plus | apply PostAt.drew)
      exact PostAt.new _ (bareP c) rfl
  obtain ⟨B, rfl, hB, hb, e1, rfl⟩ := hcut
  have hcl := hs.out.le
  obtain ⟨K, hK⟩ : ∃ K, K = min c.wait.length 8 := ⟨_, rfl⟩
  have hKi : min (c.wait.length : Int) 8 = (K : Int) := by omega
  have hK1 : K ≤ c.wait.length ∧ K ≤ 8 := by omega
  have hK2 : K ≤ cap0 := by omega
  replace hK := Lib.hid hK
  go_upto_region 5 with fail
  go_cut [33, 34, 35] (fun s33 s34 s35 wx => s33 = .slice A0 K cap0 ∧ s34 = .int .i64 K ∧ s35 = .int .i64 0 ∧ PostAt wx B (bareP c) ∧ w.Plus wx)
  case first =>
    refine wp_region_grow (by kernel_rfl) (by kernel_rfl) ?_
    repeat (go_big_quiet_step (fail))
    refine wpQuiet_nil ?_
    intro ex
    go_wp2_with fail
    go_meet
    refine ⟨rfl, rfl, rfl, ?_, by (repeat (first | exact Plus.refl _ | apply Plus.plus | apply Plus.alloc | apply Plus.drew))⟩
    exact hb.plus _
  obtain ⟨rfl, rfl, rfl, hb2, hp2⟩ := hcut
  clear hb
  obtain ⟨L, hL⟩ : ∃ L, L = textPs c (postK c) := ⟨_, rfl⟩
  have hLl : L.length = postK c := by rw [hL, textPs_length]
  have hpK : postK c = if c.yours = 0 then 0 else K := by rw [hK.out]; rfl
  replace hL := Lib.hid hL
  replace hLl := Lib.hid hLl
  replace hpK := Lib.hid hpK
  have hrow := Lib.hid (hs.out.rows rfl (strAt c.wait) (fun i j hi hj => by
    obtain rfl : j = 0 := by omega
    simp [strAt, List.getD_eq_getElem?_getD, List.getElem?_eq_getElem hi]))
  go_upto_block 0 with fail
  go_cut [4] (fun v wx => ∃ A cap, v = .slice A L.length cap ∧ Sl wx 5 (.slice A L.length cap) L.length (postCs L) ∧ (∀ g, (Value.slice A L.length cap).ownBlock = some g → w.heap.size ≤ g ∧ g ≠ B) ∧ PostAt wx B (bareP c) ∧ w.Plus wx)
  case first =>
    go_wp2_with fail
    go_loopw [4, 5, 6, 7, 35] (fun v x y z i wr => ∃ (k : Nat) (A : Option Addr) (cap : Nat), k ≤ K ∧ (k = 0 ∨ c.yours ≠ 0) ∧ i = .int .i64 k ∧ v = .slice A k cap ∧ Sl wr 5 (.slice A k cap) k (postCs (textPs c k)) ∧ (∀ g, (Value.slice A k cap).ownBlock = some g → w.heap.size ≤ g ∧ g ≠ B) ∧ PostAt wr B (bareP c) ∧ w.Plus wr) (fun _ _ _ _ i _ => K - (intOf i).toNat)
    case atStart => exact ⟨0, none, 0, Nat.zero_le _, .inl rfl, rfl, rfl, Sl.nil _ _, (fun g hg => by cases hg), hb2, hp2⟩
    case round =>
      clear hb2 hp2
      obtain ⟨k, A, cap, hk, hky, rfl, rfl, hsl, hog, hbr, e3, rfl⟩ := hrel
      obtain ⟨ltB, b0, b1, b2, b3, b4, hB'⟩ := id hbr
      haveI : InW B (w.plus e3) := ⟨ltB⟩
      replace hsl := Lib.hid hsl
      replace hog := Lib.hid hog
      replace hbr := Lib.hid hbr
      replace hB' := Lib.hid hB'
      dsimp only [bareP] at b0 b1 b2 b3 b4
      by_cases hlt : k < K
      · obtain ⟨b, o, rfl, hbl, hc⟩ := hrow.out (by omega)
        have d1 := hc k 0 (by omega) (by omega)
        clear hc
        haveI : InW b w := ⟨hbl⟩
        unfold strAt at d1
        simp only [Nat.mul_one, Nat.add_zero] at d1
        have htx : textP c k = ⟨c.mine, c.yours, c.last, c.first + k, c.wait.getD k ⟨#[]⟩⟩ := rfl
        generalize c.wait.getD k ⟨#[]⟩ = x at *
        replace htx := Lib.hid htx
        by_cases hy : c.yours = 0
        · obtain rfl : k = 0 := by omega
          simp only [Nat.add_zero] at d1
          have hLK : L = textPs c 0 := by rw [hL.out, hpK.out, if_pos hy]
          have hlen : L.length = 0 := by rw [hLK, textPs_length]
          replace hLK := Lib.hid hLK
          replace hlen := Lib.hid hlen
          go_wp2_with fail
          go_meet
          exact ⟨A, cap, by rw [hlen.out], by rw [hlen.out, hLK.out]; exact hsl.out, by rw [hlen.out]; exact hog.out, hbr.out, by (repeat (first | exact Plus.refl _ | apply Plus.plus | apply Plus.alloc | apply Plus.drew))⟩
        · have hyb : (c.yours == 0) = false := by rw [beq_eq_false_iff_ne]; exact hy
          replace hky := Lib.hid hky
          have hkb : k ≤ 8 := by omega
          go_wp2_with (at_builtin; refine wpList_append_sl rfl _ _ 86 86 rfl 90 i0 _ 5 48 underPosts hi0 hz0 hz1 hz2 rfl rfl (hsl.out.chg (((Chg.refl (w.plus e3) (fun _ => False)).alloc _).alloc _) (fun _ _ h => h)) rfl (src_cells _ _ _ _ _ _ (by simp [go_sem])) (by unfold maxLen; omega) (by omega) ?_; intro A2 cap2 w2 hs2 hch2 ho2 hm2)
          have hd3 : Chg (w.plus e3) _ (fun _ => False) := ((Chg.refl (w.plus e3) (fun _ => False)).alloc (.cells #[.int .i64 c.mine, .int .i64 c.yours, .int .i64 c.last, .int .i64 (c.first + k), .string x] 90)).alloc (.cells #[.int .i64 c.mine, .int .i64 c.yours, .int .i64 c.last, .int .i64 (c.first + k), .string x] 90)
          have hnx : postCs (textPs c k) ++ [.int .i64 c.mine, .int .i64 c.yours, .int .i64 c.last, .int .i64 (c.first + k), .string x] = postCs (textPs c (k + 1)) := by
            rw [textPs_succ, postCs_append, htx.out]; rfl
          rw [hnx] at hs2
          have hog2 : ∀ g, (Value.slice A2 (k + 1) cap2).ownBlock = some g → w.heap.size ≤ g ∧ g ≠ B := fun g hg => by
            rcases ho2 with h | h
            · rw [h] at hg; exact hog.out g hg
            · rw [h] at hg
              have := Option.some.inj hg
              simp [go_sem] at this ltB
              omega
          have hbr2 := (hbr.out.chg hd3 (fun h => h)).chg hch2 (fun h => (hog.out B h).2 rfl)
          have hp3 := hch2.toPlus (W := w) (by (repeat (first | exact Plus.refl _ | apply Plus.plus | apply Plus.alloc | apply Plus.drew))) (fun g hg => (hog.out g hg).1)
          go_roundw
          case rel => exact ⟨k + 1, A2, cap2, hlt, .inr hy, by go_num, rfl, hs2, hog2, hbr2, hp3⟩
          case measure => simp [intOf]; omega
      · obtain rfl : k = K := by omega
        have hLK : L = textPs c k := by
          rw [hL.out, hpK.out]
          by_cases hy : c.yours = 0
          · rw [if_pos hy, show k = 0 by omega]
          · rw [if_neg hy]
        have hlen : L.length = k := by rw [hLK, textPs_length]
        replace hLK := Lib.hid hLK
        replace hlen := Lib.hid hlen
        go_wp2_with fail
        go_meet
        exact ⟨A, cap, by rw [hlen.out], by rw [hlen.out, hLK.out]; exact hsl.out, by rw [hlen.out]; exact hog.out, hbr.out, by (repeat (first | exact Plus.refl _ | apply Plus.plus | apply Plus.alloc | apply Plus.drew))⟩
  obtain ⟨A, cap, rfl, hsl, hog, hbr, e3, rfl⟩ := hcut
  clear hb2 hp2
  obtain ⟨ltB, b0, b1, b2, b3, b4, hB'⟩ := id hbr
  haveI : InW B (w.plus e3) := ⟨ltB⟩
  have n1 := hB' 1
  replace hsl := Lib.hid hsl
  replace hog := Lib.hid hog
  replace hbr := Lib.hid hbr
  replace hB' := Lib.hid hB'
  dsimp only [bareP] at b0 b1 b2 b3 b4
  have hNB : ¬ N = B := by omega
  have hBN : ¬ B = N := by omega
  have f6 := hf.out 6
  by_cases h0 : postK c = 0
  · have hL0 : L.length = 0 := by rw [hLl.out]; exact h0
    have hLn : L = [] := List.eq_nil_of_length_eq_zero hL0
    have hP : postsL c = (if c.owes then [bareP c] else []) ++ (if c.met then [] else [{ bareP c with yours := 0 }]) := by unfold postsL; rw [if_pos h0]
    replace hP := Lib.hid hP
    replace h0 := Lib.hid h0
    subst hLn
    clear hL0
    replace hLl := Lib.hid trivial
    replace hL := Lib.hid trivial
    obtain ⟨l1, hl1⟩ : ∃ l1, l1 = (if c.owes then [bareP c] else []) := ⟨_, rfl⟩
    have hl1z : l1.length ≤ 1 := by rw [hl1]; split <;> simp
    rw [← hl1] at hP
    replace hl1 := Lib.hid hl1
    go_upto_if 66 with (fail)
    go_cut [4] (fun v wx => ∃ A cap, v = .slice A l1.length cap ∧ Sl wx 5 (.slice A l1.length cap) l1.length (postCs l1) ∧ (∀ g, (Value.slice A l1.length cap).ownBlock = some g → w.heap.size ≤ g ∧ g ≠ B) ∧ PostAt wx B (bareP c) ∧ w.Plus wx)
    case first =>
      cases hco : c.owes with
      | false =>
        have hE := Lib.hid (show l1 = [] by rw [hl1.out, hco]; rfl)
        rw [hco] at c6
        replace hco := Lib.hid hco
        go_wp2_with fail
        go_meet
        rw [hE.out]
        exact ⟨A, cap, rfl, hsl.out, hog.out, hbr.out, by (repeat (first | exact Plus.refl _ | apply Plus.plus | apply Plus.alloc | apply Plus.drew))⟩
      | true =>
        have hE := Lib.hid (show l1 = [bareP c] by rw [hl1.out, hco]; rfl)
        rw [hco] at c6
        replace hco := Lib.hid hco
        go_wp2_with (at_builtin; refine wpList_append_sl rfl _ _ 86 86 rfl 90 i0 _ 5 48 underPosts hi0 hz0 hz1 hz2 rfl rfl (hsl.out.chg ((Chg.refl (w.plus e3) (fun _ => False)).alloc _) (fun _ _ h => h)) rfl (src_cells _ _ _ _ _ _ (by simp [go_sem])) (by unfold maxLen; simp) (by simp) ?_; intro A2 cap2 w2 hs2 hch2 ho2 hm2)
        go_meet
        rw [hE.out]
        refine ⟨A2, cap2, rfl, hs2, own_next hog.out ho2 (by simp [go_sem]; omega) (by simp [go_sem] at ltB ⊢; omega), (hbr.out.alloc _).chg hch2 (fun h => (hog.out B h).2 rfl), hch2.toPlus (W := w) (by (repeat (first | exact Plus.refl _ | apply Plus.plus | apply Plus.alloc | apply Plus.drew))) (fun g hg => (hog.out g hg).1)⟩
    clear ltB b0 b1 b2 b3 b4 hB' n1 hbr hog hsl
    obtain ⟨A, cap, rfl, hsl, hog, hbr, e4, rfl⟩ := hcut
    obtain ⟨ltB, b0, b1, b2, b3, b4, hB'⟩ := id hbr
    haveI : InW B (w.plus e4) := ⟨ltB⟩
    have n1 := hB' 1
    replace hsl := Lib.hid hsl
    replace hog := Lib.hid hog
    replace hbr := Lib.hid hbr
    replace hB' := Lib.hid hB'
    dsimp only [bareP] at b0 b1 b2 b3 b4
    cases hcm : c.met with
    | true =>
      have hE := Lib.hid (show postsL c = l1 by rw [hP.out, hcm]; simp)
      rw [hcm] at c5
      replace hcm := Lib.hid hcm
      go_wp2_with fail
      go_ret
      rw [hE.out]
      exact posts_end hh.out hsl.out hog.out
    | false =>
      have hE := Lib.hid (show postsL c = l1 ++ [{ bareP c with yours := 0 }] by rw [hP.out, hcm]; simp)
      rw [hcm] at c5
      replace hcm := Lib.hid hcm
      have hpB := Lib.hid ((Chg.of_setCell (w.plus e4) ⟨B, 1, none⟩ (.int .i64 0) (fun k => k = B) rfl).toPlus (W := w) (by (repeat (first | exact Plus.refl _ | apply Plus.plus | apply Plus.alloc | apply Plus.drew))) (fun k hk => by rw [hk]; exact hB))
      go_wp2_with (at_builtin; refine wpList_append_sl rfl _ _ 86 86 rfl 90 i0 _ 5 48 underPosts hi0 hz0 hz1 hz2 rfl rfl (hsl.out.chg ((Chg.of_setCell (w.plus e4) ⟨B, 1, none⟩ (.int .i64 0) (fun k => k = B) rfl).alloc _) (fun g hg e => (hog.out g hg).2 e)) rfl (src_cells _ _ _ _ _ _ (by simp [go_sem])) (by unfold maxLen; omega) (by omega) ?_; intro A2 cap2 w2 hs2 hch2 ho2 hm2; obtain ⟨e5, rfl⟩ := hch2.toPlus (W := w) (Plus.alloc hpB.out _) (fun g hg => (hog.out g hg).1))
      go_ret
      rw [hE.out]
      have hog2 := own_next hog.out ho2 (by simp [go_sem]; omega) (by simp [go_sem] at ltB ⊢; omega)
      have hlen : (l1 ++ [({ bareP c with yours := 0 } : Post)]).length = l1.length + 1 := by simp
      have hcs : postCs l1 ++ [.int .i64 c.mine, .int .i64 0, .int .i64 c.last, .int .i64 0, .string ⟨#[]⟩] = postCs (l1 ++ [({ bareP c with yours := 0 } : Post)]) := by rw [postCs_append]; rfl
      rw [hcs] at hs2
      rw [← hlen] at hs2 hog2 ⊢
      exact posts_end hh.out hs2 hog2
  · have hP : postsL c = L := by rw [hL.out]; unfold postsL; rw [if_neg h0]
    have hl0 : ((L.length : Int) == 0) = false := by rw [hLl.out, beq_eq_false_iff_ne]; omega
    have hl1 : ¬ L.length = 0 := by rw [hLl.out]; exact h0
    have hl2 : (L.length == 0) = false := by rw [beq_eq_false_iff_ne]; exact hl1
    replace hP := Lib.hid hP
    replace hl1 := Lib.hid hl1
    go_wp2_with fail
    go_ret
    rw [hP.out]
    exact posts_end hh.out hsl.out hog.out
end Go.Proofs.Ythmfmpkkbgapoaa.Ses
-- Ses8
/- session: an end that is none: walks. -/
set_option linter.unusedSimpArgs false
set_option linter.unusedVariables false
namespace Go.Proofs.Ythmfmpkkbgapoaa.Ses
open Go.RowKit
section
variable (w : World)
theorem hear_nil (p : Post) : Calls Try.prog 33 #[.pointer none, p.v] w fun e w' => e = .returned (.tuple #[hd0.v, .int .i64 1]) ∧ w.Plus w' := by
  go_enter Try.func33, Try.ntmps33
  go_wp2_with fail
  exact bodyPost_ret (v := .tuple #[.agg #[.string ⟨#[]⟩, .bool false, .bool false], .int .i64 1]) (by simp [results, Try.results33, go_sem]) rfl ⟨rfl, by (repeat (first | exact Plus.refl _ | apply Plus.plus | apply Plus.alloc | apply Plus.drew))⟩
theorem posts_nil : Calls Try.prog 29 #[.pointer none] w fun e w' => e = .returned (.slice none 0 0) ∧ w.Plus w' := by
  go_enter Try.func29, Try.ntmps29
  go_wp2_with fail
  go_ret
  exact ⟨rfl, by (repeat (first | exact Plus.refl _ | apply Plus.plus | apply Plus.alloc | apply Plus.drew))⟩
theorem epochs_nil : Calls Try.prog 17 #[.pointer none] w fun e w' => e = .returned (.tuple #[.int .i64 0, .int .i64 0]) ∧ w.Plus w' := by
  go_enter Try.func17, Try.ntmps17
  go_wp2_with fail
  go_ret2
  exact ⟨rfl, by (repeat (first | exact Plus.refl _ | apply Plus.plus | apply Plus.alloc | apply Plus.drew))⟩
end
end Go.Proofs.Ythmfmpkkbgapoaa.Ses
-- Ses9
/- session: two ends in one world; posts that are held: plain laws. -/
set_option linter.unusedSimpArgs false
set_option linter.unusedVariables false
namespace Go.Proofs.Ythmfmpkkbgapoaa.Ses
open Go.RowKit
structure Pair2 (W wx : World) (N1 N2 : Nat) (c1 c2 : Ch) (S1 S2 : Nat → Prop) : Prop where
  a : ChAt wx N1 c1 S1
  b : ChAt wx N2 c2 S2
  d : ∀ k, S1 k → ¬ S2 k
  l1 : ∀ k, S1 k → W.heap.size ≤ k
  l2 : ∀ k, S2 k → W.heap.size ≤ k
  p : W.Plus wx
/-- posts that are held, apart from both ends -/
structure PostsAt (W wx : World) (v : Value) (l : List Post) (S1 S2 : Nat → Prop) : Prop where
  sl : Sl wx 5 v l.length (postCs l)
  n1 : ∀ g, v.ownBlock = some g → ¬ S1 g
  n2 : ∀ g, v.ownBlock = some g → ¬ S2 g
section
variable {W wx w' : World} {N1 N2 : Nat} {c1 c2 c' : Ch} {S1 S2 : Nat → Prop} {v u : Value} {e : Ending} {l : List Post}
theorem Pair2.plus (h : Pair2 W wx N1 N2 c1 c2 S1 S2) (x : Ext) : Pair2 W (wx.plus x) N1 N2 c1 c2 S1 S2 := ⟨h.a.plus x, h.b.plus x, h.d, h.l1, h.l2, Plus.plus h.p x⟩
theorem Pair2.chA (h : Pair2 W wx N1 N2 c1 c2 S1 S2) (k : ChPost wx N1 S1 v c' e w') : Pair2 W w' N1 N2 c' c2 (Grown S1 wx w') S2 := by
  obtain ⟨_, hc, hg⟩ := k
  have hW := (Plus.below h.p).size
  exact ⟨hc, h.b.chg hg (fun i h2 h1 => h.d i h1 h2), fun i hi => hi.elim (h.d i) (fun hn h2 => by have := h.b.sub i h2; omega), fun i hi => hi.elim (h.l1 i) (fun hn => by omega), h.l2, hg.toPlus h.p h.l1⟩
theorem Pair2.chB (h : Pair2 W wx N1 N2 c1 c2 S1 S2) (k : ChPost wx N2 S2 v c' e w') : Pair2 W w' N1 N2 c1 c' S1 (Grown S2 wx w') := by
  obtain ⟨_, hc, hg⟩ := k
  have hW := (Plus.below h.p).size
  exact ⟨h.a.chg hg (fun i h1 h2 => h.d i h1 h2), hc, fun i h1 hi => hi.elim (h.d i h1) (fun hn => by have := h.a.sub i h1; omega), h.l1, fun i hi => hi.elim (h.l2 i) (fun hn => by omega), hg.toPlus h.p h.l2⟩
theorem Pair2.poA (h : Pair2 W wx N1 N2 c1 c2 S1 S2) (hc : ChAt w' N1 c' S1) (hg : Chg wx w' S1) : Pair2 W w' N1 N2 c' c2 S1 S2 :=
  ⟨hc, h.b.chg hg (fun i h2 h1 => h.d i h1 h2), h.d, h.l1, h.l2, hg.toPlus h.p h.l1⟩
theorem Pair2.poB (h : Pair2 W wx N1 N2 c1 c2 S1 S2) (hc : ChAt w' N2 c' S2) (hg : Chg wx w' S2) : Pair2 W w' N1 N2 c1 c' S1 S2 :=
  ⟨h.a.chg hg (fun i h1 h2 => h.d i h1 h2), hc, h.d, h.l1, h.l2, hg.toPlus h.p h.l2⟩
theorem PostsAt.plus (h : PostsAt W wx v l S1 S2) (x : Ext) : PostsAt W (wx.plus x) v l S1 S2 := ⟨h.sl.plus x, h.n1, h.n2⟩
theorem PostsAt.alloc (h : PostsAt W wx v l S1 S2) (o : Obj) : PostsAt W (wx.alloc o) v l S1 S2 := ⟨h.sl.chg (Chg.of_alloc wx o fun _ => False) (fun _ _ h => h), h.n1, h.n2⟩
theorem PostsAt.chA (h : PostsAt W wx v l S1 S2) (hg : Chg wx w' S1) : PostsAt W w' v l (Grown S1 wx w') S2 :=
  ⟨h.sl.chg hg h.n1, fun g hg2 hi => hi.elim (h.n1 g hg2) (fun hn => by have := h.sl.lt g hg2; omega), h.n2⟩
theorem PostsAt.chB (h : PostsAt W wx v l S1 S2) (hg : Chg wx w' S2) : PostsAt W w' v l S1 (Grown S2 wx w') :=
  ⟨h.sl.chg hg h.n2, h.n1, fun g hg2 hi => hi.elim (h.n2 g hg2) (fun hn => by have := h.sl.lt g hg2; omega)⟩
/-- the first post that is held -/
theorem PostsAt.get {A : Option Addr} {n cap : Nat} (h : PostsAt W wx (.slice A n cap) l S1 S2) (hl : 0 < l.length) : ∃ g o, A = some ⟨g, o, none⟩ ∧ n = l.length ∧ g < wx.heap.size ∧ ∀ i (p : Post), l[i]? = some p →
    wx.cell? ⟨g, o + i * 5, none⟩ = some (.int .i64 p.mine) ∧ wx.cell? ⟨g, o + i * 5 + 1, none⟩ = some (.int .i64 p.yours) ∧ wx.cell? ⟨g, o + i * 5 + 2, none⟩ = some (.int .i64 p.ack) ∧ wx.cell? ⟨g, o + i * 5 + 3, none⟩ = some (.int .i64 p.seq) ∧ wx.cell? ⟨g, o + i * 5 + 4, none⟩ = some (.string p.text) := by
  rcases h.sl.val with ⟨_, h0⟩ | ⟨g, off, cap', he, hgl, _, _, hc, _⟩
  · omega
  cases he
  refine ⟨g, off, rfl, rfl, hgl, fun i p hp => ?_⟩
  have hi : i < l.length := (List.getElem?_eq_some_iff.1 hp).1
  have key : ∀ (l : List Post) (i : Nat) (p : Post) (j : Nat), l[i]? = some p → j < 5 → (postCs l)[i * 5 + j]? = p.cs[j]? := by
    intro l
    induction l with
    | nil => intro i p j h; simp at h
    | cons q l ih =>
      intro i p j h hj
      show (q.cs ++ postCs l)[i * 5 + j]? = _
      have hq : q.cs.length = 5 := rfl
      cases i with
      | zero =>
        simp at h
        subst h
        rw [List.getElem?_append_left (by rw [hq]; omega)]
        simp
      | succ i =>
        rw [List.getElem?_append_right (by rw [hq]; omega), hq, show (i + 1) * 5 + j - 5 = i * 5 + j by omega]
        exact ih i p j (by simpa using h) hj
  have at' : ∀ j, j < 5 → wx.cell? ⟨g, off + (i * 5 + j), none⟩ = p.cs[j]? := fun j hj => by
    rw [hc (i * 5 + j) (by omega)]
    exact key l i p j hp hj
  exact ⟨at' 0 (by omega), at' 1 (by omega), at' 2 (by omega), at' 3 (by omega), at' 4 (by omega)⟩
end
end Go.Proofs.Ythmfmpkkbgapoaa.Ses
-- SesA
/- session: Posts and Hear of one of two ends: contracts. -/
set_option linter.unusedSimpArgs false
set_option linter.unusedVariables false
namespace Go.Proofs.Ythmfmpkkbgapoaa.Ses
open Go.RowKit
section
variable {W wx : World} {N1 N2 : Nat} {c1 c2 : Ch} {S1 S2 : Nat → Prop}
def PoA (W wx : World) (N1 N2 : Nat) (c1 c2 : Ch) (S1 S2 : Nat → Prop) (l : List Post) (e : Ending) (w' : World) : Prop :=
  ∃ A cap, e = .returned (.slice A l.length cap) ∧ PostsAt W w' (.slice A l.length cap) l S1 S2 ∧ Pair2 W w' N1 N2 c1 c2 S1 S2 ∧ Chg wx w' S1
def PoB (W wx : World) (N1 N2 : Nat) (c1 c2 : Ch) (S1 S2 : Nat → Prop) (l : List Post) (e : Ending) (w' : World) : Prop :=
  ∃ A cap, e = .returned (.slice A l.length cap) ∧ PostsAt W w' (.slice A l.length cap) l S1 S2 ∧ Pair2 W w' N1 N2 c1 c2 S1 S2 ∧ Chg wx w' S2
theorem posts_A (h : Pair2 W wx N1 N2 c1 c2 S1 S2) (hf1 : 0 ≤ c1.first ∧ c1.first ≤ 1000000000000000) (hw1 : c1.wait.length ≤ 1000000) :
    Calls Try.prog 29 #[chV N1] wx (PoA W wx N1 N2 { c1 with owes := false } c2 S1 S2 (postsL c1)) :=
  (posts_any wx N1 c1 S1 h.a hf1 hw1).mono fun e w' ⟨A, cap, he, hs, ho, hc, hg⟩ => ⟨A, cap, he, ⟨hs, fun g hg => (ho g hg).2, fun g hg h2 => by have := (ho g hg).1; have := h.b.sub g h2; omega⟩, h.poA hc hg, hg⟩
theorem posts_B (h : Pair2 W wx N1 N2 c1 c2 S1 S2) (hf1 : 0 ≤ c2.first ∧ c2.first ≤ 1000000000000000) (hw1 : c2.wait.length ≤ 1000000) :
    Calls Try.prog 29 #[chV N2] wx (PoB W wx N1 N2 c1 { c2 with owes := false } S1 S2 (postsL c2)) :=
  (posts_any wx N2 c2 S2 h.b hf1 hw1).mono fun e w' ⟨A, cap, he, hs, ho, hc, hg⟩ => ⟨A, cap, he, ⟨hs, fun g hg h2 => by have := (ho g hg).1; have := h.a.sub g h2; omega, fun g hg => (ho g hg).2⟩, h.poB hc hg, hg⟩
def HeA (W wx : World) (N1 N2 : Nat) (x : Hd × Int × Ch) (c2 : Ch) (S1 S2 : Nat → Prop) (e : Ending) (w' : World) : Prop :=
  e = .returned (.tuple #[x.1.v, .int .i64 x.2.1]) ∧ Pair2 W w' N1 N2 x.2.2 c2 (Grown S1 wx w') S2 ∧ Chg wx w' S1
def HeB (W wx : World) (N1 N2 : Nat) (x : Hd × Int × Ch) (c1 : Ch) (S1 S2 : Nat → Prop) (e : Ending) (w' : World) : Prop :=
  e = .returned (.tuple #[x.1.v, .int .i64 x.2.1]) ∧ Pair2 W w' N1 N2 c1 x.2.2 S1 (Grown S2 wx w') ∧ Chg wx w' S2
theorem hear_A (h : Pair2 W wx N1 N2 c1 c2 S1 S2) (p : Post) (hf1 : 1 ≤ c1.first ∧ c1.first ≤ 1000000000000000) (hl1 : 0 ≤ c1.last ∧ c1.last ≤ 1000000000000000) (hw1 : c1.wait.length ≤ 1000000) :
    Calls Try.prog 33 #[chV N1, p.v] wx (HeA W wx N1 N2 (hear c1 p) c2 S1 S2) :=
  (hear_any wx N1 c1 S1 p h.a hf1 hl1 hw1).mono fun e w' hp => ⟨hp.1, h.chA hp, hp.2.2⟩
theorem hear_B (h : Pair2 W wx N1 N2 c1 c2 S1 S2) (p : Post) (hf1 : 1 ≤ c2.first ∧ c2.first ≤ 1000000000000000) (hl1 : 0 ≤ c2.last ∧ c2.last ≤ 1000000000000000) (hw1 : c2.wait.length ≤ 1000000) :
    Calls Try.prog 33 #[chV N2, p.v] wx (HeB W wx N1 N2 (hear c2 p) c1 S1 S2) :=
  (hear_any wx N2 c2 S2 p h.b hf1 hl1 hw1).mono fun e w' hp => ⟨hp.1, h.chB hp, hp.2.2⟩
end
theorem Pair2.far {W wx w' : World} {N1 N2 : Nat} {c1 c2 : Ch} {S1 S2 T : Nat → Prop} (h : Pair2 W wx N1 N2 c1 c2 S1 S2) (hg : Chg wx w' T) (h1 : ∀ k, T k → ¬ S1 k) (h2 : ∀ k, T k → ¬ S2 k) (h3 : ∀ k, T k → W.heap.size ≤ k) : Pair2 W w' N1 N2 c1 c2 S1 S2 :=
  ⟨h.a.chg hg (fun k a t => h1 k t a), h.b.chg hg (fun k a t => h2 k t a), h.d, h.l1, h.l2, hg.toPlus h.p h3⟩
theorem Pair2.alloc {W wx : World} {N1 N2 : Nat} {c1 c2 : Ch} {S1 S2 : Nat → Prop} (h : Pair2 W wx N1 N2 c1 c2 S1 S2) (o : Obj) : Pair2 W (wx.alloc o) N1 N2 c1 c2 S1 S2 :=
  h.far (Chg.of_alloc wx o fun _ => False) (fun _ h => h.elim) (fun _ h => h.elim) (fun _ h => h.elim)
/-- what comes of a post, in memory -/
structure HdAt (wx : World) (X : Nat) (h : Hd) : Prop where
  lt : X < wx.heap.size
  h0 : wx.cell? ⟨X, 0, none⟩ = some (.string h.text)
  h1 : wx.cell? ⟨X, 1, none⟩ = some (.bool h.is)
  h2 : wx.cell? ⟨X, 2, none⟩ = some (.bool h.anew)
  hf : ∀ i, wx.frozen? ⟨X, i, none⟩ = false
theorem HdAt.chg {wx w' : World} {X : Nat} {h : Hd} {T : Nat → Prop} (k : HdAt wx X h) (hc : Chg wx w' T) (hn : ¬ T X) : HdAt w' X h :=
  ⟨Nat.lt_of_lt_of_le k.lt hc.size, (hc.cell k.lt hn).trans k.h0, (hc.cell k.lt hn).trans k.h1, (hc.cell k.lt hn).trans k.h2, fun i => (hc.frozen k.lt hn).trans (k.hf i)⟩
theorem HdAt.new (wx : World) (h : Hd) {n : Nat} (hn : n = wx.heap.size) : HdAt (wx.alloc (.cells #[.string h.text, .bool h.is, .bool h.anew] 96)) n h := by
  subst hn
  refine ⟨?_, ?_, ?_, ?_, fun i => ?_⟩
  all_goals simp [go_sem]
theorem HdAt.set {wx : World} {X : Nat} {h : Hd} (k : HdAt wx X h) (h' : Hd) : HdAt (((wx.setCell ⟨X, 0, none⟩ (.string h'.text)).setCell ⟨X, 1, none⟩ (.bool h'.is)).setCell ⟨X, 2, none⟩ (.bool h'.anew)) X h' := by
  obtain ⟨lt, h0, h1, h2, hf⟩ := k
  refine ⟨by simp only [World.size_setCell]; exact lt, ?_, ?_, ?_, fun i => ?_⟩
  all_goals simp [go_sem, h0, h1, h2, hf]
def SaA (W wx : World) (N1 N2 : Nat) (r : Int) (c1 c2 : Ch) (S1 S2 : Nat → Prop) (e : Ending) (w' : World) : Prop :=
  e = .returned (.int .i64 r) ∧ Pair2 W w' N1 N2 c1 c2 (Grown S1 wx w') S2 ∧ Chg wx w' S1
theorem say_A {W wx : World} {N1 N2 : Nat} {c1 c2 : Ch} {S1 S2 : Nat → Prop} (h : Pair2 W wx N1 N2 c1 c2 S1 S2) (A : Option Addr) (cp : Nat) (xs : List ByteArray) (hn : xs.length ≤ 140737488351232) (hl : c1.wait.length ≤ 1024) (hr : RowsAt wx A 1 xs.length (strAt xs)) :
    Calls Try.prog 6 #[chV N1, .slice A xs.length cp] wx (SaA W wx N1 N2 (sayE c1 xs) (sayC c1 xs) c2 S1 S2) :=
  (say_any wx N1 c1 S1 A cp xs h.a hn hl hr).mono fun e w' hp => ⟨hp.1, h.chA hp, hp.2.2⟩
-- the awake example's ends, step by step
abbrev xA0 : Ch := ⟨1, 0, 1, [], 0, false, false⟩
abbrev xB0 : Ch := ⟨5, 0, 1, [], 0, false, false⟩
abbrev txX : ByteArray := ⟨#[120]⟩
theorem st1 : postsL xA0 = [⟨1, 0, 0, 0, ⟨#[]⟩⟩] := rfl
theorem st2 : hear xB0 ⟨1, 0, 0, 0, ⟨#[]⟩⟩ = (⟨⟨#[]⟩, false, true⟩, 0, ⟨5, 1, 1, [], 0, false, true⟩) := rfl
theorem st3 : postsL ⟨5, 1, 1, [], 0, false, true⟩ = [⟨5, 1, 0, 0, ⟨#[]⟩⟩, ⟨5, 0, 0, 0, ⟨#[]⟩⟩] := rfl
abbrev q1 : Post := ⟨1, 0, 0, 0, ⟨#[]⟩⟩
abbrev xB1 : Ch := ⟨5, 1, 1, [], 0, false, true⟩
abbrev xB2 : Ch := ⟨5, 1, 1, [], 0, false, false⟩
theorem st4 : hear xA0 ⟨5, 1, 0, 0, ⟨#[]⟩⟩ = (⟨⟨#[]⟩, false, true⟩, 0, ⟨1, 5, 1, [], 0, true, true⟩) := rfl
abbrev xA1 : Ch := ⟨1, 5, 1, [], 0, true, true⟩
theorem st5 : hear xA1 ⟨5, 0, 0, 0, ⟨#[]⟩⟩ = (⟨⟨#[]⟩, false, false⟩, 0, xA1) := rfl
theorem st6 : sayE xA1 [txX] = 0 := rfl
theorem st6c : sayC xA1 [txX] = ⟨1, 5, 1, [txX], 0, true, true⟩ := rfl
abbrev xA3 : Ch := ⟨1, 5, 1, [txX], 0, true, true⟩
abbrev xA4 : Ch := ⟨1, 5, 1, [txX], 0, true, false⟩
theorem st7 : postsL xA3 = [⟨1, 5, 0, 1, txX⟩] := rfl
theorem st8 : hear xB2 ⟨1, 5, 0, 1, txX⟩ = (⟨txX, true, false⟩, 0, ⟨5, 1, 1, [], 1, true, true⟩) := rfl
abbrev xB3 : Ch := ⟨5, 1, 1, [], 1, true, true⟩
abbrev xB4 : Ch := ⟨5, 1, 1, [], 1, true, false⟩
theorem st9 : postsL xB3 = [⟨5, 1, 1, 0, ⟨#[]⟩⟩] := rfl
theorem st10 : hear xA4 ⟨5, 1, 1, 0, ⟨#[]⟩⟩ = (⟨⟨#[]⟩, false, false⟩, 0, ⟨1, 5, 2, [], 0, true, false⟩) := rfl
abbrev xA5 : Ch := ⟨1, 5, 2, [], 0, true, false⟩
theorem st11 : postsL xA5 = [] := rfl
theorem st12 : postsL xB4 = [] := rfl
def NewE (w : World) (m : Int) (e : Ending) (w' : World) : Prop := ∃ N, e = .returned (.tuple #[chV N, .int .i64 0]) ∧ w.heap.size ≤ N ∧ ChAt w' N ⟨m, 0, 1, [], 0, false, false⟩ (fun k => k = N) ∧ w.Plus w'
theorem new_E (w : World) (m : Int) (h : 1 ≤ m ∧ m ≤ 1099511627776) : Calls Try.prog 15 #[.int .i64 m] w (NewE w m) :=
  (new_any w m h).mono fun e w' ⟨h1, h2, h3⟩ => ⟨_, h1, Nat.le_refl _, h2, h3⟩
end Go.Proofs.Ythmfmpkkbgapoaa.Ses
-- SesB
/- session: awake: walk. -/
set_option linter.unusedSimpArgs false
set_option linter.unusedVariables false
namespace Go.Proofs.Ythmfmpkkbgapoaa.Ses
open Go.RowKit
end Go.Proofs.Ythmfmpkkbgapoaa.Ses
-- SesC
/- session: an end as an assertion: contracts; what it hears of an end in an epoch: plain laws. -/
set_option linter.unusedSimpArgs false
set_option linter.unusedVariables false
namespace Go.Proofs.Ythmfmpkkbgapoaa.Ses
open Go.RowKit
/-- an end, as an assertion -/
def chanA (N : Nat) (c : Ch) : Asn where
  holds w S := ChAt w N c S
  keep w w' S h hs hk := by
    obtain ⟨lt, sub, own, c0, c1, c2, c4, c5, c6, hf, A, cap, c3, hsl, hg⟩ := h
    have e : ∀ i, w'.cell? ⟨N, i, none⟩ = w.cell? ⟨N, i, none⟩ := fun i => World.cell?_of_block (w := w) (a := ⟨N, i, none⟩) (hk N own)
    have f : ∀ i, w'.frozen? ⟨N, i, none⟩ = w.frozen? ⟨N, i, none⟩ := fun i => World.frozen?_of_block (w := w) (a := ⟨N, i, none⟩) (hk N own)
    exact ⟨by omega, fun k a => by have := sub k a; omega, own, (e 0).trans c0, (e 1).trans c1, (e 2).trans c2, (e 4).trans c4, (e 5).trans c5, (e 6).trans c6, fun i => (f i).trans (hf i), A, cap, (e 3).trans c3, hsl.keep hs (fun g h => hk g (hg g h).1), hg⟩
  inb w S h := h.sub
section
variable {W wx w' : World} {N : Nat} {c c' : Ch} {v : Value} {e : Ending} {l : List Asn}
theorem hear_O (h : Own W wx (chanA N c :: l)) (p : Post) (hf1 : 1 ≤ c.first ∧ c.first ≤ 1000000000000000) (hl1 : 0 ≤ c.last ∧ c.last ≤ 1000000000000000) (hw1 : c.wait.length ≤ 1000000) :
    Calls Try.prog 33 #[chV N, p.v] wx (OwnTo W (.tuple #[(hear c p).1.v, .int .i64 (hear c p).2.1]) (chanA N (hear c p).2.2 :: l)) :=
  Own.call (X := fun e _ P' => e = .returned (.tuple #[(hear c p).1.v, .int .i64 (hear c p).2.1]) ∧ P' = chanA N (hear c p).2.2) h
    (fun A hA => (hear_any wx N c A p hA hf1 hl1 hw1).mono fun e w' ⟨h1, h2, h3⟩ => ⟨_, _, ⟨h1, rfl⟩, h3, h2, fun k h => h⟩) (fun e w' P' ⟨h1, h2⟩ h3 => ⟨h1, by rw [← h2]; exact h3⟩)
theorem say_O (h : Own W wx (chanA N c :: l)) (A : Option Addr) (cp : Nat) (xs : List ByteArray) (hn : xs.length ≤ 140737488351232) (hw : c.wait.length ≤ 1024) (hr : RowsAt wx A 1 xs.length (strAt xs)) :
    Calls Try.prog 6 #[chV N, .slice A xs.length cp] wx (OwnTo W (.int .i64 (sayE c xs)) (chanA N (sayC c xs) :: l)) :=
  Own.call (X := fun e _ P' => e = .returned (.int .i64 (sayE c xs)) ∧ P' = chanA N (sayC c xs)) h
    (fun B hB => (say_any wx N c B A cp xs hB hn hw hr).mono fun e w' ⟨h1, h2, h3⟩ => ⟨_, _, ⟨h1, rfl⟩, h3, h2, fun k h => h⟩) (fun e w' P' ⟨h1, h2⟩ h3 => ⟨h1, by rw [← h2]; exact h3⟩)
def PostsO (W : World) (N : Nat) (c : Ch) (l : List Asn) (ps : List Post) (e : Ending) (w' : World) : Prop :=
  ∃ A cap, e = .returned (.slice A ps.length cap) ∧ Own W w' (chanA N c :: slA 5 (.slice A ps.length cap) ps.length (postCs ps) :: l)
theorem posts_O (h : Own W wx (chanA N c :: l)) (hf1 : 0 ≤ c.first ∧ c.first ≤ 1000000000000000) (hw1 : c.wait.length ≤ 1000000) :
    Calls Try.prog 29 #[chV N] wx (PostsO W N { c with owes := false } l (postsL c)) :=
  Own.call (X := fun e _ P' => ∃ A cap, e = .returned (.slice A (postsL c).length cap) ∧ P' = bothA [chanA N { c with owes := false }, slA 5 (.slice A (postsL c).length cap) (postsL c).length (postCs (postsL c))]) h
    (fun B hB => (posts_any wx N c B hB hf1 hw1).mono fun e w' ⟨A, cap, he, hs, ho, hc, hg⟩ =>
      ⟨_, fun k => B k ∨ (Value.slice A (postsL c).length cap).ownBlock = some k, ⟨A, cap, he, rfl⟩, hg, ⟨B, fun k => (Value.slice A (postsL c).length cap).ownBlock = some k, hc, ⟨_, fun _ => False, ⟨fun k => Iff.rfl, hs⟩, fun _ h => h, fun _ _ h => h, fun k => by simp⟩, fun k b h => (ho k h).2 b, fun k => Iff.rfl⟩,
        fun k hk => hk.elim .inl fun h => .inr ⟨(ho k h).1, hs.lt k h⟩⟩)
    (fun e w' P' ⟨A, cap, h1, h2⟩ h3 => ⟨A, cap, h1, by subst h2; exact h3.both⟩)
theorem new_O (h : Own W wx l) (m : Int) (hm : 1 ≤ m ∧ m ≤ 1099511627776) : Calls Try.prog 15 #[.int .i64 m] wx (fun e w' => ∃ N, e = .returned (.tuple #[chV N, .int .i64 0]) ∧ Own W w' (chanA N ⟨m, 0, 1, [], 0, false, false⟩ :: l)) :=
  (new_E wx m hm).mono fun e w' ⟨N, h1, h2, h3, h4⟩ => ⟨N, h1, Own.add (A := fun k => k = N) h (Chg.of_Plus h4 _) h3 (fun k hk => by omega)⟩
theorem epochs_O (h : Own W wx (chanA N c :: l)) : Calls Try.prog 17 #[chV N] wx (fun e w' => e = .returned (.tuple #[.int .i64 c.mine, .int .i64 c.yours]) ∧ wx.Plus w') := by
  obtain ⟨A, hA, _⟩ := h.get
  exact epochs_any wx N c A hA
end
/-- what was heard, in memory -/
abbrev hdA (X : Nat) (h : Hd) : Asn := cellsA X [.string h.text, .bool h.is, .bool h.anew]
theorem Own.newHd {W wx : World} {l : List Asn} (o : Own W wx l) (d : Hd) : Own W (wx.alloc (.cells #[.string d.text, .bool d.is, .bool d.anew] 96)) (hdA wx.heap.size d :: l) := o.newCells _ _
theorem Own.hd {W wx : World} {l : List Asn} {X : Nat} {h : Hd} (i : Nat) (o : Own W wx l) (hi : l[i]? = some (hdA X h)) : X < wx.heap.size ∧ wx.cell? ⟨X, 0, none⟩ = some (.string h.text) ∧ wx.cell? ⟨X, 1, none⟩ = some (.bool h.is) ∧ wx.cell? ⟨X, 2, none⟩ = some (.bool h.anew) ∧ ∀ j, wx.frozen? ⟨X, j, none⟩ = false := by
  obtain ⟨h1, h2, h3⟩ := o.cells i hi
  exact ⟨h1, h2 0 (by simp), h2 1 (by simp), h2 2 (by simp), h3⟩
theorem postCs_get (ps : List Post) (i : Nat) (p : Post) (j : Nat) (h : ps[i]? = some p) (hj : j < 5) : (postCs ps)[i * 5 + j]? = p.cs[j]? := by
  induction ps generalizing i with
  | nil => simp at h
  | cons q l ih =>
    show (q.cs ++ postCs l)[i * 5 + j]? = _
    have hq : q.cs.length = 5 := rfl
    cases i with
    | zero =>
      simp at h
      subst h
      rw [List.getElem?_append_left (by rw [hq]; omega)]
      simp
    | succ i =>
      rw [List.getElem?_append_right (by rw [hq]; omega), hq, show (i + 1) * 5 + j - 5 = i * 5 + j by omega]
      exact ih i (by simpa using h)
theorem Own.posts {W wx : World} {l : List Asn} {A : Option Addr} {cap n : Nat} {ps : List Post} (i : Nat) (o : Own W wx l) (hi : l[i]? = some (slA 5 (.slice A n cap) n (postCs ps))) (hn : n = ps.length) (h0 : 0 < n) : ∃ g o, A = some ⟨g, o, none⟩ ∧ g < wx.heap.size ∧ ∀ i (p : Post), ps[i]? = some p →
    wx.cell? ⟨g, o + i * 5, none⟩ = some (.int .i64 p.mine) ∧ wx.cell? ⟨g, o + i * 5 + 1, none⟩ = some (.int .i64 p.yours) ∧ wx.cell? ⟨g, o + i * 5 + 2, none⟩ = some (.int .i64 p.ack) ∧ wx.cell? ⟨g, o + i * 5 + 3, none⟩ = some (.int .i64 p.seq) ∧ wx.cell? ⟨g, o + i * 5 + 4, none⟩ = some (.string p.text) := by
  subst hn
  obtain ⟨g, off, rfl, hg, hc⟩ := (o.sl i hi).cellsOf h0
  refine ⟨g, off, rfl, hg, fun i p hp => ?_⟩
  have hi : i < ps.length := (List.getElem?_eq_some_iff.1 hp).1
  have at' : ∀ j, j < 5 → wx.cell? ⟨g, off + (i * 5 + j), none⟩ = p.cs[j]? := fun j hj => by
    rw [hc (i * 5 + j) (by omega)]
    exact postCs_get ps i p j hp hj
  exact ⟨at' 0 (by omega), at' 1 (by omega), at' 2 (by omega), at' 3 (by omega), at' 4 (by omega)⟩
/-- a text said alone -/
theorem one_row (wx : World) (x : ByteArray) : RowsAt (wx.alloc (.cells #[.string x] 9)) (some ⟨wx.heap.size, 0, none⟩) 1 [x].length (strAt [x]) :=
  fun _ => ⟨wx.heap.size, 0, rfl, by simp [go_sem], fun i j hi hj => by
    obtain rfl : i = 0 := by simp at hi; omega
    obtain rfl : j = 0 := by omega
    simp [go_sem, strAt]⟩
theorem hear_first (m o : Int) (t : ByteArray) (hm : 1 ≤ m ∧ m ≤ 1099511627776) (ho : 1 ≤ o ∧ o ≤ 1099511627776) (ht : t.size ≤ 65472) :
    hear ⟨m, 0, 1, [], 0, false, false⟩ ⟨o, m, 0, 1, t⟩ = (⟨t, true, true⟩, 0, ⟨m, o, 1, [], 1, true, true⟩) := by
  have h1 : (0 : Int) < o := by omega
  have hk : okPost ⟨o, m, 0, 1, t⟩ = true := by
    unfold okPost inT
    simp
    omega
  have e1 : ch1 ⟨m, 0, 1, [], 0, false, false⟩ ⟨o, m, 0, 1, t⟩ = ⟨m, o, 1, [], 0, false, false⟩ := if_pos h1
  have e2 : ch2 ⟨m, 0, 1, [], 0, false, false⟩ ⟨o, m, 0, 1, t⟩ = ⟨m, o, 1, [], 0, false, true⟩ := by unfold ch2; rw [e1]; simp [h1]
  have e4 : ch4 ⟨m, 0, 1, [], 0, false, false⟩ ⟨o, m, 0, 1, t⟩ = ⟨m, o, 1, [], 0, true, true⟩ := by unfold ch4 ch3; rw [e2]; simp [hearN]
  unfold hear
  rw [if_neg (by rw [hk]; simp), if_neg (by simp only; omega), if_neg (by simp), e4]
  simp [h1]
theorem hear_stale (c : Ch) (o : Int) (y : Int) (t : ByteArray) (hy : 0 ≤ y ∧ y ≤ 1099511627776) (ho : 1 ≤ o ∧ o ≤ 1099511627776) (ht : t.size ≤ 65472) (hs : o < c.yours) : hear c ⟨o, y, 0, 2, t⟩ = (hd0, 9, c) := by
  have hk : okPost ⟨o, y, 0, 2, t⟩ = true := by
    unfold okPost inT
    simp
    omega
  unfold hear
  rw [if_neg (by rw [hk]; simp), if_pos hs]
theorem hear_over (c : Ch) (o : Int) (t : ByteArray) (hm : c.mine ≠ 0) (ho : 1 ≤ o ∧ o ≤ 1099511627776) (ht : t.size ≤ 65472) (hs : c.yours < o) :
    hear c ⟨o, 0, 0, 1, t⟩ = (⟨⟨#[]⟩, false, true⟩, 0, ⟨c.mine, o, 1, [], 0, false, true⟩) := by
  have hk : okPost ⟨o, 0, 0, 1, t⟩ = true := by
    unfold okPost inT
    simp
    omega
  have e1 : ch1 c ⟨o, 0, 0, 1, t⟩ = ⟨c.mine, o, 1, [], 0, false, false⟩ := if_pos hs
  have e2 : ch2 c ⟨o, 0, 0, 1, t⟩ = ⟨c.mine, o, 1, [], 0, false, true⟩ := by unfold ch2; rw [e1]; simp [hs]
  unfold hear
  rw [if_neg (by rw [hk]; simp), if_neg (by simp only; omega), if_pos (fun h => hm h.symm), e2]
  simp [hs]
theorem hear_next (m o : Int) (t : ByteArray) (hm : 1 ≤ m ∧ m ≤ 1099511627776) (ho : 1 ≤ o ∧ o ≤ 1099511627776) (ht : t.size ≤ 65472) :
    hear ⟨m, o, 1, [], 0, false, false⟩ ⟨o, m, 0, 1, t⟩ = (⟨t, true, false⟩, 0, ⟨m, o, 1, [], 1, true, true⟩) := by
  have hk : okPost ⟨o, m, 0, 1, t⟩ = true := by
    unfold okPost inT
    simp
    omega
  have hn : ¬ o < o := by omega
  have e1 : ch1 ⟨m, o, 1, [], 0, false, false⟩ ⟨o, m, 0, 1, t⟩ = ⟨m, o, 1, [], 0, false, false⟩ := if_neg hn
  have e2 : ch2 ⟨m, o, 1, [], 0, false, false⟩ ⟨o, m, 0, 1, t⟩ = ⟨m, o, 1, [], 0, false, true⟩ := by unfold ch2; rw [e1]; simp
  have e4 : ch4 ⟨m, o, 1, [], 0, false, false⟩ ⟨o, m, 0, 1, t⟩ = ⟨m, o, 1, [], 0, true, true⟩ := by unfold ch4 ch3; rw [e2]; simp [hearN]
  unfold hear
  rw [if_neg (by rw [hk]; simp), if_neg (by simp only; omega), if_neg (by simp), e4]
  simp
theorem sayC_shape (c : Ch) (xs : List ByteArray) : ∃ ws, sayC c xs = { c with wait := ws } ∧ ws.length ≤ c.wait.length + xs.length ∧ (sayE c xs = 0 → ws = c.wait ++ xs) ∧ (sayE c xs ≠ 0 → ws = c.wait) := by
  unfold sayC
  by_cases h : sayE c xs = 0
  · rw [if_pos h]
    exact ⟨c.wait ++ xs, rfl, by simp, fun _ => rfl, fun k => absurd h k⟩
  · rw [if_neg h]
    exact ⟨c.wait, rfl, by omega, fun k => absurd k h, fun _ => rfl⟩
end Go.Proofs.Ythmfmpkkbgapoaa.Ses
