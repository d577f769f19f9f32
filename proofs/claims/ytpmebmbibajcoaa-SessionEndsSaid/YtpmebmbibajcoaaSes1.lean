/- session: the channel in memory; number, Check, New, Waiting, Epochs: walks. -/
import Derived.Test.YtpmebmbibajcoaaTxt
import Derived.Test.YtpmebmbibajcoaaSl
import Derived.Laws.IdiomStrings
import Derived.Deep.RegionHeld3
import Derived.Deep.RegionLaw
import Derived.Deep.DeepCutAuto
set_option linter.unusedSimpArgs false
set_option linter.unusedVariables false
namespace Go.Proofs.Ytpmebmbibajcoaa
open Go.RowKit
structure Post where
  mine : Int
  yours : Int
  ack : Int
  seq : Int
  text : ByteArray
abbrev Post.v (p : Post) : Value := .agg #[.int .i64 p.mine, .int .i64 p.yours, .int .i64 p.ack, .int .i64 p.seq, .string p.text]
def inT (n : Int) : Bool := decide (0 ≤ n ∧ n ≤ 1099511627776)
/-- may a post be? -/
def okPost (p : Post) : Bool := decide (1 ≤ p.mine) && (inT p.mine && (inT p.yours && (inT p.ack && (inT p.seq && (decide (p.text.size ≤ 65472) && !(decide (p.seq = 0) && decide (p.text ≠ ⟨#[]⟩)))))))
/-- an end of a channel -/
structure Ch where
  mine : Int
  yours : Int
  first : Int
  wait : List ByteArray
  last : Int
  met : Bool
  owes : Bool
/-- an end that lies in a world, in the blocks of S -/
structure ChAt (w : World) (N : Nat) (c : Ch) (S : Nat → Prop) : Prop where
  lt : N < w.heap.size
  sub : ∀ k, S k → k < w.heap.size
  own : S N
  c0 : w.cell? ⟨N, 0, none⟩ = some (.int .i64 c.mine)
  c1 : w.cell? ⟨N, 1, none⟩ = some (.int .i64 c.yours)
  c2 : w.cell? ⟨N, 2, none⟩ = some (.int .i64 c.first)
  c4 : w.cell? ⟨N, 4, none⟩ = some (.int .i64 c.last)
  c5 : w.cell? ⟨N, 5, none⟩ = some (.bool c.met)
  c6 : w.cell? ⟨N, 6, none⟩ = some (.bool c.owes)
  hf : ∀ i, w.frozen? ⟨N, i, none⟩ = false
  c3 : ∃ A cap, w.cell? ⟨N, 3, none⟩ = some (.slice A c.wait.length cap) ∧ Sl w 1 (.slice A c.wait.length cap) c.wait.length (c.wait.map Value.string) ∧ ∀ g, (Value.slice A c.wait.length cap).ownBlock = some g → S g ∧ g ≠ N
theorem ChAt.chg {w w' : World} {N : Nat} {c : Ch} {S T : Nat → Prop} (h : ChAt w N c S) (hc : Chg w w' T) (hd : ∀ k, S k → ¬ T k) : ChAt w' N c S := by
  obtain ⟨lt, sub, own, c0, c1, c2, c4, c5, c6, hf, A, cap, c3, hs, hg⟩ := h
  have hN := hd N own
  exact ⟨Nat.lt_of_lt_of_le lt hc.size, fun k hk => Nat.lt_of_lt_of_le (sub k hk) hc.size, own, (hc.cell lt hN).trans c0, (hc.cell lt hN).trans c1, (hc.cell lt hN).trans c2, (hc.cell lt hN).trans c4, (hc.cell lt hN).trans c5, (hc.cell lt hN).trans c6,
    fun i => (hc.frozen lt hN).trans (hf i), A, cap, (hc.cell lt hN).trans c3, hs.chg hc (fun g h => hd g (hg g h).1), hg⟩
theorem ChAt.plus {w : World} {N : Nat} {c : Ch} {S : Nat → Prop} (h : ChAt w N c S) (e : Ext) : ChAt (w.plus e) N c S := h.chg (Chg.of_plus w e fun _ => False) (fun _ _ h => h)
theorem ChAt.more {w : World} {N : Nat} {c : Ch} {S T : Nat → Prop} (h : ChAt w N c S) (hs : ∀ k, S k → T k) (ht : ∀ k, T k → k < w.heap.size) : ChAt w N c T := by
  obtain ⟨lt, sub, own, c0, c1, c2, c4, c5, c6, hf, A, cap, c3, hsl, hg⟩ := h
  exact ⟨lt, ht, hs N own, c0, c1, c2, c4, c5, c6, hf, A, cap, c3, hsl, fun g h => ⟨hs g (hg g h).1, (hg g h).2⟩⟩
abbrev chV (n : Nat) : Value := .pointer (some ⟨n, 0, none⟩)
/-- what a call of an end leaves -/
def ChPost (w : World) (N : Nat) (S : Nat → Prop) (v : Value) (c : Ch) (e : Ending) (w' : World) : Prop := e = .returned v ∧ ChAt w' N c (Grown S w w') ∧ Chg w w' S
theorem number_any (w : World) (n : Int) : Calls Try.prog 46 #[.int .i64 n] w fun e w' => e = .returned (.bool (inT n)) ∧ w.Plus w' := by
  have hI : inT n = decide (0 ≤ n ∧ n ≤ 1099511627776) := rfl
  generalize inT n = b at *
  by_cases h0 : 0 ≤ n
  · by_cases h1 : n ≤ 1099511627776
    · obtain rfl : b = true := by rw [hI]; simp [h0, h1]
      clear hI
      go_enter Try.func46, Try.ntmps46
      go_wp2_with fail
      go_ret
      exact ⟨rfl, by (repeat (first | exact Plus.refl _ | apply Plus.plus | apply Plus.alloc | apply Plus.drew))⟩
    · obtain rfl : b = false := by rw [hI]; simp [h1]
      clear hI
      go_enter Try.func46, Try.ntmps46
      go_wp2_with fail
      go_ret
      exact ⟨rfl, by (repeat (first | exact Plus.refl _ | apply Plus.plus | apply Plus.alloc | apply Plus.drew))⟩
  · obtain rfl : b = false := by rw [hI]; simp [h0]
    clear hI
    go_enter Try.func46, Try.ntmps46
    go_wp2_with fail
    go_ret
    exact ⟨rfl, by (repeat (first | exact Plus.refl _ | apply Plus.plus | apply Plus.alloc | apply Plus.drew))⟩
theorem empty_iff (s : ByteArray) : (s.toList.isEmpty = true ↔ s = ⟨#[]⟩) := by
  rw [← decide_eq_emptyBytes, decide_eq_true_iff]
  exact Iff.rfl
set_option maxRecDepth 100000 in
theorem check_any (w : World) (p : Post) : Calls Try.prog 30 #[p.v] w fun e w' => e = .returned (.int .i64 (if okPost p then 0 else 1)) ∧ w.Plus w' := by
  obtain ⟨m, y, a, s, t⟩ := p
  have hO : okPost ⟨m, y, a, s, t⟩ = (decide (1 ≤ m) && (inT m && (inT y && (inT a && (inT s && (decide (t.size ≤ 65472) && !(decide (s = 0) && decide (t ≠ ⟨#[]⟩)))))))) := rfl
  have n1 := fun w => number_any w m
  have n2 := fun w => number_any w y
  have n3 := fun w => number_any w a
  have n4 := fun w => number_any w s
  generalize okPost ⟨m, y, a, s, t⟩ = O at *
  simp only [Post.v]
  by_cases h1 : m < 1
  · obtain rfl : O = false := by rw [hO, decide_eq_false (by omega)]; rfl
    replace hO := Lib.hid hO
    replace n1 := Lib.hid n1
    replace n2 := Lib.hid n2
    replace n3 := Lib.hid n3
    replace n4 := Lib.hid n4
    go_enter Try.func30, Try.ntmps30
    go_wp2_with (first | (go_at_call 46; (with_reducible refine (n1.out _).mono ?_); rintro e w' ⟨rfl, e1, rfl⟩) | (go_at_call 46; (with_reducible refine (n2.out _).mono ?_); rintro e w' ⟨rfl, e2, rfl⟩) | (go_at_call 46; (with_reducible refine (n3.out _).mono ?_); rintro e w' ⟨rfl, e3, rfl⟩) | (go_at_call 46; (with_reducible refine (n4.out _).mono ?_); rintro e w' ⟨rfl, e4, rfl⟩))
    go_ret
    exact ⟨rfl, by (repeat (first | exact Plus.refl _ | apply Plus.plus | apply Plus.alloc | apply Plus.drew))⟩

  have h1b : decide (1 ≤ m) = true := decide_eq_true (by omega)
  rw [h1b, Bool.true_and] at hO
  clear h1b
  cases i1 : inT m with
  | false =>
    rw [i1] at hO n1
    obtain rfl : O = false := by rw [hO]; rfl
    replace hO := Lib.hid hO
    replace n1 := Lib.hid n1
    replace n2 := Lib.hid n2
    replace n3 := Lib.hid n3
    replace n4 := Lib.hid n4
    go_enter Try.func30, Try.ntmps30
    go_wp2_with (first | (go_at_call 46; (with_reducible refine (n1.out _).mono ?_); rintro e w' ⟨rfl, e1, rfl⟩) | (go_at_call 46; (with_reducible refine (n2.out _).mono ?_); rintro e w' ⟨rfl, e2, rfl⟩) | (go_at_call 46; (with_reducible refine (n3.out _).mono ?_); rintro e w' ⟨rfl, e3, rfl⟩) | (go_at_call 46; (with_reducible refine (n4.out _).mono ?_); rintro e w' ⟨rfl, e4, rfl⟩))
    go_ret
    exact ⟨rfl, by (repeat (first | exact Plus.refl _ | apply Plus.plus | apply Plus.alloc | apply Plus.drew))⟩

  | true =>
  rw [i1] at hO n1
  rw [Bool.true_and] at hO
  clear i1
  cases i2 : inT y with
  | false =>
    rw [i2] at hO n2
    obtain rfl : O = false := by rw [hO]; rfl
    replace hO := Lib.hid hO
    replace n1 := Lib.hid n1
    replace n2 := Lib.hid n2
    replace n3 := Lib.hid n3
    replace n4 := Lib.hid n4
    go_enter Try.func30, Try.ntmps30
    go_wp2_with (first | (go_at_call 46; (with_reducible refine (n1.out _).mono ?_); rintro e w' ⟨rfl, e1, rfl⟩) | (go_at_call 46; (with_reducible refine (n2.out _).mono ?_); rintro e w' ⟨rfl, e2, rfl⟩) | (go_at_call 46; (with_reducible refine (n3.out _).mono ?_); rintro e w' ⟨rfl, e3, rfl⟩) | (go_at_call 46; (with_reducible refine (n4.out _).mono ?_); rintro e w' ⟨rfl, e4, rfl⟩))
    go_ret
    exact ⟨rfl, by (repeat (first | exact Plus.refl _ | apply Plus.plus | apply Plus.alloc | apply Plus.drew))⟩

  | true =>
  rw [i2] at hO n2
  rw [Bool.true_and] at hO
  clear i2
  cases i3 : inT a with
  | false =>
    rw [i3] at hO n3
    obtain rfl : O = false := by rw [hO]; rfl
    replace hO := Lib.hid hO
    replace n1 := Lib.hid n1
    replace n2 := Lib.hid n2
    replace n3 := Lib.hid n3
    replace n4 := Lib.hid n4
    go_enter Try.func30, Try.ntmps30
    go_wp2_with (first | (go_at_call 46; (with_reducible refine (n1.out _).mono ?_); rintro e w' ⟨rfl, e1, rfl⟩) | (go_at_call 46; (with_reducible refine (n2.out _).mono ?_); rintro e w' ⟨rfl, e2, rfl⟩) | (go_at_call 46; (with_reducible refine (n3.out _).mono ?_); rintro e w' ⟨rfl, e3, rfl⟩) | (go_at_call 46; (with_reducible refine (n4.out _).mono ?_); rintro e w' ⟨rfl, e4, rfl⟩))
    go_ret
    exact ⟨rfl, by (repeat (first | exact Plus.refl _ | apply Plus.plus | apply Plus.alloc | apply Plus.drew))⟩

  | true =>
  rw [i3] at hO n3
  rw [Bool.true_and] at hO
  clear i3
  cases i4 : inT s with
  | false =>
    rw [i4] at hO n4
    obtain rfl : O = false := by rw [hO]; rfl
    replace hO := Lib.hid hO
    replace n1 := Lib.hid n1
    replace n2 := Lib.hid n2
    replace n3 := Lib.hid n3
    replace n4 := Lib.hid n4
    go_enter Try.func30, Try.ntmps30
    go_wp2_with (first | (go_at_call 46; (with_reducible refine (n1.out _).mono ?_); rintro e w' ⟨rfl, e1, rfl⟩) | (go_at_call 46; (with_reducible refine (n2.out _).mono ?_); rintro e w' ⟨rfl, e2, rfl⟩) | (go_at_call 46; (with_reducible refine (n3.out _).mono ?_); rintro e w' ⟨rfl, e3, rfl⟩) | (go_at_call 46; (with_reducible refine (n4.out _).mono ?_); rintro e w' ⟨rfl, e4, rfl⟩))
    go_ret
    exact ⟨rfl, by (repeat (first | exact Plus.refl _ | apply Plus.plus | apply Plus.alloc | apply Plus.drew))⟩

  | true =>
  rw [i4] at hO n4
  rw [Bool.true_and] at hO
  clear i4
  by_cases h5 : 65472 < t.size
  · obtain rfl : O = false := by rw [hO, decide_eq_false (by omega)]; rfl
    have h5i : (65472 : Int) < t.size := by omega
    have h5b : decide (65472 < t.size) = true := decide_eq_true h5
    replace hO := Lib.hid hO
    replace n1 := Lib.hid n1
    replace n2 := Lib.hid n2
    replace n3 := Lib.hid n3
    replace n4 := Lib.hid n4
    go_enter Try.func30, Try.ntmps30
    go_wp2_with (first | (go_at_call 46; (with_reducible refine (n1.out _).mono ?_); rintro e w' ⟨rfl, e1, rfl⟩) | (go_at_call 46; (with_reducible refine (n2.out _).mono ?_); rintro e w' ⟨rfl, e2, rfl⟩) | (go_at_call 46; (with_reducible refine (n3.out _).mono ?_); rintro e w' ⟨rfl, e3, rfl⟩) | (go_at_call 46; (with_reducible refine (n4.out _).mono ?_); rintro e w' ⟨rfl, e4, rfl⟩))
    go_ret
    exact ⟨rfl, by (repeat (first | exact Plus.refl _ | apply Plus.plus | apply Plus.alloc | apply Plus.drew))⟩

  have h5i : ¬ (65472 : Int) < t.size := by omega
  have h5b : decide (65472 < t.size) = false := decide_eq_false h5
  rw [decide_eq_true (show t.size ≤ 65472 by omega), Bool.true_and] at hO
  by_cases h6 : s = 0
  · by_cases h7 : t = ⟨#[]⟩
    · obtain rfl : O = true := by rw [hO]; simp [h7]
      subst h6 h7
      replace hO := Lib.hid hO
      replace n1 := Lib.hid n1
      replace n2 := Lib.hid n2
      replace n3 := Lib.hid n3
      replace n4 := Lib.hid n4
      go_enter Try.func30, Try.ntmps30
      go_wp2_with (first | (go_at_call 46; (with_reducible refine (n1.out _).mono ?_); rintro e w' ⟨rfl, e1, rfl⟩) | (go_at_call 46; (with_reducible refine (n2.out _).mono ?_); rintro e w' ⟨rfl, e2, rfl⟩) | (go_at_call 46; (with_reducible refine (n3.out _).mono ?_); rintro e w' ⟨rfl, e3, rfl⟩) | (go_at_call 46; (with_reducible refine (n4.out _).mono ?_); rintro e w' ⟨rfl, e4, rfl⟩))
      go_ret
      exact ⟨rfl, by (repeat (first | exact Plus.refl _ | apply Plus.plus | apply Plus.alloc | apply Plus.drew))⟩

    · obtain rfl : O = false := by rw [hO]; simp [h6, h7]
      have h7b : t.toList.isEmpty = false := by rw [Bool.eq_false_iff]; exact fun h => h7 ((empty_iff t).1 h)
      subst h6
      replace h7 := Lib.hid h7
      replace hO := Lib.hid hO
      replace n1 := Lib.hid n1
      replace n2 := Lib.hid n2
      replace n3 := Lib.hid n3
      replace n4 := Lib.hid n4
      go_enter Try.func30, Try.ntmps30
      go_wp2_with (first | (go_at_call 46; (with_reducible refine (n1.out _).mono ?_); rintro e w' ⟨rfl, e1, rfl⟩) | (go_at_call 46; (with_reducible refine (n2.out _).mono ?_); rintro e w' ⟨rfl, e2, rfl⟩) | (go_at_call 46; (with_reducible refine (n3.out _).mono ?_); rintro e w' ⟨rfl, e3, rfl⟩) | (go_at_call 46; (with_reducible refine (n4.out _).mono ?_); rintro e w' ⟨rfl, e4, rfl⟩))
      go_ret
      exact ⟨rfl, by (repeat (first | exact Plus.refl _ | apply Plus.plus | apply Plus.alloc | apply Plus.drew))⟩

  · obtain rfl : O = true := by rw [hO]; simp [h6]
    have h6b : (s == 0) = false := by rw [beq_eq_false_iff_ne]; exact h6
    replace hO := Lib.hid hO
    replace n1 := Lib.hid n1
    replace n2 := Lib.hid n2
    replace n3 := Lib.hid n3
    replace n4 := Lib.hid n4
    go_enter Try.func30, Try.ntmps30
    go_wp2_with (first | (go_at_call 46; (with_reducible refine (n1.out _).mono ?_); rintro e w' ⟨rfl, e1, rfl⟩) | (go_at_call 46; (with_reducible refine (n2.out _).mono ?_); rintro e w' ⟨rfl, e2, rfl⟩) | (go_at_call 46; (with_reducible refine (n3.out _).mono ?_); rintro e w' ⟨rfl, e3, rfl⟩) | (go_at_call 46; (with_reducible refine (n4.out _).mono ?_); rintro e w' ⟨rfl, e4, rfl⟩))
    go_ret
    exact ⟨rfl, by (repeat (first | exact Plus.refl _ | apply Plus.plus | apply Plus.alloc | apply Plus.drew))⟩

theorem new_bad (w : World) (m : Int) (h : m < 1 ∨ 1099511627776 < m) : Calls Try.prog 11 #[.int .i64 m] w fun e w' => e = .returned (.tuple #[.pointer none, .int .i64 1]) ∧ w.Plus w' := by
  by_cases h1 : m < 1
  · have h1b : decide (m < 1) = true := decide_eq_true h1
    go_enter Try.func11, Try.ntmps11
    go_wp2_with fail
    go_ret2
    exact ⟨rfl, by (repeat (first | exact Plus.refl _ | apply Plus.plus | apply Plus.alloc | apply Plus.drew))⟩
  · have h2 : 1099511627776 < m := by omega
    have h1b : decide (m < 1) = false := decide_eq_false h1
    go_enter Try.func11, Try.ntmps11
    go_wp2_with fail
    go_ret2
    exact ⟨rfl, by (repeat (first | exact Plus.refl _ | apply Plus.plus | apply Plus.alloc | apply Plus.drew))⟩
def NewCh (w : World) (m : Int) (e : Ending) (w' : World) : Prop := e = .returned (.tuple #[chV w.heap.size, .int .i64 0]) ∧ ChAt w' w.heap.size ⟨m, 0, 1, [], 0, false, false⟩ (fun k => k = w.heap.size) ∧ w.Plus w'
theorem new_any (w : World) (m : Int) (h : 1 ≤ m ∧ m ≤ 1099511627776) : Calls Try.prog 11 #[.int .i64 m] w (NewCh w m) := by
  have h1 : ¬ m < 1 := by omega
  have h2 : ¬ 1099511627776 < m := by omega
  clear h
  go_enter Try.func11, Try.ntmps11
  go_wp2_with fail
  go_ret2
  refine ⟨rfl, ⟨?_, ?_, rfl, ?_, ?_, ?_, ?_, ?_, ?_, ?_, none, 0, ?_, Sl.nil _ _, fun g hg => by cases hg⟩, by (repeat (first | exact Plus.refl _ | apply Plus.plus | apply Plus.alloc | apply Plus.drew))⟩
  all_goals simp [go_sem]
section
variable (w : World) (N : Nat) (c : Ch) (S : Nat → Prop)
theorem epochs_any (h : ChAt w N c S) : Calls Try.prog 22 #[chV N] w fun e w' => e = .returned (.tuple #[.int .i64 c.mine, .int .i64 c.yours]) ∧ w.Plus w' := by
  obtain ⟨lt, sub, own, c0, c1, c2, c4, c5, c6, hf, A, cap, c3, hs, hg⟩ := h
  haveI : InW N w := ⟨lt⟩
  go_enter Try.func22, Try.ntmps22
  go_upto_region 3 with fail
  refine wp_region_grow (by kernel_rfl) (by kernel_rfl) ?_
  repeat (go_big_quiet_step (fail))
  refine wpQuiet_nil ?_
  intro ex
  go_wp2_with fail
  go_ret2
  exact ⟨rfl, by (repeat (first | exact Plus.refl _ | apply Plus.plus | apply Plus.alloc | apply Plus.drew))⟩
theorem waiting_any (h : ChAt w N c S) (hl : c.wait.length ≤ 1000000) : Calls Try.prog 16 #[chV N] w fun e w' => e = .returned (.int .i64 (c.wait.length : Int)) ∧ w.Plus w' := by
  obtain ⟨lt, sub, own, c0, c1, c2, c4, c5, c6, hf, A, cap, c3, hs, hg⟩ := h
  haveI : InW N w := ⟨lt⟩
  go_enter Try.func16, Try.ntmps16
  go_wp2_with fail
  go_ret
  exact ⟨rfl, by (repeat (first | exact Plus.refl _ | apply Plus.plus | apply Plus.alloc | apply Plus.drew))⟩
end
end Go.Proofs.Ytpmebmbibajcoaa
