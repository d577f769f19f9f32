/- the reference's Read: plain laws. -/
import Derived.Test.YtndbcjgbcplgcaaDoorFixP
set_option linter.unusedSimpArgs false
set_option linter.unusedVariables false
namespace Go.Proofs.YtndbcjgbcplgcaaDoor
open Go.RowKit
/-- how far the reference has read -/
structure Rst where
  n : Int
  f : Int
  u : Int
  p : Bool
def dv (c : UInt8) : Int := (c.toNat : Int) - 48
def refGo : List UInt8 → Nat → Rst → Option Rst
  | [], _, st => some st
  | c :: l, i, st =>
    if c = 46 ∧ st.p = false then refGo l (i + 1) { st with p := true }
    else if isDig c = false ∨ 16 < i then none
    else if st.p = false then refGo l (i + 1) { st with n := wrap64 (10 * st.n + 256 * dv c) }
    else refGo l (i + 1) { st with f := wrap64 (10 * st.f + dv c * 256), u := wrap64 (st.u * 10) }
def rst0 : Rst := ⟨0, 0, 256, false⟩
def sgnR (l : List UInt8) (m : Int) : Int := if l.head? = some 45 then wrap64 (-m) else m
def valR (st : Rst) : Int := st.n + st.f / (st.u / 256)
/-- what the reference's Read answers -/
def readR (l : List UInt8) : Int × Int :=
  match refGo (bare l) 0 rst0 with
  | none => (0, 2)
  | some st => if 1073741824 < st.n then (0, 2) else if showL (sgnR l (valR st)) = l then (sgnR l (valR st), 0) else (0, 2)
theorem dv_dig {c : UInt8} (h : isDig c = true) : 0 ≤ dv c ∧ dv c ≤ 9 ∧ dv c = ((c.toNat - 48 : Nat) : Int) := by
  unfold isDig at h
  simp only [Bool.and_eq_true, decide_eq_true_eq] at h
  unfold dv
  omega
theorem isDig_ne46 {c : UInt8} (h : isDig c = true) : c ≠ 46 := by
  rintro rfl
  exact absurd h (by decide)
theorem refGo_whole : ∀ (q r : List UInt8) (i a k : Nat) (f u : Int), q.all isDig = true → a < 10 ^ k → k + q.length ≤ 7 → i + q.length ≤ 16 →
    refGo (q ++ r) i ⟨256 * (a : Int), f, u, false⟩ = refGo r (i + q.length) ⟨256 * ((q.foldl (fun a c => 10 * a + (c.toNat - 48)) a : Nat) : Int), f, u, false⟩
  | [], r, i, a, k, f, u, _, _, _, _ => rfl
  | c :: q, r, i, a, k, f, u, hd, ha, hk, hi => by
    simp only [List.all_cons, Bool.and_eq_true] at hd
    obtain ⟨d0, d1, d2⟩ := dv_dig hd.1
    simp only [List.length_cons] at hk hi
    have h7 : 10 ^ k ≤ 10 ^ 6 := Nat.pow_le_pow_right (by decide) (by omega)
    have hw : wrap64 (10 * (256 * (a : Int)) + 256 * dv c) = 256 * ((10 * a + (c.toNat - 48) : Nat) : Int) := by
      simp only [wrap64]
      omega
    simp only [List.cons_append, refGo]
    rw [if_neg (fun h => isDig_ne46 hd.1 h.1), if_neg (by rw [hd.1]; simp; omega), if_pos trivial, hw]
    rw [refGo_whole q r (i + 1) (10 * a + (c.toNat - 48)) (k + 1) f u hd.2 (by rw [Nat.pow_succ]; omega) (by omega) (by omega)]
    simp only [List.length_cons, List.foldl_cons]
    rw [show i + 1 + q.length = i + (q.length + 1) by omega]
theorem refGo_part : ∀ (q : List UInt8) (i b k : Nat) (n : Int), q.all isDig = true → b < 10 ^ k → k + q.length ≤ 8 → i + q.length ≤ 16 →
    refGo q i ⟨n, 256 * (b : Int), 256 * ((10 ^ k : Nat) : Int), true⟩ = some ⟨n, 256 * ((q.foldl (fun a c => 10 * a + (c.toNat - 48)) b : Nat) : Int), 256 * ((10 ^ (k + q.length) : Nat) : Int), true⟩
  | [], i, b, k, n, _, _, _, _ => rfl
  | c :: q, i, b, k, n, hd, hb, hk, hi => by
    simp only [List.all_cons, Bool.and_eq_true] at hd
    obtain ⟨d0, d1, d2⟩ := dv_dig hd.1
    simp only [List.length_cons] at hk hi
    have h7 : 10 ^ k ≤ 10 ^ 7 := Nat.pow_le_pow_right (by decide) (by omega)
    have hw : wrap64 (10 * (256 * (b : Int)) + dv c * 256) = 256 * ((10 * b + (c.toNat - 48) : Nat) : Int) := by
      simp only [wrap64]
      omega
    have hu : wrap64 (256 * ((10 ^ k : Nat) : Int) * 10) = 256 * ((10 ^ (k + 1) : Nat) : Int) := by
      rw [Nat.pow_succ]
      generalize 10 ^ k = p at *
      simp only [wrap64]
      omega
    simp only [refGo]
    rw [if_neg (fun h => isDig_ne46 hd.1 h.1), if_neg (by rw [hd.1]; simp; omega), if_neg (by simp), hw, hu]
    rw [refGo_part q (i + 1) (10 * b + (c.toNat - 48)) (k + 1) n hd.2 (by rw [Nat.pow_succ]; omega) (by omega) (by omega)]
    simp only [List.length_cons, List.foldl_cons]
    rw [show k + 1 + q.length = k + (q.length + 1) by omega]
theorem refGo_show (n : Nat) (h : n ≤ 1073741824) : ∃ st, refGo (showN n) 0 rst0 = some st ∧ st.n ≤ 1073741824 ∧ valR st = n := by
  have hq := dec_dig (n / 256)
  have hl := dec_len7 (n := n / 256) (by omega)
  have hn := numl_dec (n := n / 256) (by omega)
  have hw : ∀ r, refGo (dec (n / 256) ++ r) 0 rst0 = refGo r (0 + (dec (n / 256)).length) ⟨256 * (n / 256 : Nat), 0, 256, false⟩ := fun r => by
    have := refGo_whole (dec (n / 256)) r 0 0 0 0 256 hq (by decide) (by omega) (by omega)
    unfold numl at hn
    rw [hn] at this
    exact this
  unfold showN
  by_cases h0 : n % 256 = 0
  · rw [if_pos h0]
    have := hw []
    rw [List.append_nil] at this
    rw [this]
    refine ⟨_, rfl, by simp only; omega, ?_⟩
    unfold valR
    simp
    omega
  · obtain ⟨f1, f2, _, f4, _⟩ := frac_facts (n % 256) (by omega)
    rw [if_neg h0, hw]
    simp only [refGo]
    have := refGo_part (frac (n % 256)) (0 + (dec (n / 256)).length + 1) 0 0 (256 * (n / 256 : Nat)) f2 (by decide) (by omega) (by omega)
    simp only [Nat.pow_zero, Nat.zero_add] at this
    simp only [true_and, and_true, if_true]
    simp only [Nat.zero_add]
    refine ⟨_, this, by simp only; omega, ?_⟩
    unfold valR
    simp only
    unfold numl at f4
    have e1 : (256 : Int) * ((10 ^ (frac (n % 256)).length : Nat) : Int) / 256 = ((10 ^ (frac (n % 256)).length : Nat) : Int) := by omega
    rw [e1]
    generalize List.foldl (fun a c => 10 * a + (c.toNat - 48)) 0 (frac (n % 256)) = z at *
    generalize 10 ^ (frac (n % 256)).length = p at *
    have e2 : (256 : Int) * (z : Int) / (p : Int) = ((256 * z / p : Nat) : Int) := by simp
    rw [e2, f4]
    omega
theorem readR_show (m : Int) (h1 : -1073741824 ≤ m) (h2 : m ≤ 1073741824) : readR (showL m) = (m, 0) := by
  have hc := fcl_id h1 h2
  have hb : bare (showL m) = showN m.natAbs ∧ (sgnR (showL m) (m.natAbs : Int) = m) := by
    unfold showL
    rw [hc]
    by_cases hn : m < 0
    · rw [if_pos hn]
      refine ⟨?_, ?_⟩
      · unfold bare; simp; congr 1; omega
      · unfold sgnR; simp [wrap64]; omega
    · rw [if_neg hn]
      have := showN_head m.toNat
      refine ⟨?_, ?_⟩
      · unfold bare; rw [if_neg this]; congr 1; omega
      · unfold sgnR; rw [if_neg this]; omega
  obtain ⟨hb1, hb2⟩ := hb
  obtain ⟨st, g1, g2, g3⟩ := refGo_show m.natAbs (by omega)
  unfold readR
  rw [hb1, g1]
  simp only
  rw [if_neg (by omega), g3, hb2, if_pos rfl]
theorem readR_or (l : List UInt8) : readR l = (0, 2) ∨ ∃ v, showL v = l := by
  unfold readR
  split
  · exact .inl rfl
  · split
    · exact .inl rfl
    · split
      · exact .inr ⟨_, by assumption⟩
      · exact .inl rfl
theorem readR_eq (l : List UInt8) : readR l = readP l := read_only readR readR_show readR_or l
/-- the ground under the reference's division -/
structure Rst.Ok (st : Rst) (k : Nat) : Prop where
  u : ∃ j b : Nat, st.u = 256 * ((10 ^ j : Nat) : Int) ∧ st.f = 256 * (b : Int) ∧ b < 10 ^ j ∧ j ≤ 16 ∧ (st.p = true → j + 1 ≤ k) ∧ (st.p = false → j = 0 ∧ b = 0)
  n : -9223372036854775808 ≤ st.n ∧ st.n ≤ 9223372036854775807
theorem rst0_ok : rst0.Ok 0 := ⟨⟨0, 0, rfl, rfl, by decide, by decide, by decide, fun _ => ⟨rfl, rfl⟩⟩, by decide, by decide⟩
theorem w64_in (n : Int) : -9223372036854775808 ≤ wrap64 n ∧ wrap64 n ≤ 9223372036854775807 := by simp only [wrap64]; omega
theorem Rst.Ok.dot {st : Rst} {k : Nat} (h : st.Ok k) (hp : st.p = false) : ({ st with p := true } : Rst).Ok (k + 1) := by
  obtain ⟨⟨j, b, h1, h2, h3, h16, h4, h5⟩, hn⟩ := h
  obtain ⟨rfl, h6⟩ := h5 hp
  exact ⟨⟨0, b, h1, h2, h3, by omega, fun _ => by omega, fun h => by cases h⟩, hn⟩
theorem Rst.Ok.whole {st : Rst} {k : Nat} (h : st.Ok k) (x : Int) : ({ st with n := wrap64 x } : Rst).Ok (k + 1) := by
  obtain ⟨⟨j, b, h1, h2, h3, h16, h4, h5⟩, hn⟩ := h
  exact ⟨⟨j, b, h1, h2, h3, h16, fun h => by have := h4 h; omega, h5⟩, w64_in x⟩
theorem Rst.Ok.part {st : Rst} {k : Nat} (h : st.Ok k) (hp : st.p = true) (hk : k ≤ 16) (c : UInt8) (hc : isDig c = true) :
    ({ st with f := wrap64 (10 * st.f + dv c * 256), u := wrap64 (st.u * 10) } : Rst).Ok (k + 1) := by
  obtain ⟨⟨j, b, h1, h2, h3, h16, h4, h5⟩, hn⟩ := h
  have hj := h4 hp
  obtain ⟨d0, d1, d2⟩ := dv_dig hc
  have h15 : 10 ^ j ≤ 10 ^ 15 := Nat.pow_le_pow_right (by decide) (by omega)
  have hp10 : 10 ^ (j + 1) = 10 ^ j * 10 := Nat.pow_succ ..
  generalize 10 ^ j = p at *
  have hw1 : wrap64 (10 * st.f + dv c * 256) = 10 * st.f + dv c * 256 := w64_id (by omega) (by omega)
  have hw2 : wrap64 (st.u * 10) = st.u * 10 := w64_id (by omega) (by omega)
  exact ⟨⟨j + 1, 10 * b + (c.toNat - 48), by simp only [hw2, hp10]; omega, by simp only [hw1]; omega, by simp only [hp10]; omega, by omega, fun _ => by omega, fun h => by simp only at h; rw [hp] at h; cases h⟩, hn⟩
theorem Rst.Ok.div {st : Rst} {k : Nat} (h : st.Ok k) : 1 ≤ st.u / 256 ∧ st.u / 256 ≤ 10000000000000000 ∧ 0 ≤ st.u ∧ 0 ≤ st.f ∧ st.f ≤ 2560000000000000000 ∧ 0 ≤ st.f / (st.u / 256) ∧ st.f / (st.u / 256) ≤ 256 := by
  obtain ⟨⟨j, b, h1, h2, h3, h16, h4, h5⟩, hn⟩ := h
  have h18 : 10 ^ j ≤ 10 ^ 16 := Nat.pow_le_pow_right (by decide) h16
  have h17 : 0 < 10 ^ j := Nat.pow_pos (by decide)
  have e1 : st.u / 256 = ((10 ^ j : Nat) : Int) := by omega
  rw [e1]
  generalize 10 ^ j = p at *
  refine ⟨by omega, by omega, by omega, by omega, by omega, ?_, ?_⟩
  · exact Int.ediv_nonneg (by omega) (by omega)
  · have := Int.ediv_lt_of_lt_mul (a := st.f) (b := 256) (c := (p : Int)) (by omega) (by omega)
    omega
end Go.Proofs.YtndbcjgbcplgcaaDoor
