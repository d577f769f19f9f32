/- fixed: products and quotients: plain laws. -/
import Derived.Test.YtndbcjgbcplgcaaDoorFixP
set_option linter.unusedSimpArgs false
set_option linter.unusedVariables false
namespace Go.Proofs.YtndbcjgbcplgcaaDoor
open Go.RowKit
theorem mul_in {x y : Int} {a b : Nat} (hx : -(a : Int) ≤ x ∧ x ≤ a) (hy : -(b : Int) ≤ y ∧ y ≤ b) : -((a * b : Nat) : Int) ≤ x * y ∧ x * y ≤ ((a * b : Nat) : Int) := by
  have h1 : x.natAbs * y.natAbs ≤ a * b := Nat.mul_le_mul (by omega) (by omega)
  rw [← Int.natAbs_mul] at h1
  omega
theorem fcl_mul_in (a b : Int) : -1152921504606846976 ≤ fcl a * fcl b ∧ fcl a * fcl b ≤ 1152921504606846976 :=
  mul_in (a := 1073741824) (b := 1073741824) (fcl_in a) (fcl_in b)
def fmul (a b : Int) : Int := fcl (fcl a * fcl b / 256)
/-- the greatest whole number that is not above the quotient -/
structure IsDiv (A B q : Int) : Prop where
  pos : 0 < B → B * q ≤ A ∧ A < B * (q + 1)
  neg : B < 0 → A ≤ B * q ∧ B * (q + 1) < A
theorem IsDiv.eq {A B q q' : Int} (h : IsDiv A B q) (h' : IsDiv A B q') (hB : B ≠ 0) : q = q' := by
  have le : ∀ {q q' : Int}, IsDiv A B q → IsDiv A B q' → q ≤ q' := fun {q q'} h h' => by
    rcases Int.lt_or_gt_of_ne hB with hB | hB
    · have h1 := h.neg hB
      have h2 := h'.neg hB
      have h3 : (-B) * q < (-B) * (q' + 1) := by rw [Int.neg_mul, Int.neg_mul]; omega
      have := Int.lt_of_mul_lt_mul_left h3 (by omega)
      omega
    · have h1 := h.pos hB
      have h2 := h'.pos hB
      have h3 : B * q < B * (q' + 1) := by omega
      have := Int.lt_of_mul_lt_mul_left h3 (by omega)
      omega
  exact Int.le_antisymm (le h h') (le h' h)
def qd (A B : Int) : Int := if A.tmod B ≠ 0 ∧ ¬ (A < 0 ↔ B < 0) then A.tdiv B - 1 else A.tdiv B
theorem tmod_abs (A B : Int) (hB : B ≠ 0) (h : 0 ≤ A) : A.tmod B < B.natAbs := by
  rcases Int.lt_or_gt_of_ne hB with hB | hB
  · have := Int.tmod_lt_of_pos A (show 0 < -B by omega)
    rw [Int.tmod_neg] at this
    omega
  · have := Int.tmod_lt_of_pos A hB
    omega
theorem tmod_facts (A B : Int) (hB : B ≠ 0) : B * A.tdiv B + A.tmod B = A ∧ (0 ≤ A → 0 ≤ A.tmod B ∧ A.tmod B < B.natAbs) ∧ (A ≤ 0 → A.tmod B ≤ 0 ∧ -(B.natAbs : Int) < A.tmod B) := by
  refine ⟨Int.mul_tdiv_add_tmod A B, fun h => ⟨Int.tmod_nonneg B h, ?_⟩, fun h => ?_⟩
  · exact tmod_abs A B hB h
  · have h1 := Int.tmod_nonneg B (show 0 ≤ -A by omega)
    have h2 := tmod_abs (-A) B hB (by omega)
    rw [Int.neg_tmod] at h1 h2
    omega
theorem qd_is (A B : Int) (hB : B ≠ 0) : IsDiv A B (qd A B) := by
  obtain ⟨h1, h2, h3⟩ := tmod_facts A B hB
  unfold qd
  generalize A.tdiv B = q at *
  generalize A.tmod B = r at *
  split
  · rename_i h
    constructor
    · intro hp
      rw [Int.mul_sub, Int.sub_add_cancel]
      generalize B * q = p at *
      constructor <;> omega
    · intro hp
      rw [Int.mul_sub, Int.sub_add_cancel]
      generalize B * q = p at *
      constructor <;> omega
  · rename_i h
    constructor
    · intro hp
      rw [Int.mul_add]
      generalize B * q = p at *
      constructor <;> omega
    · intro hp
      rw [Int.mul_add]
      generalize B * q = p at *
      constructor <;> omega
theorem qd_in (A B : Int) (hB : B ≠ 0) (h : -274877906944 ≤ A ∧ A ≤ 274877906944) : -274877906945 ≤ qd A B ∧ qd A B ≤ 274877906944 ∧ -274877906944 ≤ A.tdiv B ∧ A.tdiv B ≤ 274877906944 := by
  have h1 : (A.tdiv B).natAbs ≤ A.natAbs := by rw [Int.natAbs_tdiv]; exact Nat.div_le_self _ _
  unfold qd
  split <;> omega
/-- what Div answers -/
def fdivV (a b : Int) : Int × Int := if fcl b = 0 then (0, 11) else (fcl (qd (fcl a * 256) (fcl b)), 0)
theorem qd_256 (x : Int) : qd (x * 256) 256 = x := by
  have h := qd_is (x * 256) 256 (by decide)
  refine h.eq ⟨fun _ => ⟨by omega, by omega⟩, fun h => by omega⟩ (by decide)
theorem fmul_unit (n : Int) : fmul n 256 = fcl n := by
  unfold fmul
  rw [show fcl 256 = 256 from rfl, Int.mul_ediv_cancel _ (by decide), fcl_fcl]
theorem fdiv_unit (n : Int) : fdivV n 256 = (fcl n, 0) := by
  unfold fdivV
  rw [show fcl 256 = 256 from rfl, if_neg (by decide), qd_256, fcl_fcl]
/-- the reference's product -/
theorem ref_mul (p : Int) : (p - (if p.tmod 256 < 0 then p.tmod 256 + 256 else p.tmod 256)).tdiv 256 = p / 256 := by
  have h1 := Int.mul_tdiv_add_tmod p 256
  have h2 : (p.tmod 256 < 0 → p.tmod 256 + 256 = p % 256) ∧ (0 ≤ p.tmod 256 → p.tmod 256 = p % 256) := by
    obtain ⟨h1, h2, h3⟩ := tmod_facts p 256 (by decide)
    constructor
    · intro h; omega
    · intro h; omega
  have h3 : (if p.tmod 256 < 0 then p.tmod 256 + 256 else p.tmod 256) = p % 256 := by
    split
    · exact h2.1 (by assumption)
    · exact h2.2 (by omega)
  rw [h3, show p - p % 256 = (p / 256) * 256 by omega, Int.mul_tdiv_cancel _ (by decide)]
/-- is a number not above a quotient? -/
def belowB (q b n : Int) : Bool := if 0 < b then decide (b * q ≤ n) else decide (n ≤ b * q)
theorem IsDiv.of_below {A B q : Int} (hB : B ≠ 0) (h1 : belowB q B A = true) (h2 : belowB (q + 1) B A = false) : IsDiv A B q := by
  unfold belowB at h1 h2
  constructor
  · intro h
    rw [if_pos h] at h1 h2
    simp at h1 h2
    exact ⟨h1, h2⟩
  · intro h
    rw [if_neg (by omega)] at h1 h2
    simp at h1 h2
    exact ⟨h1, h2⟩
theorem below_lo {A B h m : Int} (hm : 0 ≤ m) (hB : B ≠ 0) (hb : m ≤ B ∨ B ≤ -m) (hA : -274877906944 ≤ A ∧ A ≤ 274877906944) (hh : h ≤ 0) (hk : m * (-h) ≥ 274877906944 ∧ m ≥ 1) : belowB h B A = true := by
  unfold belowB
  split
  · have h2 : m * (-h) ≤ B * (-h) := Int.mul_le_mul_of_nonneg_right (by omega) (by omega)
    rw [Int.mul_neg, Int.mul_neg] at h2
    rw [Int.mul_neg] at hk
    simp; omega
  · have h2 : m * (-h) ≤ (-B) * (-h) := Int.mul_le_mul_of_nonneg_right (by omega) (by omega)
    rw [Int.mul_neg, Int.neg_mul_neg] at h2
    rw [Int.mul_neg] at hk
    simp; omega
theorem below_hi {A B h m : Int} (hm : 0 ≤ m) (hB : B ≠ 0) (hb : m ≤ B ∨ B ≤ -m) (hA : -274877906944 ≤ A ∧ A ≤ 274877906944) (hh : 0 ≤ h) (hk : m * h > 274877906944 ∧ m ≥ 1) : belowB h B A = false := by
  unfold belowB
  split
  · have h2 : m * h ≤ B * h := Int.mul_le_mul_of_nonneg_right (by omega) (by omega)
    simp; omega
  · have h2 : m * h ≤ (-B) * h := Int.mul_le_mul_of_nonneg_right (by omega) (by omega)
    rw [Int.neg_mul] at h2
    simp; omega
theorem fmul_mono {a b c : Int} (h : a ≤ b) (hc : 0 ≤ c) : fmul a c ≤ fmul b c := by
  unfold fmul
  apply fcl_mono
  have h1 : fcl a * fcl c ≤ fcl b * fcl c := Int.mul_le_mul_of_nonneg_right (fcl_mono h) (by unfold fcl; omega)
  generalize fcl a * fcl c = x at *
  generalize fcl b * fcl c = y at *
  omega
def fadd (l : List Int) : Int := l.foldl (fun s x => fcl (s + fcl x)) 0
end Go.Proofs.YtndbcjgbcplgcaaDoor
