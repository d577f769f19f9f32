/- zones: plain facts of zones and points. -/
import Derived.Test.YteaikedgbgdcnaaZonesD
set_option linter.unusedSimpArgs false
set_option linter.unusedVariables false
namespace Go.Proofs.Yteaikedgbgdcnaa
open Go.RowKit
/-- the zone of a point; -1: it lies outside -/
def ofI (a b s x y : Int) : Int := if 0 ≤ x ∧ x < a * s ∧ 0 ≤ y ∧ y < b * s then y / s * a + x / s else -1
theorem four {a : Int} (h1 : 1 ≤ a) (h4 : a ≤ 4) : a = 1 ∨ a = 2 ∨ a = 3 ∨ a = 4 := by omega
theorem quo_iff {s x u : Int} (hs : 0 < s) : x / s = u ↔ u * s ≤ x ∧ x < u * s + s := by
  have h1 : u ≤ x / s ↔ u * s ≤ x := Int.le_ediv_iff_mul_le hs
  have h2 : x / s < u + 1 ↔ x < (u + 1) * s := Int.ediv_lt_iff_lt_mul hs
  rw [Int.add_mul, Int.one_mul] at h2
  omega
theorem in_axis {a s x : Int} (hs : 0 < s) : (0 ≤ x ∧ x < a * s) ↔ (0 ≤ x / s ∧ x / s < a) := by
  have h1 : 0 ≤ x / s ↔ 0 * s ≤ x := Int.le_ediv_iff_mul_le hs
  have h2 : x / s < a ↔ x < a * s := Int.ediv_lt_iff_lt_mul hs
  omega
/-- a zone has a point just where the point's zone is that one -/
theorem zone_iff {a b s r : Int} (ho : Okk a b s r) (x y i : Int) (h0 : 0 ≤ i) (h1 : i < a * b) :
    ofI a b s x y = i ↔ (i % a * s ≤ x ∧ x < i % a * s + s) ∧ (i / a * s ≤ y ∧ y < i / a * s + s) := by
  have hs : 0 < s := by have := ho.s1; omega
  rw [← quo_iff hs, ← quo_iff hs]
  have hx := in_axis (a := a) (x := x) hs
  have hy := in_axis (a := b) (x := y) hs
  unfold ofI
  rcases four ho.a1 ho.a4 with rfl | rfl | rfl | rfl <;> rcases four ho.b1 ho.b4 with rfl | rfl | rfl | rfl <;> split <;> omega
theorem of_range {a b s r : Int} (ho : Okk a b s r) (x y : Int) : (0 ≤ ofI a b s x y ∧ ofI a b s x y < a * b) ∨ ofI a b s x y = -1 := by
  have hs : 0 < s := by have := ho.s1; omega
  have hx := in_axis (a := a) (x := x) hs
  have hy := in_axis (a := b) (x := y) hs
  unfold ofI
  rcases four ho.a1 ho.a4 with rfl | rfl | rfl | rfl <;> rcases four ho.b1 ho.b4 with rfl | rfl | rfl | rfl <;> split <;> omega
theorem of_neg {a b s r : Int} (ho : Okk a b s r) (x y : Int) : ofI a b s x y = -1 ↔ ¬ (0 ≤ x ∧ x < a * s ∧ 0 ≤ y ∧ y < b * s) := by
  have hs : 0 < s := by have := ho.s1; omega
  have hx := in_axis (a := a) (x := x) hs
  have hy := in_axis (a := b) (x := y) hs
  unfold ofI
  rcases four ho.a1 ho.a4 with rfl | rfl | rfl | rfl <;> rcases four ho.b1 ho.b4 with rfl | rfl | rfl | rfl <;> split <;> omega
/-- the edges of a zone -/
theorem zone_bd {a b s r : Int} (ho : Okk a b s r) {i : Int} (h0 : 0 ≤ i) (h1 : i < a * b) :
    (0 ≤ i % a * s ∧ i % a * s ≤ 3145728) ∧ (0 ≤ i / a * s ∧ i / a * s ≤ 3145728) := by
  have hd := divs ho.a1 ho.a4 ho.b1 ho.b4 h0 h1
  exact ⟨mul4 hd.1 (by have := ho.a4; omega) ho.s1 ho.s2, mul4 hd.2.2.1 (by have := ho.b4; omega) ho.s1 ho.s2⟩
theorem gap_zero {p q u v : Int} (x y : Int) (h1 : 0 ≤ p ∧ p < u ∧ u ≤ 9000000) (h2 : 0 ≤ q ∧ q < v ∧ v ≤ 9000000) :
    gapI p q u v x y = 0 ↔ (p ≤ x ∧ x < u) ∧ (q ≤ y ∧ y < v) := by
  have c1 : clamp p = p := by unfold clamp; omega
  have c2 : clamp q = q := by unfold clamp; omega
  have c3 : clamp u = u := by unfold clamp; omega
  have c4 : clamp v = v := by unfold clamp; omega
  unfold gapI
  rw [c1, c2, c3, c4, if_pos ⟨h1.2.1, h2.2.1⟩]
  unfold offI clamp
  omega
theorem has_zero {p q u v : Int} (x y : Int) (h1 : 0 ≤ p ∧ p < u ∧ u ≤ 9000000) (h2 : 0 ≤ q ∧ q < v ∧ v ≤ 9000000) :
    hasB p q u v x y = decide ((p ≤ x ∧ x < u) ∧ (q ≤ y ∧ y < v)) := by
  unfold hasB clamp
  rw [decide_eq_decide]
  omega
theorem zone_has {a b s r : Int} (ho : Okk a b s r) (x y i : Int) (h0 : 0 ≤ i) (h1 : i < a * b) :
    hasB (zoneI a b s i).a (zoneI a b s i).b (zoneI a b s i).c (zoneI a b s i).d x y = decide (ofI a b s x y = i) := by
  have hb := zone_bd ho h0 h1
  have s1 := ho.s1
  have s2 := ho.s2
  have hz : zoneI a b s i = ⟨i % a * s, i / a * s, i % a * s + s, i / a * s + s⟩ := if_pos ⟨h0, h1⟩
  rw [hz]
  simp only
  rw [has_zero x y (by omega) (by omega), decide_eq_decide, zone_iff ho x y i h0 h1]
theorem zone_gap {a b s r : Int} (ho : Okk a b s r) (x y i : Int) (h0 : 0 ≤ i) (h1 : i < a * b) :
    gapI (zoneI a b s i).a (zoneI a b s i).b (zoneI a b s i).c (zoneI a b s i).d x y = 0 ↔ ofI a b s x y = i := by
  have hb := zone_bd ho h0 h1
  have s1 := ho.s1
  have s2 := ho.s2
  have hz : zoneI a b s i = ⟨i % a * s, i / a * s, i % a * s + s, i / a * s + s⟩ := if_pos ⟨h0, h1⟩
  rw [hz]
  simp only
  rw [gap_zero x y (by omega) (by omega), zone_iff ho x y i h0 h1]
theorem zone_gap_nn {a b s r : Int} (ho : Okk a b s r) (x y i : Int) (h0 : 0 ≤ i) (h1 : i < a * b) :
    0 ≤ gapI (zoneI a b s i).a (zoneI a b s i).b (zoneI a b s i).c (zoneI a b s i).d x y := by
  have hb := zone_bd ho h0 h1
  have s1 := ho.s1
  have s2 := ho.s2
  have hz : zoneI a b s i = ⟨i % a * s, i / a * s, i % a * s + s, i / a * s + s⟩ := if_pos ⟨h0, h1⟩
  rw [hz]
  generalize i % a * s = p at *
  generalize i / a * s = q at *
  have c1 : clamp p = p := by unfold clamp; omega
  have c2 : clamp q = q := by unfold clamp; omega
  have c3 : clamp (p + s) = p + s := by unfold clamp; omega
  have c4 : clamp (q + s) = q + s := by unfold clamp; omega
  unfold gapI
  simp only
  rw [c1, c2, c3, c4, if_pos (by omega)]
  unfold offI
  omega
end Go.Proofs.Yteaikedgbgdcnaa
