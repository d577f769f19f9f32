/- zones: the reference's Of, same, has, Beside: walks. -/
import Derived.Test.YteaikedgbgdcnaaZonesE
import Derived.Test.YteaikedgbgdcnaaOwn
set_option linter.unusedSimpArgs false
set_option linter.unusedVariables false
namespace Go.Proofs.Yteaikedgbgdcnaa
open Go.RowKit
theorem infoInt : (Try.prog.info? 3).map (fun i => (i.zero, i.size, i.bytes)) = some (some (.int .i64 0), 1, 8) := by kernel_rfl
theorem underInts : Try.prog.underlying 39 = some (.slice 3) := by kernel_rfl
theorem one_new {w : World} {g : Nat} {u : Value} (h : w.cell? ⟨g, 0, none⟩ = some u) : ∀ j v, [u][j]? = some v → w.cell? ((⟨g, 0, none⟩ : Addr).add j) = some v := by
  intro j v hj
  match j, hj with
  | 0, hj => simp at hj; subst hj; simpa [Addr.add] using h
abbrev intAt (xs : List Int) : Nat → Nat → Value := fun i _ => .int .i64 (xs.getD i 0)
/-- those of the first m numbers that are asked for -/
def pick (P : Int → Bool) (m : Nat) : List Int := ((List.range m).filter fun i : Nat => P (i : Int)).map fun i : Nat => (i : Int)
theorem pick_yes {P : Int → Bool} {k : Nat} (h : P k = true) : pick P (k + 1) = pick P k ++ [(k : Int)] := by simp [pick, List.range_succ, h]
theorem pick_no {P : Int → Bool} {k : Nat} (h : P k = false) : pick P (k + 1) = pick P k := by simp [pick, List.range_succ, h]
theorem pick_len (P : Int → Bool) (k : Nat) : (pick P k).length ≤ k := by
  unfold pick
  rw [List.length_map]
  exact Nat.le_trans (List.length_filter_le _ _) (by simp)
theorem pick_mem {P : Int → Bool} {m : Nat} {i : Int} : i ∈ pick P m ↔ (0 ≤ i ∧ i < m) ∧ P i = true := by
  unfold pick
  simp only [List.mem_map, List.mem_filter, List.mem_range]
  constructor
  · rintro ⟨j, ⟨h1, h2⟩, rfl⟩
    exact ⟨by omega, h2⟩
  · rintro ⟨⟨h1, h2⟩, h3⟩
    exact ⟨i.toNat, ⟨by omega, by rw [Int.toNat_of_nonneg h1]; exact h3⟩, Int.toNat_of_nonneg h1⟩
theorem pick_congr {P Q : Int → Bool} {m : Nat} (h : ∀ i : Nat, i < m → P i = Q i) : pick P m = pick Q m := by
  unfold pick
  congr 1
  exact List.filter_congr fun i hi => h i (by simpa using hi)
/-- what a call leaves that answers a list of numbers -/
def Left (w : World) (l : List Int) (e : Ending) (w' : World) : Prop :=
  ∃ A c, e = .returned (.slice A l.length c) ∧ RowsAt w' A 1 l.length (intAt l) ∧ w.Plus w'
theorem left_of {w w' : World} {base : Nat} {l : List Int} {e : Ending} {v : Value} (he : e = .returned v) (hown : w'.ownsRow base 3 1 v l.length (l.map (Value.int .i64))) (hp : w.Plus w') : Left w l e w' := by
  obtain ⟨A, c, rfl, hr⟩ := hown.rows (intAt l) (fun i hi => by simp [intAt, hi])
  exact ⟨A, c, he, hr, hp⟩
section
variable (w : World)
theorem same_any (xs ys : List Int) (A B : Option Addr) (c d : Nat) (hn : xs.length ≤ 100) (hm : ys.length ≤ 100) (ha : RowsAt w A 1 xs.length (intAt xs)) (hb : RowsAt w B 1 ys.length (intAt ys)) (h : xs = ys) :
    Calls Try.prog 20 #[.slice A xs.length c, .slice B ys.length d] w fun e w' => e = .returned (.bool true) ∧ w.Plus w' := by
  subst h
  clear hm
  go_enter Try.func20, Try.ntmps20
  go_wp2
  go_loopw [5] (fun i wr => ∃ k : Nat, k ≤ xs.length ∧ i = .int .i64 k ∧ w.Plus wr) (fun i _ => xs.length - (intOf i).toNat)
  case atStart => exact ⟨0, Nat.zero_le _, rfl, by (repeat (first | exact Plus.refl _ | apply Plus.plus | apply Plus.alloc | apply Plus.drew))⟩
  case round =>
    obtain ⟨k, hk, rfl, e, rfl⟩ := hrel
    by_cases hlt : k < xs.length
    · obtain ⟨b1, o1, rfl, hb1, hc1⟩ := ha (by omega)
      obtain ⟨b2, o2, rfl, hb2, hc2⟩ := hb (by omega)
      haveI : InW b1 w := ⟨hb1⟩
      haveI : InW b2 w := ⟨hb2⟩
      have c1 := hc1 k 0 hlt (by omega)
      have c2 := hc2 k 0 hlt (by omega)
      clear hc1 hc2 ha hb
      unfold intAt at c1 c2
      simp only [Nat.add_zero, Nat.mul_one] at c1 c2
      generalize xs.getD k 0 = y at c1 c2
      go_wp2
      go_region
      go_wp2
      go_roundw
      case rel => exact ⟨k + 1, hlt, by simp, by (repeat (first | exact Plus.refl _ | apply Plus.plus | apply Plus.alloc | apply Plus.drew))⟩
      case measure => simp [intOf]; omega
    · have hke : k = xs.length := by omega
      subst hke
      go_wp2
      go_ret
      exact ⟨rfl, by (repeat (first | exact Plus.refl _ | apply Plus.plus | apply Plus.alloc | apply Plus.drew))⟩
theorem has_list (xs : List Int) (A : Option Addr) (c : Nat) (k : Int) (hn : xs.length ≤ 100) (ha : RowsAt w A 1 xs.length (intAt xs)) :
    Calls Try.prog 26 #[.slice A xs.length c, .int .i64 k] w fun e w' => e = .returned (.bool (decide (k ∈ xs))) ∧ w.Plus w' := by
  go_enter Try.func26, Try.ntmps26
  go_wp2
  go_loopw [5] (fun i wr => ∃ j : Nat, j ≤ xs.length ∧ i = .int .i64 j ∧ (k ∉ xs.take j) ∧ w.Plus wr) (fun i _ => xs.length - (intOf i).toNat)
  case atStart => exact ⟨0, Nat.zero_le _, rfl, by simp, by (repeat (first | exact Plus.refl _ | apply Plus.plus | apply Plus.alloc | apply Plus.drew))⟩
  case round =>
    obtain ⟨j, hj, rfl, hno, e, rfl⟩ := hrel
    by_cases hlt : j < xs.length
    · obtain ⟨b1, o1, rfl, hb1, hc1⟩ := ha (by omega)
      haveI : InW b1 w := ⟨hb1⟩
      have c1 := hc1 j 0 hlt (by omega)
      clear hc1 ha
      unfold intAt at c1
      simp only [Nat.add_zero, Nat.mul_one] at c1
      have hget : xs.getD j 0 = xs[j] := by simp [List.getD, hlt]
      have htk := List.take_succ_eq_append_getElem hlt
      have hmem : xs[j] ∈ xs := List.getElem_mem hlt
      rw [← hget] at htk hmem
      clear hget
      generalize xs.getD j 0 = y at c1 htk hmem
      by_cases hy : y = k
      · have hin := Lib.hid hmem
        clear htk hmem
        replace hno := Lib.hid hno
        subst hy
        go_wp2
        go_ret
        exact ⟨ret_bool (by simp [hin.out]), by (repeat (first | exact Plus.refl _ | apply Plus.plus | apply Plus.alloc | apply Plus.drew))⟩
      · have hnx : k ∉ xs.take (j + 1) := by rw [htk]; simp only [List.mem_append, List.mem_singleton, not_or]; exact ⟨hno, fun h => hy h.symm⟩
        replace hno := Lib.hid hno
        replace hnx := Lib.hid hnx
        replace hmem := Lib.hid hmem
        replace htk := Lib.hid htk
        go_wp2
        go_roundw
        case rel => exact ⟨j + 1, hlt, by simp, hnx.out, by (repeat (first | exact Plus.refl _ | apply Plus.plus | apply Plus.alloc | apply Plus.drew))⟩
        case measure => simp [intOf]; omega
    · have hje : j = xs.length := by omega
      subst hje
      rw [List.take_length] at hno
      replace hno := Lib.hid hno
      go_wp2
      go_ret
      exact ⟨ret_bool (by simp [hno.out]), by (repeat (first | exact Plus.refl _ | apply Plus.plus | apply Plus.alloc | apply Plus.drew))⟩
end
section
variable (a b s r : Int) (n : Nat) (w : World)
theorem refOf_any (x y p i q : Int) (ho : Okk a b s r) :
    Calls Try.prog 19 #[(Cfg.mk a b s r p i q).v, .int .i64 x, .int .i64 y] w fun e w' => e = .returned (.int .i64 (ofI a b s x y)) ∧ w.Plus w' := by
  have hZ := fun k w => refZone_any a b s r w k p i q ho
  have hz := fun k h0 h1 => zone_has ho x y k h0 h1
  have hr := of_range ho x y
  obtain ⟨m, hm⟩ : ∃ m, a * b = m := ⟨_, rfl⟩
  have hab := ho.ab
  rw [hm] at hz hr hab
  have g1 : wrap64 (a * b) = m := by rw [hm]; exact w64_id (by omega) (by omega)
  generalize ofI a b s x y = o at *
  replace hZ := Lib.hid hZ
  replace hz := Lib.hid hz
  replace hr := Lib.hid hr
  clear hm ho
  unfold Cfg.v at *
  go_enter Try.func19, Try.ntmps19
  go_wp2_with fail
  go_loopw [7] (fun v7 wr => ∃ j : Int, 0 ≤ j ∧ j ≤ m ∧ v7 = .int .i64 j ∧ (∀ i, 0 ≤ i → i < j → ¬ o = i) ∧ World.Plus (w.alloc (.cells #[.int .i64 a, .int .i64 b, .int .i64 s, .int .i64 r, .int .i64 p, .int .i64 i, .int .i64 q] 23)) wr) (fun v7 _ => (m - intOf v7).toNat)
  case atStart => exact ⟨0, by omega, by omega, rfl, fun i h0 h1 => absurd h1 (by omega), by (repeat (first | exact Plus.refl _ | apply Plus.plus | apply Plus.alloc | apply Plus.drew))⟩
  case round =>
    obtain ⟨j, j0, j1, rfl, hno, e, rfl⟩ := hrel
    replace hno := Lib.hid hno
    by_cases hlt : j < m
    · have h1 := hz.out j j0 hlt
      have h2 := fun w => hZ.out j w
      generalize zoneI a b s j = z at h1 h2
      obtain ⟨z0, z1, z2, z3⟩ := z
      simp only at h1
      replace h2 := Lib.hid h2
      by_cases hj : o = j
      · rw [show decide (o = j) = true by simpa using hj] at h1
        go_wp2_with (first | (go_at_call 31; (with_reducible refine (h2.out _).mono ?_); rintro e w' ⟨rfl, ey, rfl⟩) | (go_at_call 35; (with_reducible refine (refHas_any _ _ _ _ _ _ _).mono ?_); rintro e w' ⟨rfl, ez, rfl⟩) | fail)
        go_ret
        exact ⟨ret_int hj.symm, by (repeat (first | exact Plus.refl _ | apply Plus.plus | apply Plus.alloc | apply Plus.drew))⟩
      · rw [show decide (o = j) = false by simpa using hj] at h1
        go_wp2_with (first | (go_at_call 31; (with_reducible refine (h2.out _).mono ?_); rintro e w' ⟨rfl, ey, rfl⟩) | (go_at_call 35; (with_reducible refine (refHas_any _ _ _ _ _ _ _).mono ?_); rintro e w' ⟨rfl, ez, rfl⟩) | fail)
        go_roundw
        case rel => exact ⟨j + 1, by omega, by omega, by go_num, fun i h0 h1 => (by
          by_cases hi : i = j
          · subst hi; exact hj
          · exact hno.out i h0 (by omega)), by (repeat (first | exact Plus.refl _ | apply Plus.plus | apply Plus.alloc | apply Plus.drew))⟩
        case measure => simp [intOf]; omega
    · have hje : j = m := by omega
      subst hje
      have ho : o = -1 := by
        rcases hr.out with h | h
        · exact absurd rfl (hno.out o h.1 h.2)
        · exact h
      replace ho := Lib.hid ho
      go_wp2_with fail
      go_ret
      exact ⟨ret_int ho.out.symm, by (repeat (first | exact Plus.refl _ | apply Plus.plus | apply Plus.alloc | apply Plus.drew))⟩
end
end Go.Proofs.Yteaikedgbgdcnaa
