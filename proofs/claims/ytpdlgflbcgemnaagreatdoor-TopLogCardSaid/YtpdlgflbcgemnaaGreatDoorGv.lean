/- Plain laws and walks: Ar1, Ar2, Ar3. -/
import Derived.Test.YtpdlgflbcgemnaaGreatDoorChecked
import Derived.Test.YtpdlgflbcgemnaaGreatDoorGd
import Derived.Deep.CutBlock
import Derived.Deep.RegionHeld3
import Derived.Deep.RegionLaw
import Derived.Deep.DeepCutAuto
-- Ar1
/- arch: which entities may be, in the code and in the reference: walk. -/
set_option linter.unusedSimpArgs false
set_option linter.unusedVariables false
namespace Go.Proofs.YtpdlgflbcgemnaaGreatDoor
open Go.RowKit
theorem within_any (has : Bool) (n lo hi : Int) (w : World) : Calls Tryz.prog 103 #[.bool has, nI n, nI lo, nI hi] w fun e w' => e = .returned (.bool (withinB has n lo hi)) ∧ w.Plus w' := by
  cases has
  · go_enter Tryz.func103, Tryz.ntmps103
    go_wp2
    go_ret
    exact ⟨by simp [withinB, Bool.beq_eq_decide_eq], by (repeat (first | exact Plus.refl _ | apply Plus.plus | apply Plus.alloc | apply Plus.drew))⟩
  · by_cases h : lo ≤ n
    · go_enter Tryz.func103, Tryz.ntmps103
      go_wp2
      go_ret
      exact ⟨by simp [withinB, h], by (repeat (first | exact Plus.refl _ | apply Plus.plus | apply Plus.alloc | apply Plus.drew))⟩
    · go_enter Tryz.func103, Tryz.ntmps103
      go_wp2
      go_ret
      exact ⟨by unfold withinB; rw [if_pos rfl, decide_eq_false (show ¬ lo ≤ n by omega)]; rfl, by (repeat (first | exact Plus.refl _ | apply Plus.plus | apply Plus.alloc | apply Plus.drew))⟩
theorem has_any (b : BdR) (p : Int) (w : World) (hm : 0 ≤ b.mask ∧ b.mask ≤ 31) (hp : p = 1 ∨ p = 2 ∨ p = 4 ∨ p = 8 ∨ p = 16) : Calls Tryz.prog 102 #[b.v, nI p] w fun e w' => e = .returned (.bool (bitB b.mask p)) ∧ w.Plus w' := by
  have hb := and_bit hm.1 hm.2 hp
  go_enter Tryz.func102, Tryz.ntmps102
  go_wp2
  go_ret
  exact ⟨rfl, by (repeat (first | exact Plus.refl _ | apply Plus.plus | apply Plus.alloc | apply Plus.drew))⟩
end Go.Proofs.YtpdlgflbcgemnaaGreatDoor
-- Ar2
/- arch: which entities may be, in the code and in the reference, behind one another: walk. -/
set_option linter.unusedSimpArgs false
set_option linter.unusedVariables false
namespace Go.Proofs.YtpdlgflbcgemnaaGreatDoor
open Go.RowKit
theorem checkID_any (a : IdR) (w : World) : Calls Tryz.prog 66 #[a.v] w fun e w' => e = .returned (nI (if idB a then 0 else 1)) ∧ w.Plus w' := by
  obtain ⟨p, hp⟩ : ∃ p, p = withinB true a.s 0 15 := ⟨_, rfl⟩
  obtain ⟨q, hq⟩ : ∃ p, p = withinB true a.i 0 15 := ⟨_, rfl⟩
  obtain ⟨r, hr⟩ : ∃ p, p = withinB true a.g 0 1048575 := ⟨_, rfl⟩
  have hB : idB a = (p && q && r) := by rw [hp, hq, hr]; rfl
  rw [hB]
  clear hB
  have k1 := fun wz => within_any true a.s 0 15 wz
  have k2 := fun wz => within_any true a.i 0 15 wz
  have k3 := fun wz => within_any true a.g 0 1048575 wz
  rw [← hp] at k1
  rw [← hq] at k2
  rw [← hr] at k3
  replace k1 := Lib.hid k1
  replace k2 := Lib.hid k2
  replace k3 := Lib.hid k3
  clear hp hq hr
  cases p <;> cases q <;> cases r
  all_goals
    go_enter Tryz.func66, Tryz.ntmps66
    go_wp2_with (go_at_call 103; first | ((with_reducible refine (k1.out _).mono ?_); rintro e w' ⟨rfl, ey, rfl⟩) | ((with_reducible refine (k2.out _).mono ?_); rintro e w' ⟨rfl, ey, rfl⟩) | ((with_reducible refine (k3.out _).mono ?_); rintro e w' ⟨rfl, ey, rfl⟩))
    go_ret
    exact ⟨by simp, by (repeat (first | exact Plus.refl _ | apply Plus.plus | apply Plus.alloc | apply Plus.drew))⟩
def wrV (l : List WR) (k : Nat) : Value := (l.flatMap WR.cs).getD k (.bool false)
theorem wr_cells (l : List WR) (i : Nat) (h : i < l.length) : (l.flatMap WR.cs)[i * 4]? = some (.bool (l.getD i wr0).has) ∧ (l.flatMap WR.cs)[i * 4 + 1]? = some (nI (l.getD i wr0).n) ∧ (l.flatMap WR.cs)[i * 4 + 2]? = some (nI (l.getD i wr0).lo) ∧ (l.flatMap WR.cs)[i * 4 + 3]? = some (nI (l.getD i wr0).hi) := by
  induction l generalizing i with
  | nil => simp at h
  | cons r t ih =>
    have hr : r.cs.length = 4 := rfl
    rw [List.flatMap_cons]
    cases i with
    | zero => simp
    | succ i =>
      have := ih i (by simpa using h)
      refine ⟨?_, ?_, ?_, ?_⟩ <;> rw [List.getElem?_append_right (by rw [hr]; omega), hr]
      · rw [show (i + 1) * 4 - 4 = i * 4 by omega]; exact this.1
      · rw [show (i + 1) * 4 + 1 - 4 = i * 4 + 1 by omega]; exact this.2.1
      · rw [show (i + 1) * 4 + 2 - 4 = i * 4 + 2 by omega]; exact this.2.2.1
      · rw [show (i + 1) * 4 + 3 - 4 = i * 4 + 3 by omega]; exact this.2.2.2
/-- an entity in a box -/
structure BoxAt (w : World) (n : Nat) (b : BdR) : Prop where
  lt : InW n w
  c0 : w.cell? ⟨n, 0, none⟩ = some (nI b.id.s)
  c1 : w.cell? ⟨n, 1, none⟩ = some (nI b.id.i)
  c2 : w.cell? ⟨n, 2, none⟩ = some (nI b.id.g)
  c3 : w.cell? ⟨n, 3, none⟩ = some (nI b.mask)
  c4 : w.cell? ⟨n, 4, none⟩ = some (nI b.x)
  c5 : w.cell? ⟨n, 5, none⟩ = some (nI b.y)
  c6 : w.cell? ⟨n, 6, none⟩ = some (nI b.vx)
  c7 : w.cell? ⟨n, 7, none⟩ = some (nI b.vy)
  c8 : w.cell? ⟨n, 8, none⟩ = some (nI b.hp)
  c9 : w.cell? ⟨n, 9, none⟩ = some (nI b.pw)
  c10 : w.cell? ⟨n, 10, none⟩ = some (nI b.lf)
theorem BoxAt.new (w : World) (b : BdR) (t : TypeId) : BoxAt (w.alloc (.cells #[nI b.id.s, nI b.id.i, nI b.id.g, nI b.mask, nI b.x, nI b.y, nI b.vx, nI b.vy, nI b.hp, nI b.pw, nI b.lf] t)) w.heap.size b := by
  refine ⟨inferInstance, ?_, ?_, ?_, ?_, ?_, ?_, ?_, ?_, ?_, ?_, ?_⟩ <;> simp [go_sem]
theorem BoxAt.plus {w w' : World} {n : Nat} {b : BdR} (h : BoxAt w n b) (p : w.Plus w') : BoxAt w' n b := by
  obtain ⟨e, rfl⟩ := p
  haveI := h.lt
  exact ⟨inferInstance, (World.cell?_plus _ _ _ _).trans h.c0, (World.cell?_plus _ _ _ _).trans h.c1, (World.cell?_plus _ _ _ _).trans h.c2, (World.cell?_plus _ _ _ _).trans h.c3, (World.cell?_plus _ _ _ _).trans h.c4, (World.cell?_plus _ _ _ _).trans h.c5, (World.cell?_plus _ _ _ _).trans h.c6, (World.cell?_plus _ _ _ _).trans h.c7, (World.cell?_plus _ _ _ _).trans h.c8, (World.cell?_plus _ _ _ _).trans h.c9, (World.cell?_plus _ _ _ _).trans h.c10⟩
set_option maxRecDepth 100000 in
set_option maxHeartbeats 2000000 in
theorem right_any (b : BdR) (w : World) : Calls Tryz.prog 101 #[b.v] w fun e w' => e = .returned (.bool (rightB b)) ∧ w.Plus w' := by
  rcases Int.lt_or_le b.mask 0 with h1 | h1
  · have g1 : ¬ 0 ≤ b.mask := by omega
    have e1 : rightB b = false := by unfold rightB maskB; rw [decide_eq_false g1]; rfl
    rw [e1]
    clear e1
    go_enter Tryz.func101, Tryz.ntmps101
    go_wp2
    go_ret
    exact ⟨rfl, by (repeat (first | exact Plus.refl _ | apply Plus.plus | apply Plus.alloc | apply Plus.drew))⟩
  rcases Int.lt_or_le 31 b.mask with h2 | h2
  · have g1 : ¬ b.mask ≤ 31 := by omega
    have g2 : ¬ b.mask < 0 := by omega
    have e1 : rightB b = false := by unfold rightB maskB; rw [decide_eq_false g1, Bool.and_false]; rfl
    rw [e1]
    clear e1
    go_enter Tryz.func101, Tryz.ntmps101
    go_wp2
    go_ret
    exact ⟨rfl, by (repeat (first | exact Plus.refl _ | apply Plus.plus | apply Plus.alloc | apply Plus.drew))⟩
  have g1 : ¬ b.mask < 0 := by omega
  have g2 : ¬ 31 < b.mask := by omega
  obtain ⟨R, hR⟩ : ∃ R, R = rightB b := ⟨_, rfl⟩
  have hE : R = (rowsB b).all WR.ok := by rw [hR]; unfold rightB; rw [(maskB_iff _).2 ⟨h1, h2⟩, Bool.true_and]
  have kH := Lib.hid (fun (p : Int) (wz : World) (hp : p = 1 ∨ p = 2 ∨ p = 4 ∨ p = 8 ∨ p = 16) => has_any b p wz ⟨h1, h2⟩ hp)
  rw [← hR]
  replace hE := Lib.hid hE
  clear hR
  go_enter Tryz.func101, Tryz.ntmps101
  go_wp2
  refine wp_region_grow (by kernel_rfl) (by kernel_rfl) ?_
  repeat (go_big_quiet_step ((go_at_call 102; exact Calls.plus_of (kH.out _ _ (by simp)))))
  refine wpQuiet_nil ?_
  intro ex
  go_wp2
  obtain ⟨n, hn⟩ : ∃ n, n = w.heap.size := ⟨_, rfl⟩
  obtain ⟨wz, hwz⟩ : ∃ wz, wz = (w.alloc (.cells #[nI b.id.s, nI b.id.i, nI b.id.g, nI b.mask, nI b.x, nI b.y, nI b.vx, nI b.vy, nI b.hp, nI b.pw, nI b.lf] 75)).plus ex := ⟨_, rfl⟩
  have hP : w.Plus wz := by rw [hwz]; (repeat (first | exact Plus.refl _ | apply Plus.plus | apply Plus.alloc | apply Plus.drew))
  have hB : BoxAt wz n b := by rw [hwz, hn]; exact BoxAt.plus (BoxAt.new w b _) (Plus.plus (Plus.refl _) _)
  rw [← hwz, ← hn]
  clear hwz hn
  have hBk := Lib.hid hB
  have hP := Lib.hid hP
  obtain ⟨hIn, q0, q1, q2, q3, q4, q5, q6, q7, q8, q9, q10⟩ := hB
  go_region_held3 (fun w' => w'.cell? ⟨n, 0, none⟩ = some (nI b.id.s) ∧ w'.cell? ⟨n, 1, none⟩ = some (nI b.id.i) ∧ w'.cell? ⟨n, 2, none⟩ = some (nI b.id.g) ∧ w'.cell? ⟨n, 3, none⟩ = some (nI b.mask) ∧ w'.cell? ⟨n, 4, none⟩ = some (nI b.x) ∧ w'.cell? ⟨n, 5, none⟩ = some (nI b.y) ∧ w'.cell? ⟨n, 6, none⟩ = some (nI b.vx) ∧ w'.cell? ⟨n, 7, none⟩ = some (nI b.vy) ∧ w'.cell? ⟨n, 8, none⟩ = some (nI b.hp) ∧ w'.cell? ⟨n, 9, none⟩ = some (nI b.pw) ∧ w'.cell? ⟨n, 10, none⟩ = some (nI b.lf)) (simp [go_sem, *]) ((go_at_call 102; (with_reducible refine (kH.out _ _ (by simp)).mono ?_); rintro e w4 ⟨rfl, p4⟩; have hP := Lib.hid (Plus.trans hP.out p4); have hBk := Lib.hid (hBk.out.plus p4); obtain ⟨hIn4, u0, u1, u2, u3, u4, u5, u6, u7, u8, u9, u10⟩ := hBk.out))
  clear u0 u1 u2 u3 u4 u5 u6 u7 u8 u9 u10 q0 q1 q2 q3 q4 q5 q6 q7 q8 q9 q10
  obtain ⟨N, hN⟩ : ∃ N, N = w4.heap.size := ⟨_, rfl⟩
  obtain ⟨L, hL⟩ : ∃ L, L = rowsB b := ⟨_, rfl⟩
  have hL7 : L.length = 7 := by rw [hL]; rfl
  obtain ⟨w5, hw5⟩ : ∃ w5, w5 = w4.alloc (.cells (L.flatMap WR.cs).toArray 182) := ⟨_, rfl⟩
  have hrow : ∀ wy, w5.Plus wy → InW N wy ∧ ∀ i, i < 7 → wy.cell? ⟨N, i * 4, none⟩ = some (.bool (L.getD i wr0).has) ∧ wy.cell? ⟨N, i * 4 + 1, none⟩ = some (nI (L.getD i wr0).n) ∧ wy.cell? ⟨N, i * 4 + 2, none⟩ = some (nI (L.getD i wr0).lo) ∧ wy.cell? ⟨N, i * 4 + 3, none⟩ = some (nI (L.getD i wr0).hi) := by
    rintro wy ⟨e, rfl⟩
    rw [hN, hw5]
    refine ⟨inferInstance, fun i hi => ?_⟩
    obtain ⟨r0, r1, r2, r3⟩ := wr_cells L i (by omega)
    simp only [World.cell?_plus, World.cell?_alloc_new', List.getElem?_toArray]
    exact ⟨r0, r1, r2, r3⟩
  have h5 : w.Plus w5 := by rw [hw5]; exact Plus.alloc hP.out _
  have hw5' := Lib.hid hw5
  clear hw5
  rw [← hN]
  replace hN := Lib.hid hN
  go_wp2_with fail
  go_loopw [52] (fun v wr => ∃ i : Nat, i ≤ 7 ∧ v = nI i ∧ (L.take i).all WR.ok = true ∧ w5.Plus wr) (fun v _ => 7 - (intOf v).toNat)
  case atStart => exact ⟨0, by omega, rfl, rfl, by rw [hw5'.out, hL]; exact Plus.refl _⟩
  case round =>
    obtain ⟨i, hi, rfl, hall, hp⟩ := hrel
    obtain ⟨hInN, hcs⟩ := hrow wr hp
    by_cases hlt : i < 7
    · obtain ⟨r0, r1, r2, r3⟩ := hcs i hlt
      obtain ⟨r, hr⟩ : ∃ r, r = L.getD i wr0 := ⟨_, rfl⟩
      rw [← hr] at r0 r1 r2 r3
      have hmem : L[i]? = some r := by rw [hr, List.getD_eq_getElem?_getD, List.getElem?_eq_getElem (by omega)]; rfl
      have hstep : (L.take (i + 1)).all WR.ok = ((L.take i).all WR.ok && WR.ok r) := by
        rw [List.take_succ_eq_append_getElem (by omega), List.all_append]
        have : L[i]'(by omega) = r := by rw [List.getElem?_eq_getElem (by omega)] at hmem; exact Option.some.inj hmem
        rw [this]
        simp
      rw [hall, Bool.true_and] at hstep
      have hno : WR.ok r = false → R = false := fun h => by
        rw [hE.out, ← hL, ← List.take_append_drop (i + 1) L, List.all_append, hstep, h]
        rfl
      clear hcs hmem hr hrow
      have hp' := Lib.hid (Plus.trans h5 hp)
      have hp'' := Lib.hid hp
      replace hall := Lib.hid hall
      replace hstep := Lib.hid hstep
      clear hp
      have hlti : (i : Int) < 7 := by omega
      obtain ⟨q, hq⟩ : ∃ q, q = WR.ok r := ⟨_, rfl⟩
      have kW := fun wz => within_any r.has r.n r.lo r.hi wz
      rw [show withinB r.has r.n r.lo r.hi = q from hq.symm] at kW
      rw [← hq] at hno hstep
      replace kW := Lib.hid kW
      clear hq
      cases q
      · have hR0 := hno rfl
        subst hR0
        clear hno
        go_wp2_with (go_at_call 103; (with_reducible refine (kW.out _).mono ?_); rintro e w' ⟨rfl, ey, rfl⟩)
        go_ret
        exact ⟨rfl, by (repeat (first | exact hp'.out | apply Plus.plus | apply Plus.alloc | apply Plus.drew))⟩
      · replace hno := Lib.hid hno
        go_wp2_with (go_at_call 103; (with_reducible refine (kW.out _).mono ?_); rintro e w' ⟨rfl, ey, rfl⟩)
        go_roundw
        case rel => exact ⟨i + 1, hlt, by go_num, hstep.out, by (repeat (first | exact hp''.out | apply Plus.plus | apply Plus.alloc | apply Plus.drew))⟩
        case measure => simp [intOf]; omega
    · obtain rfl : i = 7 := by omega
      have hR : R = true := by rw [hE.out, ← hL, ← List.take_of_length_le (Nat.le_of_eq hL7)]; exact hall
      subst hR
      have hp' := Lib.hid (Plus.trans h5 hp)
      clear hp hrow hcs
      go_wp2_with fail
      go_ret
      exact ⟨rfl, by (repeat (first | exact hp'.out | apply Plus.plus | apply Plus.alloc | apply Plus.drew))⟩
theorem check_any (b : BdR) (w : World) : Calls Tryz.prog 64 #[b.v] w fun e w' => e = .returned (nI (if okB b then 0 else 1)) ∧ w.Plus w' := by
  have hM : rightB b = true → 0 ≤ b.mask ∧ b.mask ≤ 31 := fun h => by
    unfold rightB at h
    rw [Bool.and_eq_true, maskB_iff] at h
    exact h.1
  have hO : okB b = (rightB b && bitB b.mask 1 && idB b.id) := rfl
  have kR := fun wz => right_any b wz
  have kI := fun wz => checkID_any b.id wz
  rw [hO]
  clear hO
  generalize rightB b = r at *
  generalize idB b.id = q at *
  replace kR := Lib.hid kR
  replace kI := Lib.hid kI
  cases r
  · clear hM kI
    go_enter Tryz.func64, Tryz.ntmps64
    go_wp2_with (go_at_call 101; (with_reducible refine (kR.out _).mono ?_); rintro e w' ⟨rfl, ey, rfl⟩)
    go_ret
    exact ⟨by simp, by (repeat (first | exact Plus.refl _ | apply Plus.plus | apply Plus.alloc | apply Plus.drew))⟩
  · have kH := fun wz => has_any b 1 wz (hM rfl) (by simp)
    clear hM
    generalize bitB b.mask 1 = p at *
    replace kH := Lib.hid kH
    cases p
    · clear kI
      go_enter Tryz.func64, Tryz.ntmps64
      go_wp2_with (first | (go_at_call 101; (with_reducible refine (kR.out _).mono ?_); rintro e w' ⟨rfl, ey, rfl⟩) | (go_at_call 102; (with_reducible refine (kH.out _).mono ?_); rintro e w' ⟨rfl, ey, rfl⟩))
      go_ret
      exact ⟨by simp, by (repeat (first | exact Plus.refl _ | apply Plus.plus | apply Plus.alloc | apply Plus.drew))⟩
    · cases q
      all_goals
        go_enter Tryz.func64, Tryz.ntmps64
        go_wp2_with (first | (go_at_call 101; (with_reducible refine (kR.out _).mono ?_); rintro e w' ⟨rfl, ey, rfl⟩) | (go_at_call 102; (with_reducible refine (kH.out _).mono ?_); rintro e w' ⟨rfl, ey, rfl⟩) | (go_at_call 66; (with_reducible refine (kI.out _).mono ?_); rintro e w' ⟨rfl, ey, rfl⟩))
        go_ret
        exact ⟨by simp, by (repeat (first | exact Plus.refl _ | apply Plus.plus | apply Plus.alloc | apply Plus.drew))⟩
end Go.Proofs.YtpdlgflbcgemnaaGreatDoor
-- Ar3
/- arch: which entities may be, in the reference: walk. -/
set_option linter.unusedSimpArgs false
set_option linter.unusedVariables false
namespace Go.Proofs.YtpdlgflbcgemnaaGreatDoor
open Go.RowKit
end Go.Proofs.YtpdlgflbcgemnaaGreatDoor
