/- Plain laws and walks: Cod1, Cod2, Cod3. -/
import Derived.Test.YtpdlgflbcgemnaaGreatDoorGd
import Derived.Test.YtpdlgflbcgemnaaGreatDoorGv
import Derived.Deep.CutBlock
import Derived.Deep.DeepCutAuto
-- Cod1
/- codec: which commands may be, both: walks. -/
set_option linter.unusedSimpArgs false
set_option linter.unusedVariables false
set_option maxRecDepth 100000
namespace Go.Proofs.YtpdlgflbcgemnaaGreatDoor
open Go.RowKit
theorem eqId3 (a : IdR) (w : World) : (binOp .eql 73 (.agg #[nI a.s, nI a.i, nI a.g]) (.agg #[nI 0, nI 0, nI 0])).run Tryz.prog w = .ok (.bool (decide (a = idZ))) w := by
  obtain ⟨a, b, c⟩ := a
  simp [go_sem]
  (repeat' split) <;> simp_all
theorem neqId3 (a : IdR) (w : World) : (binOp .neq 73 (.agg #[nI a.s, nI a.i, nI a.g]) (.agg #[nI 0, nI 0, nI 0])).run Tryz.prog w = .ok (.bool (!decide (a = idZ))) w := by
  obtain ⟨a, b, c⟩ := a
  simp [go_sem]
  (repeat' split) <;> simp_all
theorem eqBd (x y : BdR) (w : World) : (binOp .eql 75 x.v y.v).run Tryz.prog w = .ok (.bool (decide (x = y))) w := by
  obtain ⟨⟨a, b, c⟩, d, e, f, g, h, i, j, k⟩ := x
  obtain ⟨⟨a', b', c'⟩, d', e', f', g', h', i', j', k'⟩ := y
  simp [go_sem]
  (repeat' split) <;> simp_all
theorem neqBd (x y : BdR) (w : World) : (binOp .neq 75 x.v y.v).run Tryz.prog w = .ok (.bool (!decide (x = y))) w := by
  obtain ⟨⟨a, b, c⟩, d, e, f, g, h, i, j, k⟩ := x
  obtain ⟨⟨a', b', c'⟩, d', e', f', g', h', i', j', k'⟩ := y
  simp [go_sem]
  (repeat' split) <;> simp_all
theorem some_any (m : Int) (w : World) : Calls Tryz.prog 100 #[nI m] w fun e w' => e = .returned (.bool (takesB m)) ∧ w.Plus w' := by
  have hb := and_bitZ m (p := 1) (by simp)
  have ha := and_two m 1 0 rfl (by omega)
  by_cases h1 : 0 < m
  · by_cases h2 : m ≤ 31
    · have h3 : takesB m = decide (m % 2 = 0) := by unfold takesB; simp; omega
      have h4 : (bits .and .i64 m 1 == 0) = decide (m % 2 = 0) := by
        rw [ha]
        by_cases hm : m % 2 = 0
        · rw [if_neg (by simp only [Nat.pow_zero, Nat.div_one]; omega), decide_eq_true hm]; rfl
        · rw [if_pos (by simp only [Nat.pow_zero, Nat.div_one]; omega), decide_eq_false hm]; rfl
      rw [h3]
      obtain ⟨q, hq⟩ : ∃ q, q = decide (m % 2 = 0) := ⟨_, rfl⟩
      rw [← hq] at h4 ⊢
      clear hb ha h3 hq
      go_enter Tryz.func100, Tryz.ntmps100
      go_wp2_with fail
      go_ret
      exact ⟨rfl, by (repeat (first | exact Plus.refl _ | apply Plus.plus | apply Plus.alloc | apply Plus.drew))⟩
    · have h3 : takesB m = false := by unfold takesB; simp; omega
      rw [h3]
      clear hb ha h3
      go_enter Tryz.func100, Tryz.ntmps100
      go_wp2_with fail
      go_ret
      exact ⟨rfl, by (repeat (first | exact Plus.refl _ | apply Plus.plus | apply Plus.alloc | apply Plus.drew))⟩
  · have h3 : takesB m = false := by unfold takesB; simp; omega
    rw [h3]
    clear hb ha h3
    go_enter Tryz.func100, Tryz.ntmps100
    go_wp2_with fail
    go_ret
    exact ⟨rfl, by (repeat (first | exact Plus.refl _ | apply Plus.plus | apply Plus.alloc | apply Plus.drew))⟩
set_option maxRecDepth 100000 in
set_option maxHeartbeats 1000000 in
theorem checkCmd_1 (id : IdR) (b : BdR) (mk : Int) (w : World) : Calls Tryz.prog 62 #[CmdR.v ⟨1, id, b, mk⟩] w fun e w' => e = .returned (nI (if decide (id = idZ) && decide (mk = 0) && okB b then 0 else 1)) ∧ w.Plus w' := by
  have kI := (fun w' => checkID_any id w')
  have kS := (fun w' => some_any mk w')
  have kR := (fun w' => right_any b w')
  have kB := (fun w' => check_any b w')
  have nI3 := neqId3 id
  have nI4 := neqId3 b.id
  have nB := neqBd b bdZ
  have hmz : (mk == 0) = decide (mk = 0) := by by_cases h : mk = 0 <;> simp [h]
  have hmn : (mk != 0) = !decide (mk = 0) := by by_cases h : mk = 0 <;> simp [h]
  generalize hd1 : decide (id = idZ) = d1 at *
  generalize hd2 : decide (mk = 0) = d2 at *
  generalize hd3 : okB b = d3 at *
  generalize hd4 : idB id = d4 at *
  generalize hd5 : decide (b = bdZ) = d5 at *
  generalize hd6 : decide (b.id = idZ) = d6 at *
  generalize hd7 : takesB b.mask = d7 at *
  generalize hd8 : rightB b = d8 at *
  generalize hd9 : takesB mk = d9 at *
  clear hd1 hd2 hd3 hd4 hd5 hd6 hd7 hd8 hd9
  obtain ⟨E, hE⟩ : ∃ E : Int, E = if d4 = true then 0 else 1 := ⟨_, rfl⟩
  obtain ⟨E3, hE3⟩ : ∃ E : Int, E = if d3 = true then 0 else 1 := ⟨_, rfl⟩
  rw [← hE] at kI
  rw [← hE3] at kB
  replace hE := Lib.hid hE
  replace hE3 := Lib.hid hE3
  replace kI := Lib.hid kI
  replace kS := Lib.hid kS
  replace kR := Lib.hid kR
  replace kB := Lib.hid kB
  obtain ⟨V, hV⟩ : ∃ V : Int, V = if (d1 && d2 && d3) = true then 0 else 1 := ⟨_, rfl⟩
  rw [← hV]
  replace hV := Lib.hid hV
  cases d1 with
  | false =>
    go_enter Tryz.func62, Tryz.ntmps62
    go_wp2_with (first
        | (go_at_call 66; (with_reducible refine (kI.out _).mono ?_); rintro e w' ⟨rfl, e0, rfl⟩)
        | (go_at_call 100; (with_reducible refine (kS.out _).mono ?_); rintro e w' ⟨rfl, e1, rfl⟩)
        | (go_at_call 101; (with_reducible refine (kR.out _).mono ?_); rintro e w' ⟨rfl, e2, rfl⟩)
        | (go_at_call 64; (with_reducible refine (kB.out _).mono ?_); rintro e w' ⟨rfl, e3, rfl⟩))
    go_ret
    exact ⟨by rw [hV.out]; simp, by (repeat (first | exact Plus.refl _ | apply Plus.plus | apply Plus.alloc | apply Plus.drew))⟩
  | true =>
    cases d2 with
    | false =>
      go_enter Tryz.func62, Tryz.ntmps62
      go_wp2_with (first
          | (go_at_call 66; (with_reducible refine (kI.out _).mono ?_); rintro e w' ⟨rfl, e0, rfl⟩)
          | (go_at_call 100; (with_reducible refine (kS.out _).mono ?_); rintro e w' ⟨rfl, e1, rfl⟩)
          | (go_at_call 101; (with_reducible refine (kR.out _).mono ?_); rintro e w' ⟨rfl, e2, rfl⟩)
          | (go_at_call 64; (with_reducible refine (kB.out _).mono ?_); rintro e w' ⟨rfl, e3, rfl⟩))
      go_ret
      exact ⟨by rw [hV.out]; simp, by (repeat (first | exact Plus.refl _ | apply Plus.plus | apply Plus.alloc | apply Plus.drew))⟩
    | true =>
      go_enter Tryz.func62, Tryz.ntmps62
      go_wp2_with (first
          | (go_at_call 66; (with_reducible refine (kI.out _).mono ?_); rintro e w' ⟨rfl, e0, rfl⟩)
          | (go_at_call 100; (with_reducible refine (kS.out _).mono ?_); rintro e w' ⟨rfl, e1, rfl⟩)
          | (go_at_call 101; (with_reducible refine (kR.out _).mono ?_); rintro e w' ⟨rfl, e2, rfl⟩)
          | (go_at_call 64; (with_reducible refine (kB.out _).mono ?_); rintro e w' ⟨rfl, e3, rfl⟩))
      go_ret
      exact ⟨by rw [hV.out, hE3.out]; simp, by (repeat (first | exact Plus.refl _ | apply Plus.plus | apply Plus.alloc | apply Plus.drew))⟩
set_option maxRecDepth 100000 in
set_option maxHeartbeats 1000000 in
theorem checkCmd_2 (id : IdR) (b : BdR) (mk : Int) (w : World) : Calls Tryz.prog 62 #[CmdR.v ⟨2, id, b, mk⟩] w fun e w' => e = .returned (nI (if idB id && decide (mk = 0) && decide (b = bdZ) then 0 else 1)) ∧ w.Plus w' := by
  have kI := (fun w' => checkID_any id w')
  have kS := (fun w' => some_any mk w')
  have kR := (fun w' => right_any b w')
  have kB := (fun w' => check_any b w')
  have nI3 := neqId3 id
  have nI4 := neqId3 b.id
  have nB := neqBd b bdZ
  have hmz : (mk == 0) = decide (mk = 0) := by by_cases h : mk = 0 <;> simp [h]
  have hmn : (mk != 0) = !decide (mk = 0) := by by_cases h : mk = 0 <;> simp [h]
  generalize hd1 : decide (id = idZ) = d1 at *
  generalize hd2 : decide (mk = 0) = d2 at *
  generalize hd3 : okB b = d3 at *
  generalize hd4 : idB id = d4 at *
  generalize hd5 : decide (b = bdZ) = d5 at *
  generalize hd6 : decide (b.id = idZ) = d6 at *
  generalize hd7 : takesB b.mask = d7 at *
  generalize hd8 : rightB b = d8 at *
  generalize hd9 : takesB mk = d9 at *
  clear hd1 hd2 hd3 hd4 hd5 hd6 hd7 hd8 hd9
  obtain ⟨E, hE⟩ : ∃ E : Int, E = if d4 = true then 0 else 1 := ⟨_, rfl⟩
  obtain ⟨E3, hE3⟩ : ∃ E : Int, E = if d3 = true then 0 else 1 := ⟨_, rfl⟩
  rw [← hE] at kI
  rw [← hE3] at kB
  replace hE := Lib.hid hE
  replace hE3 := Lib.hid hE3
  replace kI := Lib.hid kI
  replace kS := Lib.hid kS
  replace kR := Lib.hid kR
  replace kB := Lib.hid kB
  obtain ⟨V, hV⟩ : ∃ V : Int, V = if (d4 && d2 && d5) = true then 0 else 1 := ⟨_, rfl⟩
  rw [← hV]
  replace hV := Lib.hid hV
  cases d2 with
  | false =>
    go_enter Tryz.func62, Tryz.ntmps62
    go_wp2_with (first
        | (go_at_call 66; (with_reducible refine (kI.out _).mono ?_); rintro e w' ⟨rfl, e0, rfl⟩)
        | (go_at_call 100; (with_reducible refine (kS.out _).mono ?_); rintro e w' ⟨rfl, e1, rfl⟩)
        | (go_at_call 101; (with_reducible refine (kR.out _).mono ?_); rintro e w' ⟨rfl, e2, rfl⟩)
        | (go_at_call 64; (with_reducible refine (kB.out _).mono ?_); rintro e w' ⟨rfl, e3, rfl⟩))
    go_ret
    exact ⟨by rw [hV.out]; simp, by (repeat (first | exact Plus.refl _ | apply Plus.plus | apply Plus.alloc | apply Plus.drew))⟩
  | true =>
    cases d5 with
    | false =>
      go_enter Tryz.func62, Tryz.ntmps62
      go_wp2_with (first
          | (go_at_call 66; (with_reducible refine (kI.out _).mono ?_); rintro e w' ⟨rfl, e0, rfl⟩)
          | (go_at_call 100; (with_reducible refine (kS.out _).mono ?_); rintro e w' ⟨rfl, e1, rfl⟩)
          | (go_at_call 101; (with_reducible refine (kR.out _).mono ?_); rintro e w' ⟨rfl, e2, rfl⟩)
          | (go_at_call 64; (with_reducible refine (kB.out _).mono ?_); rintro e w' ⟨rfl, e3, rfl⟩))
      go_ret
      exact ⟨by rw [hV.out]; simp, by (repeat (first | exact Plus.refl _ | apply Plus.plus | apply Plus.alloc | apply Plus.drew))⟩
    | true =>
      go_enter Tryz.func62, Tryz.ntmps62
      go_wp2_with (first
          | (go_at_call 66; (with_reducible refine (kI.out _).mono ?_); rintro e w' ⟨rfl, e0, rfl⟩)
          | (go_at_call 100; (with_reducible refine (kS.out _).mono ?_); rintro e w' ⟨rfl, e1, rfl⟩)
          | (go_at_call 101; (with_reducible refine (kR.out _).mono ?_); rintro e w' ⟨rfl, e2, rfl⟩)
          | (go_at_call 64; (with_reducible refine (kB.out _).mono ?_); rintro e w' ⟨rfl, e3, rfl⟩))
      go_ret
      exact ⟨by rw [hV.out, hE.out]; simp, by (repeat (first | exact Plus.refl _ | apply Plus.plus | apply Plus.alloc | apply Plus.drew))⟩
set_option maxRecDepth 100000 in
set_option maxHeartbeats 1000000 in
theorem checkCmd_3 (id : IdR) (b : BdR) (mk : Int) (w : World) : Calls Tryz.prog 62 #[CmdR.v ⟨3, id, b, mk⟩] w fun e w' => e = .returned (nI (if idB id && decide (mk = 0) && decide (b.id = idZ) && takesB b.mask && rightB b then 0 else 1)) ∧ w.Plus w' := by
  have kI := (fun w' => checkID_any id w')
  have kS := (fun w' => some_any b.mask w')
  have kR := (fun w' => right_any b w')
  have kB := (fun w' => check_any b w')
  have nI3 := neqId3 id
  have nI4 := neqId3 b.id
  have nB := neqBd b bdZ
  have hmz : (mk == 0) = decide (mk = 0) := by by_cases h : mk = 0 <;> simp [h]
  have hmn : (mk != 0) = !decide (mk = 0) := by by_cases h : mk = 0 <;> simp [h]
  generalize hd1 : decide (id = idZ) = d1 at *
  generalize hd2 : decide (mk = 0) = d2 at *
  generalize hd3 : okB b = d3 at *
  generalize hd4 : idB id = d4 at *
  generalize hd5 : decide (b = bdZ) = d5 at *
  generalize hd6 : decide (b.id = idZ) = d6 at *
  generalize hd7 : takesB b.mask = d7 at *
  generalize hd8 : rightB b = d8 at *
  generalize hd9 : takesB mk = d9 at *
  clear hd1 hd2 hd3 hd4 hd5 hd6 hd7 hd8 hd9
  obtain ⟨E, hE⟩ : ∃ E : Int, E = if d4 = true then 0 else 1 := ⟨_, rfl⟩
  obtain ⟨E3, hE3⟩ : ∃ E : Int, E = if d3 = true then 0 else 1 := ⟨_, rfl⟩
  rw [← hE] at kI
  rw [← hE3] at kB
  replace hE := Lib.hid hE
  replace hE3 := Lib.hid hE3
  replace kI := Lib.hid kI
  replace kS := Lib.hid kS
  replace kR := Lib.hid kR
  replace kB := Lib.hid kB
  obtain ⟨V, hV⟩ : ∃ V : Int, V = if (d4 && d2 && d6 && d7 && d8) = true then 0 else 1 := ⟨_, rfl⟩
  rw [← hV]
  replace hV := Lib.hid hV
  cases d2 with
  | false =>
    go_enter Tryz.func62, Tryz.ntmps62
    go_wp2_with (first
        | (go_at_call 66; (with_reducible refine (kI.out _).mono ?_); rintro e w' ⟨rfl, e0, rfl⟩)
        | (go_at_call 100; (with_reducible refine (kS.out _).mono ?_); rintro e w' ⟨rfl, e1, rfl⟩)
        | (go_at_call 101; (with_reducible refine (kR.out _).mono ?_); rintro e w' ⟨rfl, e2, rfl⟩)
        | (go_at_call 64; (with_reducible refine (kB.out _).mono ?_); rintro e w' ⟨rfl, e3, rfl⟩))
    go_ret
    exact ⟨by rw [hV.out]; simp, by (repeat (first | exact Plus.refl _ | apply Plus.plus | apply Plus.alloc | apply Plus.drew))⟩
  | true =>
    cases d6 with
    | false =>
      go_enter Tryz.func62, Tryz.ntmps62
      go_wp2_with (first
          | (go_at_call 66; (with_reducible refine (kI.out _).mono ?_); rintro e w' ⟨rfl, e0, rfl⟩)
          | (go_at_call 100; (with_reducible refine (kS.out _).mono ?_); rintro e w' ⟨rfl, e1, rfl⟩)
          | (go_at_call 101; (with_reducible refine (kR.out _).mono ?_); rintro e w' ⟨rfl, e2, rfl⟩)
          | (go_at_call 64; (with_reducible refine (kB.out _).mono ?_); rintro e w' ⟨rfl, e3, rfl⟩))
      go_ret
      exact ⟨by rw [hV.out]; simp, by (repeat (first | exact Plus.refl _ | apply Plus.plus | apply Plus.alloc | apply Plus.drew))⟩
    | true =>
      cases d7 with
      | false =>
        go_enter Tryz.func62, Tryz.ntmps62
        go_wp2_with (first
            | (go_at_call 66; (with_reducible refine (kI.out _).mono ?_); rintro e w' ⟨rfl, e0, rfl⟩)
            | (go_at_call 100; (with_reducible refine (kS.out _).mono ?_); rintro e w' ⟨rfl, e1, rfl⟩)
            | (go_at_call 101; (with_reducible refine (kR.out _).mono ?_); rintro e w' ⟨rfl, e2, rfl⟩)
            | (go_at_call 64; (with_reducible refine (kB.out _).mono ?_); rintro e w' ⟨rfl, e3, rfl⟩))
        go_ret
        exact ⟨by rw [hV.out]; simp, by (repeat (first | exact Plus.refl _ | apply Plus.plus | apply Plus.alloc | apply Plus.drew))⟩
      | true =>
        cases d8 with
        | false =>
          go_enter Tryz.func62, Tryz.ntmps62
          go_wp2_with (first
              | (go_at_call 66; (with_reducible refine (kI.out _).mono ?_); rintro e w' ⟨rfl, e0, rfl⟩)
              | (go_at_call 100; (with_reducible refine (kS.out _).mono ?_); rintro e w' ⟨rfl, e1, rfl⟩)
              | (go_at_call 101; (with_reducible refine (kR.out _).mono ?_); rintro e w' ⟨rfl, e2, rfl⟩)
              | (go_at_call 64; (with_reducible refine (kB.out _).mono ?_); rintro e w' ⟨rfl, e3, rfl⟩))
          go_ret
          exact ⟨by rw [hV.out]; simp, by (repeat (first | exact Plus.refl _ | apply Plus.plus | apply Plus.alloc | apply Plus.drew))⟩
        | true =>
          go_enter Tryz.func62, Tryz.ntmps62
          go_wp2_with (first
              | (go_at_call 66; (with_reducible refine (kI.out _).mono ?_); rintro e w' ⟨rfl, e0, rfl⟩)
              | (go_at_call 100; (with_reducible refine (kS.out _).mono ?_); rintro e w' ⟨rfl, e1, rfl⟩)
              | (go_at_call 101; (with_reducible refine (kR.out _).mono ?_); rintro e w' ⟨rfl, e2, rfl⟩)
              | (go_at_call 64; (with_reducible refine (kB.out _).mono ?_); rintro e w' ⟨rfl, e3, rfl⟩))
          go_ret
          exact ⟨by rw [hV.out, hE.out]; simp, by (repeat (first | exact Plus.refl _ | apply Plus.plus | apply Plus.alloc | apply Plus.drew))⟩
set_option maxRecDepth 100000 in
set_option maxHeartbeats 1000000 in
theorem checkCmd_4 (id : IdR) (b : BdR) (mk : Int) (w : World) : Calls Tryz.prog 62 #[CmdR.v ⟨4, id, b, mk⟩] w fun e w' => e = .returned (nI (if idB id && decide (b = bdZ) && takesB mk then 0 else 1)) ∧ w.Plus w' := by
  have kI := (fun w' => checkID_any id w')
  have kS := (fun w' => some_any mk w')
  have kR := (fun w' => right_any b w')
  have kB := (fun w' => check_any b w')
  have nI3 := neqId3 id
  have nI4 := neqId3 b.id
  have nB := neqBd b bdZ
  have hmz : (mk == 0) = decide (mk = 0) := by by_cases h : mk = 0 <;> simp [h]
  have hmn : (mk != 0) = !decide (mk = 0) := by by_cases h : mk = 0 <;> simp [h]
  generalize hd1 : decide (id = idZ) = d1 at *
  generalize hd2 : decide (mk = 0) = d2 at *
  generalize hd3 : okB b = d3 at *
  generalize hd4 : idB id = d4 at *
  generalize hd5 : decide (b = bdZ) = d5 at *
  generalize hd6 : decide (b.id = idZ) = d6 at *
  generalize hd7 : takesB b.mask = d7 at *
  generalize hd8 : rightB b = d8 at *
  generalize hd9 : takesB mk = d9 at *
  clear hd1 hd2 hd3 hd4 hd5 hd6 hd7 hd8 hd9
  obtain ⟨E, hE⟩ : ∃ E : Int, E = if d4 = true then 0 else 1 := ⟨_, rfl⟩
  obtain ⟨E3, hE3⟩ : ∃ E : Int, E = if d3 = true then 0 else 1 := ⟨_, rfl⟩
  rw [← hE] at kI
  rw [← hE3] at kB
  replace hE := Lib.hid hE
  replace hE3 := Lib.hid hE3
  replace kI := Lib.hid kI
  replace kS := Lib.hid kS
  replace kR := Lib.hid kR
  replace kB := Lib.hid kB
  obtain ⟨V, hV⟩ : ∃ V : Int, V = if (d4 && d5 && d9) = true then 0 else 1 := ⟨_, rfl⟩
  rw [← hV]
  replace hV := Lib.hid hV
  cases d9 with
  | false =>
    go_enter Tryz.func62, Tryz.ntmps62
    go_wp2_with (first
        | (go_at_call 66; (with_reducible refine (kI.out _).mono ?_); rintro e w' ⟨rfl, e0, rfl⟩)
        | (go_at_call 100; (with_reducible refine (kS.out _).mono ?_); rintro e w' ⟨rfl, e1, rfl⟩)
        | (go_at_call 101; (with_reducible refine (kR.out _).mono ?_); rintro e w' ⟨rfl, e2, rfl⟩)
        | (go_at_call 64; (with_reducible refine (kB.out _).mono ?_); rintro e w' ⟨rfl, e3, rfl⟩))
    go_ret
    exact ⟨by rw [hV.out]; simp, by (repeat (first | exact Plus.refl _ | apply Plus.plus | apply Plus.alloc | apply Plus.drew))⟩
  | true =>
    cases d5 with
    | false =>
      go_enter Tryz.func62, Tryz.ntmps62
      go_wp2_with (first
          | (go_at_call 66; (with_reducible refine (kI.out _).mono ?_); rintro e w' ⟨rfl, e0, rfl⟩)
          | (go_at_call 100; (with_reducible refine (kS.out _).mono ?_); rintro e w' ⟨rfl, e1, rfl⟩)
          | (go_at_call 101; (with_reducible refine (kR.out _).mono ?_); rintro e w' ⟨rfl, e2, rfl⟩)
          | (go_at_call 64; (with_reducible refine (kB.out _).mono ?_); rintro e w' ⟨rfl, e3, rfl⟩))
      go_ret
      exact ⟨by rw [hV.out]; simp, by (repeat (first | exact Plus.refl _ | apply Plus.plus | apply Plus.alloc | apply Plus.drew))⟩
    | true =>
      go_enter Tryz.func62, Tryz.ntmps62
      go_wp2_with (first
          | (go_at_call 66; (with_reducible refine (kI.out _).mono ?_); rintro e w' ⟨rfl, e0, rfl⟩)
          | (go_at_call 100; (with_reducible refine (kS.out _).mono ?_); rintro e w' ⟨rfl, e1, rfl⟩)
          | (go_at_call 101; (with_reducible refine (kR.out _).mono ?_); rintro e w' ⟨rfl, e2, rfl⟩)
          | (go_at_call 64; (with_reducible refine (kB.out _).mono ?_); rintro e w' ⟨rfl, e3, rfl⟩))
      go_ret
      exact ⟨by rw [hV.out, hE.out]; simp, by (repeat (first | exact Plus.refl _ | apply Plus.plus | apply Plus.alloc | apply Plus.drew))⟩
set_option maxRecDepth 100000 in
set_option maxHeartbeats 1000000 in
theorem checkCmd_k (k : Int) (id : IdR) (b : BdR) (mk : Int) (w : World) (h1 : k ≠ 1) (h2 : k ≠ 2) (h3 : k ≠ 3) (h4 : k ≠ 4) : Calls Tryz.prog 62 #[CmdR.v ⟨k, id, b, mk⟩] w fun e w' => e = .returned (nI (if false then 0 else 1)) ∧ w.Plus w' := by
  have kI := (fun w' => checkID_any id w')
  have kS := (fun w' => some_any mk w')
  have kR := (fun w' => right_any b w')
  have kB := (fun w' => check_any b w')
  have nI3 := neqId3 id
  have nI4 := neqId3 b.id
  have nB := neqBd b bdZ
  have hmz : (mk == 0) = decide (mk = 0) := by by_cases h : mk = 0 <;> simp [h]
  have hmn : (mk != 0) = !decide (mk = 0) := by by_cases h : mk = 0 <;> simp [h]
  generalize hd1 : decide (id = idZ) = d1 at *
  generalize hd2 : decide (mk = 0) = d2 at *
  generalize hd3 : okB b = d3 at *
  generalize hd4 : idB id = d4 at *
  generalize hd5 : decide (b = bdZ) = d5 at *
  generalize hd6 : decide (b.id = idZ) = d6 at *
  generalize hd7 : takesB b.mask = d7 at *
  generalize hd8 : rightB b = d8 at *
  generalize hd9 : takesB mk = d9 at *
  clear hd1 hd2 hd3 hd4 hd5 hd6 hd7 hd8 hd9
  obtain ⟨E, hE⟩ : ∃ E : Int, E = if d4 = true then 0 else 1 := ⟨_, rfl⟩
  obtain ⟨E3, hE3⟩ : ∃ E : Int, E = if d3 = true then 0 else 1 := ⟨_, rfl⟩
  rw [← hE] at kI
  rw [← hE3] at kB
  replace hE := Lib.hid hE
  replace hE3 := Lib.hid hE3
  replace kI := Lib.hid kI
  replace kS := Lib.hid kS
  replace kR := Lib.hid kR
  replace kB := Lib.hid kB
  obtain ⟨V, hV⟩ : ∃ V : Int, V = if (false) = true then 0 else 1 := ⟨_, rfl⟩
  rw [← hV]
  replace hV := Lib.hid hV
  have e1 : (k == 1) = false := by simpa using h1
  have e2 : (k == 2) = false := by simpa using h2
  have e3 : (k == 3) = false := by simpa using h3
  have e4 : (k == 4) = false := by simpa using h4
  replace h1 := Lib.hid h1
  replace h2 := Lib.hid h2
  replace h3 := Lib.hid h3
  replace h4 := Lib.hid h4
  go_enter Tryz.func62, Tryz.ntmps62
  go_wp2_with (first
      | (go_at_call 66; (with_reducible refine (kI.out _).mono ?_); rintro e w' ⟨rfl, e0, rfl⟩)
      | (go_at_call 100; (with_reducible refine (kS.out _).mono ?_); rintro e w' ⟨rfl, e1, rfl⟩)
      | (go_at_call 101; (with_reducible refine (kR.out _).mono ?_); rintro e w' ⟨rfl, e2, rfl⟩)
      | (go_at_call 64; (with_reducible refine (kB.out _).mono ?_); rintro e w' ⟨rfl, e3, rfl⟩))
  go_ret
  exact ⟨by rw [hV.out]; simp, by (repeat (first | exact Plus.refl _ | apply Plus.plus | apply Plus.alloc | apply Plus.drew))⟩
theorem checkCmd_any (c : CmdR) (w : World) : Calls Tryz.prog 62 #[c.v] w fun e w' => e = .returned (nI (if okC c then 0 else 1)) ∧ w.Plus w' := by
  obtain ⟨k, id, b, mk⟩ := c
  unfold okC
  simp only
  by_cases h1 : k = 1
  · subst h1; rw [if_pos rfl]; exact checkCmd_1 id b mk w
  rw [if_neg h1]
  by_cases h2 : k = 2
  · subst h2; rw [if_pos rfl]; exact checkCmd_2 id b mk w
  rw [if_neg h2]
  by_cases h3 : k = 3
  · subst h3; rw [if_pos rfl]; exact checkCmd_3 id b mk w
  rw [if_neg h3]
  by_cases h4 : k = 4
  · subst h4; rw [if_pos rfl]; exact checkCmd_4 id b mk w
  rw [if_neg h4]
  exact checkCmd_k k id b mk w h1 h2 h3 h4
end Go.Proofs.YtpdlgflbcgemnaaGreatDoor
-- Cod2
/- codec: PutID, the reference's ID and rest: walks. -/
set_option linter.unusedSimpArgs false
set_option linter.unusedVariables false
namespace Go.Proofs.YtpdlgflbcgemnaaGreatDoor
open Go.RowKit
theorem int_at1 (w : World) (b c : Nat) (x : Int) [hb : InW b w] (h0 : w.cell? ⟨b, 0, none⟩ = some (nI x)) (hx : Octs.In64 x) :
    Calls Tryz.prog 28 #[.slice (some ⟨b, 0, none⟩) 1 c] w fun e w' => e = .returned (.string (Octs.txt (Octs.enc x))) ∧ w.Plus w' := by
  have := Octs.int_any [x] (some ⟨b, 0, none⟩) c w (by simp) (by simpa using hx) (fun _ => ⟨b, 0, rfl, hb.lt, fun i j hi hj => by
    obtain rfl : j = 0 := by omega
    obtain rfl : i = 0 := by simp at hi; omega
    exact h0⟩)
  simpa [Octs.encs] using this
theorem int_at3 (w : World) (b c : Nat) (x y z : Int) [hb : InW b w] (h0 : w.cell? ⟨b, 0, none⟩ = some (nI x)) (h1 : w.cell? ⟨b, 1, none⟩ = some (nI y)) (h2 : w.cell? ⟨b, 2, none⟩ = some (nI z)) (hx : Octs.In64 x) (hy : Octs.In64 y) (hz : Octs.In64 z) :
    Calls Tryz.prog 28 #[.slice (some ⟨b, 0, none⟩) 3 c] w fun e w' => e = .returned (.string (Octs.txt (Octs.encs [x, y, z]))) ∧ w.Plus w' := by
  have := Octs.int_any [x, y, z] (some ⟨b, 0, none⟩) c w (by simp) (by simp; exact ⟨hx, hy, hz⟩) (fun _ => ⟨b, 0, rfl, hb.lt, fun i j hi hj => by
    obtain rfl : j = 0 := by omega
    have : i = 0 ∨ i = 1 ∨ i = 2 := by simp at hi; omega
    rcases this with rfl | rfl | rfl
    · exact h0
    · exact h1
    · exact h2⟩)
  exact this
set_option maxRecDepth 100000
set_option maxHeartbeats 400000
theorem putID_any (a : IdR) (ha : IdI a) (w : World) : Calls Tryz.prog 34 #[a.v] w fun e w' => e = .returned (.string (Octs.txt (encI a))) ∧ w.Plus w' := by
  have kC := fun w' => checkID_any a w'
  unfold encI idInts
  obtain ⟨h1, h2, h3⟩ := ha
  have kI := Lib.hid (fun w b c [InW b w] h0 h1' h2' => int_at3 w b c a.s a.i a.g h0 h1' h2' h1 h2 h3)
  clear h1 h2 h3
  cases hb : idB a with
  | false =>
    rw [hb] at kC
    simp only [Bool.false_eq_true, if_false] at kC ⊢
    replace kC := Lib.hid kC
    clear hb
    go_enter Tryz.func34, Tryz.ntmps34
    go_wp2_with (go_at_call 66; (with_reducible refine (kC.out _).mono ?_); rintro e w' ⟨rfl, e1, rfl⟩)
    go_ret
    exact ⟨rfl, by (repeat (first | exact Plus.refl _ | apply Plus.plus | apply Plus.alloc | apply Plus.drew))⟩
  | true =>
    rw [hb] at kC
    simp only [if_true] at kC ⊢
    generalize Octs.txt (Octs.encs [a.s, a.i, a.g]) = X at *
    replace kC := Lib.hid kC
    clear hb
    go_enter Tryz.func34, Tryz.ntmps34
    go_wp2_with (first
      | (go_at_call 66; (with_reducible refine (kC.out _).mono ?_); rintro e w' ⟨rfl, e1, rfl⟩)
      | (go_at_call 28; (with_reducible refine (kI.out _ _ _ (by simp [go_sem]) (by simp [go_sem]) (by simp [go_sem])).mono ?_); rintro e w' ⟨rfl, e2, rfl⟩))
    go_ret
    exact ⟨rfl, by (repeat (first | exact Plus.refl _ | apply Plus.plus | apply Plus.alloc | apply Plus.drew))⟩
end Go.Proofs.YtpdlgflbcgemnaaGreatDoor
-- Cod3
/- codec: the reference's rest: walk. -/
set_option linter.unusedSimpArgs false
set_option linter.unusedVariables false
set_option maxRecDepth 100000
namespace Go.Proofs.YtpdlgflbcgemnaaGreatDoor
open Go.RowKit
end Go.Proofs.YtpdlgflbcgemnaaGreatDoor
