/- zones: the reference's Beside: walk and law. -/
import Derived.Test.YteaikedgbgdcnaaZonesG
set_option linter.unusedSimpArgs false
set_option linter.unusedVariables false
namespace Go.Proofs.Yteaikedgbgdcnaa
open Go.RowKit
theorem none_two (g z : R4) : noneB (twoI g z).a (twoI g z).b (twoI g z).c (twoI g z).d = !(meet g z).ok := by
  unfold twoI
  by_cases h : (meet g z).ok = true
  · rw [if_pos h]; exact none_meet g z
  · rw [if_neg h]
    rw [show (meet g z).ok = false by simpa using h]
    rfl
theorem axis_two {s u u' : Int} (s1 : 256 ≤ s) (h1 : 0 ≤ u) (h2 : u ≤ 3) (h3 : 0 ≤ u') (h4 : u' ≤ 3) :
    max (u' * s - 1) (u * s) < min (u' * s + s + 1) (u * s + s) ↔ (u - u' ≤ 1 ∧ -(u - u') ≤ 1) := by
  have e1 : u = 0 ∨ u = 1 ∨ u = 2 ∨ u = 3 := by omega
  have e2 : u' = 0 ∨ u' = 1 ∨ u' = 2 ∨ u' = 3 := by omega
  rcases e1 with rfl | rfl | rfl | rfl <;> rcases e2 with rfl | rfl | rfl | rfl <;> omega
theorem bes_two {a b s r : Int} (ho : Okk a b s r) {k i : Int} (k0 : 0 ≤ k) (k1 : k < a * b) (i0 : 0 ≤ i) (i1 : i < a * b) (hne : i ≠ k) :
    (meet (growI (zoneI a b s k).a (zoneI a b s k).b (zoneI a b s k).c (zoneI a b s k).d 1) (zoneI a b s i)).ok = besI a b k i := by
  have hbk := zone_bd ho k0 k1
  have hbi := zone_bd ho i0 i1
  have hdk := divs ho.a1 ho.a4 ho.b1 ho.b4 k0 k1
  have hdi := divs ho.a1 ho.a4 ho.b1 ho.b4 i0 i1
  have s1 := ho.s1
  have s2 := ho.s2
  have a4 := ho.a4
  have b4 := ho.b4
  have hzk : zoneI a b s k = ⟨k % a * s, k / a * s, k % a * s + s, k / a * s + s⟩ := if_pos ⟨k0, k1⟩
  have hzi : zoneI a b s i = ⟨i % a * s, i / a * s, i % a * s + s, i / a * s + s⟩ := if_pos ⟨i0, i1⟩
  have hx := axis_two (u := i % a) (u' := k % a) s1 hdi.1 (by omega) hdk.1 (by omega)
  have hy := axis_two (u := i / a) (u' := k / a) s1 hdi.2.2.1 (by omega) hdk.2.2.1 (by omega)
  have hnn : i % a ≠ k % a ∨ i / a ≠ k / a := by
    rcases four ho.a1 ho.a4 with rfl | rfl | rfl | rfl <;> omega
  rw [hzk, hzi]
  simp only
  unfold besI
  rw [decide_eq_true (show 0 ≤ k ∧ k < a * b from ⟨k0, k1⟩), decide_eq_true hne]
  generalize i % a * s = p at *
  generalize i / a * s = q at *
  generalize k % a * s = p' at *
  generalize k / a * s = q' at *
  generalize i % a = u at *
  generalize i / a = v at *
  generalize k % a = u' at *
  generalize k / a = v' at *
  have c1 : clamp p' = p' := by unfold clamp; omega
  have c2 : clamp q' = q' := by unfold clamp; omega
  have c3 : clamp (p' + s) = p' + s := by unfold clamp; omega
  have c4 : clamp (q' + s) = q' + s := by unfold clamp; omega
  have hg : growI p' q' (p' + s) (q' + s) 1 = ⟨p' - 1, q' - 1, p' + s + 1, q' + s + 1⟩ := by
    unfold growI
    rw [c1, c2, c3, c4, if_pos (by omega)]
    have d1 : clamp 1 = 1 := by decide
    rw [d1]
    congr 1 <;> (unfold clamp; omega)
  rw [hg]
  unfold meet R4.ok
  simp only [Bool.true_and]
  have f1 : clamp (p' - 1) = p' - 1 := by unfold clamp; omega
  have f2 : clamp (q' - 1) = q' - 1 := by unfold clamp; omega
  have f3 : clamp (p' + s + 1) = p' + s + 1 := by unfold clamp; omega
  have f4 : clamp (q' + s + 1) = q' + s + 1 := by unfold clamp; omega
  have f5 : clamp p = p := by unfold clamp; omega
  have f6 : clamp q = q := by unfold clamp; omega
  have f7 : clamp (p + s) = p + s := by unfold clamp; omega
  have f8 : clamp (q + s) = q + s := by unfold clamp; omega
  rw [f1, f2, f3, f4, f5, f6, f7, f8, Bool.eq_iff_iff, Bool.and_eq_true, decide_eq_true_eq, decide_eq_true_eq, decide_eq_true_eq, hx, hy]
  omega
theorem pick_none (P : Int → Bool) (m : Nat) (h : ∀ i, P i = false) : pick P m = [] := by simp [pick, h]
section
variable (a b s r : Int) (n : Nat) (w : World)
set_option maxHeartbeats 1000000 in
theorem refBeside_any (k p i q : Int) (ho : Okk a b s r) :
    Calls Try.prog 24 #[(Cfg.mk a b s r p i q).v, .int .i64 k] w (Left w (pick (besI a b k) (a * b).toNat)) := by
  obtain ⟨i0, hi0, hz0, hz1, hz2⟩ := info_parts infoInt
  have hab := ho.ab
  have hZ := fun w k => refZone_any a b s r w k p i q ho
  have hB := fun j k0 k1 i0 i1 hne => bes_two ho (k := k) (i := j) k0 k1 i0 i1 hne
  obtain ⟨m, hM⟩ : ∃ m : Nat, a * b = m := ⟨(a * b).toNat, by omega⟩
  rw [hM] at hab hB
  have hMt : (a * b).toNat = m := by omega
  rw [hMt]
  have g1 : wrap64 (a * b) = m := by rw [hM]; exact w64_id (by omega) (by omega)
  have hdef : ∀ i : Int, besI a b k i = (decide (0 ≤ k ∧ k < m) && (decide (i ≠ k) && decide (max (i % a - k % a) (max (-(i % a - k % a)) (max (i / a - k / a) (-(i / a - k / a)))) = 1))) := fun i => by unfold besI; rw [hM]
  clear hMt ho
  unfold Cfg.v at *
  by_cases hk0 : 0 ≤ k
  · by_cases hk1 : k < m
    · have hself : besI a b k k = false := by rw [hdef]; simp
      generalize besI a b k = B at *
      have hZk := fun w => hZ w k
      generalize hzk : zoneI a b s k = zk at *
      obtain ⟨z0, z1, z2, z3⟩ := zk
      simp only at hB
      have hG := fun w => refGrow_any z0 z1 z2 z3 1 w
      generalize growI z0 z1 z2 z3 1 = g at *
      obtain ⟨g0, g1', g2, g3⟩ := g
      replace hZ := Lib.hid hZ
      replace hB := Lib.hid hB
      replace hZk := Lib.hid hZk
      replace hG := Lib.hid hG
      replace hself := Lib.hid hself
      clear hdef hzk hM
      go_enter Try.func24, Try.ntmps24
      go_wp2_with (first | (go_at_call 31; (with_reducible refine (hZk.out _).mono ?_); rintro e w' ⟨rfl, ey, rfl⟩) | (go_at_call 38; (with_reducible refine (hG.out _).mono ?_); rintro e w' ⟨rfl, ez, rfl⟩))
      obtain ⟨W1, hW1⟩ : ∃ W1, W1 = (((w.alloc (.cells #[.int .i64 a, .int .i64 b, .int .i64 s, .int .i64 r, .int .i64 p, .int .i64 i, .int .i64 q] 23)).plus ey).plus ez).alloc (.cells #[.int .i64 g0, .int .i64 g1', .int .i64 g2, .int .i64 g3] 52) := ⟨_, rfl⟩
      have l0 : w.heap.size < W1.heap.size := by rw [hW1]; simp [go_sem]; omega
      have l1 : w.heap.size + 1 + ey.objs.size + ez.objs.size < W1.heap.size := by rw [hW1]; simp [go_sem]
      have hPW : w.Plus W1 := by rw [hW1]; (repeat (first | exact Plus.refl _ | apply Plus.plus | apply Plus.alloc | apply Plus.drew))
      have k0 : W1.cell? ⟨w.heap.size, 0, none⟩ = some (.int .i64 a) := by rw [hW1]; simp [go_sem]
      have k1 : W1.cell? ⟨w.heap.size, 1, none⟩ = some (.int .i64 b) := by rw [hW1]; simp [go_sem]
      have k2 : W1.cell? ⟨w.heap.size, 2, none⟩ = some (.int .i64 s) := by rw [hW1]; simp [go_sem]
      have k3 : W1.cell? ⟨w.heap.size, 3, none⟩ = some (.int .i64 r) := by rw [hW1]; simp [go_sem]
      have k4 : W1.cell? ⟨w.heap.size, 4, none⟩ = some (.int .i64 p) := by rw [hW1]; simp [go_sem]
      have k5 : W1.cell? ⟨w.heap.size, 5, none⟩ = some (.int .i64 i) := by rw [hW1]; simp [go_sem]
      have k6 : W1.cell? ⟨w.heap.size, 6, none⟩ = some (.int .i64 q) := by rw [hW1]; simp [go_sem]
      have m0 : W1.cell? ⟨w.heap.size + 1 + ey.objs.size + ez.objs.size, 0, none⟩ = some (.int .i64 g0) := by rw [hW1]; simp [go_sem]
      have m1 : W1.cell? ⟨w.heap.size + 1 + ey.objs.size + ez.objs.size, 1, none⟩ = some (.int .i64 g1') := by rw [hW1]; simp [go_sem]
      have m2 : W1.cell? ⟨w.heap.size + 1 + ey.objs.size + ez.objs.size, 2, none⟩ = some (.int .i64 g2) := by rw [hW1]; simp [go_sem]
      have m3 : W1.cell? ⟨w.heap.size + 1 + ey.objs.size + ez.objs.size, 3, none⟩ = some (.int .i64 g3) := by rw [hW1]; simp [go_sem]
      replace hW1 := Lib.hid hW1
      haveI : InW w.heap.size W1 := ⟨l0⟩
      haveI : InW (w.heap.size + 1 + ey.objs.size + ez.objs.size) W1 := ⟨l1⟩
      go_loopw [5, 7] (fun v i wr => ∃ j : Nat, j ≤ m ∧ i = .int .i64 j ∧ wr.ownsRow W1.heap.size 3 1 v (pick B j).length ((pick B j).map (Value.int .i64)) ∧ W1.Plus wr) (fun _ i _ => m - (intOf i).toNat)
      case atStart => exact ⟨0, Nat.zero_le _, rfl, World.ownsRow_nil _ _ _ _, by rw [hW1.out]; exact Plus.refl _⟩
      case round =>
        obtain ⟨j, hj, rfl, hown, e0, rfl⟩ := hrel
        have hpl := pick_len B j
        have hp : W1.Plus (W1.plus e0) := ⟨e0, rfl⟩
        by_cases hlt : j < m
        · have hpy := fun h => pick_yes (P := B) (k := j) h
          have hpn := fun h => pick_no (P := B) (k := j) h
          by_cases hne : (j : Int) = k
          · have hn := hpn (by rw [hne]; exact hself.out)
            have hne1 : decide ((j : Int) ≠ k) = false := by simpa using hne
            clear hpy hpn
            replace hn := Lib.hid hn
            go_wp2_with fail
            refine wp_region_grow (by kernel_rfl) (by kernel_rfl) ?_
            repeat (go_big_quiet_step (fail))
            refine wpQuiet_nil ?_
            intro ex
            go_wp2_with fail
            refine ⟨⟨j + 1, hlt, by first | (simp; done) | (simp; omega), by rw [hn.out]; exact hown.plus _, Plus.plus hp _⟩, ?_⟩
            simp [intOf]; omega
          · have hT := hB.out j hk0 hk1 (by omega) (by omega) hne
            have hne1 : ((j : Int) != k) = true := by simpa using hne
            have hZj := fun w => hZ.out w j
            generalize zoneI a b s j = y at hT hZj
            obtain ⟨y0, y1, y2, y3⟩ := y
            have hTw := fun w => two_any ⟨g0, g1', g2, g3⟩ ⟨y0, y1, y2, y3⟩ w
            have hN := none_two ⟨g0, g1', g2, g3⟩ ⟨y0, y1, y2, y3⟩
            rw [hT] at hN
            generalize twoI ⟨g0, g1', g2, g3⟩ ⟨y0, y1, y2, y3⟩ = x at hTw hN
            obtain ⟨x0, x1, x2, x3⟩ := x
            simp only at hN
            have hNn := fun w => refNone_any x0 x1 x2 x3 w
            rw [hN] at hNn
            replace hNn := Lib.hid hNn
            replace hTw := Lib.hid hTw
            replace hZj := Lib.hid hZj
            replace hN := Lib.hid hN
            cases hBj : B j with
            | false =>
              have hn := hpn hBj
              clear hpy hpn
              rw [hBj] at hNn
              replace hn := Lib.hid hn
              clear hT
              go_wp2_with fail
              refine wp_region_grow (by kernel_rfl) (by kernel_rfl) ?_
              repeat (go_big_quiet_step ((first | (go_at_call 31; exact Calls.plus_of (hZj.out _)) | (go_at_call 40; exact Calls.plus_of (hTw.out _)) | (go_at_call 39; exact Calls.plus_of (hNn.out _)))))
              refine wpQuiet_nil ?_
              intro ex
              go_wp2_with fail
              refine ⟨⟨j + 1, hlt, by first | (simp; done) | (simp; omega), by rw [hn.out]; exact hown.plus _, Plus.plus hp _⟩, ?_⟩
              simp [intOf]; omega
            | true =>
              have hn := hpy hBj
              clear hpy hpn
              rw [hBj] at hNn
              replace hn := Lib.hid hn
              clear hT
              go_wp2_with fail
              refine wp_region_grow (by kernel_rfl) (by kernel_rfl) ?_
              repeat (go_big_quiet_step ((first | (go_at_call 31; exact Calls.plus_of (hZj.out _)) | (go_at_call 40; exact Calls.plus_of (hTw.out _)) | (go_at_call 39; exact Calls.plus_of (hNn.out _)))))
              refine wpQuiet_nil ?_
              intro ex
              go_wp2_with (first | (at_builtin; refine wpList_append_own _ rfl _ _ 39 rfl W1.heap.size 3 i0 (.int .i64 0) 1 8 underInts hi0 hz0 hz1 hz2 rfl (by decide) _ _ _ rfl ((hown.plus _).alloc _) _ 1 1 [.int .i64 (j : Int)] rfl rfl (one_new (by simp [go_sem])) (by intro u hu; simp at hu; subst hu; rfl) (by unfold maxLen; omega) (by omega) (by simp [go_sem]; omega) ?_; intro v' w1 hown1 hgrow1 _))
              refine ⟨⟨j + 1, hlt, by simp, by rw [hn.out]; simpa using hown1, World.grownBy.toPlus (Plus.alloc (Plus.plus hp _) _) hgrow1 (fun g hg => (hown.lt g hg).1)⟩, ?_⟩
              simp [intOf]; omega
        · have hjm : j = m := by omega
          subst hjm
          go_wp2_with fail
          go_ret
          exact left_of rfl hown (Plus.trans hPW hp)
    · have hP : pick (besI a b k) m = [] := pick_none _ _ fun i => by rw [hdef]; simp; omega
      rw [hP]
      clear hZ hB hdef hM
      go_enter Try.func24, Try.ntmps24
      go_wp2_with fail
      go_ret
      exact left_of (base := w.heap.size) rfl (World.ownsRow_nil _ _ _ _) (by (repeat (first | exact Plus.refl _ | apply Plus.plus | apply Plus.alloc | apply Plus.drew)))
  · have hP : pick (besI a b k) m = [] := pick_none _ _ fun i => by rw [hdef]; simp; omega
    rw [hP]
    clear hZ hB hdef hM
    go_enter Try.func24, Try.ntmps24
    go_wp2_with fail
    go_ret
    exact left_of (base := w.heap.size) rfl (World.ownsRow_nil _ _ _ _) (by (repeat (first | exact Plus.refl _ | apply Plus.plus | apply Plus.alloc | apply Plus.drew)))
end
end Go.Proofs.Yteaikedgbgdcnaa
