/- zones: the reference's Near: walk. -/
import Derived.Test.YteaikedgbgdcnaaZonesI
set_option linter.unusedSimpArgs false
set_option linter.unusedVariables false
namespace Go.Proofs.Yteaikedgbgdcnaa
open Go.RowKit
def toI (n lo hi : Int) : Int := if n < lo then lo else if n ≥ hi then hi - 1 else n
theorem nearest_any (m lo hi : Int) (w : World) : Calls Try.prog 46 #[.int .i64 m, .int .i64 lo, .int .i64 hi] w fun e w' => e = .returned (.int .i64 (toI (clamp m) (clamp lo) (clamp hi))) ∧ w.Plus w' := by
  have b1 := clamp_bd m
  have b2 := clamp_bd lo
  have b3 := clamp_bd hi
  go_enter Try.func46, Try.ntmps46
  go_wp2_with (first | (go_at_call 44; (with_reducible refine (refClamp _ _).mono ?_); rintro e w' ⟨rfl, ey, rfl⟩))
  all_goals go_ret
  all_goals exact ⟨ret_int (by unfold toI; split <;> (try split) <;> omega), by (repeat (first | exact Plus.refl _ | apply Plus.plus | apply Plus.alloc | apply Plus.drew))⟩
theorem gap_to {a b c d : Int} (x y : Int) (h1 : clamp a < clamp c) (h2 : clamp b < clamp d) :
    farI x y (toI (clamp x) (clamp a) (clamp c)) (toI (clamp y) (clamp b) (clamp d)) = gapI a b c d x y := by
  have b1 := clamp_bd a
  have b2 := clamp_bd b
  have b3 := clamp_bd c
  have b4 := clamp_bd d
  have b5 := clamp_bd x
  have b6 := clamp_bd y
  unfold gapI
  rw [if_pos ⟨h1, h2⟩]
  unfold farI offI
  have e1 : clamp (toI (clamp x) (clamp a) (clamp c)) = toI (clamp x) (clamp a) (clamp c) := by
    generalize clamp a = a at *
    generalize clamp c = c at *
    generalize clamp x = x at *
    unfold toI
    unfold clamp
    split <;> (try split) <;> omega
  have e2 : clamp (toI (clamp y) (clamp b) (clamp d)) = toI (clamp y) (clamp b) (clamp d) := by
    generalize clamp b = a at *
    generalize clamp d = c at *
    generalize clamp y = x at *
    unfold toI
    unfold clamp
    split <;> (try split) <;> omega
  rw [e1, e2]
  generalize clamp a = a at *
  generalize clamp c = c at *
  generalize clamp x = x at *
  generalize clamp b = b at *
  generalize clamp d = d at *
  generalize clamp y = y at *
  have f1 : max (x - toI x a c) (-(x - toI x a c)) = max (a - x) (max (x - (c - 1)) 0) := by
    unfold toI
    split <;> (try split) <;> omega
  have f2 : max (y - toI y b d) (-(y - toI y b d)) = max (b - y) (max (y - (d - 1)) 0) := by
    unfold toI
    split <;> (try split) <;> omega
  omega
theorem refGap_any (a b c d x y : Int) (w : World) (h1 : clamp a < clamp c) (h2 : clamp b < clamp d) :
    Calls Try.prog 37 #[rectV a b c d, .int .i64 x, .int .i64 y] w fun e w' => e = .returned (.int .i64 (gapI a b c d x y)) ∧ w.Plus w' := by
  have hG := gap_to x y h1 h2
  have hN := fun w => refNone_any a b c d w
  rw [show noneB a b c d = false by simp [noneB, h1, h2]] at hN
  replace hN := Lib.hid hN
  replace hG := Lib.hid hG
  go_enter Try.func37, Try.ntmps37
  go_wp2_with (first | (go_at_call 39; (with_reducible refine (hN.out _).mono ?_); rintro e w' ⟨rfl, ey, rfl⟩))
  refine wp_region_grow (by kernel_rfl) (by kernel_rfl) ?_
  repeat (go_big_quiet_step ((first | (go_at_call 46; exact Calls.plus_of (nearest_any _ _ _ _)) | (go_at_call 45; exact Calls.plus_of (refFar_any _ _ _ _ _)))))
  refine wpQuiet_nil ?_
  intro ex
  go_wp2_with fail
  go_ret
  exact ⟨ret_int hG.out, by (repeat (first | exact Plus.refl _ | apply Plus.plus | apply Plus.alloc | apply Plus.drew))⟩
section
variable (a b s r : Int) (n : Nat) (w : World)
set_option maxHeartbeats 1000000 in
theorem refNear_any (x y p i q : Int) (ho : Okk a b s r) :
    Calls Try.prog 22 #[(Cfg.mk a b s r p i q).v, .int .i64 x, .int .i64 y] w (Left w (pick (nearI a b s r x y) (a * b).toNat)) := by
  obtain ⟨i0, hi0, hz0, hz1, hz2⟩ := info_parts infoInt
  have hab := ho.ab
  have hZ := fun w k => refZone_any a b s r w k p i q ho
  have hO := fun w => refOf_any a b s r w x y p i q ho
  have hor := of_range ho x y
  have hzc : ∀ i : Int, 0 ≤ i → i < a * b → clamp (zoneI a b s i).a < clamp (zoneI a b s i).c ∧ clamp (zoneI a b s i).b < clamp (zoneI a b s i).d := fun i h0 h1 => by
    have hb := zone_bd ho h0 h1
    have s1 := ho.s1
    have s2 := ho.s2
    have hz : zoneI a b s i = ⟨i % a * s, i / a * s, i % a * s + s, i / a * s + s⟩ := if_pos ⟨h0, h1⟩
    rw [hz]
    simp only
    unfold clamp
    omega
  obtain ⟨m, hM⟩ : ∃ m : Nat, a * b = m := ⟨(a * b).toNat, by omega⟩
  rw [hM] at hab hor hzc
  have hMt : (a * b).toNat = m := by omega
  rw [hMt]
  have g1 : wrap64 (a * b) = m := by rw [hM]; exact w64_id (by omega) (by omega)
  have hdef : ∀ i : Int, nearI a b s r x y i = (decide (0 ≤ ofI a b s x y) && (decide (i ≠ ofI a b s x y) && decide (gapI (zoneI a b s i).a (zoneI a b s i).b (zoneI a b s i).c (zoneI a b s i).d x y ≤ r))) := fun i => rfl
  clear hMt ho hM
  unfold Cfg.v at *
  generalize ofI a b s x y = o at *
  by_cases ho0 : 0 ≤ o
  · generalize nearI a b s r x y = B at *
    rw [decide_eq_true ho0] at hdef
    simp only [Bool.true_and] at hdef
    replace hZ := Lib.hid hZ
    replace hO := Lib.hid hO
    replace hdef := Lib.hid hdef
    replace hzc := Lib.hid hzc
    replace hor := Lib.hid hor
    go_enter Try.func22, Try.ntmps22
    go_wp2_with (first | (go_at_call 19; (with_reducible refine (hO.out _).mono ?_); rintro e w' ⟨rfl, ey, rfl⟩))
    obtain ⟨W1, hW1⟩ : ∃ W1, W1 = (w.alloc (.cells #[.int .i64 a, .int .i64 b, .int .i64 s, .int .i64 r, .int .i64 p, .int .i64 i, .int .i64 q] 23)).plus ey := ⟨_, rfl⟩
    have l0 : w.heap.size < W1.heap.size := by rw [hW1]; simp [go_sem]; omega
    have hPW : w.Plus W1 := by rw [hW1]; (repeat (first | exact Plus.refl _ | apply Plus.plus | apply Plus.alloc | apply Plus.drew))
    have k0 : W1.cell? ⟨w.heap.size, 0, none⟩ = some (.int .i64 a) := by rw [hW1]; simp [go_sem]
    have k1 : W1.cell? ⟨w.heap.size, 1, none⟩ = some (.int .i64 b) := by rw [hW1]; simp [go_sem]
    have k2 : W1.cell? ⟨w.heap.size, 2, none⟩ = some (.int .i64 s) := by rw [hW1]; simp [go_sem]
    have k3 : W1.cell? ⟨w.heap.size, 3, none⟩ = some (.int .i64 r) := by rw [hW1]; simp [go_sem]
    have k4 : W1.cell? ⟨w.heap.size, 4, none⟩ = some (.int .i64 p) := by rw [hW1]; simp [go_sem]
    have k5 : W1.cell? ⟨w.heap.size, 5, none⟩ = some (.int .i64 i) := by rw [hW1]; simp [go_sem]
    have k6 : W1.cell? ⟨w.heap.size, 6, none⟩ = some (.int .i64 q) := by rw [hW1]; simp [go_sem]
    replace hW1 := Lib.hid hW1
    haveI : InW w.heap.size W1 := ⟨l0⟩
    go_loopw [7, 9] (fun v i wr => ∃ j : Nat, j ≤ m ∧ i = .int .i64 j ∧ wr.ownsRow W1.heap.size 3 1 v (pick B j).length ((pick B j).map (Value.int .i64)) ∧ W1.Plus wr) (fun _ i _ => m - (intOf i).toNat)
    case atStart => exact ⟨0, Nat.zero_le _, rfl, World.ownsRow_nil _ _ _ _, by rw [hW1.out]; exact Plus.refl _⟩
    case round =>
      obtain ⟨j, hj, rfl, hown, e0, rfl⟩ := hrel
      have hpl := pick_len B j
      have hp : W1.Plus (W1.plus e0) := ⟨e0, rfl⟩
      by_cases hlt : j < m
      · have hpy := fun h => pick_yes (P := B) (k := j) h
        have hpn := fun h => pick_no (P := B) (k := j) h
        have hBj := hdef.out j
        by_cases hne : (j : Int) = o
        · have hn := hpn (by rw [hBj]; simp [hne])
          have hne1 : decide ((j : Int) ≠ o) = false := by simpa using hne
          clear hpy hpn hBj
          replace hn := Lib.hid hn
          go_wp2_with fail
          refine wp_region_grow (by kernel_rfl) (by kernel_rfl) ?_
          repeat (go_big_quiet_step (fail))
          refine wpQuiet_nil ?_
          intro ex
          go_wp2_with fail
          refine ⟨⟨j + 1, hlt, by first | (simp; done) | (simp; omega), by rw [hn.out]; exact hown.plus _, Plus.plus hp _⟩, ?_⟩
          simp [intOf]; omega
        · rw [decide_eq_true (show (j : Int) ≠ o from hne), Bool.true_and] at hBj
          have hne1 : ((j : Int) != o) = true := by simpa using hne
          have hZj := fun w => hZ.out w j
          have hzj := hzc.out j (by omega) (by omega)
          generalize zoneI a b s j = z at hBj hZj hzj
          obtain ⟨z0, z1, z2, z3⟩ := z
          simp only at hBj hzj
          have hGp := fun w => refGap_any z0 z1 z2 z3 x y w hzj.1 hzj.2
          generalize gapI z0 z1 z2 z3 x y = g at hBj hGp
          replace hZj := Lib.hid hZj
          replace hGp := Lib.hid hGp
          clear hzj
          by_cases hg : g ≤ r
          · have hn := hpy (by rw [hBj]; simpa using hg)
            clear hpy hpn hBj
            replace hn := Lib.hid hn
            go_wp2_with fail
            refine wp_region_grow (by kernel_rfl) (by kernel_rfl) ?_
            repeat (go_big_quiet_step ((first | (go_at_call 31; exact Calls.plus_of (hZj.out _)) | (go_at_call 37; exact Calls.plus_of (hGp.out _)))))
            refine wpQuiet_nil ?_
            intro ex
            go_wp2_with (first | (at_builtin; refine wpList_append_own _ rfl _ _ 39 rfl W1.heap.size 3 i0 (.int .i64 0) 1 8 underInts hi0 hz0 hz1 hz2 rfl (by decide) _ _ _ rfl ((hown.plus _).alloc _) _ 1 1 [.int .i64 (j : Int)] rfl rfl (one_new (by simp [go_sem])) (by intro u hu; simp at hu; subst hu; rfl) (by unfold maxLen; omega) (by omega) (by simp [go_sem]; omega) ?_; intro v' w1 hown1 hgrow1 _))
            refine ⟨⟨j + 1, hlt, by simp, by rw [hn.out]; simpa using hown1, World.grownBy.toPlus (Plus.alloc (Plus.plus hp _) _) hgrow1 (fun g hg => (hown.lt g hg).1)⟩, ?_⟩
            simp [intOf]; omega
          · have hn := hpn (by rw [hBj]; simpa using hg)
            clear hpy hpn hBj
            replace hn := Lib.hid hn
            go_wp2_with fail
            refine wp_region_grow (by kernel_rfl) (by kernel_rfl) ?_
            repeat (go_big_quiet_step ((first | (go_at_call 31; exact Calls.plus_of (hZj.out _)) | (go_at_call 37; exact Calls.plus_of (hGp.out _)))))
            refine wpQuiet_nil ?_
            intro ex
            go_wp2_with fail
            refine ⟨⟨j + 1, hlt, by first | (simp; done) | (simp; omega), by rw [hn.out]; exact hown.plus _, Plus.plus hp _⟩, ?_⟩
            simp [intOf]; omega
      · have hjm : j = m := by omega
        subst hjm
        go_wp2_with fail
        go_ret
        exact left_of rfl hown (Plus.trans hPW hp)
  · have hP : pick (nearI a b s r x y) m = [] := pick_none _ _ fun i => by rw [hdef]; simp; omega
    rw [hP]
    replace hO := Lib.hid hO
    clear hdef hzc hZ
    go_enter Try.func22, Try.ntmps22
    go_wp2_with (first | (go_at_call 19; (with_reducible refine (hO.out _).mono ?_); rintro e w' ⟨rfl, ey, rfl⟩))
    go_ret
    exact left_of (base := w.heap.size) rfl (World.ownsRow_nil _ _ _ _) (by (repeat (first | exact Plus.refl _ | apply Plus.plus | apply Plus.alloc | apply Plus.drew)))
end
end Go.Proofs.Yteaikedgbgdcnaa
