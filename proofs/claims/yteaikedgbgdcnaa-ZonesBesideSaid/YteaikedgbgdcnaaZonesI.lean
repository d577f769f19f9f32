/- zones: Near: walk and law. -/
import Derived.Test.YteaikedgbgdcnaaZonesH
set_option linter.unusedSimpArgs false
set_option linter.unusedVariables false
namespace Go.Proofs.Yteaikedgbgdcnaa
open Go.RowKit
/-- is a point near zone i, of another zone? -/
def nearI (a b s r x y i : Int) : Bool := decide (0 ≤ ofI a b s x y) && (decide (i ≠ ofI a b s x y) && decide (gapI (zoneI a b s i).a (zoneI a b s i).b (zoneI a b s i).c (zoneI a b s i).d x y ≤ r))
theorem axis_near {s u u' x t : Int} (s1 : 256 ≤ s) (h1 : 0 ≤ u) (h2 : u ≤ 3) (h3 : 0 ≤ u') (h4 : u' ≤ 3) (hx : u' * s ≤ x) (hx2 : x < u' * s + s)
    (h : max (u * s - x) (max (x - (u * s + s - 1)) 0) ≤ t) (ht : t ≤ s) : u - u' ≤ 1 ∧ -(u - u') ≤ 1 := by
  have e1 : u = 0 ∨ u = 1 ∨ u = 2 ∨ u = 3 := by omega
  have e2 : u' = 0 ∨ u' = 1 ∨ u' = 2 ∨ u' = 3 := by omega
  rcases e1 with rfl | rfl | rfl | rfl <;> rcases e2 with rfl | rfl | rfl | rfl <;> omega
/-- the zones that a point is near to lie beside its own one -/
theorem near_beside {a b s r : Int} (ho : Okk a b s r) (x y : Int) {k i : Int} (hk : ofI a b s x y = k) (k0 : 0 ≤ k) (k1 : k < a * b) (i0 : 0 ≤ i) (i1 : i < a * b) (hne : i ≠ k)
    (hg : gapI (zoneI a b s i).a (zoneI a b s i).b (zoneI a b s i).c (zoneI a b s i).d x y ≤ r) : besI a b k i = true := by
  have hbk := zone_bd ho k0 k1
  have hbi := zone_bd ho i0 i1
  have hdk := divs ho.a1 ho.a4 ho.b1 ho.b4 k0 k1
  have hdi := divs ho.a1 ho.a4 ho.b1 ho.b4 i0 i1
  have s1 := ho.s1
  have s2 := ho.s2
  have a4 := ho.a4
  have b4 := ho.b4
  have r1 := ho.r1
  have hzi : zoneI a b s i = ⟨i % a * s, i / a * s, i % a * s + s, i / a * s + s⟩ := if_pos ⟨i0, i1⟩
  have hnn : i % a ≠ k % a ∨ i / a ≠ k / a := by
    rcases four ho.a1 ho.a4 with rfl | rfl | rfl | rfl <;> omega
  obtain ⟨hx, hy⟩ := (zone_iff ho x y k k0 k1).1 hk
  rw [hzi] at hg
  simp only at hg
  have hX := fun h => axis_near (u := i % a) (u' := k % a) (x := x) (t := r) s1 hdi.1 (by omega) hdk.1 (by omega) hx.1 hx.2 h r1
  have hY := fun h => axis_near (u := i / a) (u' := k / a) (x := y) (t := r) s1 hdi.2.2.1 (by omega) hdk.2.2.1 (by omega) hy.1 hy.2 h r1
  unfold besI
  rw [decide_eq_true (show 0 ≤ k ∧ k < a * b from ⟨k0, k1⟩), decide_eq_true hne]
  generalize i % a * s = p at *
  generalize i / a * s = q at *
  generalize k % a * s = p' at *
  generalize k / a * s = q' at *
  generalize i % a = u at *
  generalize i / a = v at *
  generalize k % a = u' at *
  generalize k / a = v' at *
  have c1 : clamp p = p := by unfold clamp; omega
  have c2 : clamp q = q := by unfold clamp; omega
  have c3 : clamp (p + s) = p + s := by unfold clamp; omega
  have c4 : clamp (q + s) = q + s := by unfold clamp; omega
  have c5 : clamp x = x := by unfold clamp; omega
  have c6 : clamp y = y := by unfold clamp; omega
  unfold gapI at hg
  rw [c1, c2, c3, c4, c5, c6, if_pos (by omega)] at hg
  unfold offI at hg
  have h1 := hX (by omega)
  have h2 := hY (by omega)
  simp only [Bool.true_and, decide_eq_true_eq]
  omega
theorem pick_filter (Q P : Int → Bool) (m : Nat) : (pick Q m).filter P = pick (fun i => Q i && P i) m := by
  unfold pick
  rw [List.filter_map, List.filter_filter]
  congr 1
  apply List.filter_congr
  intro i _
  simp [Function.comp, Bool.and_comm]
/-- what is left of the zones beside the own one -/
theorem near_pick {a b s r : Int} (ho : Okk a b s r) (x y : Int) :
    (pick (besI a b (ofI a b s x y)) (a * b).toNat).filter (fun i => decide (0 ≤ gapI (zoneI a b s i).a (zoneI a b s i).b (zoneI a b s i).c (zoneI a b s i).d x y ∧ gapI (zoneI a b s i).a (zoneI a b s i).b (zoneI a b s i).c (zoneI a b s i).d x y ≤ r)) = pick (nearI a b s r x y) (a * b).toNat := by
  rw [pick_filter]
  refine pick_congr fun i hi => ?_
  have hab := ho.ab
  have i1 : (i : Int) < a * b := by omega
  have hnn := zone_gap_nn ho x y i (by omega) i1
  rcases of_range ho x y with h | h
  · unfold nearI
    have hb := fun hne hg => near_beside ho x y rfl h.1 h.2 (by omega) i1 hne hg
    rw [decide_eq_true h.1, Bool.true_and]
    by_cases hne : (i : Int) = ofI a b s x y
    · have : besI a b (ofI a b s x y) i = false := by unfold besI; simp [hne]
      rw [this]; simp [hne]
    · by_cases hg : gapI (zoneI a b s i).a (zoneI a b s i).b (zoneI a b s i).c (zoneI a b s i).d x y ≤ r
      · rw [hb hne hg, decide_eq_true hg, decide_eq_true (show (i : Int) ≠ _ from hne), decide_eq_true ⟨hnn, hg⟩]
      · simp [hg]
  · have h1 : besI a b (ofI a b s x y) i = false := by rw [h]; unfold besI; simp
    have h2 : nearI a b s r x y i = false := by unfold nearI; rw [h]; simp
    rw [h1, h2]; rfl
section
variable (a b s r : Int) (n : Nat) (w : World)
theorem near_nil (x y : Int) : Calls Try.prog 21 #[.pointer none, .int .i64 x, .int .i64 y] w fun e w' => e = .returned (.slice none 0 0) ∧ w.Plus w' := by
  go_enter Try.func21, Try.ntmps21
  go_wp2_with (first | (go_at_call 18; (with_reducible refine (of_nil _ _ _).mono ?_); rintro e w' ⟨rfl, ey, rfl⟩) | (go_at_call 23; (with_reducible refine (beside_nil _ _).mono ?_); rintro e w' ⟨rfl, ez, rfl⟩))
  go_loopw [7, 19] (fun v i wr => i = .int .i64 0 ∧ v = .slice none 0 0 ∧ w.Plus wr) (fun _ _ _ => 0)
  case atStart => exact ⟨rfl, rfl, by (repeat (first | exact Plus.refl _ | apply Plus.plus | apply Plus.alloc | apply Plus.drew))⟩
  case round =>
    obtain ⟨rfl, rfl, e, rfl⟩ := hrel
    go_wp2_with fail
    go_ret
    exact ⟨rfl, by (repeat (first | exact Plus.refl _ | apply Plus.plus | apply Plus.alloc | apply Plus.drew))⟩
set_option maxHeartbeats 1000000 in
theorem near_map (x y : Int) (ho : Okk a b s r) (hm : MapAt w n a b s r) :
    Calls Try.prog 21 #[mapV n, .int .i64 x, .int .i64 y] w (Left w (pick (nearI a b s r x y) (a * b).toNat)) := by
  rw [← near_pick ho x y]
  obtain ⟨i0, hi0, hz0, hz1, hz2⟩ := info_parts infoInt
  have hO := fun w hm => of_any a b s r n w x y ho hm
  have hor := of_range ho x y
  have hab := ho.ab
  have hB := fun w hm => beside_any a b s r n w (ofI a b s x y) ho hm (by omega)
  have hZ := fun k w hm => zone_any a b s r n w k ho hm
  have hlen := pick_len (besI a b (ofI a b s x y)) (a * b).toNat
  have hlen2 : (pick (besI a b (ofI a b s x y)) (a * b).toNat).length ≤ 16 := by omega
  clear hor hlen hab
  generalize ofI a b s x y = o at *
  generalize pick (besI a b o) (a * b).toNat = L at *
  obtain ⟨P, hP⟩ : ∃ P : Int → Bool, P = fun i => decide (0 ≤ gapI (zoneI a b s i).a (zoneI a b s i).b (zoneI a b s i).c (zoneI a b s i).d x y ∧ gapI (zoneI a b s i).a (zoneI a b s i).b (zoneI a b s i).c (zoneI a b s i).d x y ≤ r) := ⟨_, rfl⟩
  rw [← hP]
  have hPd := fun i => congrFun hP i
  replace hPd := Lib.hid hPd
  replace hO := Lib.hid hO
  replace hB := Lib.hid hB
  replace hZ := Lib.hid hZ
  have hm0 := Lib.hid hm
  clear hm hP ho
  go_enter Try.func21, Try.ntmps21
  go_wp2_with (first | (go_at_call 18; (with_reducible refine (hO.out _ (hm0.out.plus (by (repeat (first | exact Plus.refl _ | apply Plus.plus | apply Plus.alloc | apply Plus.drew))))).mono ?_); rintro e w' ⟨rfl, ey, rfl⟩) | (go_at_call 23; (with_reducible refine (hB.out _ (hm0.out.plus (by (repeat (first | exact Plus.refl _ | apply Plus.plus | apply Plus.alloc | apply Plus.drew))))).mono ?_); rintro e w' ⟨A, c, rfl, hr, ez, rfl⟩))
  obtain ⟨W1, hW1⟩ : ∃ W1, W1 = (w.plus ey).plus ez := ⟨_, rfl⟩
  rw [← hW1] at hr
  have hPW : w.Plus W1 := by rw [hW1]; (repeat (first | exact Plus.refl _ | apply Plus.plus | apply Plus.alloc | apply Plus.drew))
  replace hW1 := Lib.hid hW1
  go_loopw [7, 19] (fun v i wr => ∃ j : Nat, j ≤ L.length ∧ i = .int .i64 j ∧ wr.ownsRow W1.heap.size 3 1 v ((L.take j).filter P).length (((L.take j).filter P).map (Value.int .i64)) ∧ W1.Plus wr) (fun _ i _ => L.length - (intOf i).toNat)
  case atStart => exact ⟨0, Nat.zero_le _, rfl, World.ownsRow_nil _ _ _ _, by rw [hW1.out]; exact Plus.refl _⟩
  case round =>
    obtain ⟨j, hj, rfl, hown, e0, rfl⟩ := hrel
    have hp : W1.Plus (W1.plus e0) := ⟨e0, rfl⟩
    have hpl : ((L.take j).filter P).length ≤ 16 := by
      have h1 := List.length_filter_le P (L.take j)
      rw [List.length_take] at h1
      omega
    by_cases hlt : j < L.length
    · have hM := hm0.out.plus (Plus.trans hPW hp)
      have hM2 := Lib.hid hM
      obtain ⟨lt, c0, c1, c2, c3, c7, c8, c9, c10⟩ := hM
      haveI : InW n (W1.plus e0) := ⟨lt⟩
      obtain ⟨b1, o1, rfl, hb1, hc1⟩ := (hr.plus hp) (by omega)
      haveI : InW b1 (W1.plus e0) := ⟨hb1⟩
      have d1 := hc1 j 0 hlt (by omega)
      clear hc1
      unfold intAt at d1
      simp only [Nat.add_zero, Nat.mul_one] at d1
      have htk : (L.take (j + 1)).filter P = (L.take j).filter P ++ [L.getD j 0].filter P := by
        rw [List.take_succ_eq_append_getElem hlt, List.filter_append]
        simp [List.getD, hlt]
      generalize L.getD j 0 = k at d1 htk
      have hPk := hPd.out k
      have hZk := hZ.out k
      generalize zoneI a b s k = z at hPk hZk
      obtain ⟨z0, z1, z2, z3⟩ := z
      simp only at hPk
      have hN := fun w => near_any z0 z1 z2 z3 x y r w
      rw [← hPk] at hN
      replace hN := Lib.hid hN
      replace hZk := Lib.hid hZk
      replace hPk := Lib.hid hPk
      cases hPb : P k with
      | false =>
        rw [hPb] at hN
        have hn : (L.take (j + 1)).filter P = (L.take j).filter P := by rw [htk]; simp [hPb]
        clear htk
        replace hn := Lib.hid hn
        go_wp2_with fail
        refine wp_region_grow (by kernel_rfl) (by kernel_rfl) ?_
        repeat (go_big_quiet_step ((first | (go_at_call 29; exact Calls.plus_of (hZk.out _ (hM2.out.plus (by (repeat (first | exact Plus.refl _ | apply Plus.plus | apply Plus.alloc | apply Plus.drew)))))) | (go_at_call 36; exact Calls.plus_of (hN.out _)))))
        refine wpQuiet_nil ?_
        intro ex
        go_wp2_with fail
        refine ⟨⟨j + 1, hlt, by simp, by rw [hn.out]; exact hown.plus _, Plus.plus hp _⟩, ?_⟩
        simp [intOf]; omega
      | true =>
        rw [hPb] at hN
        have hn : (L.take (j + 1)).filter P = (L.take j).filter P ++ [k] := by rw [htk]; simp [hPb]
        clear htk
        replace hn := Lib.hid hn
        go_wp2_with fail
        refine wp_region_grow (by kernel_rfl) (by kernel_rfl) ?_
        repeat (go_big_quiet_step ((first | (go_at_call 29; exact Calls.plus_of (hZk.out _ (hM2.out.plus (by (repeat (first | exact Plus.refl _ | apply Plus.plus | apply Plus.alloc | apply Plus.drew)))))) | (go_at_call 36; exact Calls.plus_of (hN.out _)))))
        refine wpQuiet_nil ?_
        intro ex
        go_wp2_with (first | (at_builtin; refine wpList_append_own _ rfl _ _ 39 rfl W1.heap.size 3 i0 (.int .i64 0) 1 8 underInts hi0 hz0 hz1 hz2 rfl (by decide) _ _ _ rfl ((hown.plus _).alloc _) _ 1 1 [.int .i64 k] rfl rfl (one_new (by simp [go_sem])) (by intro u hu; simp at hu; subst hu; rfl) (by unfold maxLen; omega) (by omega) (by simp [go_sem]; omega) ?_; intro v' w1 hown1 hgrow1 _))
        refine ⟨⟨j + 1, hlt, by simp, by rw [hn.out]; simpa using hown1, World.grownBy.toPlus (Plus.alloc (Plus.plus hp _) _) hgrow1 (fun g hg => (hown.lt g hg).1)⟩, ?_⟩
        simp [intOf]; omega
    · have hjm : j = L.length := by omega
      subst hjm
      rw [List.take_length] at hown hpl
      go_wp2_with fail
      go_ret
      exact left_of rfl hown (Plus.trans hPW hp)
end
end Go.Proofs.Yteaikedgbgdcnaa
