/- ZonesReach: whoever goes at most Speed, and is brought into the world, is in the same zone, or in one beside it. For every input, no condition. -/
import Derived.Test.YteaikedgbgdcnaaRows
import Derived.Test.YteaikedgbgdcnaaZonesK
import Derived.Test.YteaikedgbgdcnaaLift
import Derived.ProofKit
set_option linter.unusedSimpArgs false
set_option linter.unusedVariables false
namespace Go.Proofs.Yteaikedgbgdcnaa.lawZonesReach
open Go.ChangeShapes Go.WideShapes Go.ChangeAt Go.RowKit
theorem axis_reach {s u u' x x' t : Int} (s1 : 256 ≤ s) (h1 : 0 ≤ u) (h2 : u ≤ 3) (h3 : 0 ≤ u') (h4 : u' ≤ 3) (hx : u' * s ≤ x) (hx2 : x < u' * s + s)
    (hy : u * s ≤ x') (hy2 : x' < u * s + s) (hd : -t ≤ x' - x ∧ x' - x ≤ t) (ht : t ≤ s) : u - u' ≤ 1 ∧ -(u - u') ≤ 1 := by
  have e1 : u = 0 ∨ u = 1 ∨ u = 2 ∨ u = 3 := by omega
  have e2 : u' = 0 ∨ u' = 1 ∨ u' = 2 ∨ u' = 3 := by omega
  rcases e1 with rfl | rfl | rfl | rfl <;> rcases e2 with rfl | rfl | rfl | rfl <;> omega
theorem reach {a b s r : Int} (ho : Okk a b s r) {x y u w t k j : Int} (ht : t ≤ s) (hk : ofI a b s x y = k) (hj : ofI a b s u w = j) (k0 : 0 ≤ k) (k1 : k < a * b) (j0 : 0 ≤ j) (j1 : j < a * b)
    (hx : -t ≤ u - x ∧ u - x ≤ t) (hy : -t ≤ w - y ∧ w - y ≤ t) (hne : j ≠ k) : besI a b k j = true := by
  have hdk := divs ho.a1 ho.a4 ho.b1 ho.b4 k0 k1
  have hdi := divs ho.a1 ho.a4 ho.b1 ho.b4 j0 j1
  have s1 := ho.s1
  have a4 := ho.a4
  have b4 := ho.b4
  obtain ⟨h1, h2⟩ := (zone_iff ho x y k k0 k1).1 hk
  obtain ⟨h3, h4⟩ := (zone_iff ho u w j j0 j1).1 hj
  have hX := axis_reach (t := t) s1 hdi.1 (by omega) hdk.1 (by omega) h1.1 h1.2 h3.1 h3.2 hx ht
  have hY := axis_reach (t := t) s1 hdi.2.2.1 (by omega) hdk.2.2.1 (by omega) h2.1 h2.2 h4.1 h4.2 hy ht
  have hnn : j % a ≠ k % a ∨ j / a ≠ k / a := by
    rcases four ho.a1 ho.a4 with rfl | rfl | rfl | rfl <;> omega
  unfold besI
  rw [decide_eq_true (show 0 ≤ k ∧ k < a * b from ⟨k0, k1⟩), decide_eq_true hne]
  simp only [Bool.true_and, decide_eq_true_eq]
  omega
theorem of_in {a b s r : Int} (ho : Okk a b s r) (x y : Int) (hx : 0 ≤ x ∧ x < a * s) (hy : 0 ≤ y ∧ y < b * s) : 0 ≤ ofI a b s x y ∧ ofI a b s x y < a * b := by
  rcases of_range ho x y with h | h
  · exact h
  · exact absurd ⟨hx.1, hx.2, hy⟩ ((of_neg ho x y).1 h)
set_option maxHeartbeats 2000000 in
theorem walk (a b s r p i q p0 p1 v0 v1 : Int) (w : World) : Calls Try.prog 6 #[(Cfg.mk a b s r p i q).v, .agg #[.int .i64 p0, .int .i64 p1], .agg #[.int .i64 v0, .int .i64 v1]] w fun e w' => e = .returned (.bool true) ∧ w.Plus w' := by
  have hMay := fun w => may_any a b s r p i q w
  have hok := May_ok (Cfg.mk a b s r p i q)
  generalize May (Cfg.mk a b s r p i q) = C at *
  obtain ⟨a', b', s', r', p', i', q'⟩ := C
  have ho := hok.okk
  have hsp : 0 ≤ p' ∧ p' ≤ s' ∧ s' ≤ 1048576 := by simp only [Cfg.ok] at hok; omega
  have hN := fun w => new_ok a' b' s' r' p' i' q' w hok
  have hI := fun k x y w hm => in_any a' b' s' r' k w x y ho hm
  have hO := fun k x y w hm => of_any a' b' s' r' k w x y ho hm
  have hA := ho.as
  have hB := ho.bs
  have hab := ho.ab
  have hr : ∀ x y u w k j, ofI a' b' s' x y = k → ofI a' b' s' u w = j → _ → _ → _ → _ → _ → _ → _ → _ := fun x y u w k j hk hj k0 k1 j0 j1 hx hy hne => reach ho (x := x) (y := y) (u := u) (w := w) (t := p') hsp.2.1 hk hj k0 k1 j0 j1 hx hy hne
  have hin := fun x y hx hy => of_in ho x y hx hy
  have hBs := fun k hk n w hm => beside_any a' b' s' r' n w k ho hm hk
  obtain ⟨A, hAe⟩ : ∃ A, a' * s' = A := ⟨_, rfl⟩
  obtain ⟨B, hBe⟩ : ∃ B, b' * s' = B := ⟨_, rfl⟩
  rw [hAe] at hA
  rw [hBe] at hB
  simp only [hAe, hBe] at hI hin
  have x0 : 0 ≤ inI p0 A ∧ inI p0 A < A := by unfold inI; omega
  have y0 : 0 ≤ inI p1 B ∧ inI p1 B < B := by unfold inI; omega
  generalize hxx : inI p0 A = x at *
  generalize hyy : inI p1 B = y at *
  have m1 := Int.emod_nonneg v0 (show 2 * p' + 1 ≠ 0 by omega)
  have m2 := Int.emod_lt_of_pos v0 (show 0 < 2 * p' + 1 by omega)
  have m3 := Int.emod_nonneg v1 (show 2 * p' + 1 ≠ 0 by omega)
  have m4 := Int.emod_lt_of_pos v1 (show 0 < 2 * p' + 1 by omega)
  have hM0 := fun w => mod_any w v0 (2 * p' + 1) (by omega) (by omega)
  have hM1 := fun w => mod_any w v1 (2 * p' + 1) (by omega) (by omega)
  have g1 : IntKind.i64.wrap (2 * p') = 2 * p' := iw_id (by omega) (by omega)
  have g2 : IntKind.i64.wrap (2 * p' + 1) = 2 * p' + 1 := iw_id (by omega) (by omega)
  have g3 : IntKind.i64.wrap (x + v0 % (2 * p' + 1)) = x + v0 % (2 * p' + 1) := iw_id (by omega) (by omega)
  have g4 : IntKind.i64.wrap (y + v1 % (2 * p' + 1)) = y + v1 % (2 * p' + 1) := iw_id (by omega) (by omega)
  have g5 : IntKind.i64.wrap (x + v0 % (2 * p' + 1) - p') = x + v0 % (2 * p' + 1) - p' := iw_id (by omega) (by omega)
  have g6 : IntKind.i64.wrap (y + v1 % (2 * p' + 1) - p') = y + v1 % (2 * p' + 1) - p' := iw_id (by omega) (by omega)
  have u0 : 0 ≤ inI (x + v0 % (2 * p' + 1) - p') A ∧ inI (x + v0 % (2 * p' + 1) - p') A < A := by unfold inI; omega
  have w0 : 0 ≤ inI (y + v1 % (2 * p' + 1) - p') B ∧ inI (y + v1 % (2 * p' + 1) - p') B < B := by unfold inI; omega
  have u1 : -p' ≤ inI (x + v0 % (2 * p' + 1) - p') A - x ∧ inI (x + v0 % (2 * p' + 1) - p') A - x ≤ p' := by unfold inI; omega
  have w1 : -p' ≤ inI (y + v1 % (2 * p' + 1) - p') B - y ∧ inI (y + v1 % (2 * p' + 1) - p') B - y ≤ p' := by unfold inI; omega
  have k0 := hin x y x0 y0
  have j0 := hin _ _ u0 w0
  have hrr := hr _ _ _ _ _ _ rfl rfl k0.1 k0.2 j0.1 j0.2 u1 w1
  have hI1 := fun k w hm => hI k p0 p1 w hm
  rw [hxx, hyy] at hI1
  have hI2 := fun k w hm => hI k (x + v0 % (2 * p' + 1) - p') (y + v1 % (2 * p' + 1) - p') w hm
  generalize inI (x + v0 % (2 * p' + 1) - p') A = u at *
  generalize inI (y + v1 % (2 * p' + 1) - p') B = v at *
  have hO1 := fun k w hm => hO k x y w hm
  have hO2 := fun k w hm => hO k u v w hm
  generalize ofI a' b' s' x y = k at *
  generalize ofI a' b' s' u v = j at *
  have hBk := hBs k (by omega)
  have hmem : j ≠ k → j ∈ pick (besI a' b' k) (a' * b').toNat := fun hne => pick_mem.2 ⟨by omega, hrr hne⟩
  have hlen := pick_len (besI a' b' k) (a' * b').toNat
  have hlen2 : (pick (besI a' b' k) (a' * b').toNat).length ≤ 100 := by omega
  generalize pick (besI a' b' k) (a' * b').toNat = L at *
  unfold Cfg.v at *
  replace hN := Lib.hid hN
  replace hI1 := Lib.hid hI1
  replace hI2 := Lib.hid hI2
  replace hO1 := Lib.hid hO1
  replace hO2 := Lib.hid hO2
  replace hBk := Lib.hid hBk
  replace hMay := Lib.hid hMay
  replace hmem := Lib.hid hmem
  replace hM0 := Lib.hid hM0
  replace hM1 := Lib.hid hM1
  have kk := k0.1
  have jj := j0.1
  clear hok ho hO hI hBs hr hrr hin hlen hAe hBe hxx hyy hA hB hab
  by_cases hne : j = k
  · subst hne
    go_enter Try.func6, Try.ntmps6
    go_wp2_with (first
      | (go_at_call 15; (with_reducible refine (hMay.out _).mono ?_); rintro e w' ⟨rfl, ex, rfl⟩)
      | (go_at_call 11; (with_reducible refine (hN.out _).mono ?_); rintro e w' ⟨n, rfl, hm, e0, rfl⟩)
      | (go_at_call 16; (with_reducible refine (hI1.out _ _ (hm.plus (by (repeat (first | exact Plus.refl _ | apply Plus.plus | apply Plus.alloc | apply Plus.drew))))).mono ?_); rintro e w' ⟨rfl, e2, rfl⟩))
    refine wp_region_grow (by kernel_rfl) (by kernel_rfl) ?_
    repeat (go_big_quiet_step ((first | (go_at_call 25; exact Calls.plus_of (mod_any _ _ _ (by omega) (by omega))) | (go_at_call 16; exact Calls.plus_of (hI2.out _ _ (hm.plus (by (repeat (first | exact Plus.refl _ | apply Plus.plus | apply Plus.alloc | apply Plus.drew)))))))))
    refine wpQuiet_nil ?_
    intro ex
    go_wp2_with (first
      | (go_at_call 18; (with_reducible refine (hO1.out _ _ (hm.plus (by (repeat (first | exact Plus.refl _ | apply Plus.plus | apply Plus.alloc | apply Plus.drew))))).mono ?_); rintro e w' ⟨rfl, e3, rfl⟩)
      | (go_at_call 18; (with_reducible refine (hO2.out _ _ (hm.plus (by (repeat (first | exact Plus.refl _ | apply Plus.plus | apply Plus.alloc | apply Plus.drew))))).mono ?_); rintro e w' ⟨rfl, e4, rfl⟩)
      | (go_at_call 23; (with_reducible refine (hBk.out _ _ (hm.plus (by (repeat (first | exact Plus.refl _ | apply Plus.plus | apply Plus.alloc | apply Plus.drew))))).mono ?_); rintro e w' ⟨D, c, rfl, hr, e5, rfl⟩)
      | (go_at_call 14; (with_reducible refine (awake_any _).mono ?_); rintro e w' ⟨rfl, e7, rfl⟩))
    go_ret
    exact ⟨rfl, by (repeat (first | exact Plus.refl _ | apply Plus.plus | apply Plus.alloc | apply Plus.drew))⟩
  · have hL : ∀ w A c, RowsAt w A 1 L.length (intAt L) → Calls Try.prog 26 #[.slice A L.length c, .int .i64 j] w fun e w' => e = .returned (.bool true) ∧ w.Plus w' := fun w A c ha =>
      (has_list w L A c j hlen2 ha).mono fun e w' ⟨he, hp⟩ => ⟨by rw [he]; exact ret_bool (by simpa using hmem.out hne), hp⟩
    replace hL := Lib.hid hL
    have hne1 : (j == k) = false := by simpa using hne
    have hne2 : decide (j = k) = false := by simpa using hne
    go_enter Try.func6, Try.ntmps6
    go_wp2_with (first
      | (go_at_call 15; (with_reducible refine (hMay.out _).mono ?_); rintro e w' ⟨rfl, ex, rfl⟩)
      | (go_at_call 11; (with_reducible refine (hN.out _).mono ?_); rintro e w' ⟨n, rfl, hm, e0, rfl⟩)
      | (go_at_call 16; (with_reducible refine (hI1.out _ _ (hm.plus (by (repeat (first | exact Plus.refl _ | apply Plus.plus | apply Plus.alloc | apply Plus.drew))))).mono ?_); rintro e w' ⟨rfl, e2, rfl⟩))
    refine wp_region_grow (by kernel_rfl) (by kernel_rfl) ?_
    repeat (go_big_quiet_step ((first | (go_at_call 25; exact Calls.plus_of (mod_any _ _ _ (by omega) (by omega))) | (go_at_call 16; exact Calls.plus_of (hI2.out _ _ (hm.plus (by (repeat (first | exact Plus.refl _ | apply Plus.plus | apply Plus.alloc | apply Plus.drew)))))))))
    refine wpQuiet_nil ?_
    intro ex
    go_wp2_with (first
      | (go_at_call 18; (with_reducible refine (hO1.out _ _ (hm.plus (by (repeat (first | exact Plus.refl _ | apply Plus.plus | apply Plus.alloc | apply Plus.drew))))).mono ?_); rintro e w' ⟨rfl, e3, rfl⟩)
      | (go_at_call 18; (with_reducible refine (hO2.out _ _ (hm.plus (by (repeat (first | exact Plus.refl _ | apply Plus.plus | apply Plus.alloc | apply Plus.drew))))).mono ?_); rintro e w' ⟨rfl, e4, rfl⟩)
      | (go_at_call 23; (with_reducible refine (hBk.out _ _ (hm.plus (by (repeat (first | exact Plus.refl _ | apply Plus.plus | apply Plus.alloc | apply Plus.drew))))).mono ?_); rintro e w' ⟨D, c, rfl, hr, e5, rfl⟩)
      | (go_at_call 26; (with_reducible refine (hL.out _ _ _ (hr.plus (by (repeat (first | exact Plus.refl _ | apply Plus.plus | apply Plus.alloc | apply Plus.drew))))).mono ?_); rintro e w' ⟨rfl, e6, rfl⟩)
      | (go_at_call 14; (with_reducible refine (awake_any _).mono ?_); rintro e w' ⟨rfl, e7, rfl⟩))
    go_ret
    exact ⟨rfl, by (repeat (first | exact Plus.refl _ | apply Plus.plus | apply Plus.alloc | apply Plus.drew))⟩
theorem laidOut : laidOutB Try.prog = true := by kernel_rfl
theorem own : ownKnob Try.prog.godebug = none := by kernel_rfl
set_option maxRecDepth 100000 in
set_option maxHeartbeats 1000000 in
theorem lifted (os : Os) (started : os.Started) (H : Type) (enc : TypeId × Value → H) :
    ReturnsInHanded {} Try.checked os 6 .any (Rows.zonesReachSpec.pre6 enc Try.prog Try.f6 Rows.zonesReachRow.domain false) (Rows.zonesReachSpec.post enc Try.prog Try.f6 false true false false) := by
  refine returnsInHanded_of_change_sized (C := Try.checked) own started (by kernel_rfl) Try.func6
    (ChangeSpec.witness6 (enc := enc) (C := Try.checked) false ⟨#[], #[.agg #[.int .i64 0, .int .i64 0, .int .i64 0, .int .i64 0, .int .i64 0, .int .i64 0, .int .i64 0], .agg #[.int .i64 0, .int .i64 0], .agg #[.int .i64 0, .int .i64 0]], []⟩ 8 (by kernel_rfl) (by kernel_rfl) (by kernel_rfl) (by kernel_rfl)) ?_
  intro W base args ds gs before hval0 hW hcnd hsz0 _
  have hval : ∀ (j : Nat) t v, Try.f6.params[j]? = some t → args[j]? = some v → Value.okWide Try.prog W .any base t v := hval0
  have hsz : (DataW.weightsEach Try.prog (Try.f6.params.toList ++ Rows.zonesReachSpec.plain.varTypes Try.prog) (ds ++ gs)).all (· ≤ reachBytes) = true := hsz0
  have hW' : DataW.Whole enc Try.prog Try.f6.params.toList Rows.zonesReachSpec.vars false W args.toList ds gs before := hW
  obtain ⟨p, q, hA0, hV, rfl, hfz, hnd⟩ := hW
  have hA : DataW.TrodAll enc Try.prog W 0 (fun _ => true) true Try.f6.params.toList args.toList ds p := hA0
  rw [Try.params6] at hA hval hsz
  obtain ⟨v0, vs0, d0, ds0, p0, q0, hargs, rfl, rfl, h0, r0⟩ := trodAll_cons hA
  obtain ⟨v1, vs1, d1, ds1, p1, q1, rfl, rfl, rfl, h1, r1⟩ := trodAll_cons r0
  obtain ⟨v2, vs2, d2, ds2, p2, q2, rfl, rfl, rfl, h2, r2⟩ := trodAll_cons r1
  obtain ⟨rfl, rfl, rfl⟩ := trodAll_nil r2
  obtain rfl : args = #[v0, v1, v2] := by cases args; simp_all
  obtain ⟨rfl, rfl⟩ := trodVars_none hV
  have light : ∀ (j : Nat) (t : TypeId) (d : DataW H), (Try.f6.params.toList ++ Rows.zonesReachSpec.plain.varTypes Try.prog)[j]? = some t → ([d0, d1, d2] : List (DataW H))[j]? = some d → Light Try.prog t d := fun j t d hj hd m hm => by
    have h := List.all_eq_true.1 hsz m (DataW.weights_mem_each (j := j) (by rw [Try.params6] at hj; exact hj) (by simpa using hd) m hm)
    simpa using h
  obtain ⟨x0, c0, hh0, hv0⟩ := open_arg (n := 8) (ty := (.pair (.int .i64) (.pair (.int .i64) (.pair (.int .i64) (.pair (.int .i64) (.pair (.int .i64) (.pair (.int .i64) (.pair (.int .i64) .unit)))))))) (by kernel_rfl) (hval 0 _ v0 rfl rfl) h0 (light 0 _ _ rfl rfl)
  obtain ⟨hc0, wf0⟩ := hh0.flat rfl
  rw [hc0] at hv0
  obtain rfl : v0 = .agg #[.int .i64 x0.1, .int .i64 x0.2.1, .int .i64 x0.2.2.1, .int .i64 x0.2.2.2.1, .int .i64 x0.2.2.2.2.1, .int .i64 x0.2.2.2.2.2.1, .int .i64 x0.2.2.2.2.2.2.1] := hv0
  clear hc0 hh0 h0
  obtain ⟨x1, c1, hh1, hv1⟩ := open_arg (n := 8) (ty := (.pair (.int .i64) (.pair (.int .i64) .unit))) (by kernel_rfl) (hval 1 _ v1 rfl rfl) h1 (light 1 _ _ rfl rfl)
  obtain ⟨hc1, wf1⟩ := hh1.flat rfl
  rw [hc1] at hv1
  obtain rfl : v1 = .agg #[.int .i64 x1.1, .int .i64 x1.2.1] := hv1
  clear hc1 hh1 h1
  obtain ⟨x2, c2, hh2, hv2⟩ := open_arg (n := 8) (ty := (.pair (.int .i64) (.pair (.int .i64) .unit))) (by kernel_rfl) (hval 2 _ v2 rfl rfl) h2 (light 2 _ _ rfl rfl)
  obtain ⟨hc2, wf2⟩ := hh2.flat rfl
  rw [hc2] at hv2
  obtain rfl : v2 = .agg #[.int .i64 x2.1, .int .i64 x2.2.1] := hv2
  clear hc2 hh2 h2
  clear hA0 hval0 hval light hsz hsz0
  refine (walk _ _ _ _ _ _ _ _ _ _ _ W).mono fun e W' ⟨he, hp⟩ => ?_
  subst he
  exact ⟨_, rfl, post_true hW' rfl rfl rfl rfl laidOut (by kernel_rfl) rfl (by kernel_rfl) (Plus.below hp)⟩
theorem proved : Rows.ZonesReachSaid :=
  OpenClaim.holds_of_wide 6 Try.f6 rfl rfl rfl rfl rfl rfl rfl ⟨rfl, rfl, rfl, rfl, rfl⟩ rfl rfl rfl rfl rfl (by kernel_rfl) Try.func6 (by kernel_rfl)
    (of_decide_eq_true (by kernel_rfl)) (by unfold Func.isWrapper; first | (rw [if_pos (by decide +kernel)]; kernel_rfl) | (rw [if_neg (by decide +kernel)]; exact ⟨rfl, rfl⟩))
    (fun os started H enc _ => lifted os started H enc)
end Go.Proofs.Yteaikedgbgdcnaa.lawZonesReach
