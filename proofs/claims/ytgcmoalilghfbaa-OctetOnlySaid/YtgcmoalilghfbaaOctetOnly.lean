/- OctetOnly: no number's bytes begin another number's, and no text's begin another text's. For every input, no condition. -/
import Derived.Test.YtgcmoalilghfbaaRows
import Derived.Test.YtgcmoalilghfbaaOnly
import Derived.Test.YtgcmoalilghfbaaLift
import Derived.ProofKit
set_option linter.unusedSimpArgs false
set_option linter.unusedVariables false
namespace Go.Proofs.Ytgcmoalilghfbaa.lawOctetOnly
open Go.ChangeShapes Go.WideShapes Go.ChangeAt Go.RowKit
set_option maxHeartbeats 1000000 in
theorem walk (a b : Int) (s t : ByteArray) (w : World) (ha : In64 a) (hb : In64 b) (hs0 : s.size ≤ 140737488351232) (ht0 : t.size ≤ 140737488351232) :
    Calls Try.prog 5 #[.agg #[.int .i64 a, .int .i64 b], .agg #[.string s, .string t]] w fun e w' => e = .returned (.bool true) ∧ w.Plus w' := by
  by_cases hs : 100000 < s.size
  · have hs2 : (100000 : Int) < s.size := by omega
    go_enter Try.func5, Try.ntmps5
    go_wp2_with (first | (go_at_call 10; (with_reducible refine (awake_any _).mono ?_); rintro e w' ⟨rfl, e3, rfl⟩))
    go_ret
    exact ⟨rfl, by (repeat (first | exact Plus.refl _ | apply Plus.plus | apply Plus.alloc | apply Plus.drew))⟩
  have hs2 : ¬ (100000 : Int) < s.size := by omega
  by_cases ht : 100000 < t.size
  · have ht2 : (100000 : Int) < t.size := by omega
    go_enter Try.func5, Try.ntmps5
    go_wp2_with (first | (go_at_call 10; (with_reducible refine (awake_any _).mono ?_); rintro e w' ⟨rfl, e3, rfl⟩))
    go_ret
    exact ⟨rfl, by (repeat (first | exact Plus.refl _ | apply Plus.plus | apply Plus.alloc | apply Plus.drew))⟩
  have ht2 : ¬ (100000 : Int) < t.size := by omega
  have hIa := fun w b' c [InW b' w] h => int_at w b' c a h ha
  have hIb := fun w b' c [InW b' w] h => int_at w b' c b h hb
  have hTs := fun w b' c [InW b' w] h => text_at w b' c s h (by omega)
  have hTt := fun w b' c [InW b' w] h => text_at w b' c t h (by omega)
  have l1 := enc_le a
  have l2 := enc_le b
  have l3 := encT_length s
  have l4 := encT_length t
  have hB1 := fun w => begins_any (txt (enc a)) (txt (enc b)) w (by rw [txt_size]; omega) (by rw [txt_size]; omega)
  have hB2 := fun w => begins_any (txt (encT s)) (txt (encT t)) w (by rw [txt_size]; omega) (by rw [txt_size]; omega)
  rw [beg_int ha hb] at hB1
  rw [beg_text (by omega) (by omega)] at hB2
  obtain ⟨p, hp1, hp2⟩ : ∃ p, (a == b) = p ∧ decide (a = b) = p := ⟨_, rfl, by rw [Bool.eq_iff_iff]; simp⟩
  obtain ⟨q, hq1, hq2⟩ : ∃ q, (s.toList == t.toList) = q ∧ decide (s = t) = q := ⟨_, rfl, (eq_bytes s t).symm⟩
  rw [hp2] at hB1
  rw [hq2] at hB2
  clear hp2 hq2
  generalize txt (enc a) = X at *
  generalize txt (enc b) = Y at *
  generalize txt (encT s) = U at *
  generalize txt (encT t) = V at *
  clear l1 l2 l3 l4 ha hb
  replace hIa := Lib.hid hIa
  replace hIb := Lib.hid hIb
  replace hTs := Lib.hid hTs
  replace hTt := Lib.hid hTt
  replace hB1 := Lib.hid hB1
  replace hB2 := Lib.hid hB2
  go_enter Try.func5, Try.ntmps5
  go_upto_region 3 with fail
  go_region_held3 (fun w' => w'.cell? ⟨w.heap.size, 0, none⟩ = some (.int .i64 a) ∧ w'.cell? ⟨w.heap.size, 1, none⟩ = some (.int .i64 b) ∧ w'.cell? ⟨w.heap.size + 1, 0, none⟩ = some (.string s) ∧ w'.cell? ⟨w.heap.size + 1, 1, none⟩ = some (.string t)) (simp [go_sem]) (first | (go_at_call 12; (with_reducible refine (hIa.out _ _ _ (by first | (simp [go_sem]; done) | fail)).mono ?_); rintro e w' ⟨rfl, e1, rfl⟩) | (go_at_call 12; (with_reducible refine (hIb.out _ _ _ (by first | (simp [go_sem]; done) | fail)).mono ?_); rintro e w' ⟨rfl, e1, rfl⟩) | (go_at_call 14; (with_reducible refine (hTs.out _ _ _ (by first | (simp [go_sem]; done) | fail)).mono ?_); rintro e w' ⟨rfl, e1, rfl⟩) | (go_at_call 14; (with_reducible refine (hTt.out _ _ _ (by first | (simp [go_sem]; done) | fail)).mono ?_); rintro e w' ⟨rfl, e1, rfl⟩) | (go_at_call 20; (with_reducible refine (hB1.out _).mono ?_); rintro e w' ⟨rfl, e1, rfl⟩) | (go_at_call 20; (with_reducible refine (hB2.out _).mono ?_); rintro e w' ⟨rfl, e1, rfl⟩) | (go_at_call 10; (with_reducible refine (awake_any _).mono ?_); rintro e w' ⟨rfl, e3, rfl⟩))
  all_goals (go_wp2_with fail; go_ret; exact ⟨rfl, by (repeat (first | exact Plus.refl _ | apply Plus.plus | apply Plus.alloc | apply Plus.drew))⟩)
theorem laidOut : laidOutB Try.prog = true := by kernel_rfl
theorem own : ownKnob Try.prog.godebug = none := by kernel_rfl
set_option maxRecDepth 100000 in
set_option maxHeartbeats 1000000 in
theorem lifted (os : Os) (started : os.Started) (H : Type) (enc : TypeId × Value → H) :
    ReturnsInHanded {} Try.checked os 5 .any (Rows.octetOnlySpec.pre6 enc Try.prog Try.f5 Rows.octetOnlyRow.domain false) (Rows.octetOnlySpec.post enc Try.prog Try.f5 false true false false) := by
  refine returnsInHanded_of_change_sized (C := Try.checked) own started (by kernel_rfl) Try.func5
    (ChangeSpec.witness6 (enc := enc) (C := Try.checked) false ⟨#[], #[.agg #[.int .i64 0, .int .i64 0], .agg #[.string .empty, .string .empty]], []⟩ 8 (by kernel_rfl) (by kernel_rfl) (by kernel_rfl) (by kernel_rfl)) ?_
  intro W base args ds gs before hval0 hW hcnd hsz0 _
  have hval : ∀ (j : Nat) t v, Try.f5.params[j]? = some t → args[j]? = some v → Value.okWide Try.prog W .any base t v := hval0
  have hsz : (DataW.weightsEach Try.prog (Try.f5.params.toList ++ Rows.octetOnlySpec.plain.varTypes Try.prog) (ds ++ gs)).all (· ≤ reachBytes) = true := hsz0
  have hW' : DataW.Whole enc Try.prog Try.f5.params.toList Rows.octetOnlySpec.vars false W args.toList ds gs before := hW
  obtain ⟨p, q, hA0, hV, rfl, hfz, hnd⟩ := hW
  have hA : DataW.TrodAll enc Try.prog W 0 (fun _ => true) true Try.f5.params.toList args.toList ds p := hA0
  rw [Try.params5] at hA hval hsz
  obtain ⟨v0, vs0, d0, ds0, p0, q0, hargs, rfl, rfl, h0, r0⟩ := trodAll_cons hA
  obtain ⟨v1, vs1, d1, ds1, p1, q1, rfl, rfl, rfl, h1, r1⟩ := trodAll_cons r0
  obtain ⟨rfl, rfl, rfl⟩ := trodAll_nil r1
  obtain rfl : args = #[v0, v1] := by cases args; simp_all
  obtain ⟨rfl, rfl⟩ := trodVars_none hV
  have light : ∀ (j : Nat) (t : TypeId) (d : DataW H), (Try.f5.params.toList ++ Rows.octetOnlySpec.plain.varTypes Try.prog)[j]? = some t → ([d0, d1] : List (DataW H))[j]? = some d → Light Try.prog t d := fun j t d hj hd m hm => by
    have h := List.all_eq_true.1 hsz m (DataW.weights_mem_each (j := j) (by rw [Try.params5] at hj; exact hj) (by simpa using hd) m hm)
    simpa using h
  obtain ⟨x0, c0, hh0, hv0⟩ := open_arg (n := 8) (ty := (.pair (.int .i64) (.pair (.int .i64) .unit))) (by kernel_rfl) (hval 0 _ v0 rfl rfl) h0 (light 0 _ _ rfl rfl)
  obtain ⟨hc0, wf0⟩ := hh0.flat rfl
  rw [hc0] at hv0
  obtain rfl : v0 = .agg #[.int .i64 x0.1, .int .i64 x0.2.1] := hv0
  clear hc0 hh0 h0
  obtain ⟨x1, c1, hh1, hv1⟩ := open_arg (n := 8) (ty := (.pair .str (.pair .str .unit))) (by kernel_rfl) (hval 1 _ v1 rfl rfl) h1 (light 1 _ _ rfl rfl)
  obtain ⟨hc1, wf1⟩ := hh1.flat rfl
  rw [hc1] at hv1
  obtain rfl : v1 = .agg #[.string x1.1, .string x1.2.1] := hv1
  clear hc1 hh1 h1
  clear hA0 hval0 hval light hsz hsz0
  refine (walk _ _ _ _ W (bounds_i64 wf0.1) (bounds_i64 wf0.2.1) wf1.1 wf1.2.1).mono fun e W' ⟨he, hp⟩ => ?_
  subst he
  exact ⟨_, rfl, post_true hW' rfl rfl rfl rfl laidOut (by kernel_rfl) rfl (by kernel_rfl) (Plus.below hp)⟩
theorem proved : Rows.OctetOnlySaid :=
  OpenClaim.holds_of_wide 5 Try.f5 rfl rfl rfl rfl rfl rfl rfl ⟨rfl, rfl, rfl, rfl, rfl⟩ rfl rfl rfl rfl rfl (by kernel_rfl) Try.func5 (by kernel_rfl)
    (of_decide_eq_true (by kernel_rfl)) (by unfold Func.isWrapper; first | (rw [if_pos (by decide +kernel)]; kernel_rfl) | (rw [if_neg (by decide +kernel)]; exact ⟨rfl, rfl⟩))
    (fun os started H enc _ => lifted os started H enc)
end Go.Proofs.Ytgcmoalilghfbaa.lawOctetOnly
