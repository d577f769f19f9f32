/- SessionEnds: if all posts come for a while, all that both ends say is heard, and then nothing is posted any more, whatever came ahead of it. For every input, no condition. -/
import Derived.Test.YtpmebmbibajcoaaRows
import Derived.Test.YtpmebmbibajcoaaOnceO
import Derived.Test.YtpmebmbibajcoaaOnceU
import Derived.Test.YtpmebmbibajcoaaLift
import Derived.ProofKit
set_option linter.unusedSimpArgs false
set_option linter.unusedVariables false
namespace Go.Proofs.Ytpmebmbibajcoaa.lawSessionEnds
open Go.ChangeShapes Go.WideShapes Go.ChangeAt Go.RowKit Go.Deep
theorem laidOut : laidOutB Try.prog = true := by kernel_rfl
theorem own : ownKnob Try.prog.godebug = none := by kernel_rfl
set_option maxRecDepth 100000 in
set_option maxHeartbeats 1000000 in
theorem lifted (os : Os) (started : os.Started) (H : Type) (enc : TypeId × Value → H) :
    ReturnsInHanded {} Try.checked os 8 .any (Rows.sessionEndsSpec.pre6 enc Try.prog Try.f8 Rows.sessionEndsRow.domain false) (Rows.sessionEndsSpec.post enc Try.prog Try.f8 false true false false) := by
  refine returnsInHanded_of_change_sized (C := Try.checked) own started (by kernel_rfl) Try.func8
    (ChangeSpec.witness6 (enc := enc) (C := Try.checked) false ⟨#[], #[.slice none 0 0, .slice none 0 0, .slice none 0 0], []⟩ 8 (by kernel_rfl) (by kernel_rfl) (by kernel_rfl) (by kernel_rfl)) ?_
  intro W base args ds gs before hval0 hW hcnd hsz0 _
  have hval : ∀ (j : Nat) t v, Try.f8.params[j]? = some t → args[j]? = some v → Value.okWide Try.prog W .any base t v := hval0
  have hsz : (DataW.weightsEach Try.prog (Try.f8.params.toList ++ Rows.sessionEndsSpec.plain.varTypes Try.prog) (ds ++ gs)).all (· ≤ reachBytes) = true := hsz0
  have hW' : DataW.Whole enc Try.prog Try.f8.params.toList Rows.sessionEndsSpec.vars false W args.toList ds gs before := hW
  obtain ⟨p, q, hA0, hV, rfl, hfz, hnd⟩ := hW
  have hA : DataW.TrodAll enc Try.prog W 0 (fun _ => true) true Try.f8.params.toList args.toList ds p := hA0
  rw [Try.params8] at hA hval hsz
  obtain ⟨v0, vs0, d0, ds0, p0, q0, hargs, rfl, rfl, h0, r0⟩ := trodAll_cons hA
  obtain ⟨v1, vs1, d1, ds1, p1, q1, rfl, rfl, rfl, h1, r1⟩ := trodAll_cons r0
  obtain ⟨v2, vs2, d2, ds2, p2, q2, rfl, rfl, rfl, h2, r2⟩ := trodAll_cons r1
  obtain ⟨rfl, rfl, rfl⟩ := trodAll_nil r2
  obtain rfl : args = #[v0, v1, v2] := by cases args; simp_all
  obtain ⟨rfl, rfl⟩ := trodVars_none hV
  have light : ∀ (j : Nat) (t : TypeId) (d : DataW H), (Try.f8.params.toList ++ Rows.sessionEndsSpec.plain.varTypes Try.prog)[j]? = some t → ([d0, d1, d2] : List (DataW H))[j]? = some d → Light Try.prog t d := fun j t d hj hd m hm => by
    have h := List.all_eq_true.1 hsz m (DataW.weights_mem_each (j := j) (by rw [Try.params8] at hj; exact hj) (by simpa using hd) m hm)
    simpa using h
  obtain ⟨x0, c0, hh0, hv0⟩ := open_arg (n := 8) (ty := (.slice 40 (.pair (.int .i64) (.pair (.int .i64) (.pair (.int .i64) (.pair .str .unit)))))) (by kernel_rfl) (hval 0 _ v0 rfl rfl) h0 (light 0 _ _ rfl rfl)
  obtain ⟨x1, c1, hh1, hv1⟩ := open_arg (n := 8) (ty := (.slice 16 .str)) (by kernel_rfl) (hval 1 _ v1 rfl rfl) h1 (light 1 _ _ rfl rfl)
  obtain ⟨x2, c2, hh2, hv2⟩ := open_arg (n := 8) (ty := (.slice 16 .str)) (by kernel_rfl) (hval 2 _ v2 rfl rfl) h2 (light 2 _ _ rfl rfl)
  clear hA0 hval0 hval light hsz hsz0
  obtain ⟨A1, c1, hc1, hl1, hcap1, hmx1, hwf1, hr1⟩ := hh1.rows rfl
  rw [hc1] at hv1
  obtain rfl : v1 = .slice A1 x1.length c1 := (List.cons.inj hv1).1.symm
  have hrows1 := hr1 (strAt x1) (fun i j x hx hj => by
    obtain rfl : j = 0 := by have : j < 1 := hj; omega
    have : strAt x1 i 0 = .string x := by
      unfold strAt
      rw [List.getD_eq_getElem?_getD, hx]; rfl
    rw [this]; rfl)
  have hlen1 : (x1 : List ByteArray).length ≤ 140737488351232 := by
    have : c1 * 16 ≤ 140737488351232 := hcap1
    omega
  clear hr1 hc1 hh1 hv1 h1 hwf1

  obtain ⟨A2, c2, hc2, hl2, hcap2, hmx2, hwf2, hr2⟩ := hh2.rows rfl
  rw [hc2] at hv2
  obtain rfl : v2 = .slice A2 x2.length c2 := (List.cons.inj hv2).1.symm
  have hrows2 := hr2 (strAt x2) (fun i j x hx hj => by
    obtain rfl : j = 0 := by have : j < 1 := hj; omega
    have : strAt x2 i 0 = .string x := by
      unfold strAt
      rw [List.getD_eq_getElem?_getD, hx]; rfl
    rw [this]; rfl)
  have hlen2 : (x2 : List ByteArray).length ≤ 140737488351232 := by
    have : c2 * 16 ≤ 140737488351232 := hcap2
    omega
  clear hr2 hc2 hh2 hv2 h2 hwf2

  obtain ⟨A, c, ts, hc1', hcp1, hcp2, hrows, hds⟩ := open_turns hh0
  rw [hc1'] at hv0
  obtain rfl : v0 = .slice A ts.length c := (List.cons.inj hv0).1.symm
  clear hc1' hh0 hv0 h0
  refine (ends_any ts A c x1 A1 c1 x2 A2 c2 _ (by omega) hrows hds hlen1 hrows1 hlen2 hrows2).mono fun e W' ⟨he, hp⟩ => ?_
  subst he
  exact ⟨_, rfl, post_true hW' rfl rfl rfl rfl laidOut (by kernel_rfl) rfl (by kernel_rfl) (Plus.below hp)⟩
theorem proved : Rows.SessionEndsSaid :=
  OpenClaim.holds_of_wide 8 Try.f8 rfl rfl rfl rfl rfl rfl rfl ⟨rfl, rfl, rfl, rfl, rfl⟩ rfl rfl rfl rfl rfl (by kernel_rfl) Try.func8 (by kernel_rfl)
    (of_decide_eq_true (by kernel_rfl)) (by unfold Func.isWrapper; first | (rw [if_pos (by decide +kernel)]; kernel_rfl) | (rw [if_neg (by decide +kernel)]; exact ⟨rfl, rfl⟩))
    (fun os started H enc _ => lifted os started H enc)
end Go.Proofs.Ytpmebmbibajcoaa.lawSessionEnds
