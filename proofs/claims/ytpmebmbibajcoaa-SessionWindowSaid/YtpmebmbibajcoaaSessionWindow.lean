/- SessionWindow: at most Window texts are posted at a time, the first ones that wait, by numbers that rise by one; they wait until they are acknowledged, and are posted again till then. For every input, no condition. -/
import Derived.Test.YtpmebmbibajcoaaRows
import Derived.Test.YtpmebmbibajcoaaSesWin
import Derived.Test.YtpmebmbibajcoaaLift
import Derived.ProofKit
set_option linter.unusedSimpArgs false
set_option linter.unusedVariables false
namespace Go.Proofs.Ytpmebmbibajcoaa.lawSessionWindow
open Go.ChangeShapes Go.WideShapes Go.ChangeAt Go.RowKit
theorem laidOut : laidOutB Try.prog = true := by kernel_rfl
theorem own : ownKnob Try.prog.godebug = none := by kernel_rfl
set_option maxRecDepth 100000 in
set_option maxHeartbeats 1000000 in
theorem lifted (os : Os) (started : os.Started) (H : Type) (enc : TypeId × Value → H) :
    ReturnsInHanded {} Try.checked os 3 .any (Rows.sessionWindowSpec.pre6 enc Try.prog Try.f3 Rows.sessionWindowRow.domain false) (Rows.sessionWindowSpec.post enc Try.prog Try.f3 false true false false) := by
  refine returnsInHanded_of_change_sized (C := Try.checked) own started (by kernel_rfl) Try.func3
    (ChangeSpec.witness6 (enc := enc) (C := Try.checked) false ⟨#[], #[.slice none 0 0, .int .i64 0], []⟩ 8 (by kernel_rfl) (by kernel_rfl) (by kernel_rfl) (by kernel_rfl)) ?_
  intro W base args ds gs before hval0 hW hcnd hsz0 _
  have hval : ∀ (j : Nat) t v, Try.f3.params[j]? = some t → args[j]? = some v → Value.okWide Try.prog W .any base t v := hval0
  have hsz : (DataW.weightsEach Try.prog (Try.f3.params.toList ++ Rows.sessionWindowSpec.plain.varTypes Try.prog) (ds ++ gs)).all (· ≤ reachBytes) = true := hsz0
  have hW' : DataW.Whole enc Try.prog Try.f3.params.toList Rows.sessionWindowSpec.vars false W args.toList ds gs before := hW
  obtain ⟨p, q, hA0, hV, rfl, hfz, hnd⟩ := hW
  have hA : DataW.TrodAll enc Try.prog W 0 (fun _ => true) true Try.f3.params.toList args.toList ds p := hA0
  rw [Try.params3] at hA hval hsz
  obtain ⟨v0, vs0, d0, ds0, p0, q0, hargs, rfl, rfl, h0, r0⟩ := trodAll_cons hA
  obtain ⟨v1, vs1, d1, ds1, p1, q1, rfl, rfl, rfl, h1, r1⟩ := trodAll_cons r0
  obtain ⟨rfl, rfl, rfl⟩ := trodAll_nil r1
  obtain rfl : args = #[v0, v1] := by cases args; simp_all
  obtain ⟨rfl, rfl⟩ := trodVars_none hV
  have light : ∀ (j : Nat) (t : TypeId) (d : DataW H), (Try.f3.params.toList ++ Rows.sessionWindowSpec.plain.varTypes Try.prog)[j]? = some t → ([d0, d1] : List (DataW H))[j]? = some d → Light Try.prog t d := fun j t d hj hd m hm => by
    have h := List.all_eq_true.1 hsz m (DataW.weights_mem_each (j := j) (by rw [Try.params3] at hj; exact hj) (by simpa using hd) m hm)
    simpa using h
  obtain ⟨x0, c0, hh0, hv0⟩ := open_arg (n := 8) (ty := (.slice 16 .str)) (by kernel_rfl) (hval 0 _ v0 rfl rfl) h0 (light 0 _ _ rfl rfl)
  obtain ⟨x1, c1, hh1, hv1⟩ := open_arg (n := 8) (ty := (.int .i64)) (by kernel_rfl) (hval 1 _ v1 rfl rfl) h1 (light 1 _ _ rfl rfl)
  obtain ⟨hc1, wf1⟩ := hh1.flat rfl
  rw [hc1] at hv1
  obtain rfl : v1 = .int .i64 x1 := (List.cons.inj hv1).1.symm
  clear hc1 hh1 h1
  clear hA0 hval0 hval light hsz hsz0
  obtain ⟨A, c, hc0, hl, hcap, hmx, hwf, hr⟩ := hh0.rows rfl
  rw [hc0] at hv0
  obtain rfl : v0 = .slice A x0.length c := (List.cons.inj hv0).1.symm
  have hrows := hr (strAt x0) (fun i j x hx hj => by
    obtain rfl : j = 0 := by have : j < 1 := hj; omega
    have : strAt x0 i 0 = .string x := by
      unfold strAt
      rw [List.getD_eq_getElem?_getD, hx]; rfl
    rw [this]; rfl)
  have hsz : ∀ k, ((x0 : List ByteArray).getD k ByteArray.empty).size ≤ 140737488351232 := fun k => by
    rw [List.getD_eq_getElem?_getD]
    cases hk : (x0 : List ByteArray)[k]? with
    | none => simp
    | some y => exact hwf y (List.mem_of_getElem? hk)
  have hlen : (x0 : List ByteArray).length ≤ 140737488351232 := by
    have : c * 16 ≤ 140737488351232 := hcap
    omega
  clear hr hc0 hh0 hv0 h0 hwf

  refine (window_any x0 A c _ _ hlen hrows).mono fun e W' ⟨he, hp⟩ => ?_
  subst he
  exact ⟨_, rfl, post_true hW' rfl rfl rfl rfl laidOut (by kernel_rfl) rfl (by kernel_rfl) (Plus.below hp)⟩
theorem proved : Rows.SessionWindowSaid :=
  OpenClaim.holds_of_wide 3 Try.f3 rfl rfl rfl rfl rfl rfl rfl ⟨rfl, rfl, rfl, rfl, rfl⟩ rfl rfl rfl rfl rfl (by kernel_rfl) Try.func3 (by kernel_rfl)
    (of_decide_eq_true (by kernel_rfl)) (by unfold Func.isWrapper; first | (rw [if_pos (by decide +kernel)]; kernel_rfl) | (rw [if_neg (by decide +kernel)]; exact ⟨rfl, rfl⟩))
    (fun os started H enc _ => lifted os started H enc)
end Go.Proofs.Ytpmebmbibajcoaa.lawSessionWindow
