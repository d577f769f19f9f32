/- TopMail: messages come over: whatever two nodes say to one another, in packets that are lost, doubled and late: behind a rest in which all come each has heard just what the other one said, once, in order. For every input, no condition. -/
import Derived.Test.YthmfmpkkbgapoaaRows
import Derived.Test.YthmfmpkkbgapoaaMailG
import Derived.ProofKit
set_option linter.unusedSimpArgs false
set_option linter.unusedVariables false
namespace Go.Proofs.Ythmfmpkkbgapoaa.lawTopMail
open Go.ChangeShapes Go.WideShapes Go.ChangeAt Go.RowKit Go.Deep Octs
theorem open_msgs {w : World} {x : List msTy.El} {c : List Value} (h : Holds w (.slice 96 msTy) x c) : ∃ (A : Option Addr) (cp : Nat) (xs : List (MsgR × MAt)), c = [.slice A xs.length cp] ∧ xs.length ≤ 9223372036854775807 ∧ RowsAt w A 6 xs.length (msRow xs) ∧ ∀ x ∈ xs, MRows w x.1 x.2 := by
  obtain ⟨A, cp, rfl, hl, hb, _, hr⟩ := h
  have hcp : cp * 96 ≤ 140737488355328 := Nat.le_trans hb (by decide)
  rcases Nat.eq_zero_or_pos x.length with h0 | h0
  · exact ⟨A, cp, [], by rw [h0]; rfl, by simp, RowsAt.zero _ _ _ _, fun d hd => by cases hd⟩
  · obtain ⟨b, off, hA, hbl, hc⟩ := hr h0
    have each : ∀ i, i < x.length → ∃ d : MsgR × MAt, (∀ j, j < 6 → w.cell? ⟨b, off + (i * 6 + j), none⟩ = (msC d.1 d.2)[j]?) ∧ MRows w d.1 d.2 := fun i hi => by
      obtain ⟨row, hrl, hrc, hh⟩ := hc i _ (List.getElem?_eq_getElem hi)
      obtain ⟨m, a, rfl, h1⟩ := open_msg hh
      refine ⟨(m, a), fun j hj => ?_, h1⟩
      have h6 : (mCs m a).length = 6 := rfl
      show _ = (mCs m a)[j]?
      rw [List.getElem?_eq_getElem (by rw [h6]; exact hj)]
      exact hrc j _ (List.getElem?_eq_getElem (by rw [h6]; exact hj))
    haveI : Inhabited (MsgR × MAt) := ⟨ms0⟩
    obtain ⟨F, hF⟩ := choose_lt each
    refine ⟨A, cp, (List.range x.length).map F, by simp, by simp; omega, fun _ => ⟨b, off, hA, hbl, fun i j hi hj => ?_⟩, fun d hd => ?_⟩
    · have hi' : i < x.length := by simpa using hi
      rw [(hF i hi').1 j hj]
      unfold msRow
      have e : ((List.range x.length).map F).getD i ms0 = F i := by
        rw [List.getD_eq_getElem?_getD, List.getElem?_map, List.getElem?_range hi']
        rfl
      rw [e]
      have h6 : (msC (F i).1 (F i).2).length = 6 := rfl
      rw [List.getD_eq_getElem?_getD, List.getElem?_eq_getElem (by rw [h6]; exact hj)]
      rfl
    · obtain ⟨i, hi, rfl⟩ := List.mem_map.1 hd
      exact (hF i (List.mem_range.1 hi)).2
theorem laidOut : laidOutB Try.prog = true := by kernel_rfl
theorem own : ownKnob Try.prog.godebug = none := by kernel_rfl
set_option maxRecDepth 100000 in
set_option maxHeartbeats 1000000 in
theorem lifted (os : Os) (started : os.Started) (H : Type) (enc : TypeId × Value → H) :
    ReturnsInHanded {} Try.checked os 3 .any (Rows.topMailSpec.pre6 enc Try.prog Try.f3 Rows.topMailRow.domain false) (Rows.topMailSpec.post enc Try.prog Try.f3 false true false false) := by
  refine returnsInHanded_of_change_sized (C := Try.checked) own started (by kernel_rfl) Try.func3
    (ChangeSpec.witness6 (enc := enc) (C := Try.checked) false ⟨#[], #[.slice none 0 0, .slice none 0 0, .slice none 0 0], []⟩ 8 (by kernel_rfl) (by kernel_rfl) (by kernel_rfl) (by kernel_rfl)) ?_
  intro W base args ds gs before hval0 hW hcnd hsz0 _
  have hval : ∀ (j : Nat) t v, Try.f3.params[j]? = some t → args[j]? = some v → Value.okWide Try.prog W .any base t v := hval0
  have hsz : (DataW.weightsEach Try.prog (Try.f3.params.toList ++ Rows.topMailSpec.plain.varTypes Try.prog) (ds ++ gs)).all (· ≤ reachBytes) = true := hsz0
  have hW' : DataW.Whole enc Try.prog Try.f3.params.toList Rows.topMailSpec.vars false W args.toList ds gs before := hW
  obtain ⟨p, q, hA0, hV, rfl, hfz, hnd⟩ := hW
  have hA : DataW.TrodAll enc Try.prog W 0 (fun _ => true) true Try.f3.params.toList args.toList ds p := hA0
  rw [Try.params3] at hA hval hsz
  obtain ⟨v0, vs0, d0, ds0, p0, q0, hargs, rfl, rfl, h0, r0⟩ := trodAll_cons hA
  obtain ⟨v1, vs1, d1, ds1, p1, q1, rfl, rfl, rfl, h1, r1⟩ := trodAll_cons r0
  obtain ⟨v2, vs2, d2, ds2, p2, q2, rfl, rfl, rfl, h2, r2⟩ := trodAll_cons r1
  obtain ⟨rfl, rfl, rfl⟩ := trodAll_nil r2
  obtain rfl : args = #[v0, v1, v2] := by cases args; simp_all
  obtain ⟨rfl, rfl⟩ := trodVars_none hV
  have light : ∀ (j : Nat) (t : TypeId) (d : DataW H), (Try.f3.params.toList ++ Rows.topMailSpec.plain.varTypes Try.prog)[j]? = some t → ([d0, d1, d2] : List (DataW H))[j]? = some d → Light Try.prog t d := fun j t d hj hd m hm => by
    have h := List.all_eq_true.1 hsz m (DataW.weights_mem_each (j := j) (by rw [Try.params3] at hj; exact hj) (by simpa using hd) m hm)
    simpa using h
  obtain ⟨x0, c0, hh0, hv0⟩ := open_arg (n := 8) (ty := (.slice 96 (.pair (.int .i64) (.pair (.int .i64) (.pair (.int .i64) (.pair (.slice 128 (.pair (.int .i64) (.pair (.pair (.int .i64) (.pair (.int .i64) (.pair (.int .i64) .unit))) (.pair (.pair (.pair (.int .i64) (.pair (.int .i64) (.pair (.int .i64) .unit))) (.pair (.int .i64) (.pair (.int .i64) (.pair (.int .i64) (.pair (.int .i64) (.pair (.int .i64) (.pair (.int .i64) (.pair (.int .i64) (.pair (.int .i64) .unit))))))))) (.pair (.int .i64) .unit))))) (.pair (.slice 88 (.pair (.pair (.int .i64) (.pair (.int .i64) (.pair (.int .i64) .unit))) (.pair (.int .i64) (.pair (.int .i64) (.pair (.int .i64) (.pair (.int .i64) (.pair (.int .i64) (.pair (.int .i64) (.pair (.int .i64) (.pair (.int .i64) .unit)))))))))) (.pair (.slice 24 (.pair (.int .i64) (.pair (.int .i64) (.pair (.int .i64) .unit)))) .unit)))))))) (by kernel_rfl) (hval 0 _ v0 rfl rfl) h0 (light 0 _ _ rfl rfl)
  obtain ⟨x1, c1, hh1, hv1⟩ := open_arg (n := 8) (ty := (.slice 96 (.pair (.int .i64) (.pair (.int .i64) (.pair (.int .i64) (.pair (.slice 128 (.pair (.int .i64) (.pair (.pair (.int .i64) (.pair (.int .i64) (.pair (.int .i64) .unit))) (.pair (.pair (.pair (.int .i64) (.pair (.int .i64) (.pair (.int .i64) .unit))) (.pair (.int .i64) (.pair (.int .i64) (.pair (.int .i64) (.pair (.int .i64) (.pair (.int .i64) (.pair (.int .i64) (.pair (.int .i64) (.pair (.int .i64) .unit))))))))) (.pair (.int .i64) .unit))))) (.pair (.slice 88 (.pair (.pair (.int .i64) (.pair (.int .i64) (.pair (.int .i64) .unit))) (.pair (.int .i64) (.pair (.int .i64) (.pair (.int .i64) (.pair (.int .i64) (.pair (.int .i64) (.pair (.int .i64) (.pair (.int .i64) (.pair (.int .i64) .unit)))))))))) (.pair (.slice 24 (.pair (.int .i64) (.pair (.int .i64) (.pair (.int .i64) .unit)))) .unit)))))))) (by kernel_rfl) (hval 1 _ v1 rfl rfl) h1 (light 1 _ _ rfl rfl)
  obtain ⟨x2, c2, hh2, hv2⟩ := open_arg (n := 8) (ty := (.slice 24 (.pair (.int .i64) (.pair (.int .i64) (.pair (.int .i64) .unit))))) (by kernel_rfl) (hval 2 _ v2 rfl rfl) h2 (light 2 _ _ rfl rfl)
  clear hA0 hval0 hval light hsz hsz0
  obtain ⟨A0, c0, xs0, hc0, hl0, hr0, hm0⟩ := open_msgs hh0
  rw [hc0] at hv0
  obtain rfl : v0 = .slice A0 xs0.length c0 := (List.cons.inj hv0).1.symm
  clear hc0 hh0 hv0 h0
  obtain ⟨A1, c1, xs1, hc1, hl1, hr1, hm1⟩ := open_msgs hh1
  rw [hc1] at hv1
  obtain rfl : v1 = .slice A1 xs1.length c1 := (List.cons.inj hv1).1.symm
  clear hc1 hh1 hv1 h1
  obtain ⟨A2, c2, ls, hc2, hl2, hr2, -⟩ := openI hh2
  rw [hc2] at hv2
  obtain rfl : v2 = .slice A2 ls.length c2 := (List.cons.inj hv2).1.symm
  clear hc2 hh2 hv2 h2
  refine (topMail_any xs0 xs1 ls A0 A1 A2 c0 c1 c2 W hr0 hr1 hr2 hm0 hm1 hl0 hl1 hl2).mono fun e W' ⟨he, hp⟩ => ?_
  subst he
  exact ⟨_, rfl, post_true hW' rfl rfl rfl rfl laidOut (by kernel_rfl) rfl (by kernel_rfl) (Plus.below hp)⟩
theorem proved : Rows.TopMailSaid :=
  OpenClaim.holds_of_wide 3 Try.f3 rfl rfl rfl rfl rfl rfl rfl ⟨rfl, rfl, rfl, rfl, rfl⟩ rfl rfl rfl rfl rfl (by kernel_rfl) Try.func3 (by kernel_rfl)
    (of_decide_eq_true (by kernel_rfl)) (by unfold Func.isWrapper; first | (rw [if_pos (by decide +kernel)]; kernel_rfl) | (rw [if_neg (by decide +kernel)]; exact ⟨rfl, rfl⟩))
    (fun os started H enc _ => lifted os started H enc)
end Go.Proofs.Ythmfmpkkbgapoaa.lawTopMail
