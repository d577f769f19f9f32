/- SessionPlays: whatever is said, heard and posted: each answer, and how the end stands, are the document's. For every input, no condition. -/
import Derived.Test.YtpmebmbibajcoaaRows
import Derived.Test.YtpmebmbibajcoaaSesL
import Derived.Test.YtpmebmbibajcoaaLift
import Derived.ProofKit
set_option linter.unusedSimpArgs false
set_option linter.unusedVariables false
namespace Go.Proofs.Ytpmebmbibajcoaa.lawSessionPlays
open Go.ChangeShapes Go.WideShapes Go.ChangeAt Go.RowKit Go.Deep
abbrev deedTy : Ty := .pair (.int .i64) (.pair (.slice 16 .str) (.pair (.pair (.int .i64) (.pair (.int .i64) (.pair (.int .i64) (.pair (.int .i64) (.pair .str .unit))))) .unit))
/-- one deed, opened -/
theorem open_deed {w : World} {x : deedTy.El} {row : List Value} (h : Holds w deedTy x row) : ∃ d : Deed, row = d.cs ∧ d.ln ≤ d.lc ∧ d.lc ≤ 140737488351232 ∧ ∃ xs, d.ln = xs.length ∧ RowsAt w d.la 1 d.ln (strAt xs) := by
  obtain ⟨c1, c2, rfl, _, ⟨rfl, _⟩, c3, c4, rfl, _, ⟨A, cp, rfl, hl, hb, _, hr⟩, c5, c6, rfl, _, ⟨_, _, rfl, _, ⟨rfl, _⟩, _, _, rfl, _, ⟨rfl, _⟩, _, _, rfl, _, ⟨rfl, _⟩, _, _, rfl, _, ⟨rfl, _⟩, _, _, rfl, _, ⟨rfl, _⟩, rfl⟩, rfl⟩ := h
  refine ⟨⟨x.1, A, x.2.1.length, cp, ⟨x.2.2.1.1, x.2.2.1.2.1, x.2.2.1.2.2.1, x.2.2.1.2.2.2.1, x.2.2.1.2.2.2.2.1⟩⟩, rfl, hl, ?_, x.2.1, rfl, fun h0 => ?_⟩
  · have : cp * 16 ≤ 140737488351232 := hb
    show cp ≤ _
    omega
  · obtain ⟨b, off, hA, hbl, hc⟩ := hr h0
    refine ⟨b, off, hA, hbl, fun i j hi hj => ?_⟩
    obtain rfl : j = 0 := by omega
    have hi' : i < x.2.1.length := hi
    obtain ⟨r, hrl, hrc, hs, _⟩ := hc i _ (List.getElem?_eq_getElem hi')
    subst hs
    have := hrc 0 _ rfl
    unfold strAt
    rw [List.getD_eq_getElem?_getD, List.getElem?_eq_getElem hi']
    exact this
theorem open_deeds {w : World} {x : List deedTy.El} {c : List Value} (h : Holds w (.slice 80 deedTy) x c) : ∃ (A : Option Addr) (cp : Nat) (ds : List Deed), c = [.slice A ds.length cp] ∧ ds.length ≤ cp ∧ cp ≤ 140737488351232 ∧ RowsAt w A 7 ds.length (deedRow ds) ∧
    ∀ d ∈ ds, d.ln ≤ d.lc ∧ d.lc ≤ 140737488351232 ∧ ∃ xs, d.ln = xs.length ∧ RowsAt w d.la 1 d.ln (strAt xs) := by
  obtain ⟨A, cp, rfl, hl, hb, _, hr⟩ := h
  have hcp : cp ≤ 140737488351232 := by
    have : cp * 80 ≤ 140737488351232 := hb
    omega
  rcases Nat.eq_zero_or_pos x.length with h0 | h0
  · exact ⟨A, cp, [], by rw [h0]; rfl, by simp, hcp, RowsAt.zero _ _ _ _, fun d hd => by cases hd⟩
  · obtain ⟨b, off, hA, hbl, hc⟩ := hr h0
    have each : ∀ i, i < x.length → ∃ d : Deed, (∀ j, j < 7 → w.cell? ⟨b, off + (i * 7 + j), none⟩ = d.cs[j]?) ∧ d.ln ≤ d.lc ∧ d.lc ≤ 140737488351232 ∧ ∃ xs, d.ln = xs.length ∧ RowsAt w d.la 1 d.ln (strAt xs) := fun i hi => by
      obtain ⟨row, hrl, hrc, hh⟩ := hc i _ (List.getElem?_eq_getElem hi)
      obtain ⟨d, rfl, h1⟩ := open_deed hh
      refine ⟨d, fun j hj => ?_, h1⟩
      have h7 : d.cs.length = 7 := rfl
      rw [List.getElem?_eq_getElem (by rw [h7]; exact hj)]
      exact hrc j _ (List.getElem?_eq_getElem (by rw [h7]; exact hj))
    haveI : Inhabited Deed := ⟨de0⟩
    obtain ⟨F, hF⟩ := choose_lt each
    refine ⟨A, cp, (List.range x.length).map F, by simp, by simpa using hl, hcp, fun _ => ⟨b, off, hA, hbl, fun i j hi hj => ?_⟩, fun d hd => ?_⟩
    · have hi' : i < x.length := by simpa using hi
      rw [(hF i hi').1 j hj]
      unfold deedRow
      have e : ((List.range x.length).map F).getD i de0 = F i := by
        rw [List.getD_eq_getElem?_getD, List.getElem?_map, List.getElem?_range hi']
        rfl
      rw [e]
      have h7 : (F i).cs.length = 7 := rfl
      rw [List.getD_eq_getElem?_getD, List.getElem?_eq_getElem (by rw [h7]; exact hj)]
      rfl
    · obtain ⟨i, hi, rfl⟩ := List.mem_map.1 hd
      exact (hF i (List.mem_range.1 hi)).2
theorem laidOut : laidOutB Try.prog = true := by kernel_rfl
theorem own : ownKnob Try.prog.godebug = none := by kernel_rfl
set_option maxRecDepth 100000 in
set_option maxHeartbeats 1000000 in
theorem lifted (os : Os) (started : os.Started) (H : Type) (enc : TypeId × Value → H) :
    ReturnsInHanded {} Try.checked os 6 .any (Rows.sessionPlaysSpec.pre6 enc Try.prog Try.f6 Rows.sessionPlaysRow.domain false) (Rows.sessionPlaysSpec.post enc Try.prog Try.f6 false true false false) := by
  refine returnsInHanded_of_change_sized (C := Try.checked) own started (by kernel_rfl) Try.func6
    (ChangeSpec.witness6 (enc := enc) (C := Try.checked) false ⟨#[], #[.int .i64 0, .slice none 0 0], []⟩ 8 (by kernel_rfl) (by kernel_rfl) (by kernel_rfl) (by kernel_rfl)) ?_
  intro W base args ds gs before hval0 hW hcnd hsz0 _
  have hval : ∀ (j : Nat) t v, Try.f6.params[j]? = some t → args[j]? = some v → Value.okWide Try.prog W .any base t v := hval0
  have hsz : (DataW.weightsEach Try.prog (Try.f6.params.toList ++ Rows.sessionPlaysSpec.plain.varTypes Try.prog) (ds ++ gs)).all (· ≤ reachBytes) = true := hsz0
  have hW' : DataW.Whole enc Try.prog Try.f6.params.toList Rows.sessionPlaysSpec.vars false W args.toList ds gs before := hW
  obtain ⟨p, q, hA0, hV, rfl, hfz, hnd⟩ := hW
  have hA : DataW.TrodAll enc Try.prog W 0 (fun _ => true) true Try.f6.params.toList args.toList ds p := hA0
  rw [Try.params6] at hA hval hsz
  obtain ⟨v0, vs0, d0, ds0, p0, q0, hargs, rfl, rfl, h0, r0⟩ := trodAll_cons hA
  obtain ⟨v1, vs1, d1, ds1, p1, q1, rfl, rfl, rfl, h1, r1⟩ := trodAll_cons r0
  obtain ⟨rfl, rfl, rfl⟩ := trodAll_nil r1
  obtain rfl : args = #[v0, v1] := by cases args; simp_all
  obtain ⟨rfl, rfl⟩ := trodVars_none hV
  have light : ∀ (j : Nat) (t : TypeId) (d : DataW H), (Try.f6.params.toList ++ Rows.sessionPlaysSpec.plain.varTypes Try.prog)[j]? = some t → ([d0, d1] : List (DataW H))[j]? = some d → Light Try.prog t d := fun j t d hj hd m hm => by
    have h := List.all_eq_true.1 hsz m (DataW.weights_mem_each (j := j) (by rw [Try.params6] at hj; exact hj) (by simpa using hd) m hm)
    simpa using h
  obtain ⟨x0, c0, hh0, hv0⟩ := open_arg (n := 8) (ty := (.int .i64)) (by kernel_rfl) (hval 0 _ v0 rfl rfl) h0 (light 0 _ _ rfl rfl)
  obtain ⟨hc0, wf0⟩ := hh0.flat rfl
  rw [hc0] at hv0
  obtain rfl : v0 = .int .i64 x0 := (List.cons.inj hv0).1.symm
  clear hc0 hh0 h0
  obtain ⟨x1, c1, hh1, hv1⟩ := open_arg (n := 8) (ty := (.slice 80 (.pair (.int .i64) (.pair (.slice 16 .str) (.pair (.pair (.int .i64) (.pair (.int .i64) (.pair (.int .i64) (.pair (.int .i64) (.pair .str .unit))))) .unit))))) (by kernel_rfl) (hval 1 _ v1 rfl rfl) h1 (light 1 _ _ rfl rfl)
  clear hA0 hval0 hval light hsz hsz0
  obtain ⟨A, c, ds, hc1, hcp1, hcp2, hrows, hds⟩ := open_deeds hh1
  rw [hc1] at hv1
  obtain rfl : v1 = .slice A ds.length c := (List.cons.inj hv1).1.symm
  clear hc1 hh1 hv1 h1
  refine (plays_any x0 ds A c _ (by omega) ⟨hcp1, hcp2⟩ hrows hds).mono fun e W' ⟨he, hp⟩ => ?_
  subst he
  exact ⟨_, rfl, post_true hW' rfl rfl rfl rfl laidOut (by kernel_rfl) rfl (by kernel_rfl) (Plus.below hp)⟩
theorem proved : Rows.SessionPlaysSaid :=
  OpenClaim.holds_of_wide 6 Try.f6 rfl rfl rfl rfl rfl rfl rfl ⟨rfl, rfl, rfl, rfl, rfl⟩ rfl rfl rfl rfl rfl (by kernel_rfl) Try.func6 (by kernel_rfl)
    (of_decide_eq_true (by kernel_rfl)) (by unfold Func.isWrapper; first | (rw [if_pos (by decide +kernel)]; kernel_rfl) | (rw [if_neg (by decide +kernel)]; exact ⟨rfl, rfl⟩))
    (fun os started H enc _ => lifted os started H enc)
end Go.Proofs.Ytpmebmbibajcoaa.lawSessionPlays
