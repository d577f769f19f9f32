/- FixedAdds: any numbers are added one behind the other, and each sum brought to the nearest one that may be. For every input, no condition. -/
import Derived.Test.YtndbcjgbcplgcaaDoorRows
import Derived.Test.YtndbcjgbcplgcaaDoorCards
import Derived.Test.YtndbcjgbcplgcaaDoorTie
import Derived.Test.YtndbcjgbcplgcaaDoorFixLaid
set_option linter.unusedSimpArgs false
set_option linter.unusedVariables false
namespace Go.Proofs.YtndbcjgbcplgcaaDoor.lawFixedAdds
open Go.ChangeShapes Go.WideShapes Go.ChangeAt Go.RowKit
theorem walk (xs : List Int) (A : Option Addr) (c : Nat) (w : World) (hn : xs.length ≤ 140737488351232) (hr : RowsAt w A 1 xs.length (intAt xs)) :
    Calls Tryd.prog 4 #[.slice A xs.length c] w fun e w' => e = .returned (.bool true) ∧ w.Plus w' := by
  have h1 := Lib.hid (fun w' (hp : w.Plus w') => add_any w' A c xs hn (hr.plus hp))
  have h2 := Lib.hid (fun w' (hp : w.Plus w') => ref_add_any w' A c xs hn (hr.plus hp))
  replace hr := Lib.hid hr
  generalize fadd xs = F at *
  by_cases hl : 1000 < xs.length
  · have hl1 : (1000 : Int) < xs.length := by omega
    have hl2 : ¬ (xs.length : Int) ≤ 1000 := by omega
    go_enter Tryd.func4, Tryd.ntmps4
    go_wp2_with (first | (go_at_call 15; (with_reducible refine (awake_any _).mono ?_); rintro e w' ⟨rfl, ey, rfl⟩))
    go_ret
    exact ⟨rfl, by (repeat (first | exact Plus.refl _ | apply Plus.plus | apply Plus.alloc | apply Plus.drew))⟩
  · have hl1 : ¬ (1000 : Int) < xs.length := by omega
    have hl2 : (xs.length : Int) ≤ 1000 := by omega
    have hl3 : decide (1000 < xs.length) = false := by simp; omega
    have hl4 : decide (xs.length ≤ 1000) = true := by simp; omega
    go_enter Tryd.func4, Tryd.ntmps4
    go_wp2_with (first | (go_at_call 16; (with_reducible refine (h1.out _ (by (repeat (first | exact Plus.refl _ | apply Plus.plus | apply Plus.alloc | apply Plus.drew)))).mono ?_); rintro e w' ⟨rfl, e1, rfl⟩) | (go_at_call 17; (with_reducible refine (h2.out _ (by (repeat (first | exact Plus.refl _ | apply Plus.plus | apply Plus.alloc | apply Plus.drew)))).mono ?_); rintro e w' ⟨rfl, e2, rfl⟩) | (go_at_call 15; (with_reducible refine (awake_any _).mono ?_); rintro e w' ⟨rfl, ey, rfl⟩))
    go_ret
    exact ⟨rfl, by (repeat (first | exact Plus.refl _ | apply Plus.plus | apply Plus.alloc | apply Plus.drew))⟩
theorem laid_met (os : Os) : laidMet Tryd.prog Rows.fixedAddsRow.laid ((laidWorld os).forCall (fun _ _ => 0) ⟨#[], #[.slice none 0 0], []⟩).memory :=
  laidMet_of_run' 8 (by kernel_rfl) (by kernel_rfl)
theorem reads (os : Os) {H : Type} (enc : TypeId × Value → H) : ∃ places, DataW.whole enc Tryd.prog ((laidWorld os).forCall (fun _ _ => 0) ⟨#[], #[.slice none 0 0], []⟩).memory Tryd.f4.params.toList Rows.fixedAddsSpec.vars false (#[.slice none 0 0] : Array Value).toList 8 = some ([.nil], [], places) :=
  ⟨[], by kernel_rfl⟩
set_option maxRecDepth 100000 in
set_option maxHeartbeats 1000000 in
theorem lifted (os : Os) (started : os.Started) (H : Type) (enc : TypeId × Value → H) (F : Stop.Interp) :
    ReturnsInHanded {} Tryd.checked os 4 .any ((OpenSpec.ofChange Rows.fixedAddsSpec).preRow enc Tryd.prog Tryd.f4 Rows.fixedAddsRow.domain false Rows.fixedAddsRow.laid) (((OpenSpec.ofChange Rows.fixedAddsSpec).at F).post enc Tryd.prog Tryd.f4 false true false false) := by
  obtain ⟨places, hx⟩ := reads os enc
  refine returnsInHanded_of_row (C := Tryd.checked) (s := OpenSpec.ofChange Rows.fixedAddsSpec) own started (by kernel_rfl) Tryd.func4
    (witness_row_at (enc := enc) (C := Tryd.checked) false (laidWorld os) #[.slice none 0 0] rfl (by kernel_rfl) (by kernel_rfl) (by kernel_rfl)
      (OpenSpec.preRow_of_cond 8 hx (by kernel_rfl) (fun k hk => by cases hk) (by kernel_rfl) (laid_met os))) ?_
  intro W base args ds gs before hval0 hW _ _ hsz0 hL _ _
  have hT := nibOf hL
  have hval : ∀ (j : Nat) t v, Tryd.f4.params[j]? = some t → args[j]? = some v → Value.okWide Tryd.prog W .any base t v := hval0
  have hsz : (DataW.weightsEach Tryd.prog (Tryd.f4.params.toList ++ Rows.fixedAddsSpec.plain.varTypes Tryd.prog) (ds ++ gs)).all (· ≤ reachBytes) = true := hsz0
  have hW' : DataW.Whole enc Tryd.prog Tryd.f4.params.toList Rows.fixedAddsSpec.vars false W args.toList ds gs before := hW
  obtain ⟨p, q, hA0, hV, rfl, hfz, hnd⟩ := hW
  have hA : DataW.TrodAll enc Tryd.prog W 0 (fun _ => true) true Tryd.f4.params.toList args.toList ds p := hA0
  rw [Tryd.params4] at hA hval hsz
  obtain ⟨v0, vs0, d0, ds0, p0, q0, hargs, rfl, rfl, h0, r0⟩ := trodAll_cons hA
  obtain ⟨rfl, rfl, rfl⟩ := trodAll_nil r0
  obtain rfl : args = #[v0] := by cases args; simp_all
  obtain ⟨rfl, rfl⟩ := trodVars_none hV
  have light : ∀ (j : Nat) (t : TypeId) (d : DataW H), (Tryd.f4.params.toList ++ Rows.fixedAddsSpec.plain.varTypes Tryd.prog)[j]? = some t → ([d0] : List (DataW H))[j]? = some d → Light Tryd.prog t d := fun j t d hj hd m hm => by
    have h := List.all_eq_true.1 hsz m (DataW.weights_mem_each (j := j) (by rw [Tryd.params4] at hj; exact hj) (by simpa using hd) m hm)
    simpa using h
  obtain ⟨x0, c0, hh0, hv0⟩ := open_arg (n := 8) (ty := (.slice 8 (.int .i64))) (by kernel_rfl) (hval 0 _ v0 rfl rfl) h0 (light 0 _ _ rfl rfl)
  clear hA0 hval0 hval light hsz hsz0
  obtain ⟨A, c, hc0, hl, hcap, hmx, hwf, hr⟩ := hh0.rows rfl
  rw [hc0] at hv0
  obtain rfl : v0 = .slice A x0.length c := (List.cons.inj hv0).1.symm
  have hrow := hr (intAt x0) (fun i j x hx hj => by
    have hj0 : j = 0 := Nat.lt_one_iff.1 hj
    subst hj0
    have hget : x0.getD i 0 = x := by simp [List.getD, hx]
    unfold intAt
    rw [hget]
    rfl)
  have hmax : x0.length ≤ 140737488351232 := by
    have : c * 8 ≤ 140737488351232 := hcap
    omega
  refine (walk x0 A c _ hmax hrow).mono fun e W' ⟨he, hp⟩ => ?_
  subst he
  exact ⟨_, rfl, post_true hW' rfl rfl rfl rfl laidOut (by kernel_rfl) rfl (by kernel_rfl) (Plus.below hp)⟩
theorem said : Rows.FixedAddsSaid :=
  OpenClaim.holds_of_cond 4 Tryd.f4 rfl rfl rfl rfl rfl rfl rfl ⟨rfl, rfl, rfl, rfl, rfl⟩ rfl rfl rfl rfl rfl (by kernel_rfl) Tryd.func4 (by kernel_rfl)
    (of_decide_eq_true (by kernel_rfl)) (by unfold Func.isWrapper; first | (rw [if_pos (by decide +kernel)]; kernel_rfl) | (rw [if_neg (by decide +kernel)]; exact ⟨rfl, rfl⟩))
    (fun os started H enc _ F => by rw [OpenClaim.pre_eq_preRow]; exact lifted os started H enc F)
theorem plain (f : FuncId) (fn : Func) (hf : Tryd.pinned.checked.prog.funcNamed "hedgerow/hedgerowlaw02.FixedAdds" = some f) (hfn : Tryd.pinned.checked.prog.funcs[f]? = some fn) :
    false = Tryd.pinned.checked.prog.looks [] ∧ ∀ (j : Nat) t, fn.params[j]? = some t → Tryd.pinned.checked.prog.wantsStandIn t = false := by
  obtain rfl : f = 4 := Option.some.inj ((show Tryd.prog.funcNamed "hedgerow/hedgerowlaw02.FixedAdds" = some 4 by kernel_rfl).symm.trans hf) |>.symm
  obtain rfl : fn = Tryd.f4 := (Option.some.inj (Tryd.func4.symm.trans hfn)).symm
  refine ⟨by kernel_rfl, fun j t ht => ?_⟩
  rw [Tryd.params4] at ht
  have hall : (Tryd.f4.params.toList.all fun t => Tryd.prog.wantsStandIn t == false) = true := by kernel_rfl
  rw [Tryd.params4] at hall
  have := List.all_eq_true.1 hall t (by simpa using Array.mem_of_getElem? ht)
  exact (show Tryd.prog.wantsStandIn t = false by simpa using this)
theorem card : Rows.FixedAddsCardSaid :=
  Claim7.holds_tied_plain_at .later [] _ _ _ _ said (fun _ h => by cases h) (by kernel_rfl) (fun _ h => by cases h) fixedAdds_row_tie rfl ⟨rfl, rfl⟩ (by kernel_rfl) rfl plain (by kernel_rfl)
end Go.Proofs.YtndbcjgbcplgcaaDoor.lawFixedAdds
