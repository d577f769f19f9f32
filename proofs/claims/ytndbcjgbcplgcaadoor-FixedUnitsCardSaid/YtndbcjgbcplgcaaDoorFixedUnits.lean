/- FixedUnits: one changes nothing by which it is multiplied, or which it divides; nought makes nought, and adds nothing. For every input, no condition. -/
import Derived.Test.YtndbcjgbcplgcaaDoorRows
import Derived.Test.YtndbcjgbcplgcaaDoorCards
import Derived.Test.YtndbcjgbcplgcaaDoorTie
import Derived.Test.YtndbcjgbcplgcaaDoorFixLaid
set_option linter.unusedSimpArgs false
set_option linter.unusedVariables false
namespace Go.Proofs.YtndbcjgbcplgcaaDoor.lawFixedUnits
open Go.ChangeShapes Go.WideShapes Go.ChangeAt Go.RowKit
theorem one_at (w : World) (b : Nat) (xs : List Int) (h0 : b < w.heap.size) (h : ∀ i, i < xs.length → w.cell? ⟨b, i, none⟩ = some (.int .i64 (xs.getD i 0))) : RowsAt w (some ⟨b, 0, none⟩) 1 xs.length (intAt xs) :=
  fun _ => ⟨b, 0, rfl, h0, fun i j hi hj => by
    have hj0 : j = 0 := by omega
    subst hj0
    have := h i hi
    simp only [Nat.mul_one, Nat.add_zero, Nat.zero_add]
    exact this⟩
theorem walk (n : Int) (w : World) : Calls Tryd.prog 12 #[.int .i64 n] w fun e w' => e = .returned (.bool true) ∧ w.Plus w' := by
  have hc := fcl_in n
  have hd := Lib.hid (fun w => by have := div_any w n 256; rw [fdiv_unit] at this; exact this)
  have hm1 := Lib.hid (fun w => by have := mul_any w n 256; rw [fmul_unit] at this; exact this)
  have hm2 := Lib.hid (fun w => by have := mul_any w 0 n; rw [show fmul 0 n = 0 by unfold fmul; rw [show fcl 0 = 0 from rfl, Int.zero_mul]; rfl] at this; exact this)
  have a1 : ∀ (w : World) (b : Nat), b < w.heap.size → w.cell? ⟨b, 0, none⟩ = some (.int .i64 n) → Calls Tryd.prog 16 #[.slice (some ⟨b, 0, none⟩) 1 1] w fun e w' => e = .returned (.int .i64 (fcl n)) ∧ w.Plus w' := fun w b h0 h1 => by
    have := add_any w (some ⟨b, 0, none⟩) 1 [n] (by simp) (one_at w b [n] h0 (fun i hi => by
      obtain rfl : i = 0 := by simp at hi; omega
      exact h1))
    rw [show fadd [n] = fcl n by show fcl (0 + fcl n) = fcl n; rw [Int.zero_add, fcl_fcl]] at this
    exact this
  have a2 : ∀ (w : World) (b : Nat), b < w.heap.size → w.cell? ⟨b, 0, none⟩ = some (.int .i64 n) → w.cell? ⟨b, 1, none⟩ = some (.int .i64 0) → Calls Tryd.prog 16 #[.slice (some ⟨b, 0, none⟩) 2 2] w fun e w' => e = .returned (.int .i64 (fcl n)) ∧ w.Plus w' := fun w b h0 h1 h2 => by
    have := add_any w (some ⟨b, 0, none⟩) 2 [n, 0] (by simp) (one_at w b [n, 0] h0 (fun i hi => by
      have hi3 : i = 0 ∨ i = 1 := by simp at hi; omega
      rcases hi3 with rfl | rfl
      · exact h1
      · exact h2))
    rw [show fadd [n, 0] = fcl n by show fcl (fcl (0 + fcl n) + fcl 0) = fcl n; rw [Int.zero_add, fcl_fcl, show fcl 0 = 0 from rfl, Int.add_zero, fcl_fcl]] at this
    exact this
  have a0 : ∀ (w : World), Calls Tryd.prog 16 #[.slice none 0 0] w fun e w' => e = .returned (.int .i64 0) ∧ w.Plus w' := fun w => add_any w none 0 [] (by decide) (RowsAt.zero _ _ _ _)
  replace a0 := Lib.hid a0
  replace a1 := Lib.hid a1
  replace a2 := Lib.hid a2
  go_enter Tryd.func12, Tryd.ntmps12
  go_wp2_with (first | (go_at_call 20; (with_reducible refine (hd.out _).mono ?_); rintro e w' ⟨rfl, e1, rfl⟩) | (go_at_call 18; (with_reducible refine (hm1.out _).mono ?_); rintro e w' ⟨rfl, e2, rfl⟩) | (go_at_call 18; (with_reducible refine (hm2.out _).mono ?_); rintro e w' ⟨rfl, e3, rfl⟩) | (go_at_call 16; (with_reducible refine (a0.out _).mono ?_); rintro e w' ⟨rfl, e4, rfl⟩) | (go_at_call 16; (with_reducible refine (a1.out _ _ (by simp [go_sem]) (by simp [go_sem])).mono ?_); rintro e w' ⟨rfl, e5, rfl⟩) | (go_at_call 16; (with_reducible refine (a2.out _ _ (by simp [go_sem]) (by simp [go_sem]) (by simp [go_sem])).mono ?_); rintro e w' ⟨rfl, e6, rfl⟩) | (go_at_call 15; (with_reducible refine (awake_any _).mono ?_); rintro e w' ⟨rfl, ey, rfl⟩) | (go_at_call 13; (with_reducible refine (clamp_any _ _).mono ?_); rintro e w' ⟨rfl, ey, rfl⟩))
  go_ret
  exact ⟨rfl, by (repeat (first | exact Plus.refl _ | apply Plus.plus | apply Plus.alloc | apply Plus.drew))⟩
theorem laid_met (os : Os) : laidMet Tryd.prog Rows.fixedUnitsRow.laid ((laidWorld os).forCall (fun _ _ => 0) ⟨#[], #[.int .i64 0], []⟩).memory :=
  laidMet_of_run' 8 (by kernel_rfl) (by kernel_rfl)
theorem reads (os : Os) {H : Type} (enc : TypeId × Value → H) : ∃ places, DataW.whole enc Tryd.prog ((laidWorld os).forCall (fun _ _ => 0) ⟨#[], #[.int .i64 0], []⟩).memory Tryd.f12.params.toList Rows.fixedUnitsSpec.vars false (#[.int .i64 0] : Array Value).toList 8 = some ([.lit (.int .i64 0)], [], places) :=
  ⟨[], by kernel_rfl⟩
set_option maxRecDepth 100000 in
set_option maxHeartbeats 1000000 in
theorem lifted (os : Os) (started : os.Started) (H : Type) (enc : TypeId × Value → H) (F : Stop.Interp) :
    ReturnsInHanded {} Tryd.checked os 12 .any ((OpenSpec.ofChange Rows.fixedUnitsSpec).preRow enc Tryd.prog Tryd.f12 Rows.fixedUnitsRow.domain false Rows.fixedUnitsRow.laid) (((OpenSpec.ofChange Rows.fixedUnitsSpec).at F).post enc Tryd.prog Tryd.f12 false true false false) := by
  obtain ⟨places, hx⟩ := reads os enc
  refine returnsInHanded_of_row (C := Tryd.checked) (s := OpenSpec.ofChange Rows.fixedUnitsSpec) own started (by kernel_rfl) Tryd.func12
    (witness_row_at (enc := enc) (C := Tryd.checked) false (laidWorld os) #[.int .i64 0] rfl (by kernel_rfl) (by kernel_rfl) (by kernel_rfl)
      (OpenSpec.preRow_of_cond 8 hx (by kernel_rfl) (fun k hk => by cases hk) (by kernel_rfl) (laid_met os))) ?_
  intro W base args ds gs before hval0 hW _ _ hsz0 hL _ _
  have hT := nibOf hL
  have hval : ∀ (j : Nat) t v, Tryd.f12.params[j]? = some t → args[j]? = some v → Value.okWide Tryd.prog W .any base t v := hval0
  have hsz : (DataW.weightsEach Tryd.prog (Tryd.f12.params.toList ++ Rows.fixedUnitsSpec.plain.varTypes Tryd.prog) (ds ++ gs)).all (· ≤ reachBytes) = true := hsz0
  have hW' : DataW.Whole enc Tryd.prog Tryd.f12.params.toList Rows.fixedUnitsSpec.vars false W args.toList ds gs before := hW
  obtain ⟨p, q, hA0, hV, rfl, hfz, hnd⟩ := hW
  have hA : DataW.TrodAll enc Tryd.prog W 0 (fun _ => true) true Tryd.f12.params.toList args.toList ds p := hA0
  rw [Tryd.params12] at hA hval hsz
  obtain ⟨v0, vs0, d0, ds0, p0, q0, hargs, rfl, rfl, h0, r0⟩ := trodAll_cons hA
  obtain ⟨rfl, rfl, rfl⟩ := trodAll_nil r0
  obtain rfl : args = #[v0] := by cases args; simp_all
  obtain ⟨rfl, rfl⟩ := trodVars_none hV
  have light : ∀ (j : Nat) (t : TypeId) (d : DataW H), (Tryd.f12.params.toList ++ Rows.fixedUnitsSpec.plain.varTypes Tryd.prog)[j]? = some t → ([d0] : List (DataW H))[j]? = some d → Light Tryd.prog t d := fun j t d hj hd m hm => by
    have h := List.all_eq_true.1 hsz m (DataW.weights_mem_each (j := j) (by rw [Tryd.params12] at hj; exact hj) (by simpa using hd) m hm)
    simpa using h
  obtain ⟨x0, c0, hh0, hv0⟩ := open_arg (n := 8) (ty := (.int .i64)) (by kernel_rfl) (hval 0 _ v0 rfl rfl) h0 (light 0 _ _ rfl rfl)
  obtain ⟨hc0, wf0⟩ := hh0.flat rfl
  rw [hc0] at hv0
  obtain rfl : v0 = .int .i64 x0 := (List.cons.inj hv0).1.symm
  clear hc0 hh0 h0
  clear hA0 hval0 hval light hsz hsz0
  refine (walk _ _).mono fun e W' ⟨he, hp⟩ => ?_
  subst he
  exact ⟨_, rfl, post_true hW' rfl rfl rfl rfl laidOut (by kernel_rfl) rfl (by kernel_rfl) (Plus.below hp)⟩
theorem said : Rows.FixedUnitsSaid :=
  OpenClaim.holds_of_cond 12 Tryd.f12 rfl rfl rfl rfl rfl rfl rfl ⟨rfl, rfl, rfl, rfl, rfl⟩ rfl rfl rfl rfl rfl (by kernel_rfl) Tryd.func12 (by kernel_rfl)
    (of_decide_eq_true (by kernel_rfl)) (by unfold Func.isWrapper; first | (rw [if_pos (by decide +kernel)]; kernel_rfl) | (rw [if_neg (by decide +kernel)]; exact ⟨rfl, rfl⟩))
    (fun os started H enc _ F => by rw [OpenClaim.pre_eq_preRow]; exact lifted os started H enc F)
theorem plain (f : FuncId) (fn : Func) (hf : Tryd.pinned.checked.prog.funcNamed "hedgerow/hedgerowlaw02.FixedUnits" = some f) (hfn : Tryd.pinned.checked.prog.funcs[f]? = some fn) :
    false = Tryd.pinned.checked.prog.looks [] ∧ ∀ (j : Nat) t, fn.params[j]? = some t → Tryd.pinned.checked.prog.wantsStandIn t = false := by
  obtain rfl : f = 12 := Option.some.inj ((show Tryd.prog.funcNamed "hedgerow/hedgerowlaw02.FixedUnits" = some 12 by kernel_rfl).symm.trans hf) |>.symm
  obtain rfl : fn = Tryd.f12 := (Option.some.inj (Tryd.func12.symm.trans hfn)).symm
  refine ⟨by kernel_rfl, fun j t ht => ?_⟩
  rw [Tryd.params12] at ht
  have hall : (Tryd.f12.params.toList.all fun t => Tryd.prog.wantsStandIn t == false) = true := by kernel_rfl
  rw [Tryd.params12] at hall
  have := List.all_eq_true.1 hall t (by simpa using Array.mem_of_getElem? ht)
  exact (show Tryd.prog.wantsStandIn t = false by simpa using this)
theorem card : Rows.FixedUnitsCardSaid :=
  Claim7.holds_tied_plain_at .later [] _ _ _ _ said (fun _ h => by cases h) (by kernel_rfl) (fun _ h => by cases h) fixedUnits_row_tie rfl ⟨rfl, rfl⟩ (by kernel_rfl) rfl plain (by kernel_rfl)
end Go.Proofs.YtndbcjgbcplgcaaDoor.lawFixedUnits
