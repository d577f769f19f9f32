/- OctetJoins: numbers that are laid by one call lie there as by two calls, wherever they are parted. For every input, no condition. -/
import Derived.Test.YtgcmoalilghfbaaRows
import Derived.Test.YtgcmoalilghfbaaOctAwake
import Derived.Test.YtgcmoalilghfbaaLift
import Derived.ProofKit
set_option linter.unusedSimpArgs false
set_option linter.unusedVariables false
namespace Go.Proofs.Ytgcmoalilghfbaa.lawOctetJoins
open Go.ChangeShapes Go.WideShapes Go.ChangeAt Go.RowKit
theorem rows_take (xs : List Int) (A : Option Addr) (m : Nat) (w : World) (h : m ≤ xs.length) (hr : RowsAt w A 1 xs.length (intAt xs)) : RowsAt w A 1 m (intAt (xs.take m)) := fun h0 => by
  obtain ⟨b, off, hA, hb, hc⟩ := hr (by omega)
  refine ⟨b, off, hA, hb, fun i l hi hl => ?_⟩
  rw [hc i l (by omega) hl]
  unfold intAt
  rw [List.getD_eq_getElem?_getD, List.getD_eq_getElem?_getD, List.getElem?_take, if_pos hi]
theorem rows_drop (xs : List Int) (A : Option Addr) (m c : Nat) (w : World) (h : m ≤ xs.length) (hcap : xs.length ≤ c) (hr : RowsAt w A 1 xs.length (intAt xs)) :
    RowsAt w (if c = m then A else Option.map (fun x => x.add m) A) 1 (xs.length - m) (intAt (xs.drop m)) := fun h0 => by
  obtain ⟨b, off, rfl, hb, hc⟩ := hr (by omega)
  rw [if_neg (by omega)]
  by_cases hm : m = 0
  · subst hm
    refine ⟨b, off, by simp [Addr.add], hb, fun i l hi hl => ?_⟩
    rw [hc i l (by omega) hl]
    simp [intAt]
  · refine ⟨b, off + m, by simp [Addr.add, hm], hb, fun i l hi hl => ?_⟩
    have := hc (m + i) l (by omega) hl
    rw [show off + m + (i * 1 + l) = off + ((m + i) * 1 + l) by omega, this]
    unfold intAt
    rw [List.getD_eq_getElem?_getD, List.getD_eq_getElem?_getD, List.getElem?_drop]
theorem walk (xs : List Int) (A : Option Addr) (c : Nat) (at_ : Int) (w : World) (hcap : xs.length ≤ c) (hmax : xs.length ≤ 140737488351232) (hb : ∀ n ∈ xs, In64 n) (hr : RowsAt w A 1 xs.length (intAt xs)) :
    Calls Try.prog 6 #[.slice A xs.length c, .int .i64 at_] w fun e w' => e = .returned (.bool true) ∧ w.Plus w' := by
  by_cases hl : xs.length ≤ 60
  · obtain ⟨m, hm, hm2⟩ : ∃ m : Nat, max 0 (min at_ (xs.length : Int)) = m ∧ m ≤ xs.length := ⟨(max 0 (min at_ (xs.length : Int))).toNat, by omega, by omega⟩
    have hmc : (m : Int) ≤ c := by omega
    have hml : (m : Int) ≤ xs.length := by omega
    have hI0 := fun w' (hp : w.Plus w') => int_any xs A c w' (by omega) hb (hr.plus hp)
    have hI1 := fun w' (hp : w.Plus w') => int_any (xs.take m) A c w' (by rw [List.length_take]; omega) (fun n hn => hb n (List.mem_of_mem_take hn)) (by rw [List.length_take, Nat.min_eq_left hm2]; exact (rows_take xs A m w hm2 hr).plus hp)
    have hI2 := fun w' (hp : w.Plus w') => int_any (xs.drop m) (if c = m then A else Option.map (fun x => x.add m) A) (c - m) w' (by rw [List.length_drop]; omega) (fun n hn => hb n (List.mem_of_mem_drop hn)) (by rw [List.length_drop]; exact (rows_drop xs A m c w hm2 hcap hr).plus hp)
    have hI3 := fun w' => int_none w'
    have hT3 := fun w' => text_none w'
    rw [List.length_take, Nat.min_eq_left hm2] at hI1
    rw [List.length_drop] at hI2
    have key : txt (encs (xs.take m)) ++ txt (encs (xs.drop m)) = txt (encs xs) := by rw [txt_append, ← encs_append, List.take_append_drop]
    have hadd : (txt (encs (xs.take m))).size + (txt (encs (xs.drop m))).size ≤ 2000 := by
      have h1 := encs_le (xs.take m)
      have h2 := encs_le (xs.drop m)
      rw [List.length_take] at h1
      rw [List.length_drop] at h2
      rw [txt_size, txt_size]
      omega
    have he : txt [] = ⟨#[]⟩ := rfl
    rw [he] at hI3 hT3
    clear he
    obtain ⟨B, hB⟩ : ∃ B, (if c = m then A else Option.map (fun x => x.add m) A) = B := ⟨_, rfl⟩
    rw [hB] at hI2
    generalize txt (encs xs) = X at *
    generalize txt (encs (xs.take m)) = Y at *
    generalize txt (encs (xs.drop m)) = Z at *
    generalize hlen : xs.length = len at *
    replace hlen := Lib.hid hlen
    replace hI0 := Lib.hid hI0
    replace hI1 := Lib.hid hI1
    replace hI2 := Lib.hid hI2
    replace hI3 := Lib.hid hI3
    replace hT3 := Lib.hid hT3
    clear hb hr
    go_enter Try.func6, Try.ntmps6
    go_upto_region 4 with fail
    refine wp_region_grow (by kernel_rfl) (by kernel_rfl) ?_
    repeat (go_big_quiet_step ((first | (go_at_call 12; (with_reducible exact Calls.plus_of (hI0.out _ (by (repeat (first | exact Plus.refl _ | apply Plus.plus | apply Plus.alloc | apply Plus.drew)))))) | (go_at_call 12; (with_reducible exact Calls.plus_of (hI1.out _ (by (repeat (first | exact Plus.refl _ | apply Plus.plus | apply Plus.alloc | apply Plus.drew)))))) | (go_at_call 12; (with_reducible exact Calls.plus_of (hI2.out _ (by (repeat (first | exact Plus.refl _ | apply Plus.plus | apply Plus.alloc | apply Plus.drew)))))) | (go_at_call 12; (with_reducible exact Calls.plus_of (hI3.out _))) | (go_at_call 14; (with_reducible exact Calls.plus_of (hT3.out _))) | (go_at_call 10; (with_reducible exact Calls.plus_of (awake_any _))))))
    refine wpQuiet_nil ?_
    intro ex
    go_wp2_with fail
    go_ret
    exact ⟨rfl, by (repeat (first | exact Plus.refl _ | apply Plus.plus | apply Plus.alloc | apply Plus.drew))⟩
  · have hd : (60 : Int) < (xs.length : Int) := by omega
    go_enter Try.func6, Try.ntmps6
    go_wp2_with (first | (go_at_call 10; (with_reducible refine (awake_any _).mono ?_); rintro e w' ⟨rfl, e3, rfl⟩))
    go_ret
    exact ⟨rfl, by (repeat (first | exact Plus.refl _ | apply Plus.plus | apply Plus.alloc | apply Plus.drew))⟩
theorem laidOut : laidOutB Try.prog = true := by kernel_rfl
theorem own : ownKnob Try.prog.godebug = none := by kernel_rfl
set_option maxRecDepth 100000 in
set_option maxHeartbeats 1000000 in
theorem lifted (os : Os) (started : os.Started) (H : Type) (enc : TypeId × Value → H) :
    ReturnsInHanded {} Try.checked os 6 .any (Rows.octetJoinsSpec.pre6 enc Try.prog Try.f6 Rows.octetJoinsRow.domain false) (Rows.octetJoinsSpec.post enc Try.prog Try.f6 false true false false) := by
  refine returnsInHanded_of_change_sized (C := Try.checked) own started (by kernel_rfl) Try.func6
    (ChangeSpec.witness6 (enc := enc) (C := Try.checked) false ⟨#[], #[.slice none 0 0, .int .i64 0], []⟩ 8 (by kernel_rfl) (by kernel_rfl) (by kernel_rfl) (by kernel_rfl)) ?_
  intro W base args ds gs before hval0 hW hcnd hsz0 _
  have hval : ∀ (j : Nat) t v, Try.f6.params[j]? = some t → args[j]? = some v → Value.okWide Try.prog W .any base t v := hval0
  have hsz : (DataW.weightsEach Try.prog (Try.f6.params.toList ++ Rows.octetJoinsSpec.plain.varTypes Try.prog) (ds ++ gs)).all (· ≤ reachBytes) = true := hsz0
  have hW' : DataW.Whole enc Try.prog Try.f6.params.toList Rows.octetJoinsSpec.vars false W args.toList ds gs before := hW
  obtain ⟨p, q, hA0, hV, rfl, hfz, hnd⟩ := hW
  have hA : DataW.TrodAll enc Try.prog W 0 (fun _ => true) true Try.f6.params.toList args.toList ds p := hA0
  rw [Try.params6] at hA hval hsz
  obtain ⟨v0, vs0, d0, ds0, p0, q0, hargs, rfl, rfl, h0, r0⟩ := trodAll_cons hA
  obtain ⟨v1, vs1, d1, ds1, p1, q1, rfl, rfl, rfl, h1, r1⟩ := trodAll_cons r0
  obtain ⟨rfl, rfl, rfl⟩ := trodAll_nil r1
  obtain rfl : args = #[v0, v1] := by cases args; simp_all
  obtain ⟨rfl, rfl⟩ := trodVars_none hV
  have light : ∀ (j : Nat) (t : TypeId) (d : DataW H), (Try.f6.params.toList ++ Rows.octetJoinsSpec.plain.varTypes Try.prog)[j]? = some t → ([d0, d1] : List (DataW H))[j]? = some d → Light Try.prog t d := fun j t d hj hd m hm => by
    have h := List.all_eq_true.1 hsz m (DataW.weights_mem_each (j := j) (by rw [Try.params6] at hj; exact hj) (by simpa using hd) m hm)
    simpa using h
  obtain ⟨x0, c0, hh0, hv0⟩ := open_arg (n := 8) (ty := (.slice 8 (.int .i64))) (by kernel_rfl) (hval 0 _ v0 rfl rfl) h0 (light 0 _ _ rfl rfl)
  obtain ⟨x1, c1, hh1, hv1⟩ := open_arg (n := 8) (ty := (.int .i64)) (by kernel_rfl) (hval 1 _ v1 rfl rfl) h1 (light 1 _ _ rfl rfl)
  obtain ⟨hc1, wf1⟩ := hh1.flat rfl
  rw [hc1] at hv1
  obtain rfl : v1 = .int .i64 x1 := (List.cons.inj hv1).1.symm
  clear hc1 hh1 h1
  clear hA0 hval0 hval light hsz hsz0
  obtain ⟨A, c, hc0, hl, hcap, hmx, hwf, hr⟩ := hh0.rows rfl
  rw [hc0] at hv0
  obtain rfl : v0 = .slice A x0.length c := (List.cons.inj hv0).1.symm
  have hrows := hr (intAt x0) (fun i j x hx hj => by
    obtain rfl : j = 0 := by have : j < 1 := hj; omega
    have : intAt x0 i 0 = .int .i64 x := by
      unfold intAt
      rw [List.getD_eq_getElem?_getD, hx]; rfl
    rw [this]; rfl)
  have hin : ∀ n ∈ (x0 : List Int), In64 n := fun n hn => bounds_i64 (hwf n hn)
  have hlen : (x0 : List Int).length ≤ 140737488351232 := by
    have : c * 8 ≤ 140737488351232 := hcap
    omega
  clear hr hc0 hh0 hv0 h0 hwf
  refine (walk x0 A c x1 W hl hlen hin hrows).mono fun e W' ⟨he, hp⟩ => ?_
  subst he
  exact ⟨_, rfl, post_true hW' rfl rfl rfl rfl laidOut (by kernel_rfl) rfl (by kernel_rfl) (Plus.below hp)⟩
theorem proved : Rows.OctetJoinsSaid :=
  OpenClaim.holds_of_wide 6 Try.f6 rfl rfl rfl rfl rfl rfl rfl ⟨rfl, rfl, rfl, rfl, rfl⟩ rfl rfl rfl rfl rfl (by kernel_rfl) Try.func6 (by kernel_rfl)
    (of_decide_eq_true (by kernel_rfl)) (by unfold Func.isWrapper; first | (rw [if_pos (by decide +kernel)]; kernel_rfl) | (rw [if_neg (by decide +kernel)]; exact ⟨rfl, rfl⟩))
    (fun os started H enc _ => lifted os started H enc)
end Go.Proofs.Ytgcmoalilghfbaa.lawOctetJoins
