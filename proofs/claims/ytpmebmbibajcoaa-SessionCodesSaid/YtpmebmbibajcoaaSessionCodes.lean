/- SessionCodes: any post has the document's bytes, or is refused; any bytes are the post's that has them, or none's. For every input, no condition. -/
import Derived.Test.YtpmebmbibajcoaaRows
import Derived.Test.YtpmebmbibajcoaaSesG
import Derived.Test.YtpmebmbibajcoaaSesB
import Derived.Test.YtpmebmbibajcoaaLift
import Derived.ProofKit
set_option linter.unusedSimpArgs false
set_option linter.unusedVariables false
namespace Go.Proofs.Ytpmebmbibajcoaa.lawSessionCodes
open Go.ChangeShapes Go.WideShapes Go.ChangeAt Go.RowKit
set_option maxRecDepth 100000 in
set_option maxHeartbeats 1000000 in
theorem walk (p : Post) (s : ByteArray) (w : World) (h1 : p.text.size ≤ 140737488351232) (h2 : s.size ≤ 140737488351232) :
    Calls Try.prog 10 #[p.v, .string s] w fun e w' => e = .returned (.bool true) ∧ w.Plus w' := by
  have hA := awake_any
  by_cases ht : 70000 < p.text.size
  · obtain ⟨m, y, a, q, t⟩ := p
    simp only [Post.v] at ht h1 ⊢
    have ht2 : (70000 : Int) < t.size := by omega
    have ht3 : decide (70000 < t.size) = true := decide_eq_true ht
    go_enter Try.func10, Try.ntmps10
    go_wp2_with (go_at_call 17; (with_reducible refine (awake_any _).mono ?_); rintro e w' ⟨rfl, e3, rfl⟩)
    go_ret
    exact ⟨rfl, by (repeat (first | exact Plus.refl _ | apply Plus.plus | apply Plus.alloc | apply Plus.drew))⟩
  have ht2 : ¬ (70000 : Int) < p.text.size := by omega
  have ht3 : decide (70000 < p.text.size) = false := decide_eq_false ht
  by_cases hs : 70000 < s.size
  · obtain ⟨m, y, a, q, t⟩ := p
    simp only [Post.v] at ht2 ht3 h1 ⊢
    have hs2 : (70000 : Int) < s.size := by omega
    have hs3 : decide (70000 < s.size) = true := decide_eq_true hs
    go_enter Try.func10, Try.ntmps10
    go_wp2_with (go_at_call 17; (with_reducible refine (awake_any _).mono ?_); rintro e w' ⟨rfl, e3, rfl⟩)
    go_ret
    exact ⟨rfl, by (repeat (first | exact Plus.refl _ | apply Plus.plus | apply Plus.alloc | apply Plus.drew))⟩
  have hs2 : ¬ (70000 : Int) < s.size := by omega
  have hs3 : decide (70000 < s.size) = false := decide_eq_false hs
  have hD := fun w => decode_any w s (by omega)
  have hR := fun w => refDecode_any w s (by omega)
  generalize dec s = D at hD hR
  obtain ⟨⟨dm, dy, da, dq, dt⟩, dn⟩ := D
  simp only [Post.v] at hD hR
  cases hk : okPost p with
  | true =>
    have hE := fun w => encode_good w p hk
    have hF := fun w => refEncode_good w p hk
    have hC := fun w => check_any w p
    rw [hk, if_pos rfl] at hC
    have hz : (encP p).size ≤ 1000000000 := by
      have := okPost_text hk
      have z1 := Octs.enc_le p.mine
      have z2 := Octs.enc_le p.yours
      have z3 := Octs.enc_le p.ack
      have z4 := Octs.enc_le p.seq
      have z5 := Octs.encT_length p.text
      unfold encP
      rw [Octs.txt_append, Octs.txt_size]
      simp only [List.length_append]
      omega
    have hG := fun w => decode_any w (encP p) hz
    rw [dec_enc p hk] at hG
    generalize encP p = X at *
    obtain ⟨m, y, a, q, t⟩ := p
    simp only [Post.v] at hE hF hC hG ht2 ht3 h1 ⊢
    replace hD := Lib.hid hD
    replace hR := Lib.hid hR
    replace hE := Lib.hid hE
    replace hF := Lib.hid hF
    replace hC := Lib.hid hC
    replace hG := Lib.hid hG
    replace hA := Lib.hid hA
    replace hk := Lib.hid hk
    go_enter Try.func10, Try.ntmps10
    go_wp2_with (first | (go_at_call 26; (with_reducible refine (hE.out _).mono ?_); rintro e w' ⟨rfl, e1, rfl⟩) | (go_at_call 27; (with_reducible refine (hF.out _).mono ?_); rintro e w' ⟨rfl, e2, rfl⟩) | (go_at_call 28; (with_reducible refine (hD.out _).mono ?_); rintro e w' ⟨rfl, e3, rfl⟩) | (go_at_call 28; (with_reducible refine (hG.out _).mono ?_); rintro e w' ⟨rfl, e4, rfl⟩) | (go_at_call 29; (with_reducible refine (hR.out _).mono ?_); rintro e w' ⟨rfl, e5, rfl⟩) | (go_at_call 30; (with_reducible refine (hC.out _).mono ?_); rintro e w' ⟨rfl, e6, rfl⟩) | (go_at_call 17; (with_reducible refine (hA.out _).mono ?_); rintro e w' ⟨rfl, e7, rfl⟩))
    go_ret
    exact ⟨rfl, by (repeat (first | exact Plus.refl _ | apply Plus.plus | apply Plus.alloc | apply Plus.drew))⟩
  | false =>
    have hE := fun w => encode_bad w p hk
    have hF := fun w => refEncode_bad w p hk
    have hC := fun w => check_any w p
    rw [hk, if_neg (by simp)] at hC
    obtain ⟨m, y, a, q, t⟩ := p
    simp only [Post.v] at hE hF hC ht2 ht3 h1 ⊢
    replace hD := Lib.hid hD
    replace hR := Lib.hid hR
    replace hE := Lib.hid hE
    replace hF := Lib.hid hF
    replace hC := Lib.hid hC
    replace hA := Lib.hid hA
    replace hk := Lib.hid hk
    go_enter Try.func10, Try.ntmps10
    go_wp2_with (first | (go_at_call 26; (with_reducible refine (hE.out _).mono ?_); rintro e w' ⟨rfl, e1, rfl⟩) | (go_at_call 27; (with_reducible refine (hF.out _).mono ?_); rintro e w' ⟨rfl, e2, rfl⟩) | (go_at_call 28; (with_reducible refine (hD.out _).mono ?_); rintro e w' ⟨rfl, e3, rfl⟩) | (go_at_call 29; (with_reducible refine (hR.out _).mono ?_); rintro e w' ⟨rfl, e5, rfl⟩) | (go_at_call 30; (with_reducible refine (hC.out _).mono ?_); rintro e w' ⟨rfl, e6, rfl⟩) | (go_at_call 17; (with_reducible refine (hA.out _).mono ?_); rintro e w' ⟨rfl, e7, rfl⟩))
    go_ret
    exact ⟨rfl, by (repeat (first | exact Plus.refl _ | apply Plus.plus | apply Plus.alloc | apply Plus.drew))⟩
theorem laidOut : laidOutB Try.prog = true := by kernel_rfl
theorem own : ownKnob Try.prog.godebug = none := by kernel_rfl
set_option maxRecDepth 100000 in
set_option maxHeartbeats 1000000 in
theorem lifted (os : Os) (started : os.Started) (H : Type) (enc : TypeId × Value → H) :
    ReturnsInHanded {} Try.checked os 10 .any (Rows.sessionCodesSpec.pre6 enc Try.prog Try.f10 Rows.sessionCodesRow.domain false) (Rows.sessionCodesSpec.post enc Try.prog Try.f10 false true false false) := by
  refine returnsInHanded_of_change_sized (C := Try.checked) own started (by kernel_rfl) Try.func10
    (ChangeSpec.witness6 (enc := enc) (C := Try.checked) false ⟨#[], #[.agg #[.int .i64 0, .int .i64 0, .int .i64 0, .int .i64 0, .string .empty], .string .empty], []⟩ 8 (by kernel_rfl) (by kernel_rfl) (by kernel_rfl) (by kernel_rfl)) ?_
  intro W base args ds gs before hval0 hW hcnd hsz0 _
  have hval : ∀ (j : Nat) t v, Try.f10.params[j]? = some t → args[j]? = some v → Value.okWide Try.prog W .any base t v := hval0
  have hsz : (DataW.weightsEach Try.prog (Try.f10.params.toList ++ Rows.sessionCodesSpec.plain.varTypes Try.prog) (ds ++ gs)).all (· ≤ reachBytes) = true := hsz0
  have hW' : DataW.Whole enc Try.prog Try.f10.params.toList Rows.sessionCodesSpec.vars false W args.toList ds gs before := hW
  obtain ⟨p, q, hA0, hV, rfl, hfz, hnd⟩ := hW
  have hA : DataW.TrodAll enc Try.prog W 0 (fun _ => true) true Try.f10.params.toList args.toList ds p := hA0
  rw [Try.params10] at hA hval hsz
  obtain ⟨v0, vs0, d0, ds0, p0, q0, hargs, rfl, rfl, h0, r0⟩ := trodAll_cons hA
  obtain ⟨v1, vs1, d1, ds1, p1, q1, rfl, rfl, rfl, h1, r1⟩ := trodAll_cons r0
  obtain ⟨rfl, rfl, rfl⟩ := trodAll_nil r1
  obtain rfl : args = #[v0, v1] := by cases args; simp_all
  obtain ⟨rfl, rfl⟩ := trodVars_none hV
  have light : ∀ (j : Nat) (t : TypeId) (d : DataW H), (Try.f10.params.toList ++ Rows.sessionCodesSpec.plain.varTypes Try.prog)[j]? = some t → ([d0, d1] : List (DataW H))[j]? = some d → Light Try.prog t d := fun j t d hj hd m hm => by
    have h := List.all_eq_true.1 hsz m (DataW.weights_mem_each (j := j) (by rw [Try.params10] at hj; exact hj) (by simpa using hd) m hm)
    simpa using h
  obtain ⟨x0, c0, hh0, hv0⟩ := open_arg (n := 8) (ty := (.pair (.int .i64) (.pair (.int .i64) (.pair (.int .i64) (.pair (.int .i64) (.pair .str .unit)))))) (by kernel_rfl) (hval 0 _ v0 rfl rfl) h0 (light 0 _ _ rfl rfl)
  obtain ⟨hc0, wf0⟩ := hh0.flat rfl
  rw [hc0] at hv0
  obtain rfl : v0 = .agg #[.int .i64 x0.1, .int .i64 x0.2.1, .int .i64 x0.2.2.1, .int .i64 x0.2.2.2.1, .string x0.2.2.2.2.1] := hv0
  clear hc0 hh0 h0
  obtain ⟨x1, c1, hh1, hv1⟩ := open_arg (n := 8) (ty := .str) (by kernel_rfl) (hval 1 _ v1 rfl rfl) h1 (light 1 _ _ rfl rfl)
  obtain ⟨hc1, wf1⟩ := hh1.flat rfl
  rw [hc1] at hv1
  obtain rfl : v1 = .string x1 := (List.cons.inj hv1).1.symm
  clear hc1 hh1 h1
  clear hA0 hval0 hval light hsz hsz0
  refine (walk ⟨x0.1, x0.2.1, x0.2.2.1, x0.2.2.2.1, x0.2.2.2.2.1⟩ x1 _ wf0.2.2.2.2.1 wf1).mono fun e W' ⟨he, hp⟩ => ?_
  subst he
  exact ⟨_, rfl, post_true hW' rfl rfl rfl rfl laidOut (by kernel_rfl) rfl (by kernel_rfl) (Plus.below hp)⟩
theorem proved : Rows.SessionCodesSaid :=
  OpenClaim.holds_of_wide 10 Try.f10 rfl rfl rfl rfl rfl rfl rfl ⟨rfl, rfl, rfl, rfl, rfl⟩ rfl rfl rfl rfl rfl (by kernel_rfl) Try.func10 (by kernel_rfl)
    (of_decide_eq_true (by kernel_rfl)) (by unfold Func.isWrapper; first | (rw [if_pos (by decide +kernel)]; kernel_rfl) | (rw [if_neg (by decide +kernel)]; exact ⟨rfl, rfl⟩))
    (fun os started H enc _ => lifted os started H enc)
end Go.Proofs.Ytpmebmbibajcoaa.lawSessionCodes
