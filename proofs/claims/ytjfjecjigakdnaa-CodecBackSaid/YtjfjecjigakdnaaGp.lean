/- Plain laws and walks: CodCu, CodBk. -/
import Derived.Test.YtjfjecjigakdnaaGo
-- CodCu
/- codec: CodecCuts: walk. -/
set_option linter.unusedSimpArgs false
set_option linter.unusedVariables false
namespace Go.Proofs.Ytjfjecjigakdnaa
open Go.RowKit Octs
theorem encM_le (m : MsgR) (h : okM m = true) : (encM m).length ≤ 700000 := by
  obtain ⟨-, -, -, ⟨c1, -⟩, ⟨b1, -⟩, ⟨i1, -⟩⟩ := okM_parts h
  have e1 := Octs.enc_le m.kind
  have e2 := Octs.enc_le m.t
  have e3 := Octs.enc_le m.n
  have l1 := lsz encC 108 (by decide) (fun x => encC_le x) m.cs c1
  have l2 := lsz encB 99 (by decide) (fun x => encB_le x) m.bs b1
  have l3 := lsz encI 27 (by decide) (fun x => encI_le x) m.is i1
  rw [Octs.txt_size] at l1 l2 l3
  unfold encM
  simp only [List.length_append]
  split <;> split <;> split <;> split <;> split <;> (first | omega | (simp only [List.length_nil]; omega))
set_option maxHeartbeats 1000000
set_option maxRecDepth 100000
theorem codecCuts_any (m : MsgR) (a : MAt) (cut : Int) (more : ByteArray) (W : World) (h : MRows W m a) (hcut : -9223372036854775808 ≤ cut ∧ cut ≤ 9223372036854775807) (h47 : more.size ≤ 140737488355328) : Calls Try.prog 10 #[mV m a, nI cut, .string more] W fun e w' => e = .returned (.bool true) ∧ W.Plus w' := by
  have kA := Lib.hid (fun w => awake_any w)
  have kL := fun w => long_any m a w
  have kE := fun w (p : W.Plus w) => encode_any m a w (h.plus p)
  clear h
  cases hl : longM m with
  | true =>
    rw [hl] at kL
    clear kE hl
    replace kL := Lib.hid kL
    obtain ⟨k, t, n, cs, bs, is⟩ := m
    obtain ⟨Ac, Ab, Ai, cc, cb, ci⟩ := a
    simp only [mV] at kL ⊢
    generalize cs.length = x at *
    generalize bs.length = y at *
    generalize is.length = z at *
    go_enter Try.func10, Try.ntmps10
    go_wp2_with (first
      | (go_at_call 37; (with_reducible refine (kL.out _).mono ?_); rintro e w' ⟨rfl, e1, rfl⟩)
      | (go_at_call 17; (with_reducible refine (kA.out _).mono ?_); rintro e w' ⟨rfl, e3, rfl⟩))
    go_ret
    exact ⟨rfl, by (repeat (first | exact Plus.refl _ | apply Plus.plus | apply Plus.alloc | apply Plus.drew))⟩
  | false =>
  rw [hl] at kL
  clear hl
  cases hok : okM m with
  | false =>
    have hE : encV m = .tuple #[.string ⟨#[]⟩, nI 1] := by unfold encV; rw [hok]; rfl
    rw [hE] at kE
    clear hE hok
    replace kL := Lib.hid kL
    replace kE := Lib.hid kE
    obtain ⟨k, t, n, cs, bs, is⟩ := m
    obtain ⟨Ac, Ab, Ai, cc, cb, ci⟩ := a
    simp only [mV] at kL kE ⊢
    generalize cs.length = x at *
    generalize bs.length = y at *
    generalize is.length = z at *
    go_enter Try.func10, Try.ntmps10
    go_wp2_with (first
      | (go_at_call 37; (with_reducible refine (kL.out _).mono ?_); rintro e w' ⟨rfl, e1, rfl⟩)
      | (go_at_call 38; (with_reducible refine (kE.out _ (by (repeat (first | exact Plus.refl _ | apply Plus.plus | apply Plus.alloc | apply Plus.drew)))).mono ?_); rintro e w' ⟨rfl, e2, rfl⟩)
      | (go_at_call 17; (with_reducible refine (kA.out _).mono ?_); rintro e w' ⟨rfl, e3, rfl⟩))
    go_ret
    exact ⟨rfl, by (repeat (first | exact Plus.refl _ | apply Plus.plus | apply Plus.alloc | apply Plus.drew))⟩
  | true =>
  have hE : encV m = .tuple #[.string (Octs.txt (encM m)), nI 0] := by unfold encV; rw [hok]; rfl
  rw [hE] at kE
  have hle := encM_le m hok
  have hne := encM_ne m
  have hpos := List.length_pos_iff.2 hne
  obtain ⟨X, hX⟩ : ∃ X, X = Octs.txt (encM m) := ⟨_, rfl⟩
  have hXs : X.size = (encM m).length := by rw [hX, Octs.txt_size]
  rw [← hXs] at hle hpos
  obtain ⟨r, hr⟩ : ∃ r, cut.tmod (X.size : Int) = r := ⟨_, rfl⟩
  have hr1 : -(X.size : Int) < r ∧ r < X.size := by
    rw [← hr]
    have h1 := Int.tmod_lt_of_pos cut (show (0 : Int) < X.size by omega)
    have h2 : -(X.size : Int) < cut.tmod X.size := by
      have := Int.lt_tmod_of_pos cut (show (0 : Int) < X.size by omega)
      exact this
    exact ⟨h2, h1⟩
  replace hr := Lib.hid hr
  obtain ⟨k, hk⟩ : ∃ k : Nat, (r + (X.size : Int)).tmod (X.size : Int) = k := ⟨((r + (X.size : Int)).tmod X.size).toNat, by
    exact (Int.toNat_of_nonneg (Int.tmod_nonneg (X.size : Int) (show (0 : Int) ≤ r + X.size by omega))).symm⟩
  have hkl : k < X.size := by
    have := Int.tmod_lt_of_pos (r + (X.size : Int)) (show (0 : Int) < X.size by omega)
    rw [hk] at this
    exact Int.ofNat_lt.1 this
  replace hk := Lib.hid hk
  have d1 : decM (X.extract 0 k) = (msZ, 2) := by
    rw [hX, Octs.txt_extract, List.drop_zero, Nat.sub_zero]
    refine decM_cut m hok _ ((encM m).drop k) (fun e => ?_) (List.take_append_drop k (encM m)).symm
    have := List.length_drop (l := encM m) (i := k)
    rw [e, List.length_nil] at this
    omega
  have d2 : more = ⟨#[]⟩ → decM (X ++ more) = (m, 0) := fun e => by
    rw [e, hX, show (⟨#[]⟩ : ByteArray) = Octs.txt [] from rfl, Octs.txt_append, List.append_nil]
    exact decM_back m hok
  have d3 : more ≠ ⟨#[]⟩ → decM (X ++ more) = (msZ, 2) := fun e => by
    rw [hX, show more = Octs.txt (Octs.bytes more) from rfl, Octs.txt_append]
    exact decM_more m hok _ (fun h => e (by rw [show more = Octs.txt (Octs.bytes more) from rfl, h]; rfl))
  have k1 := fun w l (O : Own W w l) => decode_any O (X.extract 0 k) (by rw [ByteArray.size_extract]; omega)
  have k2 := fun w l (O : Own W w l) => decode_any O (X ++ more) (by rw [ByteArray.size_append]; omega)
  rw [d1] at k1
  rw [← hX] at kE
  have hz : ((X.size : Int) == 0) = false := by rw [beq_eq_false_iff_ne]; omega
  have hz2 : ¬ (X.size : Int) = 0 := by omega
  have hw1 : wrap64 r = r := w64_id (by omega) (by omega)
  have hw2 : wrap64 (r + (X.size : Int)) = r + X.size := w64_id (by omega) (by omega)
  have hw3 : wrap64 (k : Int) = k := w64_id (by omega) (by omega)
  have hk1 : ¬ (X.size : Int) < k := by omega
  have hk2 : k ≤ X.size := by omega
  have hcc : ¬ 9223372036854775807 < X.size + more.size := by omega
  replace hr := hr.out
  replace hk := hk.out
  replace d2 := Lib.hid d2
  replace d3 := Lib.hid d3
  replace kL := Lib.hid kL
  replace kE := Lib.hid kE
  replace k1 := Lib.hid k1
  clear hE hle hne hpos hX hXs hr1 hkl d1 hok hcut h47
  obtain ⟨k0, t, n, cs, bs, is⟩ := m
  obtain ⟨Ac, Ab, Ai, cc, cb, ci⟩ := a
  simp only [mV] at kL kE ⊢
  generalize cs.length = x at *
  generalize bs.length = y at *
  generalize is.length = z at *
  by_cases hm : more = ⟨#[]⟩
  · rw [d2.out hm] at k2
    subst hm
    replace k2 := Lib.hid k2
    clear d2 d3
    go_enter Try.func10, Try.ntmps10
    go_wp2_with (first
      | (go_at_call 37; (with_reducible refine (kL.out _).mono ?_); rintro e w' ⟨rfl, e1, rfl⟩)
      | (go_at_call 38; (with_reducible refine (kE.out _ (by (repeat (first | exact Plus.refl _ | apply Plus.plus | apply Plus.alloc | apply Plus.drew)))).mono ?_); rintro e w' ⟨rfl, e2, rfl⟩)
      | (go_at_call 41; (with_reducible refine (k1.out _ _ (Own.nil (by (repeat (first | exact Plus.refl _ | apply Plus.plus | apply Plus.alloc | apply Plus.drew))))).mono ?_); rintro e w1 ⟨b1, rfl, O1⟩; have P1 := Lib.hid O1.p; clear O1)
      | (go_at_call 41; (with_reducible refine (k2.out _ _ (Own.nil (by (repeat (first | exact P1.out | apply Plus.plus | apply Plus.alloc | apply Plus.drew))))).mono ?_); rintro e w2 ⟨b2, rfl, O2⟩; have P2 := Lib.hid O2.p; clear O2)
      | (go_at_call 17; (with_reducible refine (kA.out _).mono ?_); rintro e w' ⟨rfl, e3, rfl⟩))
    go_ret
    exact ⟨rfl, by (repeat (first | exact P2.out | apply Plus.plus | apply Plus.alloc | apply Plus.drew))⟩
  · rw [d3.out hm] at k2
    replace k2 := Lib.hid k2
    have hm2 : (more.toList.isEmpty) = false := by rw [Bool.eq_false_iff]; exact fun h => hm ((empty_iff more).1 h)
    clear d2 d3
    go_enter Try.func10, Try.ntmps10
    go_wp2_with (first
      | (go_at_call 37; (with_reducible refine (kL.out _).mono ?_); rintro e w' ⟨rfl, e1, rfl⟩)
      | (go_at_call 38; (with_reducible refine (kE.out _ (by (repeat (first | exact Plus.refl _ | apply Plus.plus | apply Plus.alloc | apply Plus.drew)))).mono ?_); rintro e w' ⟨rfl, e2, rfl⟩)
      | (go_at_call 41; (with_reducible refine (k1.out _ _ (Own.nil (by (repeat (first | exact Plus.refl _ | apply Plus.plus | apply Plus.alloc | apply Plus.drew))))).mono ?_); rintro e w1 ⟨b1, rfl, O1⟩; have P1 := Lib.hid O1.p; clear O1)
      | (go_at_call 41; (with_reducible refine (k2.out _ _ (Own.nil (by (repeat (first | exact P1.out | apply Plus.plus | apply Plus.alloc | apply Plus.drew))))).mono ?_); rintro e w2 ⟨b2, rfl, O2⟩; have P2 := Lib.hid O2.p; clear O2)
      | (go_at_call 17; (with_reducible refine (kA.out _).mono ?_); rintro e w' ⟨rfl, e3, rfl⟩))
    go_ret
    exact ⟨rfl, by (repeat (first | exact P2.out | apply Plus.plus | apply Plus.alloc | apply Plus.drew))⟩
end Go.Proofs.Ytjfjecjigakdnaa
-- CodBk
/- codec: CodecBack: walk. -/
set_option linter.unusedSimpArgs false
set_option linter.unusedVariables false
namespace Go.Proofs.Ytjfjecjigakdnaa
open Go.RowKit Octs
set_option maxHeartbeats 1000000
set_option maxRecDepth 100000
theorem Own.setSl {W w : World} {l : List Asn} {size g o n cap : Nat} {cs : List Value} (h : Own W w (slA size (.slice (some ⟨g, o, none⟩) n cap) n cs :: l)) (j : Nat) (v : Value) (hj : j < n * size) : Own W (w.setCell ⟨g, o + j, none⟩ v) (slA size (.slice (some ⟨g, o, none⟩) n cap) n (cs.set j v) :: l) :=
  Own.step (A := fun _ => False) h fun B hB => by
    refine ⟨B, Chg.of_setCell w ⟨g, o + j, none⟩ v B ((hB.1 g).2 rfl), ⟨hB.1, by rw [List.length_set]; exact hB.2.len, ?_⟩, fun k hk => .inl hk⟩
    rcases hB.2.val with ⟨he, _⟩ | ⟨g', off, cap', he, hg, hc, hcm, h1, h2⟩
    · cases he
    · cases he
      refine .inr ⟨g, o, cap, rfl, by rw [World.size_setCell]; exact hg, hc, hcm, fun i hi => ?_, fun i hi => ?_⟩
      · rcases Nat.decEq i j with hij | hij
        · rw [World.cell?_setCell_other _ _ _ _ (by intro e; injection e with _ e2 _; omega), List.getElem?_set_ne (fun e => hij e.symm)]
          exact h1 i hi
        · subst hij
          rw [World.cell?_setCell_same' _ _ _ ((h2 i (by have := Nat.mul_le_mul_right size hc; omega)).1), List.getElem?_set_self (by rw [hB.2.len]; exact hj)]
      · refine ⟨?_, by rw [World.frozen?_setCell]; exact (h2 i hi).2⟩
        rcases Nat.decEq i j with hij | hij
        · rw [World.cell?_setCell_other _ _ _ _ (by intro e; injection e with _ e2 _; omega)]
          exact (h2 i hi).1
        · subst hij
          rw [World.cell?_setCell_same' _ _ _ ((h2 i hi).1)]
          rfl
theorem codecBack_any (m : MsgR) (a : MAt) (W : World) (h : MRows W m a) : Calls Try.prog 8 #[mV m a] W fun e w' => e = .returned (.bool true) ∧ W.Plus w' := by
  have kA := Lib.hid (fun w => awake_any w)
  have kL := fun w => long_any m a w
  have kE := fun w (p : W.Plus w) => encode_any m a w (h.plus p)
  cases hl : longM m with
  | true =>
    rw [hl] at kL
    clear kE hl h
    replace kL := Lib.hid kL
    obtain ⟨k, t, n, cs, bs, is⟩ := m
    obtain ⟨Ac, Ab, Ai, cc, cb, ci⟩ := a
    simp only [mV] at kL ⊢
    generalize cs.length = x at *
    generalize bs.length = y at *
    generalize is.length = z at *
    go_enter Try.func8, Try.ntmps8
    go_wp2_with (first
      | (go_at_call 37; (with_reducible refine (kL.out _).mono ?_); rintro e w' ⟨rfl, e1, rfl⟩)
      | (go_at_call 17; (with_reducible refine (kA.out _).mono ?_); rintro e w' ⟨rfl, e3, rfl⟩))
    go_ret
    exact ⟨rfl, by (repeat (first | exact Plus.refl _ | apply Plus.plus | apply Plus.alloc | apply Plus.drew))⟩
  | false =>
  rw [hl] at kL
  clear hl
  cases hok : okM m with
  | false =>
    have hE : encV m = .tuple #[.string ⟨#[]⟩, nI 1] := by unfold encV; rw [hok]; rfl
    rw [hE] at kE
    clear hE hok h
    replace kL := Lib.hid kL
    replace kE := Lib.hid kE
    obtain ⟨k, t, n, cs, bs, is⟩ := m
    obtain ⟨Ac, Ab, Ai, cc, cb, ci⟩ := a
    simp only [mV] at kL kE ⊢
    generalize cs.length = x at *
    generalize bs.length = y at *
    generalize is.length = z at *
    go_enter Try.func8, Try.ntmps8
    go_wp2_with (first
      | (go_at_call 37; (with_reducible refine (kL.out _).mono ?_); rintro e w' ⟨rfl, e1, rfl⟩)
      | (go_at_call 38; (with_reducible refine (kE.out _ (by (repeat (first | exact Plus.refl _ | apply Plus.plus | apply Plus.alloc | apply Plus.drew)))).mono ?_); rintro e w' ⟨rfl, e2, rfl⟩)
      | (go_at_call 17; (with_reducible refine (kA.out _).mono ?_); rintro e w' ⟨rfl, e3, rfl⟩))
    go_ret
    exact ⟨rfl, by (repeat (first | exact Plus.refl _ | apply Plus.plus | apply Plus.alloc | apply Plus.drew))⟩
  | true =>
  have hE : encV m = .tuple #[.string (Octs.txt (encM m)), nI 0] := by unfold encV; rw [hok]; rfl
  rw [hE] at kE
  have hle := encM_le m hok
  have kD := fun w l (O : Own W w l) => decode_any O (Octs.txt (encM m)) (by rw [Octs.txt_size]; omega)
  rw [decM_back m hok] at kD
  obtain ⟨l1, l2, l3⟩ := okM_len hok
  have kS := fun w a' (p : W.Plus w) h' => sameM_any w m a' a h' (h.plus p) l1 l2 l3
  generalize Octs.txt (encM m) = X at *
  replace kL := Lib.hid kL
  replace kE := Lib.hid kE
  replace kD := Lib.hid kD
  replace kS := Lib.hid kS
  clear hE hle hok h
  obtain ⟨k, t, n, cs, bs, is⟩ := m
  obtain ⟨Ac, Ab, Ai, cc, cb, ci⟩ := a
  simp only [mV] at kL kE kS l1 l2 l3 ⊢
  have O0 := Own.newCells (Own.start W) [nI k, nI t, nI n, .slice Ac cs.length cc, .slice Ab bs.length cb, .slice Ai is.length ci] 62
  obtain ⟨w0, hw0⟩ : ∃ q, W.alloc (.cells #[nI k, nI t, nI n, .slice Ac cs.length cc, .slice Ab bs.length cb, .slice Ai is.length ci] 62) = q := ⟨_, rfl⟩
  rw [hw0] at O0
  replace O0 := Lib.hid O0
  replace hw0 := Lib.hid hw0
  have bl : (bs.length : Int) ≤ 1048577 := by omega
  have il : (is.length : Int) ≤ 1048577 := by omega
  go_enter Try.func8, Try.ntmps8
  go_upto_region 1 with fail
  rw [hw0.out]
  clear hw0
  generalize W.heap.size = B0 at *
  go_upto_region 7 with (first
    | (refine wpList_load_O 62 _ rfl rfl 0 0 ([nI k, nI t, nI n, .slice Ac cs.length cc, .slice Ab bs.length cb, .slice Ai is.length ci]) (Own.atP O0.out _ (by (repeat (first | exact Plus.refl _ | apply Plus.plus | apply Plus.alloc | apply Plus.drew)))) rfl rfl (by simp) rfl Try.underlying62 rfl (by kernel_rfl) ?_)
    | (go_at_call 37; (with_reducible refine (kL.out _).mono ?_); rintro e w' ⟨rfl, e1, rfl⟩)
    | (go_at_call 38; (with_reducible refine (kE.out _ (by (repeat (first | exact O0.out.p | apply Plus.plus | apply Plus.alloc | apply Plus.drew)))).mono ?_); rintro e w' ⟨rfl, e2, rfl⟩)
    | (go_at_call 41; (with_reducible refine (kD.out _ _ (Own.atP O0.out _ (by (repeat (first | exact Plus.refl _ | apply Plus.plus | apply Plus.alloc | apply Plus.drew))))).mono ?_); rintro e w1 ⟨⟨Bc, Bb, Bi, bc, bb, bi⟩, rfl, O1⟩))
  have O2 := O1.newCells [nI k, nI t, nI n, .slice Bc cs.length bc, .slice Bb bs.length bb, .slice Bi is.length bi] 62
  obtain ⟨w2, hw2⟩ : ∃ q, w1.alloc (.cells #[nI k, nI t, nI n, .slice Bc cs.length bc, .slice Bb bs.length bb, .slice Bi is.length bi] 62) = q := ⟨_, rfl⟩
  rw [hw2] at O2
  rw [hw2]
  clear hw2 O1 O0 kL kE
  generalize w1.heap.size = A1 at *
  replace O2 := Lib.hid O2
  go_upto_region 8 with (go_at_call 41; (with_reducible refine (kD.out _ _ O2.out).mono ?_); rintro e w3 ⟨⟨Dc, Db, Di, dc, db, di⟩, rfl, O3⟩)
  have O4 := O3.newCells [nI k, nI t, nI n, .slice Dc cs.length dc, .slice Db bs.length db, .slice Di is.length di] 62
  obtain ⟨w4, hw4⟩ : ∃ q, w3.alloc (.cells #[nI k, nI t, nI n, .slice Dc cs.length dc, .slice Db bs.length db, .slice Di is.length di] 62) = q := ⟨_, rfl⟩
  rw [hw4] at O4
  rw [hw4]
  clear hw4 O3 O2 kD
  generalize w3.heap.size = A2 at *
  replace O4 : Own W w4 (cellsA A2 [nI k, nI t, nI n, .slice Dc cs.length dc, .slice Db bs.length db, .slice Di is.length di] :: (msgA ⟨k, t, n, cs, bs, is⟩ ⟨Dc, Db, Di, dc, db, di⟩ ++ (cellsA A1 [nI k, nI t, nI n, .slice Bc cs.length bc, .slice Bb bs.length bb, .slice Bi is.length bi] :: slA 16 (.slice Bc cs.length bc) cs.length (cs.flatMap CmdR.cs) :: slA 11 (.slice Bb bs.length bb) bs.length (bs.flatMap BdR.cs) :: slA 3 (.slice Bi is.length bi) is.length (is.flatMap IdR.cs) :: cellsA B0 [nI k, nI t, nI n, .slice Ac cs.length cc, .slice Ab bs.length cb, .slice Ai is.length ci] :: []))) := O4
  have kT := Lib.hid (show Calls Try.prog 43 #[.agg #[nI k, nI t, nI n, .slice Bc cs.length bc, .slice Bb bs.length bb, .slice Bi is.length bi], .agg #[nI k, nI t, nI n, .slice Ac cs.length cc, .slice Ab bs.length cb, .slice Ai is.length ci]] w4 _ from kS.out w4 ⟨Bc, Bb, Bi, bc, bb, bi⟩ O4.p (msgA_rows (l := [cellsA B0 [nI k, nI t, nI n, .slice Ac cs.length cc, .slice Ab bs.length cb, .slice Ai is.length ci]]) (show Own W w4 _ from O4.drop.drop.drop.drop.drop)))
  replace O4 := Lib.hid O4
  go_upto_region 10 with (first
    | (refine wpList_load_O 62 _ rfl rfl 4 0 ([nI k, nI t, nI n, .slice Bc cs.length bc, .slice Bb bs.length bb, .slice Bi is.length bi]) O4.out rfl rfl (by simp) rfl Try.underlying62 rfl (by kernel_rfl) ?_)
    | (refine wpList_load_O 62 _ rfl rfl 8 0 ([nI k, nI t, nI n, .slice Ac cs.length cc, .slice Ab bs.length cb, .slice Ai is.length ci]) O4.out rfl rfl (by simp) rfl Try.underlying62 rfl (by kernel_rfl) ?_)
    | (go_at_call 43; (with_reducible refine kT.out.mono ?_); clear kT; rintro e w' ⟨rfl, e5, rfl⟩))
  have O5 := O4.out.plus e5
  obtain ⟨w5, hw5⟩ : ∃ q, w4.plus e5 = q := ⟨_, rfl⟩
  rw [hw5] at O5
  rw [hw5]
  clear hw5 O4
  replace O5 := Lib.hid O5
  go_upto_block 0 with fail
  go_cut [] (fun wx => ∃ X, Hid (Own W wx (cellsA A2 [nI k, nI t, nI n, .slice Dc cs.length dc, .slice Db bs.length db, .slice Di is.length di] :: (msgA ⟨k, t, n, cs, bs, is⟩ ⟨Dc, Db, Di, dc, db, di⟩ ++ (cellsA A1 [nI k, nI t, nI n, .slice Bc cs.length bc, .slice Bb bs.length bb, .slice Bi is.length bi] :: slA 16 (.slice Bc cs.length bc) cs.length (cs.flatMap CmdR.cs) :: slA 11 (.slice Bb bs.length bb) bs.length X :: slA 3 (.slice Bi is.length bi) is.length (is.flatMap IdR.cs) :: cellsA B0 [nI k, nI t, nI n, .slice Ac cs.length cc, .slice Ab bs.length cb, .slice Ai is.length ci] :: [])))))
  case first =>
    go_wp2_with fail
    go_loopw [9] (fun v wr => ∃ (i : Nat) (X : List Value), i ≤ bs.length ∧ v = nI i ∧ Hid (Own W wr (cellsA A2 [nI k, nI t, nI n, .slice Dc cs.length dc, .slice Db bs.length db, .slice Di is.length di] :: (msgA ⟨k, t, n, cs, bs, is⟩ ⟨Dc, Db, Di, dc, db, di⟩ ++ (cellsA A1 [nI k, nI t, nI n, .slice Bc cs.length bc, .slice Bb bs.length bb, .slice Bi is.length bi] :: slA 16 (.slice Bc cs.length bc) cs.length (cs.flatMap CmdR.cs) :: slA 11 (.slice Bb bs.length bb) bs.length X :: slA 3 (.slice Bi is.length bi) is.length (is.flatMap IdR.cs) :: cellsA B0 [nI k, nI t, nI n, .slice Ac cs.length cc, .slice Ab bs.length cb, .slice Ai is.length ci] :: []))))) (fun v _ => bs.length - (intOf v).toNat)
    case atStart => exact ⟨0, _, by omega, rfl, O5⟩
    case round =>
      obtain ⟨i, X, hi, rfl, O⟩ := hrel
      clear O5
      have x4 := (Own.cells 4 O.out rfl).2.1 4 (by simp)
      simp only [List.getElem?_cons_succ, List.getElem?_cons_zero] at x4
      haveI : InW A1 wr := ⟨(Own.cells 4 O.out rfl).1⟩
      by_cases hlt : i < bs.length
      · have hlti : (i : Int) < bs.length := by omega
        have hS := Own.sl 6 O.out rfl
        rcases hS.val with ⟨hv, h0⟩ | ⟨g, of, cap, hv, hg, hc, hcm, h1, h2⟩
        · omega
        obtain ⟨rfl, rfl⟩ : Bb = some ⟨g, of, none⟩ ∧ bb = cap := by injection hv with a b c; exact ⟨a, c⟩
        have hq : i * 11 + 3 < bb * 11 := by have := Nat.mul_le_mul_right 11 hc; omega
        obtain ⟨u, hu⟩ := Option.isSome_iff_exists.1 (h2 (i * 11 + 3) hq).1
        have hf := (h2 (i * 11 + 3) hq).2
        rw [← Nat.add_assoc] at hu hf
        haveI : InW g wr := ⟨hg⟩
        have O6 := Own.push _ 6 (by simp [msgA]) (Own.setSl (O.out.pull 6 rfl) (i * 11 + 3) (nI 0) (by omega))
        rw [← Nat.add_assoc] at O6
        replace O6 := Lib.hid O6
        clear hS hv h1 h2 hq hg hcm
        go_wp2_with fail
        go_roundw
        case rel => exact ⟨i + 1, _, hlt, by go_num, O6⟩
        case measure => simp [intOf]; omega
      · obtain ⟨j, hj⟩ : ∃ j, j = bs.length := ⟨_, rfl⟩
        have hie : i = bs.length := by omega
        have hkk : ¬ (i : Int) < bs.length := by omega
        clear hj hie
        go_wp2_with fail
        go_meet
        exact ⟨X, O⟩
  obtain ⟨X, O6⟩ := hcut
  clear O5
  go_upto_block 2 with fail
  go_cut [] (fun wx => ∃ Y, Hid (Own W wx (cellsA A2 [nI k, nI t, nI n, .slice Dc cs.length dc, .slice Db bs.length db, .slice Di is.length di] :: (msgA ⟨k, t, n, cs, bs, is⟩ ⟨Dc, Db, Di, dc, db, di⟩ ++ (cellsA A1 [nI k, nI t, nI n, .slice Bc cs.length bc, .slice Bb bs.length bb, .slice Bi is.length bi] :: slA 16 (.slice Bc cs.length bc) cs.length (cs.flatMap CmdR.cs) :: slA 11 (.slice Bb bs.length bb) bs.length X :: slA 3 (.slice Bi is.length bi) is.length Y :: cellsA B0 [nI k, nI t, nI n, .slice Ac cs.length cc, .slice Ab bs.length cb, .slice Ai is.length ci] :: [])))))
  case first =>
    go_wp2_with fail
    go_loopw [10] (fun v wr => ∃ (i : Nat) (Y : List Value), i ≤ is.length ∧ v = nI i ∧ Hid (Own W wr (cellsA A2 [nI k, nI t, nI n, .slice Dc cs.length dc, .slice Db bs.length db, .slice Di is.length di] :: (msgA ⟨k, t, n, cs, bs, is⟩ ⟨Dc, Db, Di, dc, db, di⟩ ++ (cellsA A1 [nI k, nI t, nI n, .slice Bc cs.length bc, .slice Bb bs.length bb, .slice Bi is.length bi] :: slA 16 (.slice Bc cs.length bc) cs.length (cs.flatMap CmdR.cs) :: slA 11 (.slice Bb bs.length bb) bs.length X :: slA 3 (.slice Bi is.length bi) is.length Y :: cellsA B0 [nI k, nI t, nI n, .slice Ac cs.length cc, .slice Ab bs.length cb, .slice Ai is.length ci] :: []))))) (fun v _ => is.length - (intOf v).toNat)
    case atStart => exact ⟨0, _, by omega, rfl, O6⟩
    case round =>
      obtain ⟨i, Y, hi, rfl, O⟩ := hrel
      clear O6
      have x5 := (Own.cells 4 O.out rfl).2.1 5 (by simp)
      simp only [List.getElem?_cons_succ, List.getElem?_cons_zero] at x5
      haveI : InW A1 wr := ⟨(Own.cells 4 O.out rfl).1⟩
      by_cases hlt : i < is.length
      · have hlti : (i : Int) < is.length := by omega
        have hS := Own.sl 7 O.out rfl
        rcases hS.val with ⟨hv, h0⟩ | ⟨g, of, cap, hv, hg, hc, hcm, h1, h2⟩
        · omega
        obtain ⟨rfl, rfl⟩ : Bi = some ⟨g, of, none⟩ ∧ bi = cap := by injection hv with a b c; exact ⟨a, c⟩
        have hq : i * 3 + 2 < bi * 3 := by have := Nat.mul_le_mul_right 3 hc; omega
        obtain ⟨u, hu⟩ := Option.isSome_iff_exists.1 (h2 (i * 3 + 2) hq).1
        have hf := (h2 (i * 3 + 2) hq).2
        rw [← Nat.add_assoc] at hu hf
        haveI : InW g wr := ⟨hg⟩
        have O7 := Own.push _ 7 (by simp [msgA]) (Own.setSl (O.out.pull 7 rfl) (i * 3 + 2) (nI (-1)) (by omega))
        rw [← Nat.add_assoc] at O7
        replace O7 := Lib.hid O7
        clear hS hv h1 h2 hq hg hcm
        go_wp2_with fail
        go_roundw
        case rel => exact ⟨i + 1, _, hlt, by go_num, O7⟩
        case measure => simp [intOf]; omega
      · have hkk : ¬ (i : Int) < is.length := by omega
        go_wp2_with fail
        go_meet
        exact ⟨Y, O⟩
  obtain ⟨Y, O8⟩ := hcut
  clear O6
  have kU := Lib.hid (show Calls Try.prog 43 #[.agg #[nI k, nI t, nI n, .slice Dc cs.length dc, .slice Db bs.length db, .slice Di is.length di], .agg #[nI k, nI t, nI n, .slice Ac cs.length cc, .slice Ab bs.length cb, .slice Ai is.length ci]] _ _ from kS.out _ ⟨Dc, Db, Di, dc, db, di⟩ O8.out.p (msgA_rows (Own.drop O8.out)))
  have PP := Lib.hid O8.out.p
  clear kS
  go_wp2_with (first
    | (refine wpList_load_O 62 _ rfl rfl 0 0 ([nI k, nI t, nI n, .slice Dc cs.length dc, .slice Db bs.length db, .slice Di is.length di]) O8.out rfl rfl (by simp) rfl Try.underlying62 rfl (by kernel_rfl) ?_)
    | (refine wpList_load_O 62 _ rfl rfl 8 0 ([nI k, nI t, nI n, .slice Ac cs.length cc, .slice Ab bs.length cb, .slice Ai is.length ci]) O8.out rfl rfl (by simp) rfl Try.underlying62 rfl (by kernel_rfl) ?_)
    | (go_at_call 43; (with_reducible refine kU.out.mono ?_); clear kU; rintro e w' ⟨rfl, e7, rfl⟩)
    | (go_at_call 17; (with_reducible refine (kA.out _).mono ?_); rintro e w' ⟨rfl, e8, rfl⟩))
  go_ret
  exact ⟨rfl, by (repeat (first | exact PP.out | apply Plus.plus | apply Plus.alloc | apply Plus.drew))⟩
end Go.Proofs.Ytjfjecjigakdnaa
