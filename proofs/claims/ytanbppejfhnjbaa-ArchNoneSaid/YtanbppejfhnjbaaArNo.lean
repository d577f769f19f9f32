/- ArchNone: a store that is none: walk. -/
import Derived.Test.YtanbppejfhnjbaaArW
set_option linter.unusedSimpArgs false
set_option linter.unusedVariables false
namespace Go.Proofs.Ytanbppejfhnjbaa
open Go.RowKit Go.Shelf
attribute [local go_sem] Oper.semAt_some
set_option maxHeartbeats 400000
set_option maxRecDepth 100000
theorem get_nil (a : IdR) (w : World) : Calls Try.prog 13 #[.pointer none, a.v] w fun e w' => e = .returned (.tuple #[bd0.v, .bool false]) ∧ w.Plus w' := by
  go_enter Try.func13, Try.ntmps13
  go_wp2_with fail
  exact bodyPost_ret (v := .tuple #[bd0.v, .bool false]) (by simp [results, Try.results13, go_sem]) rfl ⟨rfl, by (repeat (first | exact Plus.refl _ | apply Plus.plus | apply Plus.alloc | apply Plus.drew))⟩
theorem row_nil (a : IdR) (w : World) : Calls Try.prog 14 #[.pointer none, a.v] w fun e w' => e = .returned (.tuple #[nI 0, .bool false]) ∧ w.Plus w' := by
  go_enter Try.func14, Try.ntmps14
  go_wp2_with fail
  go_ret2
  exact ⟨rfl, by (repeat (first | exact Plus.refl _ | apply Plus.plus | apply Plus.alloc | apply Plus.drew))⟩
theorem put_nil (b : BdR) (w : World) : Calls Try.prog 19 #[.pointer none, b.v] w fun e w' => e = .returned (nI 1) ∧ w.Plus w' := by
  go_enter Try.func19, Try.ntmps19
  go_wp2_with fail
  go_ret
  exact ⟨rfl, by (repeat (first | exact Plus.refl _ | apply Plus.plus | apply Plus.alloc | apply Plus.drew))⟩
theorem write_nil (b : BdR) (w : World) : Calls Try.prog 25 #[.pointer none, b.v] w fun e w' => e = .returned (nI 1) ∧ w.Plus w' := by
  go_enter Try.func25, Try.ntmps25
  go_wp2_with fail
  go_ret
  exact ⟨rfl, by (repeat (first | exact Plus.refl _ | apply Plus.plus | apply Plus.alloc | apply Plus.drew))⟩
theorem remove_nil (a : IdR) (w : World) : Calls Try.prog 28 #[.pointer none, a.v] w fun e w' => e = .returned (.bool false) ∧ w.Plus w' := by
  go_enter Try.func28, Try.ntmps28
  go_wp2_with fail
  go_ret
  exact ⟨rfl, by (repeat (first | exact Plus.refl _ | apply Plus.plus | apply Plus.alloc | apply Plus.drew))⟩
theorem len_nil (w : World) : Calls Try.prog 16 #[.pointer none] w fun e w' => e = .returned (nI 0) ∧ w.Plus w' := by
  go_enter Try.func16, Try.ntmps16
  go_wp2_with fail
  go_ret
  exact ⟨rfl, by (repeat (first | exact Plus.refl _ | apply Plus.plus | apply Plus.alloc | apply Plus.drew))⟩
theorem tables_nil (w : World) : Calls Try.prog 12 #[.pointer none] w fun e w' => e = .returned (.slice none 0 0) ∧ w.Plus w' := by
  go_enter Try.func12, Try.ntmps12
  go_wp2_with fail
  go_ret
  exact ⟨rfl, by (repeat (first | exact Plus.refl _ | apply Plus.plus | apply Plus.alloc | apply Plus.drew))⟩
theorem allOf_nil (w : World) : Calls Try.prog 46 #[.pointer none] w fun e w' => e = .returned (.func (.func 57) #[] #[.pointer (some ⟨w.heap.size, 0, none⟩)]) ∧ w' = w.alloc (.cells #[.pointer none] 23) := by
  go_enter Try.func46, Try.ntmps46
  go_wp2_with fail
  go_ret
  exact ⟨rfl, rfl⟩
theorem all1_nil (n : Nat) (hn : 5 ≤ n) (W0 : World) (Bs : Nat) : SeqO Fence.wide n Try.prog 57 #[.pointer (some ⟨Bs, 0, none⟩)] W0 BdR.v [] [cellsA Bs [.pointer none]] := by
  intro l I X W hY h0
  refine callsIn_of_wp Try.func57 rfl trivial ?_ rfl
  simp only [Try.ntmps57, List.size_toArray, List.length_cons, List.length_nil, Nat.reduceAdd, Nat.reduceSub, Array.replicate_succ, Array.replicate_zero, List.push_toArray, List.append_toArray, List.nil_append, List.cons_append]
  obtain ⟨lB, qB, _⟩ := h0.cells 0 rfl
  have b0 := qB 0 (by simp)
  simp only [List.getElem?_cons_zero] at b0
  haveI : InW Bs W := ⟨lB⟩
  clear qB lB
  replace h0 := Lib.hid h0
  clear hY
  gi_wp2
  refine bodyPost_ret (results_none rfl _ _ _) rfl ?_
  exact ⟨⟨_, rfl⟩, .inl h0.out⟩
theorem copy_nil {W wx : World} {l : List Asn} (h : Own W wx l) : Calls Try.prog 29 #[.pointer none] wx fun e w' => ∃ C, e = .returned (chP C) ∧ Own W w' (storeA C (fun _ => []) :: l) := by
  refine (callsIn_wide (n := 20)).1 ?_
  have kN := Lib.hid (new_store h)
  refine callsIn_of_wp_marks Try.func29 rfl trivial ?_ rfl
  simp only [Try.ntmps29, List.size_toArray, List.length_cons, List.length_nil, Nat.reduceAdd, Nat.reduceSub, Array.replicate_succ, Array.replicate_zero, List.push_toArray, List.append_toArray, List.nil_append, List.cons_append]
  replace h := Lib.hid h
  gi_wp2_with (first
    | ((refine ⟨trivial, ?_⟩; gi_at_call 18; refine (callsIn_wide.2 kN.out).mono ?_; rintro e w1 ⟨C, rfl, O1⟩))
    | ((refine ⟨trivial, ?_⟩; gi_at_call 46; refine (callsIn_wide.2 (allOf_nil _)).mono ?_; rintro e w2 ⟨rfl, rfl⟩)))
  have O2 : Own W ((w1.alloc (.cells #[chP C] 23)).alloc (.cells #[.pointer none] 23)) ([cellsA (w1.heap.size + 1) [.pointer none]] ++ ([cellsA w1.heap.size [chP C], storeA C (fun _ => [])] ++ l)) := by
    have := (O1.newCells [chP C] 23).newCells [.pointer none] 23
    rw [World.size_alloc] at this
    exact this
  obtain ⟨w3, hw3⟩ : ∃ w3, (w1.alloc (.cells #[chP C] 23)).alloc (.cells #[.pointer none] 23) = w3 := ⟨_, rfl⟩
  rw [hw3] at O2 ⊢
  generalize w1.heap.size = Pb at *
  clear hw3 O1 kN h
  refine wpIn_rangeO (F := Fence.wide) (n := 20) (W0 := W) (α := BdR) rfl (by omega) (gf := 57) (lb := #[.pointer (some ⟨Pb + 1, 0, none⟩)]) rfl trivial enters_all1 (all1_nil 19 (by omega) W (Pb + 1)) rfl
    (fun _ => [cellsA Pb [chP C], storeA C (fun _ => [])] ++ l) (fun _ _ => [factA False]) O2
    (fun Bx x => { tmps := #[.pointer none, undef, .pointer none, .pointer (some ⟨Pb, 0, none⟩), .pointer (some ⟨Bx, 0, none⟩), chP C, .pointer none, .func (.func 57) #[] #[.pointer (some ⟨Pb + 1, 0, none⟩)], x.v, undef, undef, undef, undef], defers := [] })
    BdR.cs 33 ?assign ?body ?done ?stop
  case assign =>
    intro l x W K hK
    gi_wp2
    exact hK
  case body =>
    intro lr Bx pre x post Wr R hpre O
    simp at hpre
  case done =>
    intro D Wd O
    obtain ⟨lP, qP, _⟩ := O.cells 2 rfl
    have p0 := qP 0 (by simp)
    simp only [List.getElem?_cons_zero] at p0
    haveI : InW Pb Wd := ⟨lP⟩
    have hK := O.raw
    have O9 := Lib.hid ((O.putRaw (.deferred none)).drop)
    clear qP lP O O2
    gi_wp2
    refine ⟨by simp, .inl ⟨_, _, rfl, run_takeDeferred hK, ?_⟩⟩
    exact ⟨_, results_tmp rfl _ _ _, C, rfl, O9.out.drop.drop⟩
  case stop =>
    intro D c pre post Wd hpre hne O
    exact absurd (List.append_eq_nil_iff.1 hpre).1 hne
set_option maxRecDepth 100000 in
set_option maxHeartbeats 1000000 in
theorem lall_nil {W wx : World} {l : List Asn} (h : Own W wx l) (k : Nat) (hk : k ≤ 100000) :
    Calls Try.prog 24 #[.pointer none, nI k] wx fun e w' => e = .returned (.slice none 0 0) ∧ Own W w' l := by
  refine (callsIn_wide (n := 20)).1 ?_
  refine callsIn_of_wp_marks Try.func24 rfl trivial ?_ rfl
  simp only [Try.ntmps24, List.size_toArray, List.length_cons, List.length_nil, Nat.reduceAdd, Nat.reduceSub, Array.replicate_succ, Array.replicate_zero, List.push_toArray, List.append_toArray, List.nil_append, List.cons_append]
  have O2 : Own W (((wx.alloc (.cells #[nI k] 3)).alloc (.cells #[.slice none 0 0] 42)).alloc (.cells #[.pointer none] 23)) ([cellsA (wx.heap.size + 2) [.pointer none]] ++ ([cellsA (wx.heap.size + 1) [.slice none 0 0], cellsA wx.heap.size [nI k]] ++ l)) := by
    have := ((h.newCells [nI k] 3).newCells [.slice none 0 0] 42).newCells [.pointer none] 23
    rw [World.size_alloc, World.size_alloc] at this
    exact this
  have hsq := seq_some 57
  gi_wp2_with ((refine ⟨trivial, ?_⟩; gi_at_call 46; refine (callsIn_wide.2 (allOf_nil _)).mono ?_; rintro e w2 ⟨rfl, rfl⟩))
  obtain ⟨w3, hw3⟩ : ∃ w3, (((wx.alloc (.cells #[nI k] 3)).alloc (.cells #[.slice none 0 0] 42)).alloc (.cells #[.pointer none] 23)) = w3 := ⟨_, rfl⟩
  rw [hw3] at O2 ⊢
  generalize wx.heap.size = Mb at *
  clear hw3 h
  refine wpIn_rangeO (F := Fence.wide) (n := 20) (W0 := W) (α := BdR) rfl (by omega) (gf := 57) (lb := #[.pointer (some ⟨Mb + 2, 0, none⟩)]) rfl trivial enters_all1 (all1_nil 19 (by omega) W (Mb + 2)) rfl
    (fun _ => [cellsA (Mb + 1) [.slice none 0 0], cellsA Mb [nI k]] ++ l) (fun _ _ => [factA False]) O2
    (fun Bx x => { tmps := #[.pointer none, nI k, undef, .pointer (some ⟨Mb, 0, none⟩), .slice none 0 0, .pointer (some ⟨Mb + 1, 0, none⟩), .func (.func 57) #[] #[.pointer (some ⟨Mb + 2, 0, none⟩)], .pointer (some ⟨Bx, 0, none⟩), .pointer none, .func (.func 57) #[] #[.pointer (some ⟨Mb + 2, 0, none⟩)], .func (.func 57) #[] #[.pointer (some ⟨Mb + 2, 0, none⟩)], .bool false, .func (.func 57) #[] #[.pointer (some ⟨Mb + 2, 0, none⟩)], x.v, undef, undef, undef, undef, undef, undef, undef, undef, undef], defers := [] })
    BdR.cs 33 ?assign ?body ?done ?stop
  case assign =>
    intro l x W K hK
    gi_wp2
    exact hK
  case body =>
    intro lr Bx pre x post Wr R hpre O
    simp at hpre
  case done =>
    intro D Wd O
    obtain ⟨lP, qP, _⟩ := O.cells 2 rfl
    have p0 := qP 0 (by simp)
    simp only [List.getElem?_cons_zero] at p0
    haveI : InW (Mb + 1) Wd := ⟨lP⟩
    have hK := O.raw
    have O9 := Lib.hid ((O.putRaw (.deferred none)).drop)
    clear qP lP O O2
    gi_wp2
    refine ⟨by simp, .inl ⟨_, _, rfl, run_takeDeferred hK, ?_⟩⟩
    exact ⟨_, results_tmp rfl _ _ _, rfl, O9.out.drop.drop.drop⟩
  case stop =>
    intro D c pre post Wd hpre hne O
    exact absurd (List.append_eq_nil_iff.1 hpre).1 hne
theorem lall_nil2 (w : World) : Calls Try.prog 24 #[.pointer none, nI 5] w fun e w' => e = .returned (.slice none 0 0) ∧ w.Plus w' :=
  (lall_nil (Own.start w) 5 (by omega)).mono (by
    rintro e w' ⟨h1, h2⟩
    exact ⟨h1, h2.p⟩)
theorem total_none : total (fun _ => []) = 0 := rfl
set_option maxRecDepth 100000 in
set_option maxHeartbeats 1000000 in
theorem archNone_any (W : World) (b : BdR) (hb : IdW b.id) :
    Calls Try.prog 10 #[b.v] W fun e w' => e = .returned (.bool true) ∧ W.Plus w' := by
  have O0 : Own W (W.alloc (.cells #[nI b.id.s, nI b.id.i, nI b.id.g, nI b.mask, nI b.x, nI b.y, nI b.vx, nI b.vy, nI b.hp, nI b.pw, nI b.lf] 33)) (cellsA W.heap.size b.cs :: []) := Own.newCells (Own.start W) b.cs 33
  have hW0 : SizeN (W.alloc (.cells #[nI b.id.s, nI b.id.i, nI b.id.g, nI b.mask, nI b.x, nI b.y, nI b.vx, nI b.vy, nI b.hp, nI b.pw, nI b.lf] 33)) (W.heap.size + 1) := inferInstance
  generalize hX : W.heap.size = X at *
  generalize hwy : W.alloc (.cells #[nI b.id.s, nI b.id.i, nI b.id.g, nI b.mask, nI b.x, nI b.y, nI b.vx, nI b.vy, nI b.hp, nI b.pw, nI b.lf] 33) = wy at *
  obtain ⟨hInq, q0, q1, q2, q3, q4, q5, q6, q7, q8, q9, q10⟩ := boxAt (b := b) 0 O0 rfl
  have hhyp := hX
  have kG := Lib.hid (fun w' => get_nil b.id w')
  have kR := Lib.hid (fun w' => row_nil b.id w')
  go_enter Try.func10, Try.ntmps10
  go_upto_region 3 with (go_at_call 13; (with_reducible refine (kG.out _).mono ?_); rintro e w' ⟨rfl, e1, rfl⟩)
  have O1 : Own W ((wy.plus e1).alloc (.cells #[nI 0, nI 0, nI 0, nI 0, nI 0, nI 0, nI 0, nI 0, nI 0, nI 0, nI 0] 33)) (cellsA (wy.heap.size + e1.objs.size) bd0.cs :: cellsA X b.cs :: []) := by
    have := ((O0.plus e1).newCells bd0.cs 33)
    rw [World.size_plus_eq] at this
    exact this
  obtain ⟨w3, hw3⟩ : ∃ w3, (wy.plus e1).alloc (.cells #[nI 0, nI 0, nI 0, nI 0, nI 0, nI 0, nI 0, nI 0, nI 0, nI 0, nI 0] 33) = w3 := ⟨_, rfl⟩
  rw [hw3] at O1 ⊢
  generalize wy.heap.size + e1.objs.size = Y at *
  clear hw3 hInq q0 q1 q2 q3 q4 q5 q6 q7 q8 q9 q10 hW0 kG O0
  obtain ⟨hInq, q0, q1, q2, q3, q4, q5, q6, q7, q8, q9, q10⟩ := boxAt (b := b) 1 O1 rfl
  have kC := Lib.hid (fun wz (p : w3.Plus wz) => copy_nil (Own.atP O1 wz p))
  replace O1 := Lib.hid O1
  go_upto_region 5 with (first
    | (go_at_call 14; (with_reducible refine (kR.out _).mono ?_); rintro e w' ⟨rfl, e2, rfl⟩)
    | (go_at_call 29; (with_reducible refine (kC.out _ (by (repeat (first | exact Plus.refl _ | apply Plus.plus | apply Plus.alloc | apply Plus.drew)))).mono ?_); rintro e w4 ⟨C, rfl, O4⟩))
  clear kC O1 hInq q0 q1 q2 q3 q4 q5 q6 q7 q8 q9 q10 kR
  obtain ⟨hInq, q0, q1, q2, q3, q4, q5, q6, q7, q8, q9, q10⟩ := boxAt (b := b) 2 O4 rfl
  obtain ⟨hInr, r0, r1, r2, r3, r4, r5, r6, r7, r8, r9, r10⟩ := boxAt (b := bd0) 1 O4 rfl
  simp only [bd0] at r0 r1 r2 r3 r4 r5 r6 r7 r8 r9 r10
  have kL := Lib.hid (fun wz (p : w4.Plus wz) => len_store (Own.atP O4 wz p))
  have kP := Lib.hid (fun w' => put_nil b w')
  have kW := Lib.hid (fun w' => write_nil b w')
  have kD := Lib.hid (fun w' => remove_nil b.id w')
  rw [total_none] at kL
  have hp4 := Lib.hid O4.p
  replace O4 := Lib.hid O4
  go_wp2_with (first
    | (go_at_call 19; (with_reducible refine (kP.out _).mono ?_); rintro e w' ⟨rfl, e1, rfl⟩)
    | (go_at_call 25; (with_reducible refine (kW.out _).mono ?_); rintro e w' ⟨rfl, e2, rfl⟩)
    | (go_at_call 28; (with_reducible refine (kD.out _).mono ?_); rintro e w' ⟨rfl, e3, rfl⟩)
    | (go_at_call 16; (with_reducible refine (len_nil _).mono ?_); rintro e w' ⟨rfl, e4, rfl⟩)
    | (go_at_call 12; (with_reducible refine (tables_nil _).mono ?_); rintro e w' ⟨rfl, e5, rfl⟩)
    | (go_at_call 24; (with_reducible refine (lall_nil2 _).mono ?_); rintro e w' ⟨rfl, e6, rfl⟩)
    | (go_at_call 16; (with_reducible refine (kL.out _ (by (repeat (first | exact Plus.refl _ | apply Plus.plus | apply Plus.alloc | apply Plus.drew)))).mono ?_); rintro e w' ⟨rfl, e7, rfl⟩)
    | (go_at_call 17; (with_reducible refine (awake_any _).mono ?_); rintro e w' ⟨rfl, e8, rfl⟩))
  go_ret
  exact ⟨rfl, Plus.trans hp4.out (by (repeat (first | exact Plus.refl _ | apply Plus.plus | apply Plus.alloc | apply Plus.drew)))⟩
end Go.Proofs.Ytanbppejfhnjbaa
