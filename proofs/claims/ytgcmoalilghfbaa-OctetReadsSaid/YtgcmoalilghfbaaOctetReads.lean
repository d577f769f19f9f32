/- OctetReads: any bytes, read by any asks one behind the other, answer what the document says, also when they are none. For every input, no condition. -/
import Derived.Test.YtgcmoalilghfbaaRows
import Derived.Test.YtgcmoalilghfbaaOctAwake
import Derived.Test.YtgcmoalilghfbaaRefRead3
import Derived.Test.YtgcmoalilghfbaaLift
import Derived.ProofKit
set_option linter.unusedSimpArgs false
set_option linter.unusedVariables false
namespace Go.Proofs.Ytgcmoalilghfbaa.lawOctetReads
open Go.ChangeShapes Go.WideShapes Go.ChangeAt Go.RowKit
abbrev Ak := Int × Int
abbrev akAt (xs : List Ak) : Nat → Nat → Value := fun i j => if j = 0 then .int .i64 (xs.getD i (0, 0)).1 else .int .i64 (xs.getD i (0, 0)).2
theorem upd_cell {w w' : World} {N b o : Nat} (h : Upd w w' N) (hb : b < w.heap.size) (hne : b ≠ N) : w'.cell? ⟨b, o, none⟩ = w.cell? ⟨b, o, none⟩ :=
  World.cell?_of_block (w := w) (a := ⟨b, o, none⟩) (h.block b hb hne)
theorem eq_bytes (s t : ByteArray) : (s.toList == t.toList) = decide (s = t) := by
  rw [Bool.eq_iff_iff, beq_iff_eq, decide_eq_true_iff, ByteArray.toList_eq, ByteArray.toList_eq]
  exact ⟨fun h => by rw [← txt_bytes s, ← txt_bytes t]; unfold bytes; rw [h], fun h => by rw [h]⟩
/-- both readers, at one place -/
structure Two (w : World) (N M : Nat) (s : ByteArray) (b : Bool) : Prop where
  one : RdAt w N s b
  two : RdAt w M s b
  size : s.size ≤ 100000
  inv : b = true → s = ⟨#[]⟩
set_option maxRecDepth 100000 in
set_option maxHeartbeats 1000000 in
theorem walk (t : ByteArray) (xs : List Ak) (A : Option Addr) (c : Nat) (w : World) (ht : t.size ≤ 140737488351232) (hn : xs.length ≤ 140737488351232) (hr : RowsAt w A 2 xs.length (akAt xs)) :
    Calls Try.prog 7 #[.string t, .slice A xs.length c] w fun e w' => e = .returned (.bool true) ∧ w.Plus w' := by
  by_cases htl : 100000 < t.size
  · have htl2 : (100000 : Int) < t.size := by omega
    go_enter Try.func7, Try.ntmps7
    go_wp2_with (first | (go_at_call 10; (with_reducible refine (awake_any _).mono ?_); rintro e w' ⟨rfl, e3, rfl⟩))
    go_ret
    exact ⟨rfl, by (repeat (first | exact Plus.refl _ | apply Plus.plus | apply Plus.alloc | apply Plus.drew))⟩
  have htl2 : ¬ (100000 : Int) < t.size := by omega
  by_cases hl : 60 < xs.length
  · have hl2 : (60 : Int) < xs.length := by omega
    go_enter Try.func7, Try.ntmps7
    go_wp2_with (first | (go_at_call 10; (with_reducible refine (awake_any _).mono ?_); rintro e w' ⟨rfl, e3, rfl⟩))
    go_ret
    exact ⟨rfl, by (repeat (first | exact Plus.refl _ | apply Plus.plus | apply Plus.alloc | apply Plus.drew))⟩
  have hl2 : ¬ (60 : Int) < xs.length := by omega
  have hO := Lib.hid (fun w => of_new w t (by omega))
  go_enter Try.func7, Try.ntmps7
  go_upto_region 6 with (first | (go_at_call 15; (with_reducible refine (hO.out _).mono ?_); rintro e w' ⟨N, rfl, hN, hr1, e1, rfl⟩))
  obtain ⟨M, hMe⟩ : ∃ M, M = w.heap.size + e1.objs.size := ⟨_, rfl⟩
  obtain ⟨W1, hW1⟩ : ∃ W1, W1 = (w.plus e1).alloc (Obj.cells #[Value.string t, Value.bool false] 49) := ⟨_, rfl⟩
  have hM : w.heap.size ≤ M := by omega
  have hNlt : N < M := by have := hr1.lt; rw [World.size_plus] at this; omega
  have hMN : M ≠ N := by omega
  have hNM : N ≠ M := by omega
  have hTw : Two W1 N M t false := by
    rw [hW1]
    refine ⟨hr1.plus' (by (repeat (first | exact Plus.refl _ | apply Plus.plus | apply Plus.alloc | apply Plus.drew))), ?_, by omega, fun h => by cases h⟩
    subst hMe
    refine ⟨?_, ?_, ?_, ?_, ?_⟩
    all_goals simp [go_sem]
  have hpW : w.Plus W1 := by rw [hW1]; (repeat (first | exact Plus.refl _ | apply Plus.plus | apply Plus.alloc | apply Plus.drew))
  rw [← hMe, ← hW1]
  clear hW1 hMe hr1
  go_wp2_with fail
  go_loopw [7, 8] (fun i ok wr => ∃ (k : Nat) (s : ByteArray) (b : Bool), k ≤ xs.length ∧ i = .int .i64 k ∧ Two wr N M s b ∧ w.Plus wr) (fun i _ _ => xs.length - (intOf i).toNat)
  case atStart => exact ⟨0, t, false, Nat.zero_le _, rfl, hTw, hpW⟩
  case round =>
    clear hTw hpW
    obtain ⟨k, s, b, hk, rfl, htw, hp⟩ := hrel
    by_cases hlt : k < xs.length
    · obtain ⟨b1, o1, rfl, hb0, _⟩ := hr (by omega)
      obtain ⟨b2, o2, he, hb1, hc1⟩ := (hr.plus hp) (by omega)
      cases he
      haveI : InW b1 wr := ⟨hb1⟩
      have c1 := hc1 k 0 hlt (by omega)
      have c2 := hc1 k 1 hlt (by omega)
      clear hc1
      unfold akAt at c1 c2
      simp only [if_true, Nat.one_ne_zero, if_false, Nat.add_zero, ← Nat.add_assoc] at c1 c2
      generalize xs.getD k (0, 0) = y at c1 c2
      obtain ⟨n, q⟩ := y
      simp only at c1 c2
      have hbN : b1 ≠ N := by omega
      have hbM : b1 ≠ M := by omega
      by_cases hn0 : n = 0
      · subst hn0
        have hA := fun w' h => rdInt w' N s b h (by have := htw.size; omega)
        have hB := fun w' h => refRdInt w' M s b h (by have := htw.size; omega) htw.inv
        have hz := rInt_size s b
        have hinv := rInt_inv s b htw.inv
        have hz0 := htw.size
        generalize rInt s b = z at *
        obtain ⟨v, s', b'⟩ := z
        simp only at hA hB hz hinv
        replace hA := Lib.hid hA
        replace hB := Lib.hid hB
        have hlow := hz0
        go_upto_region 16 with (first | (go_at_call 16; (with_reducible refine (hA.out _ (htw.one.plus' (by (repeat (first | exact Plus.refl _ | apply Plus.plus | apply Plus.alloc | apply Plus.drew))))).mono ?_); rintro e w1 ⟨rfl, hr1a, hu1⟩; have hr2a := hu1.rd hMN (htw.two.plus' (by (repeat (first | exact Plus.refl _ | apply Plus.plus | apply Plus.alloc | apply Plus.drew))))) | (go_at_call 21; (with_reducible refine (hB.out _ hr2a).mono ?_); rintro e w2 ⟨rfl, hr2, hu2⟩; have hr1b := hu2.rd hNM hr1a))
        have hp2 : w.Plus w2 := hu2.toPlus (hu1.toPlus (Plus.trans hp (by (repeat (first | exact Plus.refl _ | apply Plus.plus | apply Plus.alloc | apply Plus.drew)))) hN) hM
        haveI : InW M w2 := ⟨hr2.lt⟩
        haveI : InW N w2 := ⟨hr1b.lt⟩
        have m0 := hr2.c0
        have hLf := Lib.hid (fun w' (h : RdAt w' N s' b') => rdLeft w' N s' b' h (by omega))
        have hD1 := Lib.hid (fun w' (h : RdAt w' N s' b') => rdDone w' N s' b' h)
        have hD2 := Lib.hid (fun w' (h : RdAt w' M s' b') => refRdDone w' M s' b' h)
        generalize rDone s' b' = R at *
        replace hr1b := Lib.hid hr1b
        replace hr2 := Lib.hid hr2
        refine wp_region_grow (by kernel_rfl) (by kernel_rfl) ?_
        repeat (go_big_quiet_step ((first | (go_at_call 18; (with_reducible exact Calls.plus_of (hLf.out _ (hr1b.out.plus' (by (repeat (first | exact Plus.refl _ | apply Plus.plus | apply Plus.alloc | apply Plus.drew))))))) | (go_at_call 19; (with_reducible exact Calls.plus_of (hD1.out _ (hr1b.out.plus' (by (repeat (first | exact Plus.refl _ | apply Plus.plus | apply Plus.alloc | apply Plus.drew))))))) | (go_at_call 25; (with_reducible exact Calls.plus_of (hD2.out _ (hr2.out.plus' (by (repeat (first | exact Plus.refl _ | apply Plus.plus | apply Plus.alloc | apply Plus.drew))))))))))
        refine wpQuiet_nil ?_
        intro ex
        go_wp2_with fail
        go_roundw
        case rel => exact ⟨k + 1, s', b', hlt, by simp, ⟨hr1b.out.plus' (by (repeat (first | exact Plus.refl _ | apply Plus.plus | apply Plus.alloc | apply Plus.drew))), hr2.out.plus' (by (repeat (first | exact Plus.refl _ | apply Plus.plus | apply Plus.alloc | apply Plus.drew))), by omega, hinv⟩, Plus.trans hp2 (by (repeat (first | exact Plus.refl _ | apply Plus.plus | apply Plus.alloc | apply Plus.drew)))⟩
        case measure => simp [intOf]; omega
      have hn0i : (n == 0) = false := by rw [beq_eq_false_iff_ne]; exact hn0
      by_cases hn1 : n = 1
      · subst hn1
        have hA := fun w' h => rdText w' N s b h (by have := htw.size; omega)
        have hB := fun w' h => refRdText w' M s b h (by have := htw.size; omega) htw.inv
        have hz := rText_size s b
        have hinv := rText_inv s b htw.inv
        have hz0 := htw.size
        generalize rText s b = z at *
        obtain ⟨v, s', b'⟩ := z
        simp only at hA hB hz hinv
        replace hA := Lib.hid hA
        replace hB := Lib.hid hB
        have hlow := hz0
        go_upto_region 16 with (first | (go_at_call 17; (with_reducible refine (hA.out _ (htw.one.plus' (by (repeat (first | exact Plus.refl _ | apply Plus.plus | apply Plus.alloc | apply Plus.drew))))).mono ?_); rintro e w1 ⟨rfl, hr1a, hu1⟩; have hr2a := hu1.rd hMN (htw.two.plus' (by (repeat (first | exact Plus.refl _ | apply Plus.plus | apply Plus.alloc | apply Plus.drew))))) | (go_at_call 22; (with_reducible refine (hB.out _ hr2a).mono ?_); rintro e w2 ⟨rfl, hr2, hu2⟩; have hr1b := hu2.rd hNM hr1a))
        have hp2 : w.Plus w2 := hu2.toPlus (hu1.toPlus (Plus.trans hp (by (repeat (first | exact Plus.refl _ | apply Plus.plus | apply Plus.alloc | apply Plus.drew)))) hN) hM
        haveI : InW M w2 := ⟨hr2.lt⟩
        haveI : InW N w2 := ⟨hr1b.lt⟩
        have m0 := hr2.c0
        have hLf := Lib.hid (fun w' (h : RdAt w' N s' b') => rdLeft w' N s' b' h (by omega))
        have hD1 := Lib.hid (fun w' (h : RdAt w' N s' b') => rdDone w' N s' b' h)
        have hD2 := Lib.hid (fun w' (h : RdAt w' M s' b') => refRdDone w' M s' b' h)
        generalize rDone s' b' = R at *
        replace hr1b := Lib.hid hr1b
        replace hr2 := Lib.hid hr2
        refine wp_region_grow (by kernel_rfl) (by kernel_rfl) ?_
        repeat (go_big_quiet_step ((first | (go_at_call 18; (with_reducible exact Calls.plus_of (hLf.out _ (hr1b.out.plus' (by (repeat (first | exact Plus.refl _ | apply Plus.plus | apply Plus.alloc | apply Plus.drew))))))) | (go_at_call 19; (with_reducible exact Calls.plus_of (hD1.out _ (hr1b.out.plus' (by (repeat (first | exact Plus.refl _ | apply Plus.plus | apply Plus.alloc | apply Plus.drew))))))) | (go_at_call 25; (with_reducible exact Calls.plus_of (hD2.out _ (hr2.out.plus' (by (repeat (first | exact Plus.refl _ | apply Plus.plus | apply Plus.alloc | apply Plus.drew))))))))))
        refine wpQuiet_nil ?_
        intro ex
        go_wp2_with fail
        go_roundw
        case rel => exact ⟨k + 1, s', b', hlt, by simp, ⟨hr1b.out.plus' (by (repeat (first | exact Plus.refl _ | apply Plus.plus | apply Plus.alloc | apply Plus.drew))), hr2.out.plus' (by (repeat (first | exact Plus.refl _ | apply Plus.plus | apply Plus.alloc | apply Plus.drew))), by omega, hinv⟩, Plus.trans hp2 (by (repeat (first | exact Plus.refl _ | apply Plus.plus | apply Plus.alloc | apply Plus.drew)))⟩
        case measure => simp [intOf]; omega
      have hn1i : (n == 1) = false := by rw [beq_eq_false_iff_ne]; exact hn1
      · skip
        have hA := fun w' h => rdCount w' N s b q h (by have := htw.size; omega)
        have hB := fun w' h => refRdCount w' M s b q h (by have := htw.size; omega) htw.inv
        have hz := rCount_size s b q
        have hinv := rCount_inv s b q htw.inv
        have hz0 := htw.size
        generalize rCount s b q = z at *
        obtain ⟨v, s', b'⟩ := z
        simp only at hA hB hz hinv
        replace hA := Lib.hid hA
        replace hB := Lib.hid hB
        have hlow := hz0
        go_upto_region 11 with fail
        go_region_held3 (fun w' => w'.cell? ⟨b1, o1 + k * 2 + 1, none⟩ = some (.int .i64 q)) (simp [go_sem, *]) (first | (go_at_call 23; (with_reducible refine (hA.out _ (htw.one.plus' (by (repeat (first | exact Plus.refl _ | apply Plus.plus | apply Plus.alloc | apply Plus.drew))))).mono ?_); rintro e w1 ⟨rfl, hr1a, hu1⟩; have hr2a := hu1.rd hMN (htw.two.plus' (by (repeat (first | exact Plus.refl _ | apply Plus.plus | apply Plus.alloc | apply Plus.drew)))); have d2 := (upd_cell hu1 hb1 hbN).trans c2; haveI : InW b1 w1 := ⟨Nat.lt_of_lt_of_le hb1 hu1.size⟩) | (go_at_call 24; (with_reducible refine (hB.out _ hr2a).mono ?_); rintro e w2 ⟨rfl, hr2, hu2⟩; have hr1b := hu2.rd hNM hr1a; have f2 := (upd_cell hu2 (Nat.lt_of_lt_of_le hb1 hu1.size) hbM).trans d2; haveI : InW b1 w2 := ⟨Nat.lt_of_lt_of_le hb1 (Nat.le_trans hu1.size hu2.size)⟩))
        go_upto_region 16 with fail
        have hp2 : w.Plus w2 := hu2.toPlus (hu1.toPlus (Plus.trans hp (by (repeat (first | exact Plus.refl _ | apply Plus.plus | apply Plus.alloc | apply Plus.drew)))) hN) hM
        haveI : InW M w2 := ⟨hr2.lt⟩
        haveI : InW N w2 := ⟨hr1b.lt⟩
        have m0 := hr2.c0
        have hLf := Lib.hid (fun w' (h : RdAt w' N s' b') => rdLeft w' N s' b' h (by omega))
        have hD1 := Lib.hid (fun w' (h : RdAt w' N s' b') => rdDone w' N s' b' h)
        have hD2 := Lib.hid (fun w' (h : RdAt w' M s' b') => refRdDone w' M s' b' h)
        generalize rDone s' b' = R at *
        replace hr1b := Lib.hid hr1b
        replace hr2 := Lib.hid hr2
        refine wp_region_grow (by kernel_rfl) (by kernel_rfl) ?_
        repeat (go_big_quiet_step ((first | (go_at_call 18; (with_reducible exact Calls.plus_of (hLf.out _ (hr1b.out.plus' (by (repeat (first | exact Plus.refl _ | apply Plus.plus | apply Plus.alloc | apply Plus.drew))))))) | (go_at_call 19; (with_reducible exact Calls.plus_of (hD1.out _ (hr1b.out.plus' (by (repeat (first | exact Plus.refl _ | apply Plus.plus | apply Plus.alloc | apply Plus.drew))))))) | (go_at_call 25; (with_reducible exact Calls.plus_of (hD2.out _ (hr2.out.plus' (by (repeat (first | exact Plus.refl _ | apply Plus.plus | apply Plus.alloc | apply Plus.drew))))))))))
        refine wpQuiet_nil ?_
        intro ex
        go_wp2_with fail
        go_roundw
        case rel => exact ⟨k + 1, s', b', hlt, by simp, ⟨hr1b.out.plus' (by (repeat (first | exact Plus.refl _ | apply Plus.plus | apply Plus.alloc | apply Plus.drew))), hr2.out.plus' (by (repeat (first | exact Plus.refl _ | apply Plus.plus | apply Plus.alloc | apply Plus.drew))), by omega, hinv⟩, Plus.trans hp2 (by (repeat (first | exact Plus.refl _ | apply Plus.plus | apply Plus.alloc | apply Plus.drew)))⟩
        case measure => simp [intOf]; omega
    · have hke : k = xs.length := by omega
      subst hke
      go_wp2_with (first | (go_at_call 10; (with_reducible refine (awake_any _).mono ?_); rintro e w' ⟨rfl, e3, rfl⟩))
      go_ret
      exact ⟨rfl, Plus.trans hp (by (repeat (first | exact Plus.refl _ | apply Plus.plus | apply Plus.alloc | apply Plus.drew)))⟩
theorem laidOut : laidOutB Try.prog = true := by kernel_rfl
theorem own : ownKnob Try.prog.godebug = none := by kernel_rfl
set_option maxRecDepth 100000 in
set_option maxHeartbeats 1000000 in
theorem lifted (os : Os) (started : os.Started) (H : Type) (enc : TypeId × Value → H) :
    ReturnsInHanded {} Try.checked os 7 .any (Rows.octetReadsSpec.pre6 enc Try.prog Try.f7 Rows.octetReadsRow.domain false) (Rows.octetReadsSpec.post enc Try.prog Try.f7 false true false false) := by
  refine returnsInHanded_of_change_sized (C := Try.checked) own started (by kernel_rfl) Try.func7
    (ChangeSpec.witness6 (enc := enc) (C := Try.checked) false ⟨#[], #[.string .empty, .slice none 0 0], []⟩ 8 (by kernel_rfl) (by kernel_rfl) (by kernel_rfl) (by kernel_rfl)) ?_
  intro W base args ds gs before hval0 hW hcnd hsz0 _
  have hval : ∀ (j : Nat) t v, Try.f7.params[j]? = some t → args[j]? = some v → Value.okWide Try.prog W .any base t v := hval0
  have hsz : (DataW.weightsEach Try.prog (Try.f7.params.toList ++ Rows.octetReadsSpec.plain.varTypes Try.prog) (ds ++ gs)).all (· ≤ reachBytes) = true := hsz0
  have hW' : DataW.Whole enc Try.prog Try.f7.params.toList Rows.octetReadsSpec.vars false W args.toList ds gs before := hW
  obtain ⟨p, q, hA0, hV, rfl, hfz, hnd⟩ := hW
  have hA : DataW.TrodAll enc Try.prog W 0 (fun _ => true) true Try.f7.params.toList args.toList ds p := hA0
  rw [Try.params7] at hA hval hsz
  obtain ⟨v0, vs0, d0, ds0, p0, q0, hargs, rfl, rfl, h0, r0⟩ := trodAll_cons hA
  obtain ⟨v1, vs1, d1, ds1, p1, q1, rfl, rfl, rfl, h1, r1⟩ := trodAll_cons r0
  obtain ⟨rfl, rfl, rfl⟩ := trodAll_nil r1
  obtain rfl : args = #[v0, v1] := by cases args; simp_all
  obtain ⟨rfl, rfl⟩ := trodVars_none hV
  have light : ∀ (j : Nat) (t : TypeId) (d : DataW H), (Try.f7.params.toList ++ Rows.octetReadsSpec.plain.varTypes Try.prog)[j]? = some t → ([d0, d1] : List (DataW H))[j]? = some d → Light Try.prog t d := fun j t d hj hd m hm => by
    have h := List.all_eq_true.1 hsz m (DataW.weights_mem_each (j := j) (by rw [Try.params7] at hj; exact hj) (by simpa using hd) m hm)
    simpa using h
  obtain ⟨x0, c0, hh0, hv0⟩ := open_arg (n := 8) (ty := .str) (by kernel_rfl) (hval 0 _ v0 rfl rfl) h0 (light 0 _ _ rfl rfl)
  obtain ⟨hc0, wf0⟩ := hh0.flat rfl
  rw [hc0] at hv0
  obtain rfl : v0 = .string x0 := (List.cons.inj hv0).1.symm
  clear hc0 hh0 h0
  obtain ⟨x1, c1, hh1, hv1⟩ := open_arg (n := 8) (ty := (.slice 16 (.pair (.int .i64) (.pair (.int .i64) .unit)))) (by kernel_rfl) (hval 1 _ v1 rfl rfl) h1 (light 1 _ _ rfl rfl)
  clear hA0 hval0 hval light hsz hsz0
  obtain ⟨A, c, hc0, hl, hcap, hmx, hwf, hr⟩ := hh1.rows rfl
  rw [hc0] at hv1
  obtain rfl : v1 = .slice A x1.length c := (List.cons.inj hv1).1.symm
  have hlen : x1.length = (x1.map fun r : Int × Int × Unit => ((r.1, r.2.1) : Ak)).length := by simp
  have hrow := hr (akAt (x1.map fun r : Int × Int × Unit => ((r.1, r.2.1) : Ak))) (fun i j x hx hj => by
    have hget : (x1.map fun r : Int × Int × Unit => ((r.1, r.2.1) : Ak)).getD i (0, 0) = (x.1, x.2.1) := by simp [List.getD, hx]
    unfold akAt
    rw [hget]
    have hj' : j < 2 := hj
    have h4 : j = 0 ∨ j = 1 := by omega
    rcases h4 with rfl | rfl <;> rfl)
  have hmax : x1.length ≤ 140737488351232 := by
    have : c * 16 ≤ 140737488351232 := hcap
    omega
  clear hr hc0 hh1 hv1 h1 hwf
  generalize (x1.map fun r : Int × Int × Unit => ((r.1, r.2.1) : Ak)) = xs at hlen hrow
  rw [hlen] at hrow hmax hW' ⊢
  refine (walk x0 xs A c W wf0 hmax hrow).mono fun e W' ⟨he, hp⟩ => ?_
  subst he
  exact ⟨_, rfl, post_true hW' rfl rfl rfl rfl laidOut (by kernel_rfl) rfl (by kernel_rfl) (Plus.below hp)⟩
theorem proved : Rows.OctetReadsSaid :=
  OpenClaim.holds_of_wide 7 Try.f7 rfl rfl rfl rfl rfl rfl rfl ⟨rfl, rfl, rfl, rfl, rfl⟩ rfl rfl rfl rfl rfl (by kernel_rfl) Try.func7 (by kernel_rfl)
    (of_decide_eq_true (by kernel_rfl)) (by unfold Func.isWrapper; first | (rw [if_pos (by decide +kernel)]; kernel_rfl) | (rw [if_neg (by decide +kernel)]; exact ⟨rfl, rfl⟩))
    (fun os started H enc _ => lifted os started H enc)
end Go.Proofs.Ytgcmoalilghfbaa.lawOctetReads
