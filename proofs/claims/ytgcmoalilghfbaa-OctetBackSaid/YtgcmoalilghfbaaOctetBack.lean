/- OctetBack: whatever was laid is read again, one behind the other, and nothing is left. For every input, no condition. -/
import Derived.Test.YtgcmoalilghfbaaRows
import Derived.Test.YtgcmoalilghfbaaOnly
import Derived.Test.YtgcmoalilghfbaaLift
import Derived.ProofKit
set_option linter.unusedSimpArgs false
set_option linter.unusedVariables false
namespace Go.Proofs.Ytgcmoalilghfbaa.lawOctetBack
open Go.ChangeShapes Go.WideShapes Go.ChangeAt Go.RowKit
/-- a number and a text -/
abbrev It := Int × ByteArray
abbrev itAt (xs : List It) : Nat → Nat → Value := fun i j => if j = 0 then .int .i64 (xs.getD i (0, ByteArray.empty)).1 else .string (xs.getD i (0, ByteArray.empty)).2
def encI (p : It) : List UInt8 := enc p.1 ++ encT p.2
def encIs (l : List It) : List UInt8 := l.flatMap encI
theorem encIs_append (l m : List It) : encIs (l ++ m) = encIs l ++ encIs m := by simp [encIs]
theorem encIs_drop (xs : List It) (k : Nat) (h : k < xs.length) : encIs (xs.drop k) = enc (xs.getD k (0, ByteArray.empty)).1 ++ (encT (xs.getD k (0, ByteArray.empty)).2 ++ encIs (xs.drop (k + 1))) := by
  have : xs.getD k (0, ByteArray.empty) = xs[k] := by simp [List.getD, h]
  rw [List.drop_eq_getElem_cons h]
  rw [this]
  simp only [encIs, encI, List.flatMap_cons, List.append_assoc]
theorem upd_cell {w w' : World} {N b o : Nat} (h : Upd w w' N) (hb : b < w.heap.size) (hne : b ≠ N) : w'.cell? ⟨b, o, none⟩ = w.cell? ⟨b, o, none⟩ :=
  World.cell?_of_block (w := w) (a := ⟨b, o, none⟩) (h.block b hb hne)
set_option maxHeartbeats 1000000 in
theorem walk (xs : List It) (A : Option Addr) (c : Nat) (w : World) (hn : xs.length ≤ 140737488351232) (hr : RowsAt w A 2 xs.length (itAt xs)) (hb : ∀ k, In64 (xs.getD k (0, ByteArray.empty)).1) (hs : ∀ k, (xs.getD k (0, ByteArray.empty)).2.size ≤ 140737488351232) :
    Calls Try.prog 4 #[.slice A xs.length c] w fun e w' => e = .returned (.bool true) ∧ w.Plus w' := by
  by_cases hl : 60 < xs.length
  · have hl2 : (60 : Int) < xs.length := by omega
    go_enter Try.func4, Try.ntmps4
    go_wp2_with (first | (go_at_call 10; (with_reducible refine (awake_any _).mono ?_); rintro e w' ⟨rfl, e3, rfl⟩))
    go_ret
    exact ⟨rfl, by (repeat (first | exact Plus.refl _ | apply Plus.plus | apply Plus.alloc | apply Plus.drew))⟩
  have hl2 : ¬ (60 : Int) < xs.length := by omega
  replace hb := Lib.hid hb
  replace hs := Lib.hid hs
  go_enter Try.func4, Try.ntmps4
  go_wp2_with fail
  go_loopw [3, 4] (fun t i wr => ∃ k : Nat, k ≤ xs.length ∧ i = .int .i64 k ∧ t = .string (txt (encIs (xs.take k))) ∧ (encIs (xs.take k)).length ≤ 1070000 ∧ (∀ j, j < k → (xs.getD j (0, ByteArray.empty)).2.size ≤ 65536) ∧ w.Plus wr) (fun _ i _ => xs.length - (intOf i).toNat)
  case atStart => exact ⟨0, Nat.zero_le _, rfl, rfl, by simp [encIs], fun j hj => absurd hj (by omega), by (repeat (first | exact Plus.refl _ | apply Plus.plus | apply Plus.alloc | apply Plus.drew))⟩
  case round =>
    obtain ⟨k, hk, rfl, rfl, hz, hsm, hp⟩ := hrel
    by_cases hlt : k < xs.length
    · obtain ⟨b1, o1, rfl, hb1, hc1⟩ := (hr.plus hp) (by omega)
      haveI : InW b1 wr := ⟨hb1⟩
      have c1 := hc1 k 0 hlt (by omega)
      have c2 := hc1 k 1 hlt (by omega)
      clear hc1
      unfold itAt at c1 c2
      simp only [if_true, Nat.one_ne_zero, if_false, Nat.add_zero, ← Nat.add_assoc] at c1 c2
      have hnk := hb.out k
      have hsk := hs.out k
      have htk := take_getD (0, ByteArray.empty) xs k hlt
      generalize hy : xs.getD k (0, ByteArray.empty) = y at c1 c2 hnk hsk htk
      obtain ⟨n, s⟩ := y
      simp only at c1 c2 hnk hsk
      have hnx : encIs (xs.take (k + 1)) = encIs (xs.take k) ++ (enc n ++ encT s) := by rw [htk, encIs_append]; simp [encIs, encI]
      have hTz : (txt (encIs (xs.take k))).size = (encIs (xs.take k)).length := txt_size _
      replace hsm := Lib.hid hsm
      replace hy := Lib.hid hy
      clear htk
      by_cases hbig : 65536 < s.size
      · have hbig2 : (65536 : Int) < s.size := by omega
        replace hnx := Lib.hid hnx
        go_wp2_with (first | (go_at_call 10; (with_reducible refine (awake_any _).mono ?_); rintro e w' ⟨rfl, e3, rfl⟩))
        go_ret
        exact ⟨rfl, Plus.trans hp (by (repeat (first | exact Plus.refl _ | apply Plus.plus | apply Plus.alloc | apply Plus.drew)))⟩
      have hbig2 : ¬ (65536 : Int) < s.size := by omega
      by_cases hmil : 1000000 < (txt (encIs (xs.take k))).size
      · have hmil2 : (1000000 : Int) < (txt (encIs (xs.take k))).size := by omega
        replace hnx := Lib.hid hnx
        generalize txt (encIs (xs.take k)) = T at *
        replace hTz := Lib.hid hTz
        go_wp2_with (first | (go_at_call 10; (with_reducible refine (awake_any _).mono ?_); rintro e w' ⟨rfl, e3, rfl⟩))
        go_ret
        exact ⟨rfl, Plus.trans hp (by (repeat (first | exact Plus.refl _ | apply Plus.plus | apply Plus.alloc | apply Plus.drew)))⟩
      have hmil2 : ¬ (1000000 : Int) < (txt (encIs (xs.take k))).size := by omega
      have l1 := enc_le n
      have l2 := encT_length s
      have hzn : (encIs (xs.take (k + 1))).length ≤ 1070000 := by
        rw [hnx, List.length_append, List.length_append]
        omega
      have hadd1 : (txt (enc n)).size + (txt (encT s)).size ≤ 70000 := by rw [txt_size, txt_size]; omega
      have hkey1 : txt (enc n) ++ txt (encT s) = txt (enc n ++ encT s) := txt_append _ _
      have hadd2 : (txt (encIs (xs.take k))).size + (txt (enc n ++ encT s)).size ≤ 1070000 := by rw [txt_size (enc n ++ encT s), List.length_append]; omega
      have hkey2 : txt (encIs (xs.take k)) ++ txt (enc n ++ encT s) = txt (encIs (xs.take (k + 1))) := by rw [txt_append, hnx]
      have hIa := fun w b' c [InW b' w] h => int_at w b' c n h hnk
      have hTs := fun w b' c [InW b' w] h => text_at w b' c s h (by omega)
      have hsm2 : ∀ j, j < k + 1 → (xs.getD j (0, ByteArray.empty)).2.size ≤ 65536 := fun j hj => by
        rcases Nat.lt_or_ge j k with h | h
        · exact hsm.out j h
        · obtain rfl : j = k := by omega
          rw [hy.out]; show s.size ≤ 65536; omega
      generalize hT' : txt (encIs (xs.take (k + 1))) = T' at hkey2
      generalize txt (encIs (xs.take k)) = T at *
      generalize txt (enc n ++ encT s) = Z at *
      generalize txt (enc n) = X at *
      generalize txt (encT s) = Y at *
      clear hnx l1 l2 hnk
      replace hTz := Lib.hid hTz
      replace hzn := Lib.hid hzn
      replace hT' := Lib.hid hT'
      replace hsm2 := Lib.hid hsm2
      replace hIa := Lib.hid hIa
      replace hTs := Lib.hid hTs
      have hq1 : ∀ w, (Op.stringOp .add X Y).run Try.prog w = .ok (.string Z) w := fun w => by rw [run_string_add_sum w X Y (by omega), hkey1]
      have hq2 : ∀ w, (Op.stringOp .add T Z).run Try.prog w = .ok (.string T') w := fun w => by rw [run_string_add_sum w T Z (by omega), hkey2]
      have hq3 : ¬ (9223372036854775807 < X.size + Y.size) := by omega
      have hq4 : ¬ (9223372036854775807 < T.size + Z.size) := by omega
      go_upto_region 9 with fail
      go_region_held3 (fun w' => w'.cell? ⟨b1, o1 + k * 2, none⟩ = some (.int .i64 n) ∧ w'.cell? ⟨b1, o1 + k * 2 + 1, none⟩ = some (.string s)) (simp [go_sem, *]) (first | (go_at_call 12; (with_reducible refine (hIa.out _ _ _ (by simp [go_sem])).mono ?_); rintro e w' ⟨rfl, e1, rfl⟩) | (go_at_call 14; (with_reducible refine (hTs.out _ _ _ (by simp [go_sem])).mono ?_); rintro e w' ⟨rfl, e1, rfl⟩))
      all_goals (go_wp2_with fail; go_roundw)
      all_goals first | (simp [intOf]; omega; done) | exact ⟨k + 1, hlt, by simp, by rw [hT'.out], hzn.out, hsm2.out, Plus.trans hp (by (repeat (first | exact Plus.refl _ | apply Plus.plus | apply Plus.alloc | apply Plus.drew)))⟩
    · have hke : k = xs.length := by omega
      subst hke
      rw [List.take_length] at hz ⊢
      have hlen : ∀ k, (encIs (xs.drop k)).length ≤ 1070000 := fun k => by
        have h1 := encIs_append (xs.take k) (xs.drop k)
        rw [List.take_append_drop] at h1
        rw [h1, List.length_append] at hz
        omega
      have hO := fun w => of_new w (txt (encIs xs)) (by rw [txt_size]; omega)
      generalize hX : txt (encIs xs) = X at *
      replace hO := Lib.hid hO
      replace hX := Lib.hid hX
      replace hsm := Lib.hid hsm
      replace hlen := Lib.hid hlen
      clear hz
      go_wp2_with (first | (go_at_call 15; (with_reducible refine (hO.out _).mono ?_); rintro e w' ⟨N, rfl, hN1, hrd, e1, rfl⟩))
      obtain ⟨W1, hW1⟩ : ∃ W1, W1 = wr.plus e1 := ⟨_, rfl⟩
      have hpW : w.Plus W1 := by rw [hW1]; exact Plus.plus hp _
      rw [← hW1] at hrd ⊢
      have hN : w.heap.size ≤ N := Nat.le_trans (Plus.below hp).size hN1
      clear hW1 hN1
      go_loopw [6] (fun i wr => ∃ k : Nat, k ≤ xs.length ∧ i = .int .i64 k ∧ RdAt wr N (txt (encIs (xs.drop k))) false ∧ w.Plus wr) (fun i _ => xs.length - (intOf i).toNat)
      case atStart => exact ⟨0, Nat.zero_le _, rfl, by rw [List.drop_zero, hX.out]; exact hrd, hpW⟩
      case round =>
        clear hrd hpW
        obtain ⟨k, hk, rfl, hrd, hp2⟩ := hrel
        by_cases hlt : k < xs.length
        · obtain ⟨b1, o1, rfl, hb0, _⟩ := hr (by omega)
          obtain ⟨b2, o2, he, hb1, hc1⟩ := (hr.plus hp2) (by omega)
          cases he
          haveI : InW b1 wr := ⟨hb1⟩
          have c1 := hc1 k 0 hlt (by omega)
          have c2 := hc1 k 1 hlt (by omega)
          clear hc1
          unfold itAt at c1 c2
          simp only [if_true, Nat.one_ne_zero, if_false, Nat.add_zero, ← Nat.add_assoc] at c1 c2
          have hnk := hb.out k
          have hsk := hsm.out k hlt
          have hdk := encIs_drop xs k hlt
          have hlk := hlen.out k
          rw [hdk] at hrd hlk
          generalize xs.getD k (0, ByteArray.empty) = y at c1 c2 hnk hsk hrd hlk
          obtain ⟨n, s⟩ := y
          simp only at c1 c2 hnk hsk hrd hlk
          have hI := fun w' h => rdInt w' N (txt (enc n ++ (encT s ++ encIs (xs.drop (k + 1))))) false h (by rw [txt_size]; omega)
          rw [rInt_enc n hnk] at hI
          have hT := fun w' h => rdText w' N (txt (encT s ++ encIs (xs.drop (k + 1)))) false h (by rw [txt_size]; rw [List.length_append] at hlk; omega)
          rw [rText_enc s hsk] at hT
          have hne : b1 ≠ N := by omega
          simp only at hI hT
          generalize txt (enc n ++ (encT s ++ encIs (xs.drop (k + 1)))) = U1 at *
          generalize txt (encT s ++ encIs (xs.drop (k + 1))) = U2 at *
          generalize hU3 : txt (encIs (xs.drop (k + 1))) = U3 at *
          replace hI := Lib.hid hI
          replace hT := Lib.hid hT
          replace hU3 := Lib.hid hU3
          clear hdk hlk hnk
          go_upto_region 16 with fail
          go_cut [74] (fun t wx => t = .bool false ∧ RdAt wx N U3 false ∧ w.Plus wx)
          case first =>
            go_region_held3 (fun w' => w'.cell? ⟨b1, o1 + k * 2, none⟩ = some (.int .i64 n) ∧ w'.cell? ⟨b1, o1 + k * 2 + 1, none⟩ = some (.string s)) (simp [go_sem, *]) (first | (go_at_call 16; (with_reducible refine (hI.out _ (hrd.plus' (by (repeat (first | exact Plus.refl _ | apply Plus.plus | apply Plus.alloc | apply Plus.drew))))).mono ?_); rintro e w1 ⟨rfl, hrd1, hu1⟩; have d1 := (upd_cell hu1 hb1 hne).trans c1; have d2 := (upd_cell hu1 hb1 hne).trans c2; haveI : InW b1 w1 := ⟨Nat.lt_of_lt_of_le hb1 hu1.size⟩) | (go_at_call 17; (with_reducible refine (hT.out _ hrd1).mono ?_); rintro e w2 ⟨rfl, hrd2, hu2⟩; have f1 := (upd_cell hu2 (Nat.lt_of_lt_of_le hb1 hu1.size) hne).trans d1; have f2 := (upd_cell hu2 (Nat.lt_of_lt_of_le hb1 hu1.size) hne).trans d2))
            all_goals (go_wp2_with fail; go_meet; exact ⟨rfl, hrd2, hu2.toPlus (hu1.toPlus (Plus.trans hp2 (by (repeat (first | exact Plus.refl _ | apply Plus.plus | apply Plus.alloc | apply Plus.drew)))) hN) hN⟩)
          obtain ⟨rfl, hrd3, hp3⟩ := hcut
          go_wp2_with fail
          go_roundw
          case rel => exact ⟨k + 1, hlt, by simp, by rw [hU3.out]; exact hrd3, hp3⟩
          case measure => simp [intOf]; omega
        · have hke : k = xs.length := by omega
          subst hke
          rw [List.drop_length] at hrd
          have he : txt (encIs []) = ⟨#[]⟩ := rfl
          rw [he] at hrd
          have d2 := fun w h => rdDone w N ⟨#[]⟩ false h
          have l2 := fun w h => rdLeft w N ⟨#[]⟩ false h (by decide)
          replace d2 := Lib.hid d2
          replace l2 := Lib.hid l2
          go_wp2_with (first
            | (go_at_call 18; (with_reducible refine (l2.out _ (hrd.plus' (by (repeat (first | exact Plus.refl _ | apply Plus.plus | apply Plus.alloc | apply Plus.drew))))).mono ?_); rintro e w' ⟨rfl, e5, rfl⟩)
            | (go_at_call 19; (with_reducible refine (d2.out _ (hrd.plus' (by (repeat (first | exact Plus.refl _ | apply Plus.plus | apply Plus.alloc | apply Plus.drew))))).mono ?_); rintro e w' ⟨rfl, e6, rfl⟩)
            | (go_at_call 10; (with_reducible refine (awake_any _).mono ?_); rintro e w' ⟨rfl, e3, rfl⟩))
          go_ret
          exact ⟨rfl, Plus.trans hp2 (by (repeat (first | exact Plus.refl _ | apply Plus.plus | apply Plus.alloc | apply Plus.drew)))⟩
theorem laidOut : laidOutB Try.prog = true := by kernel_rfl
theorem own : ownKnob Try.prog.godebug = none := by kernel_rfl
set_option maxRecDepth 100000 in
set_option maxHeartbeats 1000000 in
theorem lifted (os : Os) (started : os.Started) (H : Type) (enc : TypeId × Value → H) :
    ReturnsInHanded {} Try.checked os 4 .any (Rows.octetBackSpec.pre6 enc Try.prog Try.f4 Rows.octetBackRow.domain false) (Rows.octetBackSpec.post enc Try.prog Try.f4 false true false false) := by
  refine returnsInHanded_of_change_sized (C := Try.checked) own started (by kernel_rfl) Try.func4
    (ChangeSpec.witness6 (enc := enc) (C := Try.checked) false ⟨#[], #[.slice none 0 0], []⟩ 8 (by kernel_rfl) (by kernel_rfl) (by kernel_rfl) (by kernel_rfl)) ?_
  intro W base args ds gs before hval0 hW hcnd hsz0 _
  have hval : ∀ (j : Nat) t v, Try.f4.params[j]? = some t → args[j]? = some v → Value.okWide Try.prog W .any base t v := hval0
  have hsz : (DataW.weightsEach Try.prog (Try.f4.params.toList ++ Rows.octetBackSpec.plain.varTypes Try.prog) (ds ++ gs)).all (· ≤ reachBytes) = true := hsz0
  have hW' : DataW.Whole enc Try.prog Try.f4.params.toList Rows.octetBackSpec.vars false W args.toList ds gs before := hW
  obtain ⟨p, q, hA0, hV, rfl, hfz, hnd⟩ := hW
  have hA : DataW.TrodAll enc Try.prog W 0 (fun _ => true) true Try.f4.params.toList args.toList ds p := hA0
  rw [Try.params4] at hA hval hsz
  obtain ⟨v0, vs0, d0, ds0, p0, q0, hargs, rfl, rfl, h0, r0⟩ := trodAll_cons hA
  obtain ⟨rfl, rfl, rfl⟩ := trodAll_nil r0
  obtain rfl : args = #[v0] := by cases args; simp_all
  obtain ⟨rfl, rfl⟩ := trodVars_none hV
  have light : ∀ (j : Nat) (t : TypeId) (d : DataW H), (Try.f4.params.toList ++ Rows.octetBackSpec.plain.varTypes Try.prog)[j]? = some t → ([d0] : List (DataW H))[j]? = some d → Light Try.prog t d := fun j t d hj hd m hm => by
    have h := List.all_eq_true.1 hsz m (DataW.weights_mem_each (j := j) (by rw [Try.params4] at hj; exact hj) (by simpa using hd) m hm)
    simpa using h
  obtain ⟨x0, c0, hh0, hv0⟩ := open_arg (n := 8) (ty := (.slice 24 (.pair (.int .i64) (.pair .str .unit)))) (by kernel_rfl) (hval 0 _ v0 rfl rfl) h0 (light 0 _ _ rfl rfl)
  clear hA0 hval0 hval light hsz hsz0
  obtain ⟨A, c, hc0, hl, hcap, hmx, hwf, hr⟩ := hh0.rows rfl
  rw [hc0] at hv0
  obtain rfl : v0 = .slice A x0.length c := (List.cons.inj hv0).1.symm
  have hlen : x0.length = (x0.map fun r : Int × ByteArray × Unit => ((r.1, r.2.1) : It)).length := by simp
  have hrow := hr (itAt (x0.map fun r : Int × ByteArray × Unit => ((r.1, r.2.1) : It))) (fun i j x hx hj => by
    have hget : (x0.map fun r : Int × ByteArray × Unit => ((r.1, r.2.1) : It)).getD i (0, ByteArray.empty) = (x.1, x.2.1) := by simp [List.getD, hx]
    unfold itAt
    rw [hget]
    have hj' : j < 2 := hj
    have h4 : j = 0 ∨ j = 1 := by omega
    rcases h4 with rfl | rfl <;> rfl)
  have hmax : x0.length ≤ 140737488351232 := by
    have : c * 24 ≤ 140737488351232 := hcap
    omega
  have hin : ∀ k, In64 ((x0.map fun r : Int × ByteArray × Unit => ((r.1, r.2.1) : It)).getD k (0, ByteArray.empty)).1 ∧ ((x0.map fun r : Int × ByteArray × Unit => ((r.1, r.2.1) : It)).getD k (0, ByteArray.empty)).2.size ≤ 140737488351232 := fun k => by
    rw [List.getD_eq_getElem?_getD, List.getElem?_map]
    cases hk : x0[k]? with
    | none => exact ⟨by simp [In64], by simp⟩
    | some y =>
      have := hwf y (List.mem_of_getElem? hk)
      exact ⟨bounds_i64 this.1, this.2.1⟩
  clear hr hc0 hh0 hv0 h0 hwf
  generalize (x0.map fun r : Int × ByteArray × Unit => ((r.1, r.2.1) : It)) = xs at hlen hrow hin
  rw [hlen] at hrow hmax hW' ⊢
  refine (walk xs A c W hmax hrow (fun k => (hin k).1) (fun k => (hin k).2)).mono fun e W' ⟨he, hp⟩ => ?_
  subst he
  exact ⟨_, rfl, post_true hW' rfl rfl rfl rfl laidOut (by kernel_rfl) rfl (by kernel_rfl) (Plus.below hp)⟩
theorem proved : Rows.OctetBackSaid :=
  OpenClaim.holds_of_wide 4 Try.f4 rfl rfl rfl rfl rfl rfl rfl ⟨rfl, rfl, rfl, rfl, rfl⟩ rfl rfl rfl rfl rfl (by kernel_rfl) Try.func4 (by kernel_rfl)
    (of_decide_eq_true (by kernel_rfl)) (by unfold Func.isWrapper; first | (rw [if_pos (by decide +kernel)]; kernel_rfl) | (rw [if_neg (by decide +kernel)]; exact ⟨rfl, rfl⟩))
    (fun os started H enc _ => lifted os started H enc)
end Go.Proofs.Ytgcmoalilghfbaa.lawOctetBack
