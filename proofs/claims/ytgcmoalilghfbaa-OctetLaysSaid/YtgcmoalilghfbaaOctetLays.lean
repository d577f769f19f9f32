/- OctetLays: any numbers and any texts have just the document's bytes, one behind the other. For every input, no condition. -/
import Derived.Test.YtgcmoalilghfbaaRows
import Derived.Test.YtgcmoalilghfbaaOctAwake
import Derived.Test.YtgcmoalilghfbaaLift
import Derived.ProofKit
set_option linter.unusedSimpArgs false
set_option linter.unusedVariables false
namespace Go.Proofs.Ytgcmoalilghfbaa.lawOctetLays
open Go.ChangeShapes Go.WideShapes Go.ChangeAt Go.RowKit
def allBytes (l : List ByteArray) : List UInt8 := l.flatMap bytes
theorem allBytes_take (xs : List ByteArray) (k : Nat) (h : k < xs.length) : allBytes (xs.take (k + 1)) = allBytes (xs.take k) ++ bytes (xs.getD k ByteArray.empty) := by
  rw [take_getD ByteArray.empty xs k h]; simp [allBytes]
/-- the bytes of the first k strings -/
def upto (xs : List ByteArray) (k : Nat) : Nat := (allBytes (xs.take k)).length
theorem upto_next (xs : List ByteArray) (k : Nat) (h : k < xs.length) : upto xs (k + 1) = upto xs k + (xs.getD k ByteArray.empty).size := by
  unfold upto
  rw [allBytes_take xs k h, List.length_append, bytes_length]
theorem upto_mono (xs : List ByteArray) (k : Nat) (h : k ≤ xs.length) : upto xs k ≤ upto xs xs.length := by
  unfold upto
  rw [List.take_length]
  conv => rhs; rw [← List.take_append_drop k xs]
  unfold allBytes
  rw [List.flatMap_append, List.length_append]
  exact Nat.le_add_right _ _
theorem encTs_upto (xs : List ByteArray) : (encTs xs).length ≤ (allBytes xs).length + 9 * xs.length := by
  induction xs with
  | nil => simp [encTs, allBytes]
  | cons x r ih =>
    have := enc_le (x.size : Int)
    simp only [encTs, allBytes, encT, List.flatMap_cons, List.length_append, List.length_cons] at *
    omega
def isLong (xs : List ByteArray) : Bool := decide (60 < xs.length) || decide (100000 < upto xs xs.length)
theorem long_any (xs : List ByteArray) (A : Option Addr) (c : Nat) (w : World) (hn : xs.length ≤ 140737488351232) (hr : RowsAt w A 1 xs.length (strAt xs)) (hs : ∀ k, (xs.getD k ByteArray.empty).size ≤ 140737488351232) :
    Calls Try.prog 9 #[.slice A xs.length c] w fun e w' => e = .returned (.bool (isLong xs)) ∧ w.Plus w' := by
  by_cases hl : 60 < xs.length
  · have hl2 : (60 : Int) < xs.length := by omega
    have hL : isLong xs = true := by simp [isLong, hl]
    rw [hL]
    go_enter Try.func9, Try.ntmps9
    go_wp2_with fail
    go_ret
    exact ⟨rfl, by (repeat (first | exact Plus.refl _ | apply Plus.plus | apply Plus.alloc | apply Plus.drew))⟩
  · have hl2 : ¬ (60 : Int) < xs.length := by omega
    go_enter Try.func9, Try.ntmps9
    go_wp2
    go_loopw [3, 4] (fun n i wr => ∃ k : Nat, k ≤ xs.length ∧ i = .int .i64 k ∧ n = .int .i64 (upto xs k) ∧ upto xs k ≤ 100000 ∧ w.Plus wr) (fun _ i _ => xs.length - (intOf i).toNat)
    case atStart => exact ⟨0, Nat.zero_le _, rfl, rfl, Nat.zero_le _, by (repeat (first | exact Plus.refl _ | apply Plus.plus | apply Plus.alloc | apply Plus.drew))⟩
    case round =>
      obtain ⟨k, hk, rfl, rfl, hu, e, rfl⟩ := hrel
      by_cases hlt : k < xs.length
      · obtain ⟨b1, o1, rfl, hb1, hc1⟩ := hr (by omega)
        haveI : InW b1 w := ⟨hb1⟩
        have c1 := hc1 k 0 hlt (by omega)
        clear hc1 hr
        unfold strAt at c1
        simp only [Nat.add_zero, Nat.mul_one] at c1
        have hsk := hs k
        have hnx := upto_next xs k hlt
        have hmx := upto_mono xs (k + 1) hlt
        generalize xs.getD k ByteArray.empty = y at c1 hsk hnx
        generalize upto xs k = n at hu hnx
        by_cases hbig : 100000 < n + y.size
        · have hbig2 : (100000 : Int) < n + y.size := by omega
          have hL : isLong xs = true := by simp [isLong]; omega
          replace hnx := Lib.hid hnx
          replace hmx := Lib.hid hmx
          replace hL := Lib.hid hL
          go_wp2
          go_ret
          exact ⟨by simp [hL.out, Array.getD], by (repeat (first | exact Plus.refl _ | apply Plus.plus | apply Plus.alloc | apply Plus.drew))⟩
        · have hbig2 : ¬ (100000 : Int) < n + y.size := by omega
          replace hnx := Lib.hid hnx
          replace hmx := Lib.hid hmx
          go_wp2
          go_roundw
          case rel => exact ⟨k + 1, hlt, by simp, by rw [hnx.out]; simp, by rw [hnx.out]; omega, by (repeat (first | exact Plus.refl _ | apply Plus.plus | apply Plus.alloc | apply Plus.drew))⟩
          case measure => simp [intOf]; omega
      · have hke : k = xs.length := by omega
        subst hke
        have hL : isLong xs = false := by simp [isLong]; omega
        replace hL := Lib.hid hL
        generalize upto xs xs.length = n at hu
        go_wp2
        go_ret
        exact ⟨by simp [hL.out, Array.getD], by (repeat (first | exact Plus.refl _ | apply Plus.plus | apply Plus.alloc | apply Plus.drew))⟩
theorem not_long {xs : List ByteArray} (h : ¬ isLong xs = true) : xs.length ≤ 60 ∧ upto xs xs.length ≤ 100000 := by
  simp [isLong] at h
  omega
theorem walk (ls : List Int) (B : Option Addr) (d : Nat) (xs : List ByteArray) (A : Option Addr) (c : Nat) (w : World) (hmax : ls.length ≤ 140737488351232) (hb : ∀ n ∈ ls, In64 n) (hrl : RowsAt w B 1 ls.length (intAt ls))
    (hn : xs.length ≤ 140737488351232) (hr : RowsAt w A 1 xs.length (strAt xs)) (hs : ∀ k, (xs.getD k ByteArray.empty).size ≤ 140737488351232) :
    Calls Try.prog 3 #[.slice B ls.length d, .slice A xs.length c] w fun e w' => e = .returned (.bool true) ∧ w.Plus w' := by
  have hL := fun w hr => long_any xs A c w hn hr hs
  by_cases hll : 60 < ls.length
  · have hll2 : (60 : Int) < ls.length := by omega
    go_enter Try.func3, Try.ntmps3
    go_wp2_with (first | (go_at_call 10; (with_reducible refine (awake_any _).mono ?_); rintro e w' ⟨rfl, e3, rfl⟩))
    go_ret
    exact ⟨rfl, by (repeat (first | exact Plus.refl _ | apply Plus.plus | apply Plus.alloc | apply Plus.drew))⟩
  have hll2 : ¬ (60 : Int) < ls.length := by omega
  by_cases hl : isLong xs = true
  · rw [hl] at hL
    go_enter Try.func3, Try.ntmps3
    go_wp2_with (first | (go_at_call 9; (with_reducible refine (hL _ (hr.plus (by (repeat (first | exact Plus.refl _ | apply Plus.plus | apply Plus.alloc | apply Plus.drew))))).mono ?_); rintro e w' ⟨rfl, ey, rfl⟩) | (go_at_call 10; (with_reducible refine (awake_any _).mono ?_); rintro e w' ⟨rfl, e3, rfl⟩))
    go_ret
    exact ⟨rfl, by (repeat (first | exact Plus.refl _ | apply Plus.plus | apply Plus.alloc | apply Plus.drew))⟩
  · have hbd := not_long hl
    rw [show isLong xs = false by simpa using hl] at hL
    have hup : ∀ k, k ≤ xs.length → upto xs k ≤ 100000 := fun k hk => by have := upto_mono xs k hk; omega
    have hsz : ∀ k, k ≤ xs.length → (encTs (xs.take k)).length ≤ 100540 := fun k hk => by
      have h1 := encTs_upto (xs.take k)
      have h2 := hup k hk
      unfold upto at h2
      rw [List.length_take] at h1
      omega
    have hss : ∀ k, k < xs.length → (xs.getD k ByteArray.empty).size ≤ 100000 := fun k hk => by
      have h1 := hup (k + 1) hk
      rw [upto_next xs k hk] at h1
      omega
    have hI := fun w' (hp : w.Plus w') => int_any ls B d w' (by omega) hb (hrl.plus hp)
    have hR := fun w' (hp : w.Plus w') => refInts_any ls B d w' (by omega) hb (hrl.plus hp)
    have hT := fun w' (hp : w.Plus w') => text_any xs A c w' (by omega) (fun s hs => by
      obtain ⟨k, hk, rfl⟩ := List.getElem_of_mem hs
      have := hss k hk
      rw [List.getD_eq_getElem?_getD, List.getElem?_eq_getElem hk] at this
      have h2 : xs[k].size ≤ 100000 := this
      omega) (hr.plus hp)
    clear hl hrl hb
    replace hbd := Lib.hid hbd
    replace hup := Lib.hid hup
    replace hsz := Lib.hid hsz
    replace hss := Lib.hid hss
    generalize txt (encs ls) = X at *
    generalize hlen : ls.length = len at *
    replace hlen := Lib.hid hlen
    replace hI := Lib.hid hI
    replace hR := Lib.hid hR
    replace hT := Lib.hid hT
    go_enter Try.func3, Try.ntmps3
    go_wp2_with (first | (go_at_call 9; (with_reducible refine (hL _ (hr.plus (by (repeat (first | exact Plus.refl _ | apply Plus.plus | apply Plus.alloc | apply Plus.drew))))).mono ?_); rintro e w' ⟨rfl, ey, rfl⟩))
    clear hL
    go_loopw [5, 6] (fun t i wr => ∃ k : Nat, k ≤ xs.length ∧ i = .int .i64 k ∧ t = .string (txt (encTs (xs.take k))) ∧ w.Plus wr) (fun _ i _ => xs.length - (intOf i).toNat)
    case atStart => exact ⟨0, Nat.zero_le _, rfl, rfl, by (repeat (first | exact Plus.refl _ | apply Plus.plus | apply Plus.alloc | apply Plus.drew))⟩
    case round =>
      obtain ⟨k, hk, rfl, rfl, e, rfl⟩ := hrel
      by_cases hlt : k < xs.length
      · obtain ⟨b1, o1, rfl, hb1, hc1⟩ := hr (by omega)
        haveI : InW b1 w := ⟨hb1⟩
        have c1 := hc1 k 0 hlt (by omega)
        clear hc1 hr
        unfold strAt at c1
        simp only [Nat.add_zero, Nat.mul_one] at c1
        have htk := take_getD ByteArray.empty xs k hlt
        have hup2 := hsz.out k hk
        have hyz := hss.out k hlt
        generalize xs.getD k ByteArray.empty = y at c1 hyz htk
        have hnx : encTs (xs.take (k + 1)) = encTs (xs.take k) ++ encT y := by rw [htk, encTs_append]; simp [encTs]
        have hyl := encT_length y
        have hRT := fun w => refText_any y w (by omega)
        have hzz : (txt (encTs (xs.take k))).size + (txt (encT y)).size ≤ 300000 := by rw [txt_size, txt_size]; omega
        have hkey : txt (encTs (xs.take k)) ++ txt (encT y) = txt (encTs (xs.take (k + 1))) := by rw [txt_append, hnx]
        clear hnx htk hyl hup2
        generalize txt (encTs (xs.take k)) = T at *
        generalize txt (encT y) = Y at *
        replace hkey := Lib.hid hkey
        replace hRT := Lib.hid hRT
        go_wp2_with (first | (go_at_call 11; (with_reducible refine (hRT.out _).mono ?_); rintro e w' ⟨rfl, ey, rfl⟩))
        go_roundw
        case rel => exact ⟨k + 1, hlt, by simp, by rw [hkey.out], by (repeat (first | exact Plus.refl _ | apply Plus.plus | apply Plus.alloc | apply Plus.drew))⟩
        case measure => simp [intOf]; omega
      · have hke : k = xs.length := by omega
        subst hke
        rw [List.take_length]
        generalize txt (encTs xs) = t at *
        go_wp2_with (first | (go_at_call 12; (with_reducible refine (hI.out _ (by (repeat (first | exact Plus.refl _ | apply Plus.plus | apply Plus.alloc | apply Plus.drew)))).mono ?_); rintro e w' ⟨rfl, e1, rfl⟩) | (go_at_call 14; (with_reducible refine (hT.out _ (by (repeat (first | exact Plus.refl _ | apply Plus.plus | apply Plus.alloc | apply Plus.drew)))).mono ?_); rintro e w' ⟨rfl, e1, rfl⟩) | (go_at_call 13; (with_reducible refine (hR.out _ (by (repeat (first | exact Plus.refl _ | apply Plus.plus | apply Plus.alloc | apply Plus.drew)))).mono ?_); rintro e w' ⟨rfl, e1, rfl⟩) | (go_at_call 10; (with_reducible refine (awake_any _).mono ?_); rintro e w' ⟨rfl, e3, rfl⟩))
        go_ret
        exact ⟨rfl, by (repeat (first | exact Plus.refl _ | apply Plus.plus | apply Plus.alloc | apply Plus.drew))⟩
theorem laidOut : laidOutB Try.prog = true := by kernel_rfl
theorem own : ownKnob Try.prog.godebug = none := by kernel_rfl
set_option maxRecDepth 100000 in
set_option maxHeartbeats 1000000 in
theorem lifted (os : Os) (started : os.Started) (H : Type) (enc : TypeId × Value → H) :
    ReturnsInHanded {} Try.checked os 3 .any (Rows.octetLaysSpec.pre6 enc Try.prog Try.f3 Rows.octetLaysRow.domain false) (Rows.octetLaysSpec.post enc Try.prog Try.f3 false true false false) := by
  refine returnsInHanded_of_change_sized (C := Try.checked) own started (by kernel_rfl) Try.func3
    (ChangeSpec.witness6 (enc := enc) (C := Try.checked) false ⟨#[], #[.slice none 0 0, .slice none 0 0], []⟩ 8 (by kernel_rfl) (by kernel_rfl) (by kernel_rfl) (by kernel_rfl)) ?_
  intro W base args ds gs before hval0 hW hcnd hsz0 _
  have hval : ∀ (j : Nat) t v, Try.f3.params[j]? = some t → args[j]? = some v → Value.okWide Try.prog W .any base t v := hval0
  have hsz : (DataW.weightsEach Try.prog (Try.f3.params.toList ++ Rows.octetLaysSpec.plain.varTypes Try.prog) (ds ++ gs)).all (· ≤ reachBytes) = true := hsz0
  have hW' : DataW.Whole enc Try.prog Try.f3.params.toList Rows.octetLaysSpec.vars false W args.toList ds gs before := hW
  obtain ⟨p, q, hA0, hV, rfl, hfz, hnd⟩ := hW
  have hA : DataW.TrodAll enc Try.prog W 0 (fun _ => true) true Try.f3.params.toList args.toList ds p := hA0
  rw [Try.params3] at hA hval hsz
  obtain ⟨v0, vs0, d0, ds0, p0, q0, hargs, rfl, rfl, h0, r0⟩ := trodAll_cons hA
  obtain ⟨v1, vs1, d1, ds1, p1, q1, rfl, rfl, rfl, h1, r1⟩ := trodAll_cons r0
  obtain ⟨rfl, rfl, rfl⟩ := trodAll_nil r1
  obtain rfl : args = #[v0, v1] := by cases args; simp_all
  obtain ⟨rfl, rfl⟩ := trodVars_none hV
  have light : ∀ (j : Nat) (t : TypeId) (d : DataW H), (Try.f3.params.toList ++ Rows.octetLaysSpec.plain.varTypes Try.prog)[j]? = some t → ([d0, d1] : List (DataW H))[j]? = some d → Light Try.prog t d := fun j t d hj hd m hm => by
    have h := List.all_eq_true.1 hsz m (DataW.weights_mem_each (j := j) (by rw [Try.params3] at hj; exact hj) (by simpa using hd) m hm)
    simpa using h
  obtain ⟨x0, c0, hh0, hv0⟩ := open_arg (n := 8) (ty := (.slice 8 (.int .i64))) (by kernel_rfl) (hval 0 _ v0 rfl rfl) h0 (light 0 _ _ rfl rfl)
  obtain ⟨x1, c1, hh1, hv1⟩ := open_arg (n := 8) (ty := (.slice 16 .str)) (by kernel_rfl) (hval 1 _ v1 rfl rfl) h1 (light 1 _ _ rfl rfl)
  clear hA0 hval0 hval light hsz hsz0
  obtain ⟨B, d, hc0, hl, hcap, hmx, hwf, hr⟩ := hh0.rows rfl
  rw [hc0] at hv0
  obtain rfl : v0 = .slice B x0.length d := (List.cons.inj hv0).1.symm
  have hrows := hr (intAt x0) (fun i j x hx hj => by
    obtain rfl : j = 0 := by have : j < 1 := hj; omega
    have : intAt x0 i 0 = .int .i64 x := by
      unfold intAt
      rw [List.getD_eq_getElem?_getD, hx]; rfl
    rw [this]; rfl)
  have hin : ∀ n ∈ (x0 : List Int), In64 n := fun n hn => bounds_i64 (hwf n hn)
  have hlen : (x0 : List Int).length ≤ 140737488351232 := by
    have : d * 8 ≤ 140737488351232 := hcap
    omega
  clear hr hc0 hh0 hv0 h0 hwf
  obtain ⟨A, c, hc1, hl1, hcap1, hmx1, hwf, hr⟩ := hh1.rows rfl
  rw [hc1] at hv1
  obtain rfl : v1 = .slice A x1.length c := (List.cons.inj hv1).1.symm
  have hrows1 := hr (strAt x1) (fun i j x hx hj => by
    obtain rfl : j = 0 := by have : j < 1 := hj; omega
    have : strAt x1 i 0 = .string x := by
      unfold strAt
      rw [List.getD_eq_getElem?_getD, hx]; rfl
    rw [this]; rfl)
  have hsz1 : ∀ k, ((x1 : List ByteArray).getD k ByteArray.empty).size ≤ 140737488351232 := fun k => by
    rw [List.getD_eq_getElem?_getD]
    cases hk : (x1 : List ByteArray)[k]? with
    | none => simp
    | some y => exact hwf y (List.mem_of_getElem? hk)
  have hlen1 : (x1 : List ByteArray).length ≤ 140737488351232 := by
    have : c * 16 ≤ 140737488351232 := hcap1
    omega
  clear hr hc1 hh1 hv1 h1 hwf
  refine (walk x0 B d x1 A c W hlen hin hrows hlen1 hrows1 hsz1).mono fun e W' ⟨he, hp⟩ => ?_
  subst he
  exact ⟨_, rfl, post_true hW' rfl rfl rfl rfl laidOut (by kernel_rfl) rfl (by kernel_rfl) (Plus.below hp)⟩
theorem proved : Rows.OctetLaysSaid :=
  OpenClaim.holds_of_wide 3 Try.f3 rfl rfl rfl rfl rfl rfl rfl ⟨rfl, rfl, rfl, rfl, rfl⟩ rfl rfl rfl rfl rfl (by kernel_rfl) Try.func3 (by kernel_rfl)
    (of_decide_eq_true (by kernel_rfl)) (by unfold Func.isWrapper; first | (rw [if_pos (by decide +kernel)]; kernel_rfl) | (rw [if_neg (by decide +kernel)]; exact ⟨rfl, rfl⟩))
    (fun os started H enc _ => lifted os started H enc)
end Go.Proofs.Ytgcmoalilghfbaa.lawOctetLays
