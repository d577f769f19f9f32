/- fixed: Read: walk. -/
import Derived.Test.YtndbcjgbcplgcaaDoorFix5
set_option linter.unusedSimpArgs false
set_option linter.unusedVariables false
namespace Go.Proofs.YtndbcjgbcplgcaaDoor
open Go.RowKit
abbrev pairV (p : Int × Int) : Value := .tuple #[.int .i64 p.1, .int .i64 p.2]
/-- what Read answers, by what its numbers are -/
theorem read_parts (l wh pt : List UInt8) (hw : wholeOf (bare l) = wh) (hp : partOf (bare l) = pt) :
    (numOk wh 7 = false ∨ wh.length = 0 ∨ numOk pt 8 = false → readP l = (0, 2)) ∧
    (numOk wh 7 = true → numOk pt 8 = true → wh.length ≠ 0 → readP l = if showL (sgnd l (numl wh * 256 + numl pt * 10 ^ (8 - pt.length) / 390625)) = l then (sgnd l (numl wh * 256 + numl pt * 10 ^ (8 - pt.length) / 390625), 0) else (0, 2)) := by
  subst hw hp
  constructor
  · intro h
    unfold readP
    rw [if_neg]
    rintro ⟨h1, _⟩
    unfold okP at h1
    simp only [Bool.and_eq_true, Bool.not_eq_true', List.isEmpty_eq_false_iff] at h1
    rcases h with h | h | h
    · rw [h1.1] at h; cases h
    · exact h1.2.1 (List.eq_nil_of_length_eq_zero h)
    · rw [h1.2.2] at h; cases h
  · intro h1 h2 h3
    have hok : okP l = true := by
      unfold okP
      rw [h1, h2]
      cases hx : wholeOf (bare l) with
      | nil => rw [hx] at h3; simp at h3
      | cons a m => rfl
    unfold readP
    rw [hok]
    simp only [true_and]
    rfl
theorem numV_shape (l : List UInt8) (most : Nat) : numV l most = .tuple #[.int .i64 (if numOk l most = true then numl l else 0), .bool (numOk l most)] := by
  unfold numV
  split
  · rename_i h; rw [h]
  · rename_i h
    rw [Bool.eq_false_iff.2 h]
theorem numOk_facts {l : List UInt8} {most : Nat} (h : numOk l most = true) : l.length ≤ most ∧ numl l < 10 ^ l.length := by
  unfold numOk at h
  simp only [Bool.and_eq_true, decide_eq_true_eq] at h
  exact ⟨h.1, numl_le l h.2⟩
set_option maxRecDepth 100000 in
set_option maxHeartbeats 1000000 in
theorem read_any (s : ByteArray) (w : World) (hs : s.size ≤ 140737488351232) : Calls Tryd.prog 24 #[.string s] w fun e w' => e = .returned (pairV (readP (bytes s))) ∧ w.Plus w' := by
  have key : ∀ Wh Pt : ByteArray, wholeOf (bare (bytes s)) = bytes Wh → partOf (bare (bytes s)) = bytes Pt → Wh.size ≤ s.size → Pt.size ≤ s.size → ∃ (n0 : Int) (ok : Bool) (pf : Int) (pis : Bool),
      (∀ w, Calls Tryd.prog 31 #[.string Wh, .int .i64 7] w fun e w' => e = .returned (.tuple #[.int .i64 n0, .bool ok]) ∧ w.Plus w') ∧
      (∀ w, Calls Tryd.prog 31 #[.string Pt, .int .i64 8] w fun e w' => e = .returned (.tuple #[.int .i64 pf, .bool pis]) ∧ w.Plus w') ∧
      (ok = false ∨ Wh.size = 0 ∨ pis = false → pairV (readP (bytes s)) = .tuple #[.int .i64 0, .int .i64 2]) ∧
      (ok = true → pis = true → ¬ Wh.size = 0 → ∃ nN pN : Nat, (nN : Int) = n0 ∧ (pN : Int) = pf ∧ nN < 10000000 ∧ Pt.size ≤ 8 ∧ pN < 10 ^ Pt.size ∧
        pairV (readP (bytes s)) = if showL (sgnd (bytes s) (nN * 256 + pN * 10 ^ (8 - Pt.size) / 390625)) = bytes s then .tuple #[.int .i64 (sgnd (bytes s) (nN * 256 + pN * 10 ^ (8 - Pt.size) / 390625)), .int .i64 0] else .tuple #[.int .i64 0, .int .i64 2]) := by
    intro Wh Pt h1 h2 h3 h4
    obtain ⟨r1, r2⟩ := read_parts (bytes s) _ _ h1 h2
    rw [bytes_length] at r1 r2
    rw [bytes_length] at r2
    refine ⟨_, _, _, _, fun w => by have := number_any w Wh 7 (by omega) (by decide); rw [numV_shape] at this; exact this, fun w => by have := number_any w Pt 8 (by omega) (by decide); rw [numV_shape] at this; exact this, fun h => by rw [r1 h], fun k1 k2 k3 => ?_⟩
    obtain ⟨f1, f2⟩ := numOk_facts k1
    obtain ⟨g1, g2⟩ := numOk_facts k2
    have f3 : 10 ^ (bytes Wh).length ≤ 10 ^ 7 := Nat.pow_le_pow_right (by decide) f1
    rw [bytes_length] at g1 g2
    refine ⟨numl (bytes Wh), numl (bytes Pt), by rw [if_pos k1], by rw [if_pos k2], by omega, g1, g2, ?_⟩
    rw [r2 k1 k2 k3]
    split <;> rfl
  generalize hR : pairV (readP (bytes s)) = R at *
  replace hR := Lib.hid hR
  by_cases hneg : ∃ h : 0 < s.size, s[0].toNat = 45
  · have hsg : ∀ k, sgnd (bytes s) k = -(k : Int) := fun k => if_pos ((head45 s).2 hneg)
    have hbare : bare (bytes s) = (bytes s).drop 1 := if_pos ((head45 s).2 hneg)
    obtain ⟨h0, hc⟩ := hneg
    obtain ⟨T, hT⟩ : ∃ T, s.extract 1 s.size = T := ⟨_, rfl⟩
    have hTb : bytes T = bare (bytes s) := by rw [← hT, extract_txt, bytes_txt, bytes_end, hbare]
    have hTz : T.size = s.size - 1 := by rw [← hT, ByteArray.size_extract]; omega
    have hlt : (T.size : Int) < s.size := by omega
    have hc45 : ((s[0].toNat : Nat) : Int) = 45 := by omega
    have h0i : (0 : Int) < s.size := by omega
    have h1i : (1 : Int) ≤ s.size := by omega
    simp only [hsg] at key
    clear hsg hbare
    replace hc := Lib.hid hc
    replace hTz := Lib.hid hTz
    obtain ⟨D, hD⟩ : ∃ D, dotAt (bytes T) = D := ⟨_, rfl⟩
    have hI := Lib.hid (fun w => by have := index_any w T; rw [hD] at this; exact this)
    have hDb := dot_bounds (bytes T)
    rw [hD, bytes_length] at hDb
    by_cases hd0 : D < 0
    · obtain rfl : D = -1 := by omega
      obtain ⟨n0, ok, pf, pis, hN1, hN2, hRf, hOk⟩ := key T ⟨#[]⟩ (by rw [← hTb]; unfold wholeOf; rw [hD]; rfl) (by rw [← hTb]; unfold partOf; rw [hD]; rfl) (by omega) (Nat.zero_le _)
      replace hRf := Lib.hid hRf
      replace hOk := Lib.hid hOk
      replace hN1 := Lib.hid hN1
      replace hN2 := Lib.hid hN2
      replace hD := Lib.hid hD
      clear key
      replace hTb := Lib.hid hTb
      go_enter Tryd.func24, Tryd.ntmps24
      go_wp2_with (first | (go_at_call 30; (with_reducible refine (hI.out _).mono ?_); rintro e w' ⟨rfl, ei, rfl⟩))
      cases ok with
      | false =>
        have hX := Lib.hid (hRf.out (.inl rfl))
        go_wp2_with (first | (go_at_call 31; (with_reducible refine (hN1.out _).mono ?_); rintro e w' ⟨rfl, ey, rfl⟩) | (go_at_call 31; (with_reducible refine (hN2.out _).mono ?_); rintro e w' ⟨rfl, ez, rfl⟩))
        go_ret2
        exact ⟨congrArg Ending.returned hX.out.symm, by (repeat (first | exact Plus.refl _ | apply Plus.plus | apply Plus.alloc | apply Plus.drew))⟩
      | true =>
        by_cases hw0 : T.size = 0
        · have hX := Lib.hid (hRf.out (.inr (.inl hw0)))
          have hw0i : ((T.size : Int) == 0) = true := by rw [beq_iff_eq]; omega
          replace hw0 := Lib.hid hw0
          go_wp2_with (first | (go_at_call 31; (with_reducible refine (hN1.out _).mono ?_); rintro e w' ⟨rfl, ey, rfl⟩) | (go_at_call 31; (with_reducible refine (hN2.out _).mono ?_); rintro e w' ⟨rfl, ez, rfl⟩))
          go_ret2
          exact ⟨congrArg Ending.returned hX.out.symm, by (repeat (first | exact Plus.refl _ | apply Plus.plus | apply Plus.alloc | apply Plus.drew))⟩
        have hw0i : ((T.size : Int) == 0) = false := by rw [beq_eq_false_iff_ne]; omega
        have hw0j : (T.size == 0) = false := by rw [beq_eq_false_iff_ne]; omega
        cases pis with
        | false =>
          have hX := Lib.hid (hRf.out (.inr (.inr rfl)))
          replace hw0 := Lib.hid hw0
          go_wp2_with (first | (go_at_call 31; (with_reducible refine (hN1.out _).mono ?_); rintro e w' ⟨rfl, ey, rfl⟩) | (go_at_call 31; (with_reducible refine (hN2.out _).mono ?_); rintro e w' ⟨rfl, ez, rfl⟩))
          go_ret2
          exact ⟨congrArg Ending.returned hX.out.symm, by (repeat (first | exact Plus.refl _ | apply Plus.plus | apply Plus.alloc | apply Plus.drew))⟩
        | true =>
          obtain ⟨nN, pN, rfl, rfl, hn7, hpl, hp8, hRt⟩ := hOk.out rfl rfl hw0
          obtain ⟨pl, hpl1⟩ : ∃ pl : Nat, (⟨#[]⟩:ByteArray).size = pl := ⟨_, rfl⟩
          rw [hpl1] at hpl hp8 hRt
          have hpi : ((⟨#[]⟩:ByteArray).size : Int) = (pl : Int) := by omega
          replace hpl1 := Lib.hid hpl1
          replace hw0 := Lib.hid hw0
          replace hRt := Lib.hid hRt
          have h108 := Nat.pow_le_pow_right (show 0 < 10 by decide) (show pl ≤ 8 from hpl)
          go_wp2_with (first | (go_at_call 31; (with_reducible refine (hN1.out _).mono ?_); rintro e w' ⟨rfl, ey, rfl⟩) | (go_at_call 31; (with_reducible refine (hN2.out _).mono ?_); rintro e w' ⟨rfl, ez, rfl⟩))
          replace h108 := Lib.hid h108
          replace hp8 := Lib.hid hp8
          go_loop [10, 12] (fun f i => ∃ k F : Nat, pl ≤ k ∧ k ≤ 8 ∧ i = .int .i64 k ∧ f = .int .i64 F ∧ F * 10 ^ (8 - k) = pN * 10 ^ (8 - pl) ∧ F < 10 ^ k) (fun _ i => 8 - (intOf i).toNat)
          case atStart => exact ⟨pl, pN, Nat.le_refl _, hpl, by first | go_num | (rw [← hpl1.out]; rfl), rfl, rfl, hp8.out⟩
          case round =>
            obtain ⟨k, F, hk1, hk2, rfl, rfl, hF, hFk⟩ := hrel
            have hFb : F < 100000000 := Nat.lt_of_lt_of_le hFk (Nat.pow_le_pow_right (by decide) hk2)
            by_cases hk8 : k < 8
            · have hnx := Lib.hid (show F * 10 * 10 ^ (8 - (k + 1)) = pN * 10 ^ (8 - pl) by rw [← hF, Nat.mul_assoc, ← Nat.pow_succ']; congr 2; omega)
              have hlt := Lib.hid (show F * 10 < 10 ^ (k + 1) by rw [Nat.pow_succ]; omega)
              replace hF := Lib.hid hF
              replace hFk := Lib.hid hFk
              go_wp2_with fail
              go_round
              case rel => exact ⟨k + 1, F * 10, by omega, hk8, by go_num, by go_num, hnx.out, hlt.out⟩
              case measure => simp [intOf]; omega
            · have hke : k = 8 := by omega
              have hFe := Lib.hid (show pN * 10 ^ (8 - pl) = F by rw [← hF, hke]; simp)
              replace hF := Lib.hid hF
              replace hFk := Lib.hid hFk
              replace hke := Lib.hid hke
              obtain ⟨q, hq⟩ : ∃ q : Nat, F / 390625 = q := ⟨_, rfl⟩
              have hqi : (F : Int) / 390625 = (q : Int) := by omega
              have hq3 : q ≤ 256 := by omega
              obtain ⟨v, hv⟩ : ∃ v : Nat, nN * 256 + q = v := ⟨_, rfl⟩
              have hvi : (nN : Int) * 256 + (q : Int) = (v : Int) := by omega
              have hvb : v ≤ 2560000256 := by omega
              have hRv := hRt.out
              rw [hFe.out, hq, hv] at hRv
              replace hq := Lib.hid hq
              replace hv := Lib.hid hv
              have hSh := Lib.hid (fun w => show_any w (-(v:Int)))
              by_cases heq : showL (-(v:Int)) = bytes s
              · rw [if_pos heq] at hRv
                have hX := Lib.hid hRv
                have hc1 : ((txt (showL (-(v:Int)))).toList == s.toList) = true := by rw [eq_bytes, decide_eq_true_iff, heq, txt_bytes]
                have hc2 : ((txt (showL (-(v:Int)))).toList != s.toList) = false := by rw [bne, hc1]; rfl
                replace heq := Lib.hid heq
                clear hRv
                generalize txt (showL (-(v:Int))) = X at *
                go_wp2_with (first | (go_at_call 22; (with_reducible refine (hSh.out _).mono ?_); rintro e w' ⟨rfl, ex, rfl⟩))
                go_ret2
                exact ⟨congrArg Ending.returned hX.out.symm, by (repeat (first | exact Plus.refl _ | apply Plus.plus | apply Plus.alloc | apply Plus.drew))⟩
              · rw [if_neg heq] at hRv
                have hX := Lib.hid hRv
                have hc1 : ((txt (showL (-(v:Int)))).toList == s.toList) = false := by
                  rw [eq_bytes, decide_eq_false_iff_not]
                  intro e
                  exact heq (by rw [← e, bytes_txt])
                have hc2 : ((txt (showL (-(v:Int)))).toList != s.toList) = true := by rw [bne, hc1]; rfl
                replace heq := Lib.hid heq
                clear hRv
                generalize txt (showL (-(v:Int))) = X at *
                go_wp2_with (first | (go_at_call 22; (with_reducible refine (hSh.out _).mono ?_); rintro e w' ⟨rfl, ex, rfl⟩))
                go_ret2
                exact ⟨congrArg Ending.returned hX.out.symm, by (repeat (first | exact Plus.refl _ | apply Plus.plus | apply Plus.alloc | apply Plus.drew))⟩

    · obtain ⟨k, rfl⟩ : ∃ k : Nat, D = k := ⟨D.toNat, by omega⟩
      have hkl : k < T.size := by omega
      obtain ⟨Wh, hWh⟩ : ∃ Wh, T.extract 0 k = Wh := ⟨_, rfl⟩
      obtain ⟨Pt, hPt⟩ : ∃ Pt, T.extract (k + 1) T.size = Pt := ⟨_, rfl⟩
      have hWs : Wh.size ≤ T.size := by rw [← hWh, ByteArray.size_extract]; omega
      have hPs : Pt.size ≤ T.size := by rw [← hPt, ByteArray.size_extract]; omega
      have hWb : wholeOf (bytes T) = bytes Wh := by
        unfold wholeOf; rw [hD, if_neg (by omega), ← hWh, extract_txt, bytes_txt]; rfl
      have hPb : partOf (bytes T) = bytes Pt := by
        unfold partOf; rw [hD, if_neg (by omega), ← hPt, extract_txt, bytes_txt, bytes_end]; rfl
      obtain ⟨n0, ok, pf, pis, hN1, hN2, hRf, hOk⟩ := key Wh Pt (by rw [← hTb]; exact hWb) (by rw [← hTb]; exact hPb) (by omega) (by omega)
      replace hRf := Lib.hid hRf
      replace hOk := Lib.hid hOk
      replace hN1 := Lib.hid hN1
      replace hN2 := Lib.hid hN2
      replace hD := Lib.hid hD
      replace hWb := Lib.hid hWb
      replace hPb := Lib.hid hPb
      clear key
      replace hTb := Lib.hid hTb
      have hk1 : IntKind.i64.wrap ((k : Int) + 1) = (k : Int) + 1 := wrap_id (by omega) (by omega)
      have hk2 : (0 : Int) ≤ k := by omega
      have hk3 : (k : Int) + 1 ≤ T.size := by omega
      have hk4 : ((k : Int) + 1).toNat = k + 1 := by omega
      go_enter Tryd.func24, Tryd.ntmps24
      go_upto_region 7 with (first | (go_at_call 30; (with_reducible refine (hI.out _).mono ?_); rintro e w' ⟨rfl, ei, rfl⟩))
      refine wp_region_grow (by kernel_rfl) (by kernel_rfl) ?_
      repeat (go_big_quiet_step (fail))
      refine wpQuiet_nil ?_
      intro ex
      cases ok with
      | false =>
        have hX := Lib.hid (hRf.out (.inl rfl))
        go_wp2_with (first | (go_at_call 31; (with_reducible refine (hN1.out _).mono ?_); rintro e w' ⟨rfl, ey, rfl⟩) | (go_at_call 31; (with_reducible refine (hN2.out _).mono ?_); rintro e w' ⟨rfl, ez, rfl⟩))
        go_ret2
        exact ⟨congrArg Ending.returned hX.out.symm, by (repeat (first | exact Plus.refl _ | apply Plus.plus | apply Plus.alloc | apply Plus.drew))⟩
      | true =>
        by_cases hw0 : Wh.size = 0
        · have hX := Lib.hid (hRf.out (.inr (.inl hw0)))
          have hw0i : ((Wh.size : Int) == 0) = true := by rw [beq_iff_eq]; omega
          replace hw0 := Lib.hid hw0
          go_wp2_with (first | (go_at_call 31; (with_reducible refine (hN1.out _).mono ?_); rintro e w' ⟨rfl, ey, rfl⟩) | (go_at_call 31; (with_reducible refine (hN2.out _).mono ?_); rintro e w' ⟨rfl, ez, rfl⟩))
          go_ret2
          exact ⟨congrArg Ending.returned hX.out.symm, by (repeat (first | exact Plus.refl _ | apply Plus.plus | apply Plus.alloc | apply Plus.drew))⟩
        have hw0i : ((Wh.size : Int) == 0) = false := by rw [beq_eq_false_iff_ne]; omega
        have hw0j : (Wh.size == 0) = false := by rw [beq_eq_false_iff_ne]; omega
        cases pis with
        | false =>
          have hX := Lib.hid (hRf.out (.inr (.inr rfl)))
          replace hw0 := Lib.hid hw0
          go_wp2_with (first | (go_at_call 31; (with_reducible refine (hN1.out _).mono ?_); rintro e w' ⟨rfl, ey, rfl⟩) | (go_at_call 31; (with_reducible refine (hN2.out _).mono ?_); rintro e w' ⟨rfl, ez, rfl⟩))
          go_ret2
          exact ⟨congrArg Ending.returned hX.out.symm, by (repeat (first | exact Plus.refl _ | apply Plus.plus | apply Plus.alloc | apply Plus.drew))⟩
        | true =>
          obtain ⟨nN, pN, rfl, rfl, hn7, hpl, hp8, hRt⟩ := hOk.out rfl rfl hw0
          obtain ⟨pl, hpl1⟩ : ∃ pl : Nat, Pt.size = pl := ⟨_, rfl⟩
          rw [hpl1] at hpl hp8 hRt
          have hpi : (Pt.size : Int) = (pl : Int) := by omega
          replace hpl1 := Lib.hid hpl1
          replace hw0 := Lib.hid hw0
          replace hRt := Lib.hid hRt
          have h108 := Nat.pow_le_pow_right (show 0 < 10 by decide) (show pl ≤ 8 from hpl)
          go_wp2_with (first | (go_at_call 31; (with_reducible refine (hN1.out _).mono ?_); rintro e w' ⟨rfl, ey, rfl⟩) | (go_at_call 31; (with_reducible refine (hN2.out _).mono ?_); rintro e w' ⟨rfl, ez, rfl⟩))
          replace h108 := Lib.hid h108
          replace hp8 := Lib.hid hp8
          go_loop [10, 12] (fun f i => ∃ k F : Nat, pl ≤ k ∧ k ≤ 8 ∧ i = .int .i64 k ∧ f = .int .i64 F ∧ F * 10 ^ (8 - k) = pN * 10 ^ (8 - pl) ∧ F < 10 ^ k) (fun _ i => 8 - (intOf i).toNat)
          case atStart => exact ⟨pl, pN, Nat.le_refl _, hpl, by first | go_num | (rw [← hpl1.out]; rfl), rfl, rfl, hp8.out⟩
          case round =>
            obtain ⟨k, F, hk1, hk2, rfl, rfl, hF, hFk⟩ := hrel
            have hFb : F < 100000000 := Nat.lt_of_lt_of_le hFk (Nat.pow_le_pow_right (by decide) hk2)
            by_cases hk8 : k < 8
            · have hnx := Lib.hid (show F * 10 * 10 ^ (8 - (k + 1)) = pN * 10 ^ (8 - pl) by rw [← hF, Nat.mul_assoc, ← Nat.pow_succ']; congr 2; omega)
              have hlt := Lib.hid (show F * 10 < 10 ^ (k + 1) by rw [Nat.pow_succ]; omega)
              replace hF := Lib.hid hF
              replace hFk := Lib.hid hFk
              go_wp2_with fail
              go_round
              case rel => exact ⟨k + 1, F * 10, by omega, hk8, by go_num, by go_num, hnx.out, hlt.out⟩
              case measure => simp [intOf]; omega
            · have hke : k = 8 := by omega
              have hFe := Lib.hid (show pN * 10 ^ (8 - pl) = F by rw [← hF, hke]; simp)
              replace hF := Lib.hid hF
              replace hFk := Lib.hid hFk
              replace hke := Lib.hid hke
              obtain ⟨q, hq⟩ : ∃ q : Nat, F / 390625 = q := ⟨_, rfl⟩
              have hqi : (F : Int) / 390625 = (q : Int) := by omega
              have hq3 : q ≤ 256 := by omega
              obtain ⟨v, hv⟩ : ∃ v : Nat, nN * 256 + q = v := ⟨_, rfl⟩
              have hvi : (nN : Int) * 256 + (q : Int) = (v : Int) := by omega
              have hvb : v ≤ 2560000256 := by omega
              have hRv := hRt.out
              rw [hFe.out, hq, hv] at hRv
              replace hq := Lib.hid hq
              replace hv := Lib.hid hv
              have hSh := Lib.hid (fun w => show_any w (-(v:Int)))
              by_cases heq : showL (-(v:Int)) = bytes s
              · rw [if_pos heq] at hRv
                have hX := Lib.hid hRv
                have hc1 : ((txt (showL (-(v:Int)))).toList == s.toList) = true := by rw [eq_bytes, decide_eq_true_iff, heq, txt_bytes]
                have hc2 : ((txt (showL (-(v:Int)))).toList != s.toList) = false := by rw [bne, hc1]; rfl
                replace heq := Lib.hid heq
                clear hRv
                generalize txt (showL (-(v:Int))) = X at *
                go_wp2_with (first | (go_at_call 22; (with_reducible refine (hSh.out _).mono ?_); rintro e w' ⟨rfl, ex, rfl⟩))
                go_ret2
                exact ⟨congrArg Ending.returned hX.out.symm, by (repeat (first | exact Plus.refl _ | apply Plus.plus | apply Plus.alloc | apply Plus.drew))⟩
              · rw [if_neg heq] at hRv
                have hX := Lib.hid hRv
                have hc1 : ((txt (showL (-(v:Int)))).toList == s.toList) = false := by
                  rw [eq_bytes, decide_eq_false_iff_not]
                  intro e
                  exact heq (by rw [← e, bytes_txt])
                have hc2 : ((txt (showL (-(v:Int)))).toList != s.toList) = true := by rw [bne, hc1]; rfl
                replace heq := Lib.hid heq
                clear hRv
                generalize txt (showL (-(v:Int))) = X at *
                go_wp2_with (first | (go_at_call 22; (with_reducible refine (hSh.out _).mono ?_); rintro e w' ⟨rfl, ex, rfl⟩))
                go_ret2
                exact ⟨congrArg Ending.returned hX.out.symm, by (repeat (first | exact Plus.refl _ | apply Plus.plus | apply Plus.alloc | apply Plus.drew))⟩

  · have hsg : ∀ k, sgnd (bytes s) k = (k : Int) := fun k => if_neg (fun h => hneg ((head45 s).1 h))
    have hbare : bare (bytes s) = bytes s := if_neg (fun h => hneg ((head45 s).1 h))
    have hnb : ¬ ∃ h : 0 < s.size, s[0].toNat = 45 := hneg
    replace hneg := Lib.hid hneg
    simp only [hsg] at key
    clear hsg
    obtain ⟨D, hD⟩ : ∃ D, dotAt (bytes s) = D := ⟨_, rfl⟩
    have hI := Lib.hid (fun w => by have := index_any w s; rw [hD] at this; exact this)
    have hDb := dot_bounds (bytes s)
    rw [hD, bytes_length] at hDb
    by_cases h0 : 0 < s.size
    · have hc : ¬ ((s[0].toNat : Nat) : Int) = 45 := fun e => hnb ⟨h0, by omega⟩
      have hc2 : (((s[0].toNat : Nat) : Int) == 45) = false := by rw [beq_eq_false_iff_ne]; exact hc
      replace hnb := Lib.hid hnb
      by_cases hd0 : D < 0
      · obtain rfl : D = -1 := by omega
        obtain ⟨n0, ok, pf, pis, hN1, hN2, hRf, hOk⟩ := key s ⟨#[]⟩ (by rw [hbare]; unfold wholeOf; rw [hD]; rfl) (by rw [hbare]; unfold partOf; rw [hD]; rfl) (by omega) (Nat.zero_le _)
        replace hRf := Lib.hid hRf
        replace hOk := Lib.hid hOk
        replace hN1 := Lib.hid hN1
        replace hN2 := Lib.hid hN2
        replace hD := Lib.hid hD
        clear key
        replace hbare := Lib.hid hbare
        go_enter Tryd.func24, Tryd.ntmps24
        go_wp2_with (first | (go_at_call 30; (with_reducible refine (hI.out _).mono ?_); rintro e w' ⟨rfl, ei, rfl⟩))
        cases ok with
        | false =>
          have hX := Lib.hid (hRf.out (.inl rfl))
          go_wp2_with (first | (go_at_call 31; (with_reducible refine (hN1.out _).mono ?_); rintro e w' ⟨rfl, ey, rfl⟩) | (go_at_call 31; (with_reducible refine (hN2.out _).mono ?_); rintro e w' ⟨rfl, ez, rfl⟩))
          go_ret2
          exact ⟨congrArg Ending.returned hX.out.symm, by (repeat (first | exact Plus.refl _ | apply Plus.plus | apply Plus.alloc | apply Plus.drew))⟩
        | true =>
          by_cases hw0 : s.size = 0
          · have hX := Lib.hid (hRf.out (.inr (.inl hw0)))
            have hw0i : ((s.size : Int) == 0) = true := by rw [beq_iff_eq]; omega
            replace hw0 := Lib.hid hw0
            go_wp2_with (first | (go_at_call 31; (with_reducible refine (hN1.out _).mono ?_); rintro e w' ⟨rfl, ey, rfl⟩) | (go_at_call 31; (with_reducible refine (hN2.out _).mono ?_); rintro e w' ⟨rfl, ez, rfl⟩))
            go_ret2
            exact ⟨congrArg Ending.returned hX.out.symm, by (repeat (first | exact Plus.refl _ | apply Plus.plus | apply Plus.alloc | apply Plus.drew))⟩
          have hw0i : ((s.size : Int) == 0) = false := by rw [beq_eq_false_iff_ne]; omega
          have hw0j : (s.size == 0) = false := by rw [beq_eq_false_iff_ne]; omega
          cases pis with
          | false =>
            have hX := Lib.hid (hRf.out (.inr (.inr rfl)))
            replace hw0 := Lib.hid hw0
            go_wp2_with (first | (go_at_call 31; (with_reducible refine (hN1.out _).mono ?_); rintro e w' ⟨rfl, ey, rfl⟩) | (go_at_call 31; (with_reducible refine (hN2.out _).mono ?_); rintro e w' ⟨rfl, ez, rfl⟩))
            go_ret2
            exact ⟨congrArg Ending.returned hX.out.symm, by (repeat (first | exact Plus.refl _ | apply Plus.plus | apply Plus.alloc | apply Plus.drew))⟩
          | true =>
            obtain ⟨nN, pN, rfl, rfl, hn7, hpl, hp8, hRt⟩ := hOk.out rfl rfl hw0
            obtain ⟨pl, hpl1⟩ : ∃ pl : Nat, (⟨#[]⟩:ByteArray).size = pl := ⟨_, rfl⟩
            rw [hpl1] at hpl hp8 hRt
            have hpi : ((⟨#[]⟩:ByteArray).size : Int) = (pl : Int) := by omega
            replace hpl1 := Lib.hid hpl1
            replace hw0 := Lib.hid hw0
            replace hRt := Lib.hid hRt
            have h108 := Nat.pow_le_pow_right (show 0 < 10 by decide) (show pl ≤ 8 from hpl)
            go_wp2_with (first | (go_at_call 31; (with_reducible refine (hN1.out _).mono ?_); rintro e w' ⟨rfl, ey, rfl⟩) | (go_at_call 31; (with_reducible refine (hN2.out _).mono ?_); rintro e w' ⟨rfl, ez, rfl⟩))
            replace h108 := Lib.hid h108
            replace hp8 := Lib.hid hp8
            go_loop [10, 12] (fun f i => ∃ k F : Nat, pl ≤ k ∧ k ≤ 8 ∧ i = .int .i64 k ∧ f = .int .i64 F ∧ F * 10 ^ (8 - k) = pN * 10 ^ (8 - pl) ∧ F < 10 ^ k) (fun _ i => 8 - (intOf i).toNat)
            case atStart => exact ⟨pl, pN, Nat.le_refl _, hpl, by first | go_num | (rw [← hpl1.out]; rfl), rfl, rfl, hp8.out⟩
            case round =>
              obtain ⟨k, F, hk1, hk2, rfl, rfl, hF, hFk⟩ := hrel
              have hFb : F < 100000000 := Nat.lt_of_lt_of_le hFk (Nat.pow_le_pow_right (by decide) hk2)
              by_cases hk8 : k < 8
              · have hnx := Lib.hid (show F * 10 * 10 ^ (8 - (k + 1)) = pN * 10 ^ (8 - pl) by rw [← hF, Nat.mul_assoc, ← Nat.pow_succ']; congr 2; omega)
                have hlt := Lib.hid (show F * 10 < 10 ^ (k + 1) by rw [Nat.pow_succ]; omega)
                replace hF := Lib.hid hF
                replace hFk := Lib.hid hFk
                go_wp2_with fail
                go_round
                case rel => exact ⟨k + 1, F * 10, by omega, hk8, by go_num, by go_num, hnx.out, hlt.out⟩
                case measure => simp [intOf]; omega
              · have hke : k = 8 := by omega
                have hFe := Lib.hid (show pN * 10 ^ (8 - pl) = F by rw [← hF, hke]; simp)
                replace hF := Lib.hid hF
                replace hFk := Lib.hid hFk
                replace hke := Lib.hid hke
                obtain ⟨q, hq⟩ : ∃ q : Nat, F / 390625 = q := ⟨_, rfl⟩
                have hqi : (F : Int) / 390625 = (q : Int) := by omega
                have hq3 : q ≤ 256 := by omega
                obtain ⟨v, hv⟩ : ∃ v : Nat, nN * 256 + q = v := ⟨_, rfl⟩
                have hvi : (nN : Int) * 256 + (q : Int) = (v : Int) := by omega
                have hvb : v ≤ 2560000256 := by omega
                have hRv := hRt.out
                rw [hFe.out, hq, hv] at hRv
                replace hq := Lib.hid hq
                replace hv := Lib.hid hv
                have hSh := Lib.hid (fun w => show_any w (v:Int))
                by_cases heq : showL (v:Int) = bytes s
                · rw [if_pos heq] at hRv
                  have hX := Lib.hid hRv
                  have hc1 : ((txt (showL (v:Int))).toList == s.toList) = true := by rw [eq_bytes, decide_eq_true_iff, heq, txt_bytes]
                  have hc2 : ((txt (showL (v:Int))).toList != s.toList) = false := by rw [bne, hc1]; rfl
                  replace heq := Lib.hid heq
                  clear hRv
                  generalize txt (showL (v:Int)) = X at *
                  go_wp2_with (first | (go_at_call 22; (with_reducible refine (hSh.out _).mono ?_); rintro e w' ⟨rfl, ex, rfl⟩))
                  go_ret2
                  exact ⟨congrArg Ending.returned hX.out.symm, by (repeat (first | exact Plus.refl _ | apply Plus.plus | apply Plus.alloc | apply Plus.drew))⟩
                · rw [if_neg heq] at hRv
                  have hX := Lib.hid hRv
                  have hc1 : ((txt (showL (v:Int))).toList == s.toList) = false := by
                    rw [eq_bytes, decide_eq_false_iff_not]
                    intro e
                    exact heq (by rw [← e, bytes_txt])
                  have hc2 : ((txt (showL (v:Int))).toList != s.toList) = true := by rw [bne, hc1]; rfl
                  replace heq := Lib.hid heq
                  clear hRv
                  generalize txt (showL (v:Int)) = X at *
                  go_wp2_with (first | (go_at_call 22; (with_reducible refine (hSh.out _).mono ?_); rintro e w' ⟨rfl, ex, rfl⟩))
                  go_ret2
                  exact ⟨congrArg Ending.returned hX.out.symm, by (repeat (first | exact Plus.refl _ | apply Plus.plus | apply Plus.alloc | apply Plus.drew))⟩

      · obtain ⟨k, rfl⟩ : ∃ k : Nat, D = k := ⟨D.toNat, by omega⟩
        have hkl : k < s.size := by omega
        obtain ⟨Wh, hWh⟩ : ∃ Wh, s.extract 0 k = Wh := ⟨_, rfl⟩
        obtain ⟨Pt, hPt⟩ : ∃ Pt, s.extract (k + 1) s.size = Pt := ⟨_, rfl⟩
        have hWs : Wh.size ≤ s.size := by rw [← hWh, ByteArray.size_extract]; omega
        have hPs : Pt.size ≤ s.size := by rw [← hPt, ByteArray.size_extract]; omega
        have hWb : wholeOf (bytes s) = bytes Wh := by
          unfold wholeOf; rw [hD, if_neg (by omega), ← hWh, extract_txt, bytes_txt]; rfl
        have hPb : partOf (bytes s) = bytes Pt := by
          unfold partOf; rw [hD, if_neg (by omega), ← hPt, extract_txt, bytes_txt, bytes_end]; rfl
        obtain ⟨n0, ok, pf, pis, hN1, hN2, hRf, hOk⟩ := key Wh Pt (by rw [hbare]; exact hWb) (by rw [hbare]; exact hPb) (by omega) (by omega)
        replace hRf := Lib.hid hRf
        replace hOk := Lib.hid hOk
        replace hN1 := Lib.hid hN1
        replace hN2 := Lib.hid hN2
        replace hD := Lib.hid hD
        replace hWb := Lib.hid hWb
        replace hPb := Lib.hid hPb
        clear key
        replace hbare := Lib.hid hbare
        have hk1 : IntKind.i64.wrap ((k : Int) + 1) = (k : Int) + 1 := wrap_id (by omega) (by omega)
        have hk2 : (0 : Int) ≤ k := by omega
        have hk3 : (k : Int) + 1 ≤ s.size := by omega
        have hk4 : ((k : Int) + 1).toNat = k + 1 := by omega
        go_enter Tryd.func24, Tryd.ntmps24
        go_upto_region 7 with (first | (go_at_call 30; (with_reducible refine (hI.out _).mono ?_); rintro e w' ⟨rfl, ei, rfl⟩))
        refine wp_region_grow (by kernel_rfl) (by kernel_rfl) ?_
        repeat (go_big_quiet_step (fail))
        refine wpQuiet_nil ?_
        intro ex
        cases ok with
        | false =>
          have hX := Lib.hid (hRf.out (.inl rfl))
          go_wp2_with (first | (go_at_call 31; (with_reducible refine (hN1.out _).mono ?_); rintro e w' ⟨rfl, ey, rfl⟩) | (go_at_call 31; (with_reducible refine (hN2.out _).mono ?_); rintro e w' ⟨rfl, ez, rfl⟩))
          go_ret2
          exact ⟨congrArg Ending.returned hX.out.symm, by (repeat (first | exact Plus.refl _ | apply Plus.plus | apply Plus.alloc | apply Plus.drew))⟩
        | true =>
          by_cases hw0 : Wh.size = 0
          · have hX := Lib.hid (hRf.out (.inr (.inl hw0)))
            have hw0i : ((Wh.size : Int) == 0) = true := by rw [beq_iff_eq]; omega
            replace hw0 := Lib.hid hw0
            go_wp2_with (first | (go_at_call 31; (with_reducible refine (hN1.out _).mono ?_); rintro e w' ⟨rfl, ey, rfl⟩) | (go_at_call 31; (with_reducible refine (hN2.out _).mono ?_); rintro e w' ⟨rfl, ez, rfl⟩))
            go_ret2
            exact ⟨congrArg Ending.returned hX.out.symm, by (repeat (first | exact Plus.refl _ | apply Plus.plus | apply Plus.alloc | apply Plus.drew))⟩
          have hw0i : ((Wh.size : Int) == 0) = false := by rw [beq_eq_false_iff_ne]; omega
          have hw0j : (Wh.size == 0) = false := by rw [beq_eq_false_iff_ne]; omega
          cases pis with
          | false =>
            have hX := Lib.hid (hRf.out (.inr (.inr rfl)))
            replace hw0 := Lib.hid hw0
            go_wp2_with (first | (go_at_call 31; (with_reducible refine (hN1.out _).mono ?_); rintro e w' ⟨rfl, ey, rfl⟩) | (go_at_call 31; (with_reducible refine (hN2.out _).mono ?_); rintro e w' ⟨rfl, ez, rfl⟩))
            go_ret2
            exact ⟨congrArg Ending.returned hX.out.symm, by (repeat (first | exact Plus.refl _ | apply Plus.plus | apply Plus.alloc | apply Plus.drew))⟩
          | true =>
            obtain ⟨nN, pN, rfl, rfl, hn7, hpl, hp8, hRt⟩ := hOk.out rfl rfl hw0
            obtain ⟨pl, hpl1⟩ : ∃ pl : Nat, Pt.size = pl := ⟨_, rfl⟩
            rw [hpl1] at hpl hp8 hRt
            have hpi : (Pt.size : Int) = (pl : Int) := by omega
            replace hpl1 := Lib.hid hpl1
            replace hw0 := Lib.hid hw0
            replace hRt := Lib.hid hRt
            have h108 := Nat.pow_le_pow_right (show 0 < 10 by decide) (show pl ≤ 8 from hpl)
            go_wp2_with (first | (go_at_call 31; (with_reducible refine (hN1.out _).mono ?_); rintro e w' ⟨rfl, ey, rfl⟩) | (go_at_call 31; (with_reducible refine (hN2.out _).mono ?_); rintro e w' ⟨rfl, ez, rfl⟩))
            replace h108 := Lib.hid h108
            replace hp8 := Lib.hid hp8
            go_loop [10, 12] (fun f i => ∃ k F : Nat, pl ≤ k ∧ k ≤ 8 ∧ i = .int .i64 k ∧ f = .int .i64 F ∧ F * 10 ^ (8 - k) = pN * 10 ^ (8 - pl) ∧ F < 10 ^ k) (fun _ i => 8 - (intOf i).toNat)
            case atStart => exact ⟨pl, pN, Nat.le_refl _, hpl, by first | go_num | (rw [← hpl1.out]; rfl), rfl, rfl, hp8.out⟩
            case round =>
              obtain ⟨k, F, hk1, hk2, rfl, rfl, hF, hFk⟩ := hrel
              have hFb : F < 100000000 := Nat.lt_of_lt_of_le hFk (Nat.pow_le_pow_right (by decide) hk2)
              by_cases hk8 : k < 8
              · have hnx := Lib.hid (show F * 10 * 10 ^ (8 - (k + 1)) = pN * 10 ^ (8 - pl) by rw [← hF, Nat.mul_assoc, ← Nat.pow_succ']; congr 2; omega)
                have hlt := Lib.hid (show F * 10 < 10 ^ (k + 1) by rw [Nat.pow_succ]; omega)
                replace hF := Lib.hid hF
                replace hFk := Lib.hid hFk
                go_wp2_with fail
                go_round
                case rel => exact ⟨k + 1, F * 10, by omega, hk8, by go_num, by go_num, hnx.out, hlt.out⟩
                case measure => simp [intOf]; omega
              · have hke : k = 8 := by omega
                have hFe := Lib.hid (show pN * 10 ^ (8 - pl) = F by rw [← hF, hke]; simp)
                replace hF := Lib.hid hF
                replace hFk := Lib.hid hFk
                replace hke := Lib.hid hke
                obtain ⟨q, hq⟩ : ∃ q : Nat, F / 390625 = q := ⟨_, rfl⟩
                have hqi : (F : Int) / 390625 = (q : Int) := by omega
                have hq3 : q ≤ 256 := by omega
                obtain ⟨v, hv⟩ : ∃ v : Nat, nN * 256 + q = v := ⟨_, rfl⟩
                have hvi : (nN : Int) * 256 + (q : Int) = (v : Int) := by omega
                have hvb : v ≤ 2560000256 := by omega
                have hRv := hRt.out
                rw [hFe.out, hq, hv] at hRv
                replace hq := Lib.hid hq
                replace hv := Lib.hid hv
                have hSh := Lib.hid (fun w => show_any w (v:Int))
                by_cases heq : showL (v:Int) = bytes s
                · rw [if_pos heq] at hRv
                  have hX := Lib.hid hRv
                  have hc1 : ((txt (showL (v:Int))).toList == s.toList) = true := by rw [eq_bytes, decide_eq_true_iff, heq, txt_bytes]
                  have hc2 : ((txt (showL (v:Int))).toList != s.toList) = false := by rw [bne, hc1]; rfl
                  replace heq := Lib.hid heq
                  clear hRv
                  generalize txt (showL (v:Int)) = X at *
                  go_wp2_with (first | (go_at_call 22; (with_reducible refine (hSh.out _).mono ?_); rintro e w' ⟨rfl, ex, rfl⟩))
                  go_ret2
                  exact ⟨congrArg Ending.returned hX.out.symm, by (repeat (first | exact Plus.refl _ | apply Plus.plus | apply Plus.alloc | apply Plus.drew))⟩
                · rw [if_neg heq] at hRv
                  have hX := Lib.hid hRv
                  have hc1 : ((txt (showL (v:Int))).toList == s.toList) = false := by
                    rw [eq_bytes, decide_eq_false_iff_not]
                    intro e
                    exact heq (by rw [← e, bytes_txt])
                  have hc2 : ((txt (showL (v:Int))).toList != s.toList) = true := by rw [bne, hc1]; rfl
                  replace heq := Lib.hid heq
                  clear hRv
                  generalize txt (showL (v:Int)) = X at *
                  go_wp2_with (first | (go_at_call 22; (with_reducible refine (hSh.out _).mono ?_); rintro e w' ⟨rfl, ex, rfl⟩))
                  go_ret2
                  exact ⟨congrArg Ending.returned hX.out.symm, by (repeat (first | exact Plus.refl _ | apply Plus.plus | apply Plus.alloc | apply Plus.drew))⟩

    · replace hnb := Lib.hid hnb
      have hz : s.size = 0 := by omega
      have hD0 : D < 0 := by omega
      by_cases hd0 : D < 0
      · obtain rfl : D = -1 := by omega
        obtain ⟨n0, ok, pf, pis, hN1, hN2, hRf, hOk⟩ := key s ⟨#[]⟩ (by rw [hbare]; unfold wholeOf; rw [hD]; rfl) (by rw [hbare]; unfold partOf; rw [hD]; rfl) (by omega) (Nat.zero_le _)
        replace hRf := Lib.hid hRf
        replace hOk := Lib.hid hOk
        replace hN1 := Lib.hid hN1
        replace hN2 := Lib.hid hN2
        replace hD := Lib.hid hD
        clear key
        replace hbare := Lib.hid hbare
        go_enter Tryd.func24, Tryd.ntmps24
        go_wp2_with (first | (go_at_call 30; (with_reducible refine (hI.out _).mono ?_); rintro e w' ⟨rfl, ei, rfl⟩))
        have hX := Lib.hid (hRf.out (.inr (.inl hz)))
        have hwi : ((s.size : Int) == 0) = true := by rw [beq_iff_eq]; omega
        replace hz := Lib.hid hz
        cases ok
        all_goals go_wp2_with (first | (go_at_call 31; (with_reducible refine (hN1.out _).mono ?_); rintro e w' ⟨rfl, ey, rfl⟩) | (go_at_call 31; (with_reducible refine (hN2.out _).mono ?_); rintro e w' ⟨rfl, ez, rfl⟩))
        all_goals go_ret2
        all_goals exact ⟨congrArg Ending.returned hX.out.symm, by (repeat (first | exact Plus.refl _ | apply Plus.plus | apply Plus.alloc | apply Plus.drew))⟩
      · exact absurd hD0 hd0
end Go.Proofs.YtndbcjgbcplgcaaDoor
