/- fixed: the reference's Read: walk. -/
import Derived.Test.YtndbcjgbcplgcaaDoorFix6
set_option linter.unusedSimpArgs false
set_option linter.unusedVariables false
namespace Go.Proofs.YtndbcjgbcplgcaaDoor
open Go.RowKit
theorem readR_none {l : List UInt8} (h : refGo (bare l) 0 rst0 = none) : pairV (readR l) = .tuple #[.int .i64 0, .int .i64 2] := by
  unfold readR; rw [h]
theorem readR_some {l : List UInt8} {st : Rst} (h : refGo (bare l) 0 rst0 = some st) :
    pairV (readR l) = if 1073741824 < st.n then .tuple #[.int .i64 0, .int .i64 2] else if showL (sgnR l (valR st)) = l then .tuple #[.int .i64 (sgnR l (valR st)), .int .i64 0] else .tuple #[.int .i64 0, .int .i64 2] := by
  unfold readR; rw [h]
  simp only
  split
  · rfl
  · split <;> rfl
set_option maxRecDepth 100000 in
set_option maxHeartbeats 1000000 in
theorem ref_read_any (s : ByteArray) (w : World) (hs : s.size ≤ 140737488351232) : Calls Tryd.prog 25 #[.string s] w fun e w' => e = .returned (pairV (readR (bytes s))) ∧ w.Plus w' := by
  have hNone := fun h => @readR_none (bytes s) h
  have hSome := fun st h => @readR_some (bytes s) st h
  generalize hR : pairV (readR (bytes s)) = R at *
  replace hR := Lib.hid hR
  by_cases hneg : ∃ h : 0 < s.size, s[0].toNat = 45
  · have hsg : ∀ k, sgnR (bytes s) k = wrap64 (-k) := fun k => if_pos ((head45 s).2 hneg)
    have hbare : bare (bytes s) = (bytes s).drop 1 := if_pos ((head45 s).2 hneg)
    obtain ⟨h0, hc⟩ := hneg
    obtain ⟨T, hT⟩ : ∃ T, s.extract 1 s.size = T := ⟨_, rfl⟩
    have hTb : bytes T = bare (bytes s) := by rw [← hT, extract_txt, bytes_txt, bytes_end, hbare]
    have hTz : T.size = s.size - 1 := by rw [← hT, ByteArray.size_extract]; omega
    have hlt : (T.size : Int) < s.size := by omega
    have hTs : T.size ≤ 140737488351232 := by omega
    have hc45 : ((s[0].toNat : Nat) : Int) = 45 := by omega
    have h0i : (0 : Int) < s.size := by omega
    have h1i : (1 : Int) ≤ s.size := by omega
    simp only [hsg] at hSome
    rw [← hTb] at hNone hSome
    clear hsg hbare
    replace hc := Lib.hid hc
    replace hTz := Lib.hid hTz
    replace hTb := Lib.hid hTb
    replace hNone := Lib.hid hNone
    replace hSome := Lib.hid hSome
    go_enter Tryd.func25, Tryd.ntmps25
    go_wp2_with fail
    go_loopw [5, 6, 7, 8, 9] (fun n f u p i wr => ∃ (k : Nat) (st : Rst), k ≤ T.size ∧ i = .int .i64 k ∧ n = .int .i64 st.n ∧ f = .int .i64 st.f ∧ u = .int .i64 st.u ∧ p = .bool st.p ∧ st.Ok k ∧ refGo (bytes T) 0 rst0 = refGo ((bytes T).drop k) k st ∧ w.Plus wr) (fun _ _ _ _ i _ => T.size - (intOf i).toNat)
    case atStart => exact ⟨0, rst0, Nat.zero_le _, rfl, rfl, rfl, rfl, rfl, rst0_ok, by simp, by (repeat (first | exact Plus.refl _ | apply Plus.plus | apply Plus.alloc | apply Plus.drew))⟩
    case round =>
      obtain ⟨k, ⟨n, f, u, p⟩, hk, rfl, rfl, rfl, rfl, rfl, hok, hgo, hp⟩ := hrel
      have hnb := hok.n
      have hdiv := hok.div
      simp only at hnb hdiv
      by_cases hlt : k < T.size
      · have hdr : (bytes T).drop k = T[k] :: (bytes T).drop (k + 1) := by
          rw [List.drop_eq_getElem_cons (by rw [bytes_length]; exact hlt)]
          rfl
        rw [hdr] at hgo
        simp only [refGo] at hgo
        have hcl := T[k].toNat_lt
        have h46e : T[k] = 46 ↔ T[k].toNat = 46 := ⟨fun e => by rw [e]; rfl, fun e => UInt8.toNat_inj.1 e⟩
        by_cases h46 : T[k].toNat = 46 ∧ p = false
        · obtain ⟨hc46, rfl⟩ := h46
          rw [if_pos ⟨h46e.2 hc46, rfl⟩] at hgo
          have hok2 := Lib.hid (hok.dot rfl)
          have hci : ((T[k].toNat : Nat) : Int) = 46 := by omega
          clear h46e
          replace hdr := Lib.hid hdr
          replace hgo := Lib.hid hgo
          replace hok := Lib.hid hok
          clear hdiv
          go_wp2_with fail
          go_roundw
          case rel => exact ⟨k + 1, ⟨n, f, u, true⟩, hlt, by go_num, rfl, rfl, rfl, rfl, hok2.out, hgo.out, hp⟩
          case measure => simp [intOf]; omega
        · rw [if_neg (fun h => h46 ⟨h46e.1 h.1, h.2⟩)] at hgo
          have hcb : (decide (T[k].toNat = 46) && !p) = false := by
            rw [Bool.eq_false_iff]
            intro h
            simp at h
            exact h46 h
          have hcb2 : ((((T[k].toNat : Nat) : Int) == 46) && !p) = false := by
            rw [Bool.eq_false_iff]
            intro h
            simp at h
            exact h46 ⟨by omega, h.2⟩
          have hc46 : p = false → ¬ ((T[k].toNat : Nat) : Int) = 46 := fun hpf e => h46 ⟨by omega, hpf⟩
          clear h46e
          by_cases hbad : isDig T[k] = false ∨ 16 < k
          · rw [if_pos hbad] at hgo
            have hX := Lib.hid (hNone.out hgo)
            have hb : T[k].toNat < 48 ∨ 57 < T[k].toNat ∨ 16 < k := by
              rcases hbad with h | h
              · unfold isDig at h; simp at h; omega
              · omega
            replace hbad := Lib.hid hbad
            replace hgo := Lib.hid hgo
            replace hdr := Lib.hid hdr
            replace hok := Lib.hid hok
            clear hdiv hcb hcb2 h46
            have hlo : decide (((T[k].toNat : Nat) : Int) < 48) = decide (T[k].toNat < 48) := by rw [decide_eq_decide]; omega
            have hhi : decide ((57 : Int) < ((T[k].toNat : Nat) : Int)) = decide (57 < T[k].toNat) := by rw [decide_eq_decide]; omega
            cases p with
            | false =>
              have hx := hc46 rfl
              have hx2 : (((T[k].toNat : Nat) : Int) == 46) = false := by rw [beq_eq_false_iff_ne]; exact hx
              clear hc46
              by_cases b1 : T[k].toNat < 48
              · rw [decide_eq_true b1] at hlo
                replace hhi := Lib.hid hhi
                clear hb
                go_wp2_with fail
                go_ret2
                exact ⟨congrArg Ending.returned hX.out.symm, hp⟩
              · rw [decide_eq_false b1] at hlo
                by_cases b2 : 57 < T[k].toNat
                · rw [decide_eq_true b2] at hhi
                  clear hb
                  go_wp2_with fail
                  go_ret2
                  exact ⟨congrArg Ending.returned hX.out.symm, hp⟩
                · rw [decide_eq_false b2] at hhi
                  have b3 : (16 : Int) < k := by omega
                  clear hb
                  go_wp2_with fail
                  go_ret2
                  exact ⟨congrArg Ending.returned hX.out.symm, hp⟩
            | true =>
              clear hc46
              by_cases b1 : T[k].toNat < 48
              · rw [decide_eq_true b1] at hlo
                replace hhi := Lib.hid hhi
                clear hb
                go_wp2_with fail
                all_goals go_ret2
                all_goals exact ⟨congrArg Ending.returned hX.out.symm, hp⟩
              · rw [decide_eq_false b1] at hlo
                by_cases b2 : 57 < T[k].toNat
                · rw [decide_eq_true b2] at hhi
                  clear hb
                  go_wp2_with fail
                  all_goals go_ret2
                  all_goals exact ⟨congrArg Ending.returned hX.out.symm, hp⟩
                · rw [decide_eq_false b2] at hhi
                  have b3 : (16 : Int) < k := by omega
                  clear hb
                  go_wp2_with fail
                  all_goals go_ret2
                  all_goals exact ⟨congrArg Ending.returned hX.out.symm, hp⟩
          · rw [if_neg hbad] at hgo
            have hdg : isDig T[k] = true := by
              cases h : isDig T[k]
              · exact absurd (.inl h) hbad
              · rfl
            have hk16 : k ≤ 16 := by omega
            have hbd : 48 ≤ T[k].toNat ∧ T[k].toNat ≤ 57 := by unfold isDig at hdg; simpa using hdg
            obtain ⟨d, hd1, hd2⟩ : ∃ d : Int, dv T[k] = d ∧ ((T[k].toNat : Nat) : Int) - 48 = d := ⟨_, rfl, rfl⟩
            have hd9 : 0 ≤ d ∧ d ≤ 9 := by omega
            have hlo : decide (((T[k].toNat : Nat) : Int) < 48) = false := by simp; omega
            have hhi : decide ((57 : Int) < ((T[k].toNat : Nat) : Int)) = false := by simp; omega
            have hk16b : decide ((16 : Int) < (k : Int)) = false := by simp; omega
            have hwu : IntKind.u8.wrap d = d := by rw [IntKind.wrap_u8]; omega
            rw [hd1] at hgo
            clear hbad
            cases p with
            | false =>
              rw [if_pos rfl] at hgo
              have hx := hc46 rfl
              have hx2 : (((T[k].toNat : Nat) : Int) == 46) = false := by rw [beq_eq_false_iff_ne]; exact hx
              have hok2 := hok.whole (10 * n + 256 * d)
              obtain ⟨A, hA⟩ : ∃ A, wrap64 (10 * n) = A := ⟨_, rfl⟩
              have hAb := w64_in (10 * n)
              rw [hA] at hAb
              obtain ⟨B, hB⟩ : ∃ B, wrap64 (A + 256 * d) = B := ⟨_, rfl⟩
              have hAB : wrap64 (10 * n + 256 * d) = B := by rw [← hB, ← hA]; simp only [wrap64]; omega
              rw [hAB] at hgo hok2
              clear hc46 hcb hcb2 h46 hdiv hAB
              replace hdg := Lib.hid hdg
              replace hd1 := Lib.hid hd1
              replace hgo := Lib.hid hgo
              replace hdr := Lib.hid hdr
              replace hok := Lib.hid hok
              replace hok2 := Lib.hid hok2
              go_wp2_with fail
              go_roundw
              case rel => exact ⟨k + 1, ⟨B, f, u, false⟩, hlt, by go_num, (by first | rfl | exact congrArg (Value.int .i64) hB | (exfalso; omega)), rfl, rfl, rfl, hok2.out, hgo.out, hp⟩
              case measure => simp [intOf]; omega
            | true =>
              rw [if_neg (by simp)] at hgo
              have hok2 := hok.part rfl hk16 T[k] hdg
              rw [hd1] at hok2
              obtain ⟨⟨j, b, j1, j2, j3, j4, j5, _⟩, _⟩ := hok
              have j6 := j5 rfl
              have h15 : 10 ^ j ≤ 10 ^ 15 := Nat.pow_le_pow_right (by decide) (by omega)
              simp only at j1 j2
              have hfb : 0 ≤ f ∧ f ≤ 256000000000000000 := by omega
              have hub : 0 ≤ u ∧ u ≤ 256000000000000000 := by generalize 10 ^ j = x at *; omega
              have hw1 : wrap64 (10 * f + d * 256) = 10 * f + d * 256 := w64_id (by omega) (by omega)
              have hw2 : wrap64 (u * 10) = u * 10 := w64_id (by omega) (by omega)
              simp only at hgo hok2
              rw [hw1, hw2] at hgo hok2
              clear hc46 hcb hcb2 h46 hdiv hw1 hw2 j1 j2 j3 j4 j5 j6 h15
              replace hdg := Lib.hid hdg
              replace hd1 := Lib.hid hd1
              replace hgo := Lib.hid hgo
              replace hdr := Lib.hid hdr
              replace hok2 := Lib.hid hok2
              go_wp2_with fail
              all_goals go_roundw
              all_goals first
                | exact ⟨k + 1, ⟨n, 10 * f + d * 256, u * 10, true⟩, hlt, by go_num, rfl, rfl, rfl, rfl, hok2.out, hgo.out, hp⟩
                | (simp [intOf]; omega)
      · have hke : k = T.size := by omega
        have hdr : (bytes T).drop k = [] := List.drop_eq_nil_of_le (by rw [bytes_length]; omega)
        rw [hdr] at hgo
        simp only [refGo] at hgo
        have hSome' := hSome.out _ hgo
        simp only at hSome'
        replace hke := Lib.hid hke
        replace hdr := Lib.hid hdr
        replace hgo := Lib.hid hgo
        replace hok := Lib.hid hok
        by_cases hmax : 1073741824 < n
        · rw [if_pos hmax] at hSome'
          have hX := Lib.hid hSome'
          clear hSome' hdiv
          go_wp2_with fail
          go_ret2
          exact ⟨congrArg Ending.returned hX.out.symm, hp⟩
        · rw [if_neg hmax] at hSome'
          obtain ⟨uu, huu⟩ : ∃ uu, u / 256 = uu := ⟨_, rfl⟩
          rw [huu] at hdiv
          obtain ⟨e, he⟩ : ∃ e, f / uu = e := ⟨_, rfl⟩
          rw [he] at hdiv
          obtain ⟨m, hm⟩ : ∃ m, n + e = m := ⟨_, rfl⟩
          have hvR : valR ⟨n, f, u, p⟩ = m := by unfold valR; simp only; rw [huu, he, hm]
          rw [hvR] at hSome'
          have hu0 : (uu == 0) = false := by rw [beq_eq_false_iff_ne]; omega
          have hu1 : ¬ uu = 0 := by omega
          obtain ⟨v, hv⟩ : ∃ v, wrap64 (-m) = v := ⟨_, rfl⟩
          rw [hv] at hSome'
          have hSh := Lib.hid (fun w => ref_show_any w v)
          by_cases heq : showL v = bytes s
          · rw [if_pos heq] at hSome'
            have hX := Lib.hid hSome'
            have hc1 : ((txt (showL v)).toList == s.toList) = true := by rw [eq_bytes, decide_eq_true_iff, heq, txt_bytes]
            have hc2 : ((txt (showL v)).toList != s.toList) = false := by rw [bne, hc1]; rfl
            replace heq := Lib.hid heq
            clear hSome' hvR
            generalize txt (showL v) = X at *
            go_wp2_with (first | (go_at_call 23; (with_reducible refine (hSh.out _).mono ?_); rintro e w' ⟨rfl, ex, rfl⟩))
            go_ret2
            exact ⟨congrArg Ending.returned hX.out.symm, Plus.trans hp (by (repeat (first | exact Plus.refl _ | apply Plus.plus | apply Plus.alloc | apply Plus.drew)))⟩
          · rw [if_neg heq] at hSome'
            have hX := Lib.hid hSome'
            have hc1 : ((txt (showL v)).toList == s.toList) = false := by
              rw [eq_bytes, decide_eq_false_iff_not]
              intro e
              exact heq (by rw [← e, bytes_txt])
            have hc2 : ((txt (showL v)).toList != s.toList) = true := by rw [bne, hc1]; rfl
            replace heq := Lib.hid heq
            clear hSome' hvR
            generalize txt (showL v) = X at *
            go_wp2_with (first | (go_at_call 23; (with_reducible refine (hSh.out _).mono ?_); rintro e w' ⟨rfl, ex, rfl⟩))
            go_ret2
            exact ⟨congrArg Ending.returned hX.out.symm, Plus.trans hp (by (repeat (first | exact Plus.refl _ | apply Plus.plus | apply Plus.alloc | apply Plus.drew)))⟩

  · have hsg : ∀ k, sgnR (bytes s) k = k := fun k => if_neg (fun h => hneg ((head45 s).1 h))
    have hbare : bare (bytes s) = bytes s := if_neg (fun h => hneg ((head45 s).1 h))
    simp only [hsg] at hSome
    rw [hbare] at hNone hSome
    replace hNone := Lib.hid hNone
    replace hSome := Lib.hid hSome
    have hnb : ¬ ∃ h : 0 < s.size, s[0].toNat = 45 := hneg
    replace hneg := Lib.hid hneg
    clear hsg hbare
    by_cases h0 : 0 < s.size
    · have hc : ¬ ((s[0].toNat : Nat) : Int) = 45 := fun e => hnb ⟨h0, by omega⟩
      have hc2 : (((s[0].toNat : Nat) : Int) == 45) = false := by rw [beq_eq_false_iff_ne]; exact hc
      replace hnb := Lib.hid hnb
      go_enter Tryd.func25, Tryd.ntmps25
      go_wp2_with fail
      go_loopw [5, 6, 7, 8, 9] (fun n f u p i wr => ∃ (k : Nat) (st : Rst), k ≤ s.size ∧ i = .int .i64 k ∧ n = .int .i64 st.n ∧ f = .int .i64 st.f ∧ u = .int .i64 st.u ∧ p = .bool st.p ∧ st.Ok k ∧ refGo (bytes s) 0 rst0 = refGo ((bytes s).drop k) k st ∧ w.Plus wr) (fun _ _ _ _ i _ => s.size - (intOf i).toNat)
      case atStart => exact ⟨0, rst0, Nat.zero_le _, rfl, rfl, rfl, rfl, rfl, rst0_ok, by simp, by (repeat (first | exact Plus.refl _ | apply Plus.plus | apply Plus.alloc | apply Plus.drew))⟩
      case round =>
        obtain ⟨k, ⟨n, f, u, p⟩, hk, rfl, rfl, rfl, rfl, rfl, hok, hgo, hp⟩ := hrel
        have hnb := hok.n
        have hdiv := hok.div
        simp only at hnb hdiv
        by_cases hlt : k < s.size
        · have hdr : (bytes s).drop k = s[k] :: (bytes s).drop (k + 1) := by
            rw [List.drop_eq_getElem_cons (by rw [bytes_length]; exact hlt)]
            rfl
          rw [hdr] at hgo
          simp only [refGo] at hgo
          have hcl := s[k].toNat_lt
          have h46e : s[k] = 46 ↔ s[k].toNat = 46 := ⟨fun e => by rw [e]; rfl, fun e => UInt8.toNat_inj.1 e⟩
          by_cases h46 : s[k].toNat = 46 ∧ p = false
          · obtain ⟨hc46, rfl⟩ := h46
            rw [if_pos ⟨h46e.2 hc46, rfl⟩] at hgo
            have hok2 := Lib.hid (hok.dot rfl)
            have hci : ((s[k].toNat : Nat) : Int) = 46 := by omega
            clear h46e
            replace hdr := Lib.hid hdr
            replace hgo := Lib.hid hgo
            replace hok := Lib.hid hok
            clear hdiv
            go_wp2_with fail
            go_roundw
            case rel => exact ⟨k + 1, ⟨n, f, u, true⟩, hlt, by go_num, rfl, rfl, rfl, rfl, hok2.out, hgo.out, hp⟩
            case measure => simp [intOf]; omega
          · rw [if_neg (fun h => h46 ⟨h46e.1 h.1, h.2⟩)] at hgo
            have hcb : (decide (s[k].toNat = 46) && !p) = false := by
              rw [Bool.eq_false_iff]
              intro h
              simp at h
              exact h46 h
            have hcb2 : ((((s[k].toNat : Nat) : Int) == 46) && !p) = false := by
              rw [Bool.eq_false_iff]
              intro h
              simp at h
              exact h46 ⟨by omega, h.2⟩
            have hc46 : p = false → ¬ ((s[k].toNat : Nat) : Int) = 46 := fun hpf e => h46 ⟨by omega, hpf⟩
            clear h46e
            by_cases hbad : isDig s[k] = false ∨ 16 < k
            · rw [if_pos hbad] at hgo
              have hX := Lib.hid (hNone.out hgo)
              have hb : s[k].toNat < 48 ∨ 57 < s[k].toNat ∨ 16 < k := by
                rcases hbad with h | h
                · unfold isDig at h; simp at h; omega
                · omega
              replace hbad := Lib.hid hbad
              replace hgo := Lib.hid hgo
              replace hdr := Lib.hid hdr
              replace hok := Lib.hid hok
              clear hdiv hcb hcb2 h46
              have hlo : decide (((s[k].toNat : Nat) : Int) < 48) = decide (s[k].toNat < 48) := by rw [decide_eq_decide]; omega
              have hhi : decide ((57 : Int) < ((s[k].toNat : Nat) : Int)) = decide (57 < s[k].toNat) := by rw [decide_eq_decide]; omega
              cases p with
              | false =>
                have hx := hc46 rfl
                have hx2 : (((s[k].toNat : Nat) : Int) == 46) = false := by rw [beq_eq_false_iff_ne]; exact hx
                clear hc46
                by_cases b1 : s[k].toNat < 48
                · rw [decide_eq_true b1] at hlo
                  replace hhi := Lib.hid hhi
                  clear hb
                  go_wp2_with fail
                  go_ret2
                  exact ⟨congrArg Ending.returned hX.out.symm, hp⟩
                · rw [decide_eq_false b1] at hlo
                  by_cases b2 : 57 < s[k].toNat
                  · rw [decide_eq_true b2] at hhi
                    clear hb
                    go_wp2_with fail
                    go_ret2
                    exact ⟨congrArg Ending.returned hX.out.symm, hp⟩
                  · rw [decide_eq_false b2] at hhi
                    have b3 : (16 : Int) < k := by omega
                    clear hb
                    go_wp2_with fail
                    go_ret2
                    exact ⟨congrArg Ending.returned hX.out.symm, hp⟩
              | true =>
                clear hc46
                by_cases b1 : s[k].toNat < 48
                · rw [decide_eq_true b1] at hlo
                  replace hhi := Lib.hid hhi
                  clear hb
                  go_wp2_with fail
                  all_goals go_ret2
                  all_goals exact ⟨congrArg Ending.returned hX.out.symm, hp⟩
                · rw [decide_eq_false b1] at hlo
                  by_cases b2 : 57 < s[k].toNat
                  · rw [decide_eq_true b2] at hhi
                    clear hb
                    go_wp2_with fail
                    all_goals go_ret2
                    all_goals exact ⟨congrArg Ending.returned hX.out.symm, hp⟩
                  · rw [decide_eq_false b2] at hhi
                    have b3 : (16 : Int) < k := by omega
                    clear hb
                    go_wp2_with fail
                    all_goals go_ret2
                    all_goals exact ⟨congrArg Ending.returned hX.out.symm, hp⟩
            · rw [if_neg hbad] at hgo
              have hdg : isDig s[k] = true := by
                cases h : isDig s[k]
                · exact absurd (.inl h) hbad
                · rfl
              have hk16 : k ≤ 16 := by omega
              have hbd : 48 ≤ s[k].toNat ∧ s[k].toNat ≤ 57 := by unfold isDig at hdg; simpa using hdg
              obtain ⟨d, hd1, hd2⟩ : ∃ d : Int, dv s[k] = d ∧ ((s[k].toNat : Nat) : Int) - 48 = d := ⟨_, rfl, rfl⟩
              have hd9 : 0 ≤ d ∧ d ≤ 9 := by omega
              have hlo : decide (((s[k].toNat : Nat) : Int) < 48) = false := by simp; omega
              have hhi : decide ((57 : Int) < ((s[k].toNat : Nat) : Int)) = false := by simp; omega
              have hk16b : decide ((16 : Int) < (k : Int)) = false := by simp; omega
              have hwu : IntKind.u8.wrap d = d := by rw [IntKind.wrap_u8]; omega
              rw [hd1] at hgo
              clear hbad
              cases p with
              | false =>
                rw [if_pos rfl] at hgo
                have hx := hc46 rfl
                have hx2 : (((s[k].toNat : Nat) : Int) == 46) = false := by rw [beq_eq_false_iff_ne]; exact hx
                have hok2 := hok.whole (10 * n + 256 * d)
                obtain ⟨A, hA⟩ : ∃ A, wrap64 (10 * n) = A := ⟨_, rfl⟩
                have hAb := w64_in (10 * n)
                rw [hA] at hAb
                obtain ⟨B, hB⟩ : ∃ B, wrap64 (A + 256 * d) = B := ⟨_, rfl⟩
                have hAB : wrap64 (10 * n + 256 * d) = B := by rw [← hB, ← hA]; simp only [wrap64]; omega
                rw [hAB] at hgo hok2
                clear hc46 hcb hcb2 h46 hdiv hAB
                replace hdg := Lib.hid hdg
                replace hd1 := Lib.hid hd1
                replace hgo := Lib.hid hgo
                replace hdr := Lib.hid hdr
                replace hok := Lib.hid hok
                replace hok2 := Lib.hid hok2
                go_wp2_with fail
                go_roundw
                case rel => exact ⟨k + 1, ⟨B, f, u, false⟩, hlt, by go_num, (by first | rfl | exact congrArg (Value.int .i64) hB | (exfalso; omega)), rfl, rfl, rfl, hok2.out, hgo.out, hp⟩
                case measure => simp [intOf]; omega
              | true =>
                rw [if_neg (by simp)] at hgo
                have hok2 := hok.part rfl hk16 s[k] hdg
                rw [hd1] at hok2
                obtain ⟨⟨j, b, j1, j2, j3, j4, j5, _⟩, _⟩ := hok
                have j6 := j5 rfl
                have h15 : 10 ^ j ≤ 10 ^ 15 := Nat.pow_le_pow_right (by decide) (by omega)
                simp only at j1 j2
                have hfb : 0 ≤ f ∧ f ≤ 256000000000000000 := by omega
                have hub : 0 ≤ u ∧ u ≤ 256000000000000000 := by generalize 10 ^ j = x at *; omega
                have hw1 : wrap64 (10 * f + d * 256) = 10 * f + d * 256 := w64_id (by omega) (by omega)
                have hw2 : wrap64 (u * 10) = u * 10 := w64_id (by omega) (by omega)
                simp only at hgo hok2
                rw [hw1, hw2] at hgo hok2
                clear hc46 hcb hcb2 h46 hdiv hw1 hw2 j1 j2 j3 j4 j5 j6 h15
                replace hdg := Lib.hid hdg
                replace hd1 := Lib.hid hd1
                replace hgo := Lib.hid hgo
                replace hdr := Lib.hid hdr
                replace hok2 := Lib.hid hok2
                go_wp2_with fail
                all_goals go_roundw
                all_goals first
                  | exact ⟨k + 1, ⟨n, 10 * f + d * 256, u * 10, true⟩, hlt, by go_num, rfl, rfl, rfl, rfl, hok2.out, hgo.out, hp⟩
                  | (simp [intOf]; omega)
        · have hke : k = s.size := by omega
          have hdr : (bytes s).drop k = [] := List.drop_eq_nil_of_le (by rw [bytes_length]; omega)
          rw [hdr] at hgo
          simp only [refGo] at hgo
          have hSome' := hSome.out _ hgo
          simp only at hSome'
          replace hke := Lib.hid hke
          replace hdr := Lib.hid hdr
          replace hgo := Lib.hid hgo
          replace hok := Lib.hid hok
          by_cases hmax : 1073741824 < n
          · rw [if_pos hmax] at hSome'
            have hX := Lib.hid hSome'
            clear hSome' hdiv
            go_wp2_with fail
            go_ret2
            exact ⟨congrArg Ending.returned hX.out.symm, hp⟩
          · rw [if_neg hmax] at hSome'
            obtain ⟨uu, huu⟩ : ∃ uu, u / 256 = uu := ⟨_, rfl⟩
            rw [huu] at hdiv
            obtain ⟨e, he⟩ : ∃ e, f / uu = e := ⟨_, rfl⟩
            rw [he] at hdiv
            obtain ⟨m, hm⟩ : ∃ m, n + e = m := ⟨_, rfl⟩
            have hvR : valR ⟨n, f, u, p⟩ = m := by unfold valR; simp only; rw [huu, he, hm]
            rw [hvR] at hSome'
            have hu0 : (uu == 0) = false := by rw [beq_eq_false_iff_ne]; omega
            have hu1 : ¬ uu = 0 := by omega
            obtain ⟨v, hv⟩ : ∃ v, m = v := ⟨_, rfl⟩
            rw [hv] at hSome'
            have hSh := Lib.hid (fun w => ref_show_any w v)
            by_cases heq : showL v = bytes s
            · rw [if_pos heq] at hSome'
              have hX := Lib.hid hSome'
              have hc1 : ((txt (showL v)).toList == s.toList) = true := by rw [eq_bytes, decide_eq_true_iff, heq, txt_bytes]
              have hc2 : ((txt (showL v)).toList != s.toList) = false := by rw [bne, hc1]; rfl
              replace heq := Lib.hid heq
              clear hSome' hvR
              generalize txt (showL v) = X at *
              go_wp2_with (first | (go_at_call 23; (with_reducible refine (hSh.out _).mono ?_); rintro e w' ⟨rfl, ex, rfl⟩))
              go_ret2
              exact ⟨congrArg Ending.returned hX.out.symm, Plus.trans hp (by (repeat (first | exact Plus.refl _ | apply Plus.plus | apply Plus.alloc | apply Plus.drew)))⟩
            · rw [if_neg heq] at hSome'
              have hX := Lib.hid hSome'
              have hc1 : ((txt (showL v)).toList == s.toList) = false := by
                rw [eq_bytes, decide_eq_false_iff_not]
                intro e
                exact heq (by rw [← e, bytes_txt])
              have hc2 : ((txt (showL v)).toList != s.toList) = true := by rw [bne, hc1]; rfl
              replace heq := Lib.hid heq
              clear hSome' hvR
              generalize txt (showL v) = X at *
              go_wp2_with (first | (go_at_call 23; (with_reducible refine (hSh.out _).mono ?_); rintro e w' ⟨rfl, ex, rfl⟩))
              go_ret2
              exact ⟨congrArg Ending.returned hX.out.symm, Plus.trans hp (by (repeat (first | exact Plus.refl _ | apply Plus.plus | apply Plus.alloc | apply Plus.drew)))⟩

    · replace hnb := Lib.hid hnb
      go_enter Tryd.func25, Tryd.ntmps25
      go_wp2_with fail
      go_loopw [5, 6, 7, 8, 9] (fun n f u p i wr => ∃ (k : Nat) (st : Rst), k ≤ s.size ∧ i = .int .i64 k ∧ n = .int .i64 st.n ∧ f = .int .i64 st.f ∧ u = .int .i64 st.u ∧ p = .bool st.p ∧ st.Ok k ∧ refGo (bytes s) 0 rst0 = refGo ((bytes s).drop k) k st ∧ w.Plus wr) (fun _ _ _ _ i _ => s.size - (intOf i).toNat)
      case atStart => exact ⟨0, rst0, Nat.zero_le _, rfl, rfl, rfl, rfl, rfl, rst0_ok, by simp, by (repeat (first | exact Plus.refl _ | apply Plus.plus | apply Plus.alloc | apply Plus.drew))⟩
      case round =>
        obtain ⟨k, ⟨n, f, u, p⟩, hk, rfl, rfl, rfl, rfl, rfl, hok, hgo, hp⟩ := hrel
        have hnb := hok.n
        have hdiv := hok.div
        simp only at hnb hdiv
        by_cases hlt : k < s.size
        · have hdr : (bytes s).drop k = s[k] :: (bytes s).drop (k + 1) := by
            rw [List.drop_eq_getElem_cons (by rw [bytes_length]; exact hlt)]
            rfl
          rw [hdr] at hgo
          simp only [refGo] at hgo
          have hcl := s[k].toNat_lt
          have h46e : s[k] = 46 ↔ s[k].toNat = 46 := ⟨fun e => by rw [e]; rfl, fun e => UInt8.toNat_inj.1 e⟩
          by_cases h46 : s[k].toNat = 46 ∧ p = false
          · obtain ⟨hc46, rfl⟩ := h46
            rw [if_pos ⟨h46e.2 hc46, rfl⟩] at hgo
            have hok2 := Lib.hid (hok.dot rfl)
            have hci : ((s[k].toNat : Nat) : Int) = 46 := by omega
            clear h46e
            replace hdr := Lib.hid hdr
            replace hgo := Lib.hid hgo
            replace hok := Lib.hid hok
            clear hdiv
            go_wp2_with fail
            go_roundw
            case rel => exact ⟨k + 1, ⟨n, f, u, true⟩, hlt, by go_num, rfl, rfl, rfl, rfl, hok2.out, hgo.out, hp⟩
            case measure => simp [intOf]; omega
          · rw [if_neg (fun h => h46 ⟨h46e.1 h.1, h.2⟩)] at hgo
            have hcb : (decide (s[k].toNat = 46) && !p) = false := by
              rw [Bool.eq_false_iff]
              intro h
              simp at h
              exact h46 h
            have hcb2 : ((((s[k].toNat : Nat) : Int) == 46) && !p) = false := by
              rw [Bool.eq_false_iff]
              intro h
              simp at h
              exact h46 ⟨by omega, h.2⟩
            have hc46 : p = false → ¬ ((s[k].toNat : Nat) : Int) = 46 := fun hpf e => h46 ⟨by omega, hpf⟩
            clear h46e
            by_cases hbad : isDig s[k] = false ∨ 16 < k
            · rw [if_pos hbad] at hgo
              have hX := Lib.hid (hNone.out hgo)
              have hb : s[k].toNat < 48 ∨ 57 < s[k].toNat ∨ 16 < k := by
                rcases hbad with h | h
                · unfold isDig at h; simp at h; omega
                · omega
              replace hbad := Lib.hid hbad
              replace hgo := Lib.hid hgo
              replace hdr := Lib.hid hdr
              replace hok := Lib.hid hok
              clear hdiv hcb hcb2 h46
              have hlo : decide (((s[k].toNat : Nat) : Int) < 48) = decide (s[k].toNat < 48) := by rw [decide_eq_decide]; omega
              have hhi : decide ((57 : Int) < ((s[k].toNat : Nat) : Int)) = decide (57 < s[k].toNat) := by rw [decide_eq_decide]; omega
              cases p with
              | false =>
                have hx := hc46 rfl
                have hx2 : (((s[k].toNat : Nat) : Int) == 46) = false := by rw [beq_eq_false_iff_ne]; exact hx
                clear hc46
                by_cases b1 : s[k].toNat < 48
                · rw [decide_eq_true b1] at hlo
                  replace hhi := Lib.hid hhi
                  clear hb
                  go_wp2_with fail
                  go_ret2
                  exact ⟨congrArg Ending.returned hX.out.symm, hp⟩
                · rw [decide_eq_false b1] at hlo
                  by_cases b2 : 57 < s[k].toNat
                  · rw [decide_eq_true b2] at hhi
                    clear hb
                    go_wp2_with fail
                    go_ret2
                    exact ⟨congrArg Ending.returned hX.out.symm, hp⟩
                  · rw [decide_eq_false b2] at hhi
                    have b3 : (16 : Int) < k := by omega
                    clear hb
                    go_wp2_with fail
                    go_ret2
                    exact ⟨congrArg Ending.returned hX.out.symm, hp⟩
              | true =>
                clear hc46
                by_cases b1 : s[k].toNat < 48
                · rw [decide_eq_true b1] at hlo
                  replace hhi := Lib.hid hhi
                  clear hb
                  go_wp2_with fail
                  all_goals go_ret2
                  all_goals exact ⟨congrArg Ending.returned hX.out.symm, hp⟩
                · rw [decide_eq_false b1] at hlo
                  by_cases b2 : 57 < s[k].toNat
                  · rw [decide_eq_true b2] at hhi
                    clear hb
                    go_wp2_with fail
                    all_goals go_ret2
                    all_goals exact ⟨congrArg Ending.returned hX.out.symm, hp⟩
                  · rw [decide_eq_false b2] at hhi
                    have b3 : (16 : Int) < k := by omega
                    clear hb
                    go_wp2_with fail
                    all_goals go_ret2
                    all_goals exact ⟨congrArg Ending.returned hX.out.symm, hp⟩
            · rw [if_neg hbad] at hgo
              have hdg : isDig s[k] = true := by
                cases h : isDig s[k]
                · exact absurd (.inl h) hbad
                · rfl
              have hk16 : k ≤ 16 := by omega
              have hbd : 48 ≤ s[k].toNat ∧ s[k].toNat ≤ 57 := by unfold isDig at hdg; simpa using hdg
              obtain ⟨d, hd1, hd2⟩ : ∃ d : Int, dv s[k] = d ∧ ((s[k].toNat : Nat) : Int) - 48 = d := ⟨_, rfl, rfl⟩
              have hd9 : 0 ≤ d ∧ d ≤ 9 := by omega
              have hlo : decide (((s[k].toNat : Nat) : Int) < 48) = false := by simp; omega
              have hhi : decide ((57 : Int) < ((s[k].toNat : Nat) : Int)) = false := by simp; omega
              have hk16b : decide ((16 : Int) < (k : Int)) = false := by simp; omega
              have hwu : IntKind.u8.wrap d = d := by rw [IntKind.wrap_u8]; omega
              rw [hd1] at hgo
              clear hbad
              cases p with
              | false =>
                rw [if_pos rfl] at hgo
                have hx := hc46 rfl
                have hx2 : (((s[k].toNat : Nat) : Int) == 46) = false := by rw [beq_eq_false_iff_ne]; exact hx
                have hok2 := hok.whole (10 * n + 256 * d)
                obtain ⟨A, hA⟩ : ∃ A, wrap64 (10 * n) = A := ⟨_, rfl⟩
                have hAb := w64_in (10 * n)
                rw [hA] at hAb
                obtain ⟨B, hB⟩ : ∃ B, wrap64 (A + 256 * d) = B := ⟨_, rfl⟩
                have hAB : wrap64 (10 * n + 256 * d) = B := by rw [← hB, ← hA]; simp only [wrap64]; omega
                rw [hAB] at hgo hok2
                clear hc46 hcb hcb2 h46 hdiv hAB
                replace hdg := Lib.hid hdg
                replace hd1 := Lib.hid hd1
                replace hgo := Lib.hid hgo
                replace hdr := Lib.hid hdr
                replace hok := Lib.hid hok
                replace hok2 := Lib.hid hok2
                go_wp2_with fail
                go_roundw
                case rel => exact ⟨k + 1, ⟨B, f, u, false⟩, hlt, by go_num, (by first | rfl | exact congrArg (Value.int .i64) hB | (exfalso; omega)), rfl, rfl, rfl, hok2.out, hgo.out, hp⟩
                case measure => simp [intOf]; omega
              | true =>
                rw [if_neg (by simp)] at hgo
                have hok2 := hok.part rfl hk16 s[k] hdg
                rw [hd1] at hok2
                obtain ⟨⟨j, b, j1, j2, j3, j4, j5, _⟩, _⟩ := hok
                have j6 := j5 rfl
                have h15 : 10 ^ j ≤ 10 ^ 15 := Nat.pow_le_pow_right (by decide) (by omega)
                simp only at j1 j2
                have hfb : 0 ≤ f ∧ f ≤ 256000000000000000 := by omega
                have hub : 0 ≤ u ∧ u ≤ 256000000000000000 := by generalize 10 ^ j = x at *; omega
                have hw1 : wrap64 (10 * f + d * 256) = 10 * f + d * 256 := w64_id (by omega) (by omega)
                have hw2 : wrap64 (u * 10) = u * 10 := w64_id (by omega) (by omega)
                simp only at hgo hok2
                rw [hw1, hw2] at hgo hok2
                clear hc46 hcb hcb2 h46 hdiv hw1 hw2 j1 j2 j3 j4 j5 j6 h15
                replace hdg := Lib.hid hdg
                replace hd1 := Lib.hid hd1
                replace hgo := Lib.hid hgo
                replace hdr := Lib.hid hdr
                replace hok2 := Lib.hid hok2
                go_wp2_with fail
                all_goals go_roundw
                all_goals first
                  | exact ⟨k + 1, ⟨n, 10 * f + d * 256, u * 10, true⟩, hlt, by go_num, rfl, rfl, rfl, rfl, hok2.out, hgo.out, hp⟩
                  | (simp [intOf]; omega)
        · have hke : k = s.size := by omega
          have hdr : (bytes s).drop k = [] := List.drop_eq_nil_of_le (by rw [bytes_length]; omega)
          rw [hdr] at hgo
          simp only [refGo] at hgo
          have hSome' := hSome.out _ hgo
          simp only at hSome'
          replace hke := Lib.hid hke
          replace hdr := Lib.hid hdr
          replace hgo := Lib.hid hgo
          replace hok := Lib.hid hok
          by_cases hmax : 1073741824 < n
          · rw [if_pos hmax] at hSome'
            have hX := Lib.hid hSome'
            clear hSome' hdiv
            go_wp2_with fail
            go_ret2
            exact ⟨congrArg Ending.returned hX.out.symm, hp⟩
          · rw [if_neg hmax] at hSome'
            obtain ⟨uu, huu⟩ : ∃ uu, u / 256 = uu := ⟨_, rfl⟩
            rw [huu] at hdiv
            obtain ⟨e, he⟩ : ∃ e, f / uu = e := ⟨_, rfl⟩
            rw [he] at hdiv
            obtain ⟨m, hm⟩ : ∃ m, n + e = m := ⟨_, rfl⟩
            have hvR : valR ⟨n, f, u, p⟩ = m := by unfold valR; simp only; rw [huu, he, hm]
            rw [hvR] at hSome'
            have hu0 : (uu == 0) = false := by rw [beq_eq_false_iff_ne]; omega
            have hu1 : ¬ uu = 0 := by omega
            obtain ⟨v, hv⟩ : ∃ v, m = v := ⟨_, rfl⟩
            rw [hv] at hSome'
            have hSh := Lib.hid (fun w => ref_show_any w v)
            by_cases heq : showL v = bytes s
            · rw [if_pos heq] at hSome'
              have hX := Lib.hid hSome'
              have hc1 : ((txt (showL v)).toList == s.toList) = true := by rw [eq_bytes, decide_eq_true_iff, heq, txt_bytes]
              have hc2 : ((txt (showL v)).toList != s.toList) = false := by rw [bne, hc1]; rfl
              replace heq := Lib.hid heq
              clear hSome' hvR
              generalize txt (showL v) = X at *
              go_wp2_with (first | (go_at_call 23; (with_reducible refine (hSh.out _).mono ?_); rintro e w' ⟨rfl, ex, rfl⟩))
              go_ret2
              exact ⟨congrArg Ending.returned hX.out.symm, Plus.trans hp (by (repeat (first | exact Plus.refl _ | apply Plus.plus | apply Plus.alloc | apply Plus.drew)))⟩
            · rw [if_neg heq] at hSome'
              have hX := Lib.hid hSome'
              have hc1 : ((txt (showL v)).toList == s.toList) = false := by
                rw [eq_bytes, decide_eq_false_iff_not]
                intro e
                exact heq (by rw [← e, bytes_txt])
              have hc2 : ((txt (showL v)).toList != s.toList) = true := by rw [bne, hc1]; rfl
              replace heq := Lib.hid heq
              clear hSome' hvR
              generalize txt (showL v) = X at *
              go_wp2_with (first | (go_at_call 23; (with_reducible refine (hSh.out _).mono ?_); rintro e w' ⟨rfl, ex, rfl⟩))
              go_ret2
              exact ⟨congrArg Ending.returned hX.out.symm, Plus.trans hp (by (repeat (first | exact Plus.refl _ | apply Plus.plus | apply Plus.alloc | apply Plus.drew)))⟩

end Go.Proofs.YtndbcjgbcplgcaaDoor
