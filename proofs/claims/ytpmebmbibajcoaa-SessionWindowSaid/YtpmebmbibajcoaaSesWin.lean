/- SessionWindow: walk. -/
import Derived.Test.YtpmebmbibajcoaaSesD
import Derived.Deep.CutBlock
set_option linter.unusedSimpArgs false
set_option linter.unusedVariables false
namespace Go.Proofs.Ytpmebmbibajcoaa
open Go.RowKit
theorem rem50 (n : Int) : ∃ (t : Int) (m : Nat), n.tmod 50 = t ∧ wrap64 (t + 50) = t + 50 ∧ IntKind.i64.wrap (t + 50) = t + 50 ∧ (t + 50).tmod 50 = (m : Int) ∧ m < 50 ∧ -50 < t ∧ t < 50 := by
  have h1 := Int.emod_nonneg n (show (50 : Int) ≠ 0 by decide)
  have h2 := Int.tmod_lt_of_pos n (show (0 : Int) < 50 by decide)
  have h3 : -50 < n.tmod 50 := by
    have := Int.tmod_lt_of_pos (-n) (show (0 : Int) < 50 by decide)
    rw [Int.neg_tmod] at this
    omega
  refine ⟨n.tmod 50, ((n.tmod 50 + 50) % 50).toNat, rfl, w64_id (by omega) (by omega), wrap_id (by omega) (by omega), ?_, by omega, h3, h2⟩
  rw [Int.tmod_eq_emod_of_nonneg (by omega)]
  omega
abbrev cw (ws : List ByteArray) (b : Bool) : Ch := ⟨3, 7, 1, ws, 0, true, b⟩
theorem postsL_empty : postsL (cw [] true) = [⟨3, 7, 0, 0, ⟨#[]⟩⟩] := rfl
theorem postsL_text (f : Int) (ws : List ByteArray) (b : Bool) (h : 0 < ws.length) : postsL ⟨3, 7, f, ws, 0, true, b⟩ = textPs ⟨3, 7, f, ws, 0, true, false⟩ (min ws.length 8) := by
  unfold postsL postK
  simp only
  have h7 : ¬ ((7 : Int) = 0) := by decide
  rw [if_neg h7, if_neg (by omega)]
  rfl
theorem postsL_none (f : Int) : postsL ⟨3, 7, f, [], 0, true, false⟩ = [] := rfl
theorem textPs_get (c : Ch) (m k : Nat) (h : k < m) : (textPs c m).getD k po0 = textP c k := by
  unfold textPs
  rw [List.getD_eq_getElem?_getD, List.getElem?_map, List.getElem?_range h]
  rfl
theorem hear_ack (ws : List ByteArray) (a n : Nat) (ha : a < 50) (hn : n = min a ws.length) : hear (cw ws false) ⟨7, 3, a, 0, ⟨#[]⟩⟩ = (hd0, 0, ⟨3, 7, 1 + n, ws.drop n, 0, true, false⟩) := by
  have hk : okPost ⟨7, 3, a, 0, ⟨#[]⟩⟩ = true := by
    have h0 : (⟨#[]⟩ : ByteArray).size = 0 := rfl
    unfold okPost inT
    simp [h0]
    omega
  have e1 : ch1 (cw ws false) ⟨7, 3, a, 0, ⟨#[]⟩⟩ = cw ws false := if_neg (by simp)
  have e2 : ch2 (cw ws false) ⟨7, 3, a, 0, ⟨#[]⟩⟩ = cw ws false := by unfold ch2; rw [e1]; simp
  have e3 : ch3 (cw ws false) ⟨7, 3, a, 0, ⟨#[]⟩⟩ = cw ws false := by unfold ch3; rw [e2]
  have eN : hearN (cw ws false) ⟨7, 3, a, 0, ⟨#[]⟩⟩ = (n : Int) := by unfold hearN; simp only; omega
  have e4 : ch4 (cw ws false) ⟨7, 3, a, 0, ⟨#[]⟩⟩ = ⟨3, 7, 1 + n, ws.drop n, 0, true, false⟩ := by
    unfold ch4
    rw [e3, eN]
    by_cases h0 : n = 0
    · subst h0
      rw [if_neg (by omega)]
      rfl
    · rw [if_pos (by omega), Int.toNat_natCast]
  unfold hear
  rw [if_neg (by rw [hk]; simp), if_neg (by simp), if_neg (by simp), if_neg (by simp)]
  rw [e4]
  simp
theorem src_str (wx : World) (y : ByteArray) {n : Nat} (hn : n = wx.heap.size) : Src Try.prog 1 22 (.slice (some ⟨n, 0, none⟩) 1 1) 1 [.string y] (wx.alloc (.cells #[.string y] 9)) := by
  subst hn
  exact src_strs (one_row wx y) 1
set_option maxRecDepth 100000 in
set_option maxHeartbeats 4000000 in
theorem window_any (xs : List ByteArray) (A : Option Addr) (cp : Nat) (ack : Int) (w : World) (hn : xs.length ≤ 140737488351232) (hr : RowsAt w A 1 xs.length (strAt xs)) :
    Calls Try.prog 3 #[.slice A xs.length cp, .int .i64 ack] w fun e w' => e = .returned (.bool true) ∧ w.Plus w' := by
  have hN := Lib.hid (fun w' (p : w.Plus w') => new_O (Own.nil p) 3 (by decide))
  obtain ⟨t1, a, r1, r2, r3, r4, ha, ht1, ht2⟩ := rem50 ack
  obtain ⟨i0, hi0, hz0, hz1, hz2⟩ := info_parts infoStr
  replace hi0 := Lib.hid hi0
  replace hz0 := Lib.hid hz0
  replace hz1 := Lib.hid hz1
  replace hz2 := Lib.hid hz2
  replace hr := Lib.hid hr
  go_enter Try.func3, Try.ntmps3
  go_upto_region 4 with (go_at_call 11; (with_reducible refine (hN.out _ (by (repeat (first | exact Plus.refl _ | apply Plus.plus | apply Plus.alloc | apply Plus.drew)))).mono ?_); rintro e w1 ⟨N1, rfl, O1⟩)
  have k1 := hear_O O1 ⟨7, 3, 0, 0, ⟨#[]⟩⟩ (by decide) (by decide) (by decide)
  rw [show hear ⟨3, 0, 1, [], 0, false, false⟩ ⟨7, 3, 0, 0, ⟨#[]⟩⟩ = (⟨⟨#[]⟩, false, true⟩, 0, cw [] true) from rfl] at k1
  replace k1 := Lib.hid k1
  go_upto_region 8 with (go_at_call 12; (with_reducible refine k1.out.mono ?_); rintro e w2 ⟨rfl, O2⟩)
  have O3 := O2.alloc (.cells #[.string ⟨#[]⟩, .bool false, .bool true] 28)
  obtain ⟨w3, hw3⟩ : ∃ w3, w3 = w2.alloc (.cells #[.string ⟨#[]⟩, .bool false, .bool true] 28) := ⟨_, rfl⟩
  rw [← hw3] at O3 ⊢
  clear hw3 O2 k1 O1 hN
  generalize w2.heap.size = Y1 at *
  have O4 := O3.add (Chg.refl w3 _) (Q := slA 1 (.slice none 0 0) 0 []) (A := fun _ => False) ⟨fun k => by simp [Value.ownBlock], Sl.nil _ _⟩ (fun _ h => h.elim)
  have O5 := O4.rot1
  clear O3 O4
  go_upto_block 0 with fail
  go_cut [9] (fun said wy => ∃ (ws : List ByteArray) (B : Option Addr) (cb : Nat), ws.length ≤ 40 ∧ said = .slice B ws.length cb ∧ Own w wy [chanA N1 (cw ws true), slA 1 (.slice B ws.length cb) ws.length (ws.map Value.string)])
  case first =>
    go_wp2_with fail
    go_loopw [9, 10] (fun said i wr => ∃ (k : Nat) (ws : List ByteArray) (B : Option Addr) (cb : Nat), k ≤ 40 ∧ k ≤ xs.length ∧ i = .int .i64 k ∧ ws.length ≤ k ∧ said = .slice B ws.length cb ∧ Own w wr [chanA N1 (cw ws true), slA 1 (.slice B ws.length cb) ws.length (ws.map Value.string)]) (fun _ i _ => 40 - (intOf i).toNat)
    case atStart => exact ⟨0, [], none, 0, by decide, Nat.zero_le _, rfl, Nat.le_refl _, rfl, O5⟩
    case round =>
      clear O5
      obtain ⟨k, ws, B, cb, hk, hkl, rfl, hwk, rfl, O⟩ := hrel
      by_cases hlt : k < xs.length ∧ k < 40
      · obtain ⟨hlt1, hlt2⟩ := hlt
        have hrk : ∀ wx, w.Plus wx → ∃ b o, A = some ⟨b, o, none⟩ ∧ b < wx.heap.size ∧ wx.cell? ⟨b, o + k, none⟩ = some (.string (xs.getD k ⟨#[]⟩)) := fun wx p => by
          obtain ⟨bb, oo, rfl, hbl, hc⟩ := (hr.out.plus p) (by omega)
          have d1 := hc k 0 hlt1 (by omega)
          simp only [Nat.mul_one, Nat.add_zero] at d1
          exact ⟨bb, oo, rfl, hbl, d1⟩
        obtain ⟨bb, oo, rfl, hbl, d1⟩ := hrk _ O.p
        haveI : InW bb wr := ⟨hbl⟩
        generalize xs.getD k ⟨#[]⟩ = y at *
        have k2 := say_O (O.alloc (.cells #[.string y] 9)) (some ⟨wr.heap.size, 0, none⟩) 1 [y] (by simp) (by simp only; omega) (one_row wr y)
        rw [show [y].length = 1 from rfl] at k2
        have hlt1i : (k : Int) < xs.length := by omega
        have hlt2i : (k : Int) < 40 := by omega
        replace hrk := Lib.hid hrk
        by_cases hy : longB y = true
        · rw [show sayE (cw ws true) [y] = 1 by unfold sayE; simp [hy], show sayC (cw ws true) [y] = cw ws true by unfold sayC sayE; simp [hy]] at k2
          replace k2 := Lib.hid k2
          go_wp2_with (go_at_call 13; (with_reducible refine k2.out.mono ?_); rintro e w5 ⟨rfl, O5⟩)
          go_roundw
          case rel => exact ⟨k + 1, ws, B, cb, by omega, by omega, by go_num, by omega, rfl, O5⟩
          case measure => simp [intOf]; omega
        · have hE : sayE (cw ws true) [y] = 0 := by
            unfold sayE
            rw [if_neg (by simp [hy]), if_neg (by simp only [List.length_cons, List.length_nil]; omega)]
          rw [hE, show sayC (cw ws true) [y] = cw (ws ++ [y]) true by unfold sayC; rw [if_pos hE]] at k2
          replace k2 := Lib.hid k2
          clear hE
          go_wp2_with (first | (go_at_call 13; (with_reducible refine k2.out.mono ?_); rintro e w5 ⟨rfl, O5⟩; obtain ⟨b', o', he, hbl', d2⟩ := hrk.out _ O5.p; cases he; haveI : InW bb w5 := ⟨hbl'⟩) | (at_builtin; refine wpList_append_O rfl _ _ 22 22 rfl 9 i0 (.string ⟨#[]⟩) 1 16 underStrs hi0.out hz0.out hz1.out hz2.out rfl rfl (O5.rot1.alloc (.cells #[.string y] 9)) rfl (src_str _ _ rfl) (by unfold maxLen; omega) (by omega) ?_; intro B2 cb2 w6 O6))
          go_roundw
          case rel => exact ⟨k + 1, ws ++ [y], B2, cb2, by omega, by omega, by go_num, by rw [List.length_append]; simp only [List.length_cons, List.length_nil]; omega, by rw [List.length_append]; rfl, by
            rw [List.length_append, List.map_append]
            exact O6.rot1⟩
          case measure => simp [intOf]; omega
      · by_cases h1 : k < xs.length
        · have h2 : ¬ (k : Int) < 40 := by omega
          have h1b : decide (k < xs.length) = true := decide_eq_true h1
          go_wp2_with fail
          go_meet
          exact ⟨ws, B, cb, by omega, rfl, O⟩
        · have h1b : decide (k < xs.length) = false := decide_eq_false h1
          go_wp2_with fail
          go_meet
          exact ⟨ws, B, cb, by omega, rfl, O⟩
  clear O5 hr
  obtain ⟨ws, B, cb, hws, rfl, O6⟩ := hcut
  have p1 := posts_O O6 (by simp only; decide) (by simp only; omega)
  simp only at p1
  replace p1 := Lib.hid p1
  go_upto_region 14 with (first | (go_at_call 14; (with_reducible refine p1.out.mono ?_); rintro e w7 ⟨A1, cap1, rfl, O7⟩; have p2 := posts_O O7 (by simp only; decide) (by simp only; omega); simp only at p2; replace p2 := Lib.hid p2) | (go_at_call 14; (with_reducible refine p2.out.mono ?_); rintro e w8 ⟨A2, cap2, rfl, O8⟩))
  clear p1 p2 O7 O6
  simp only [cw]
  obtain ⟨P1, hP1⟩ : ∃ P, P = postsL ⟨3, 7, 1, ws, 0, true, true⟩ := ⟨_, rfl⟩
  obtain ⟨P2, hP2⟩ : ∃ P, P = postsL ⟨3, 7, 1, ws, 0, true, false⟩ := ⟨_, rfl⟩
  rw [← hP1, ← hP2] at O8
  rw [← hP1, ← hP2]
  have hpos : 0 < ws.length → P1 = textPs ⟨3, 7, 1, ws, 0, true, false⟩ (min ws.length 8) ∧ P2 = P1 := fun h => by
    rw [hP1, hP2, postsL_text _ _ _ h, postsL_text _ _ _ h]
    exact ⟨rfl, rfl⟩
  clear hP1 hP2
  have r1' := Own.rows 2 O8 rfl rfl
  have r2' := Own.rows 1 O8 rfl rfl
  go_cut [84] (fun t wy => t = .bool false ∧ ∃ e, wy = w8.plus e)
  case first =>
    rcases Nat.eq_zero_or_pos ws.length with h0 | h0
    · have hz1 : ¬ (0 : Int) < ws.length := by omega
      have hz2 : decide (0 < ws.length) = false := decide_eq_false (by omega)
      clear r1' r2' hpos O8 h0
      go_wp2_with fail
      go_meet
      obtain ⟨e, he⟩ := Plus.refl w8
      exact ⟨rfl, e, he⟩
    · obtain ⟨hp1, rfl⟩ := hpos h0
      have hm : P2.length = min ws.length 8 := by rw [hp1, textPs_length]
      have hS := same_eq P2 A1 A2 cap1 cap2 P2.length w8 (by omega) r1' r2'
      have hmi : min (ws.length : Int) 8 = (P2.length : Int) := by omega
      clear hp1 hm r1' r2' hpos O8
      have h0i : (0 : Int) < ws.length := by omega
      have hne : ((P2.length : Int) != (P2.length : Int)) = false := by simp
      replace hS := Lib.hid hS
      go_wp2_with (go_at_call 15; (with_reducible refine hS.out.mono ?_); rintro e w' ⟨rfl, e9, rfl⟩)
      go_meet
      exact ⟨rfl, _, rfl⟩
  obtain ⟨rfl, e10, rfl⟩ := hcut
  replace O8 := O8.plus e10
  have r1p := r1'.plus (Plus.plus (Plus.refl w8) e10)
  clear r1' r2'
  generalize w8.plus e10 = w10 at *
  have rs : RowsAt w10 B 1 ws.length (strAt ws) := (O8.sl 3 rfl).rows rfl _ (fun i j hi hj => by
    obtain rfl : j = 0 := by omega
    unfold strAt
    rw [Nat.mul_one, Nat.add_zero, List.getElem?_map, List.getD_eq_getElem?_getD, List.getElem?_eq_getElem hi]
    rfl)
  go_upto_block 2 with fail
  go_cut [] (fun wy => ∃ e, wy = w10.plus e)
  case first =>
    go_wp2_with fail
    go_loopw [13] (fun i wr => ∃ k : Nat, k ≤ ws.length ∧ i = .int .i64 k ∧ w10.Plus wr) (fun i _ => ws.length - (intOf i).toNat)
    case atStart => exact ⟨0, Nat.zero_le _, rfl, Plus.refl _⟩
    case round =>
      clear O8
      obtain ⟨k, hk, rfl, e, rfl⟩ := hrel
      by_cases hlt : k < ws.length ∧ k < P1.length
      · obtain ⟨hlt1, hlt2⟩ := hlt
        have hP := (hpos (by omega)).1
        obtain ⟨g, oo, rfl, hg, c0, c1, c2, c3, c4⟩ := rows_post r1p k hlt2
        have hlm : k < min ws.length 8 := by rw [hP, textPs_length] at hlt2; exact hlt2
        rw [hP, textPs_get _ _ _ hlm] at c0 c1 c2 c3 c4
        unfold textP at c0 c1 c2 c3 c4
        simp only at c0 c1 c2 c3 c4
        rw [Int.add_comm] at c3
        obtain ⟨g2, o2, rfl, hg2, hc⟩ := rs (by omega)
        have d0 := hc k 0 hlt1 (by omega)
        unfold strAt at d0
        simp only [Nat.mul_one, Nat.add_zero] at d0
        clear hc r1p rs hP hpos
        generalize ws.getD k ⟨#[]⟩ = y at *
        haveI : InW g w10 := ⟨hg⟩
        haveI : InW g2 w10 := ⟨hg2⟩
        have hk8 : (k : Int) < 8 := by omega
        have hwr : IntKind.i64.wrap ((k : Int) + 1) = k + 1 := wrap_id (by omega) (by omega)
        have hw6 : wrap64 ((k : Int) + 1) = k + 1 := w64_id (by omega) (by omega)
        go_wp2_with fail
        go_region
        go_wp2_with fail
        clear hwr hw6
        go_roundw
        case rel => exact ⟨k + 1, by omega, by go_num, by (repeat (first | exact Plus.refl _ | apply Plus.plus | apply Plus.alloc | apply Plus.drew))⟩
        case measure => simp [intOf]; omega
      · by_cases h1 : k < ws.length
        · have h2 : ¬ k < P1.length := by omega
          have h1b : decide (k < ws.length) = true := decide_eq_true h1
          go_wp2_with fail
          go_meet
          exact ⟨_, rfl⟩
        · have h1b : decide (k < ws.length) = false := decide_eq_false h1
          go_wp2_with fail
          go_meet
          exact ⟨_, rfl⟩
  obtain ⟨e11, rfl⟩ := hcut
  have O11 := O8.plus e11
  clear O8 rs r1p hpos
  generalize w10.plus e11 = w11 at *
  obtain ⟨n, hn1⟩ : ∃ n, n = min a ws.length := ⟨_, rfl⟩
  have k3 := hear_O O11 ⟨7, 3, a, 0, ⟨#[]⟩⟩ (by simp only; decide) (by simp only; decide) (by simp only; omega)
  rw [hear_ack ws a n ha hn1] at k3
  replace k3 := Lib.hid k3
  simp only at k3
  obtain ⟨L, hL⟩ : ∃ L : Nat, L = ws.length - a := ⟨_, rfl⟩
  have hLd : (ws.drop n).length = L := by rw [List.length_drop]; omega
  have hn2 : n ≤ 40 := by omega
  replace hLd := Lib.hid hLd
  have ha2 : (a : Int) < 50 := by omega
  have hws2 : (ws.length : Int) ≤ 40 := by omega
  clear O11
  rcases Nat.eq_zero_or_pos L with h0 | h0
  · have hmax : max 0 ((ws.length : Int) - a) = 0 := by omega
    have hnil : ws.drop n = [] := List.eq_nil_of_length_eq_zero (by rw [hLd.out, h0])
    rw [hnil] at k3
    clear hnil hn1
    go_upto_region 24 with (go_at_call 12; (with_reducible refine k3.out.mono ?_); rintro e w12 ⟨rfl, O12⟩)
    have k5 := posts_O O12 (by simp only; omega) (by simp only; decide)
    rw [postsL_none] at k5
    simp only [PostsO, List.length_nil] at k5
    replace k5 := Lib.hid k5
    clear k3 hmax r1 r2 r3 r4
    go_upto_region 25 with (go_at_call 14; (with_reducible refine k5.out.mono ?_); rintro e w13 ⟨A3, cap3, rfl, O13⟩)
    have k6 := waiting_O O13 (by simp only; decide)
    simp only [List.length_nil] at k6
    rw [show ((0 : Nat) : Int) = 0 from rfl] at k6
    replace k6 := Lib.hid k6
    have hpl := O13.p
    have hm8 : min (0 : Int) 8 = 0 := rfl
    clear O13 hL h0 hLd hn2 ha2 hws2
    go_wp2_with (first | (go_at_call 16; (with_reducible refine k6.out.mono ?_); rintro e w' ⟨rfl, e14, rfl⟩) | (go_at_call 17; (with_reducible refine (awake_any _).mono ?_); rintro e w' ⟨rfl, e15, rfl⟩))
    go_ret
    exact ⟨rfl, Plus.trans hpl (by (repeat (first | exact Plus.refl _ | apply Plus.plus | apply Plus.alloc | apply Plus.drew)))⟩
  · have hpl : postsL ⟨3, 7, 1 + n, ws.drop n, 0, true, false⟩ = textPs ⟨3, 7, 1 + n, ws.drop n, 0, true, false⟩ (min L 8) := by
      rw [postsL_text _ _ _ (by rw [hLd.out]; exact h0), hLd.out]
    have hmax : max 0 ((ws.length : Int) - a) = (L : Int) := by omega
    have hna : n = a := by omega
    subst hna
    have hLi : (L : Int) = ws.length - n := by omega
    clear hn1
    replace hL := Lib.hid hL
    replace hLi := Lib.hid hLi
    go_upto_region 24 with (go_at_call 12; (with_reducible refine k3.out.mono ?_); rintro e w12 ⟨rfl, O12⟩)
    have k5 := posts_O O12 (by simp only; omega) (by rw [hLd.out]; have := hL.out; omega)
    simp only at k5
    rw [hpl] at k5
    clear hpl
    replace k5 := Lib.hid k5
    clear k3 hmax r1 r2 r3 r4
    go_upto_region 25 with (go_at_call 14; (with_reducible refine k5.out.mono ?_); rintro e w13 ⟨A3, cap3, rfl, O13⟩)
    have k6 := waiting_O O13 (by rw [hLd.out]; have := hL.out; omega)
    rw [hLd.out] at k6
    replace k6 := Lib.hid k6
    have hpl := O13.p
    have hlt : (textPs ⟨3, 7, 1 + n, ws.drop n, 0, true, false⟩ (min L 8)).length = min L 8 := textPs_length _ _
    have hr3 := Own.rows 1 O13 rfl rfl
    rw [hlt] at hr3
    obtain ⟨g, oo, rfl, hg, c0, c1, c2, c3, c4⟩ := rows_post hr3 0 (by omega)
    rw [textPs_get _ _ _ (by omega)] at c3
    unfold textP at c3
    simp only [Nat.zero_mul, Nat.add_zero] at c3
    haveI : InW g w13 := ⟨hg⟩
    clear hr3 c0 c1 c2 c4 O12 O13
    rw [hlt]
    clear hlt
    obtain ⟨M, hM⟩ : ∃ M, M = min L 8 := ⟨_, rfl⟩
    rw [← hM]
    have hMi : min (L : Int) 8 = M := by omega
    have hM0 : 0 < M := by omega
    have hL0 : 0 < (L : Int) := by omega
    have hLn : ((L : Int) == 0) = false := by simp; omega
    clear hM
    have hfirst : (ws.length : Int) - L + 1 = 1 + n + ((0 : Nat) : Int) := by have := hLi.out; omega
    go_wp2_with (first | (go_at_call 16; (with_reducible refine k6.out.mono ?_); rintro e w' ⟨rfl, e14, rfl⟩) | (go_at_call 17; (with_reducible refine (awake_any _).mono ?_); rintro e w' ⟨rfl, e15, rfl⟩))
    go_ret
    exact ⟨rfl, Plus.trans hpl (by (repeat (first | exact Plus.refl _ | apply Plus.plus | apply Plus.alloc | apply Plus.drew)))⟩
end Go.Proofs.Ytpmebmbibajcoaa
