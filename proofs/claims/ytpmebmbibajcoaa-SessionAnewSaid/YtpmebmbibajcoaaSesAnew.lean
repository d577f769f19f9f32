/- SessionAnew: walk. -/
import Derived.Test.YtpmebmbibajcoaaSesC
import Derived.Deep.CutBlock
set_option linter.unusedSimpArgs false
set_option linter.unusedVariables false
namespace Go.Proofs.Ytpmebmbibajcoaa
open Go.RowKit
theorem rem1000 (n : Int) : ∃ (t : Int) (m : Nat), n.tmod 1000 = t ∧ wrap64 (t + 1000) = t + 1000 ∧ IntKind.i64.wrap (t + 1000) = t + 1000 ∧ (t + 1000).tmod 1000 = (m : Int) ∧ m < 1000 ∧ -1000 < t ∧ t < 1000 := by
  have h1 := Int.emod_nonneg n (show (1000 : Int) ≠ 0 by decide)
  have h2 := Int.tmod_lt_of_pos n (show (0 : Int) < 1000 by decide)
  have h3 : -1000 < n.tmod 1000 := by
    have := Int.tmod_lt_of_pos (-n) (show (0 : Int) < 1000 by decide)
    rw [Int.neg_tmod] at this
    omega
  refine ⟨n.tmod 1000, ((n.tmod 1000 + 1000) % 1000).toNat, rfl, w64_id (by omega) (by omega), wrap_id (by omega) (by omega), ?_, by omega, h3, h2⟩
  rw [Int.tmod_eq_emod_of_nonneg (by omega)]
  omega
set_option maxRecDepth 100000 in
set_option maxHeartbeats 4000000 in
theorem anew_any (xs : List ByteArray) (A : Option Addr) (cp : Nat) (old new1 : Int) (w : World) (hn : xs.length ≤ 140737488351232) (hr : RowsAt w A 1 xs.length (strAt xs)) :
    Calls Try.prog 4 #[.slice A xs.length cp, .int .i64 old, .int .i64 new1] w fun e w' => e = .returned (.bool true) ∧ w.Plus w' := by
  have hN := Lib.hid (fun w' (p : w.Plus w') => new_O (Own.nil p) 9 (by decide))
  obtain ⟨t1, a, r1, r2, r3, r4, ha, ht1, ht2⟩ := rem1000 old
  obtain ⟨t2, b, s1, s2, s3, s4, hb, hu1, hu2⟩ := rem1000 new1
  obtain ⟨o, ho⟩ : ∃ o : Int, 2 + (a : Int) = o := ⟨_, rfl⟩
  obtain ⟨q, hq⟩ : ∃ q : Int, o + 1 + (b : Int) = q := ⟨_, rfl⟩
  have ho1 : 2 ≤ o ∧ o ≤ 1001 := by omega
  have hq1 : o < q ∧ q ≤ 2001 := by omega
  replace hr := Lib.hid hr
  go_enter Try.func4, Try.ntmps4
  go_upto_region 6 with (go_at_call 11; (with_reducible refine (hN.out _ (by (repeat (first | exact Plus.refl _ | apply Plus.plus | apply Plus.alloc | apply Plus.drew)))).mono ?_); rintro e w1 ⟨N1, rfl, O1⟩)
  have k1 := hear_O O1 ⟨o, 9, 0, 1, ⟨#[97]⟩⟩ (by decide) (by decide) (by decide)
  rw [hear_first 9 o ⟨#[97]⟩ (by decide) (by omega) (by decide)] at k1
  replace k1 := Lib.hid k1
  go_upto_region 7 with (go_at_call 12; (with_reducible refine k1.out.mono ?_); rintro e w2 ⟨rfl, O2⟩)
  have O3 := (Own.newHd O2 ⟨⟨#[97]⟩, true, true⟩).rot1
  obtain ⟨w3, hw3⟩ : ∃ w3, w3 = w2.alloc (.cells #[.string ⟨#[97]⟩, .bool true, .bool true] 28) := ⟨_, rfl⟩
  rw [← hw3] at O3 ⊢
  clear hw3 O2 k1 O1 hN
  generalize w2.heap.size = Y1 at *
  go_upto_block 0 with fail
  go_cut [] (fun wy => ∃ ws, ws.length ≤ 20 ∧ Own w wy [chanA N1 ⟨9, o, 1, ws, 1, true, true⟩, hdA Y1 ⟨⟨#[97]⟩, true, true⟩])
  case first =>
    go_wp2_with fail
    go_loopw [11] (fun i wr => ∃ (k : Nat) (ws : List ByteArray), k ≤ 20 ∧ k ≤ xs.length ∧ i = .int .i64 k ∧ ws.length ≤ k ∧ Own w wr [chanA N1 ⟨9, o, 1, ws, 1, true, true⟩, hdA Y1 ⟨⟨#[97]⟩, true, true⟩]) (fun i _ => 20 - (intOf i).toNat)
    case atStart => exact ⟨0, [], by decide, Nat.zero_le _, rfl, Nat.le_refl _, O3⟩
    case round =>
      clear O3
      obtain ⟨k, ws, hk, hkl, rfl, hwk, O⟩ := hrel
      by_cases hlt : k < xs.length ∧ k < 20
      · obtain ⟨hlt1, hlt2⟩ := hlt
        obtain ⟨bb, oo, rfl, hbl, hc⟩ := (hr.out.plus O.p) (by omega)
        have d1 := hc k 0 hlt1 (by omega)
        clear hc
        haveI : InW bb wr := ⟨hbl⟩
        unfold strAt at d1
        simp only [Nat.mul_one, Nat.add_zero] at d1
        generalize xs.getD k ⟨#[]⟩ = y at *
        have k2 := say_O (O.alloc (.cells #[.string y] 9)) (some ⟨wr.heap.size, 0, none⟩) 1 [y] (by simp) (by simp only; omega) (one_row wr y)
        rw [show [y].length = 1 from rfl] at k2
        obtain ⟨ws', hw1, hw2, _⟩ := sayC_shape ⟨9, o, 1, ws, 1, true, true⟩ [y]
        rw [hw1] at k2
        simp only [List.length_cons, List.length_nil] at k2 hw2
        generalize sayE ⟨9, o, 1, ws, 1, true, true⟩ [y] = E at *
        clear hw1
        replace k2 := Lib.hid k2
        have hlt1i : (k : Int) < xs.length := by omega
        have hlt2i : (k : Int) < 20 := by omega
        go_wp2_with (go_at_call 13; (with_reducible refine k2.out.mono ?_); rintro e w5 ⟨rfl, O5⟩)
        go_roundw
        case rel => exact ⟨k + 1, ws', by omega, by omega, by go_num, by omega, O5⟩
        case measure => simp [intOf]; omega
      · by_cases h1 : k < xs.length
        · have h2 : ¬ (k : Int) < 20 := by omega
          have h1b : decide (k < xs.length) = true := decide_eq_true h1
          go_wp2_with fail
          go_meet
          exact ⟨ws, by omega, O⟩
        · have h1b : decide (k < xs.length) = false := decide_eq_false h1
          go_wp2_with fail
          go_meet
          exact ⟨ws, by omega, O⟩
  clear O3
  obtain ⟨ws, hws, O4⟩ := hcut
  have k3 := hear_O O4 ⟨o - 1, 9, 0, 2, ⟨#[98]⟩⟩ (by simp only; decide) (by simp only; decide) (by simp only; omega)
  rw [hear_stale _ (o - 1) 9 ⟨#[98]⟩ (by decide) (by omega) (by decide) (by simp only; omega)] at k3
  replace k3 := Lib.hid k3
  clear r1 r2 r3 r4 s1 s2 s3 s4 ho hq hr
  go_upto_region 12 with (go_at_call 12; (with_reducible refine k3.out.mono ?_); rintro e w6 ⟨rfl, O6⟩)
  have O7 := (Own.newHd O6 ⟨⟨#[]⟩, false, false⟩).rot1
  obtain ⟨w7, hw7⟩ : ∃ w7, w7 = w6.alloc (.cells #[.string ⟨#[]⟩, .bool false, .bool false] 28) := ⟨_, rfl⟩
  rw [← hw7] at O7 ⊢
  clear hw7 O6 O4
  generalize w6.heap.size = Y2 at *
  have k4 := hear_O O7 ⟨q, 0, 0, 1, ⟨#[99]⟩⟩ (by simp only; decide) (by simp only; decide) (by simp only; omega)
  rw [hear_over _ q ⟨#[99]⟩ (by simp only; decide) (by omega) (by decide) (by simp only; omega)] at k4
  replace k4 := Lib.hid k4
  go_upto_region 13 with (go_at_call 12; (with_reducible refine k4.out.mono ?_); rintro e w8 ⟨rfl, O8⟩)
  have O9 := (Own.newHd O8 ⟨⟨#[]⟩, false, true⟩).rot1
  obtain ⟨w9, hw9⟩ : ∃ w9, w9 = w8.alloc (.cells #[.string ⟨#[]⟩, .bool false, .bool true] 28) := ⟨_, rfl⟩
  rw [← hw9] at O9 ⊢
  clear hw9 O8 O7
  generalize w8.heap.size = Y3 at *
  obtain ⟨l1, a0, a1, a2, _⟩ := Own.hd 3 O9 rfl
  obtain ⟨l2, b0, b1, b2, _⟩ := Own.hd 2 O9 rfl
  obtain ⟨l3, c0, c1, c2, _⟩ := Own.hd 1 O9 rfl
  haveI : InW Y1 w9 := ⟨l1⟩
  haveI : InW Y2 w9 := ⟨l2⟩
  haveI : InW Y3 w9 := ⟨l3⟩
  have k5 := waiting_O O9 (by simp only; decide)
  simp only [List.length_nil] at k5
  replace k5 := Lib.hid k5
  go_upto_region 15 with (go_at_call 16; (with_reducible refine k5.out.mono ?_); rintro e w' ⟨rfl, e10, rfl⟩)
  have k6 := posts_O (O9.plus e10) (by simp only; decide) (by simp only; decide)
  have hpo : postsL ⟨9, q, 1, [], 0, false, true⟩ = [⟨9, q, 0, 0, ⟨#[]⟩⟩, ⟨9, 0, 0, 0, ⟨#[]⟩⟩] := by
    have : q ≠ 0 := by omega
    simp [postsL, postK, bareP, this]
  rw [hpo] at k6
  clear hpo
  simp only at k6
  replace k6 := Lib.hid k6
  go_upto_region 16 with (go_at_call 14; (with_reducible refine k6.out.mono ?_); rintro e w11 ⟨A1, cap1, rfl, O11⟩)
  have k7 := hear_O O11 ⟨o, 9, 0, 2, ⟨#[100]⟩⟩ (by simp only; decide) (by simp only; decide) (by simp only; decide)
  rw [hear_stale _ o 9 ⟨#[100]⟩ (by decide) (by omega) (by decide) (by simp only; omega)] at k7
  replace k7 := Lib.hid k7
  go_upto_region 17 with (go_at_call 12; (with_reducible refine k7.out.mono ?_); rintro e w12 ⟨rfl, O12⟩)
  have O13 := O12.alloc (.cells #[.string ⟨#[]⟩, .bool false, .bool false] 28)
  obtain ⟨w13, hw13⟩ : ∃ w13, w13 = w12.alloc (.cells #[.string ⟨#[]⟩, .bool false, .bool false] 28) := ⟨_, rfl⟩
  rw [← hw13] at O13 ⊢
  clear hw13 O12 O11 O9
  generalize w12.heap.size = Y4 at *
  have k8 := hear_O O13 ⟨q, 9, 0, 1, ⟨#[101]⟩⟩ (by simp only; decide) (by simp only; decide) (by simp only; decide)
  rw [hear_next 9 q ⟨#[101]⟩ (by decide) (by omega) (by decide)] at k8
  replace k8 := Lib.hid k8
  go_upto_region 18 with (go_at_call 12; (with_reducible refine k8.out.mono ?_); rintro e w14 ⟨rfl, O14⟩)
  have O15 := Own.newHd O14 ⟨⟨#[101]⟩, true, false⟩
  obtain ⟨w15, hw15⟩ : ∃ w15, w15 = w14.alloc (.cells #[.string ⟨#[101]⟩, .bool true, .bool false] 28) := ⟨_, rfl⟩
  simp only at O15
  rw [← hw15] at O15 ⊢
  clear hw15 O14 O13
  generalize w14.heap.size = Y5 at *
  clear l1 l2 l3 a0 a1 a2 b0 b1 b2 c0 c1 c2
  obtain ⟨l5, d0, d1, d2, _⟩ := Own.hd 0 O15 rfl
  obtain ⟨g, oo, rfl, lg, hp⟩ := Own.posts 2 O15 rfl rfl (by simp)
  obtain ⟨p0, p1, p2, p3, p4⟩ := hp 0 _ rfl
  obtain ⟨q0, q1, q2, q3, q4⟩ := hp 1 _ rfl
  clear hp
  haveI : InW Y5 w15 := ⟨l5⟩
  haveI : InW g w15 := ⟨lg⟩
  simp only [Nat.zero_mul, Nat.one_mul, Nat.add_zero, Nat.add_assoc, Nat.reduceAdd] at p0 p1 p2 p3 p4 q0 q1 q2 q3 q4
  have hpl := O15.p
  go_wp2_with (first | (go_at_call 17; (with_reducible refine (awake_any _).mono ?_); rintro e w' ⟨rfl, e16, rfl⟩))
  go_ret
  exact ⟨rfl, Plus.trans hpl (by (repeat (first | exact Plus.refl _ | apply Plus.plus | apply Plus.alloc | apply Plus.drew)))⟩
end Go.Proofs.Ytpmebmbibajcoaa
