/- fixed: Add, Div, and the reference's: walks. -/
import Derived.Test.YtndbcjgbcplgcaaDoorFix1
set_option linter.unusedSimpArgs false
set_option linter.unusedVariables false
namespace Go.Proofs.YtndbcjgbcplgcaaDoor
open Go.RowKit
abbrev intAt (xs : List Int) : Nat → Nat → Value := fun i _ => .int .i64 (xs.getD i 0)
theorem take_getD (xs : List Int) (k : Nat) (h : k < xs.length) : xs.take (k + 1) = xs.take k ++ [xs.getD k 0] := by
  rw [List.take_succ_eq_append_getElem h]
  congr 2
  rw [List.getD_eq_getElem?_getD, List.getElem?_eq_getElem h]
  rfl
theorem fadd_snoc (l : List Int) (x : Int) : fadd (l ++ [x]) = fcl (fadd l + fcl x) := by simp [fadd]
theorem fadd_in (l : List Int) : -1073741824 ≤ fadd l ∧ fadd l ≤ 1073741824 := by
  rcases List.eq_nil_or_concat l with rfl | ⟨l', x, rfl⟩
  · decide
  · rw [List.concat_eq_append, fadd_snoc]; exact fcl_in _
section
variable (w : World)
theorem add_any (A : Option Addr) (c : Nat) (xs : List Int) (hn : xs.length ≤ 140737488351232) (hr : RowsAt w A 1 xs.length (intAt xs)) :
    Calls Tryd.prog 16 #[.slice A xs.length c] w fun e w' => e = .returned (.int .i64 (fadd xs)) ∧ w.Plus w' := by
  go_enter Tryd.func16, Tryd.ntmps16
  go_wp2_with fail
  go_loopw [3, 8] (fun s i wr => ∃ k : Nat, k ≤ xs.length ∧ i = .int .i64 k ∧ s = .int .i64 (fadd (xs.take k)) ∧ w.Plus wr) (fun _ i _ => xs.length - (intOf i).toNat)
  case atStart => exact ⟨0, Nat.zero_le _, rfl, rfl, by (repeat (first | exact Plus.refl _ | apply Plus.plus | apply Plus.alloc | apply Plus.drew))⟩
  case round =>
    obtain ⟨k, hk, rfl, rfl, hp⟩ := hrel
    have hs := fadd_in (xs.take k)
    by_cases hlt : k < xs.length
    · obtain ⟨b, o, rfl, hb, hc⟩ := (hr.plus hp) (by omega)
      have c1 := hc k 0 hlt (by omega)
      clear hc hr
      haveI : InW b wr := ⟨hb⟩
      have htk := take_getD xs k hlt
      have hnx := fadd_snoc (xs.take k) (xs.getD k 0)
      rw [← htk] at hnx
      unfold intAt at c1
      simp only [Nat.mul_one, Nat.add_zero] at c1
      generalize xs.getD k 0 = x at *
      generalize fadd (xs.take k) = S at *
      have hx := fcl_in x
      replace hnx := Lib.hid hnx
      clear htk
      go_wp2_with (first | (go_at_call 13; (with_reducible refine (clamp_any _ _).mono ?_); rintro e w' ⟨rfl, ey, rfl⟩) | (go_at_call 14; (with_reducible refine (ref_clamp _ _).mono ?_); rintro e w' ⟨rfl, ey, rfl⟩))
      go_roundw
      case rel => exact ⟨k + 1, hlt, by go_num, by rw [hnx.out], Plus.trans hp (by (repeat (first | exact Plus.refl _ | apply Plus.plus | apply Plus.alloc | apply Plus.drew)))⟩
      case measure => simp [intOf]; omega
    · have hk2 : k = xs.length := by omega
      subst hk2
      have hE := Lib.hid (show xs.take xs.length = xs by simp)
      go_wp2_with fail
      go_ret
      exact ⟨ret_int (by rw [hE.out]), hp⟩
theorem ref_add_any (A : Option Addr) (c : Nat) (xs : List Int) (hn : xs.length ≤ 140737488351232) (hr : RowsAt w A 1 xs.length (intAt xs)) :
    Calls Tryd.prog 17 #[.slice A xs.length c] w fun e w' => e = .returned (.int .i64 (fadd xs)) ∧ w.Plus w' := by
  go_enter Tryd.func17, Tryd.ntmps17
  go_wp2_with fail
  go_loopw [3, 4] (fun s i wr => ∃ k : Nat, k ≤ xs.length ∧ i = .int .i64 k ∧ s = .int .i64 (fadd (xs.take k)) ∧ w.Plus wr) (fun _ i _ => xs.length - (intOf i).toNat)
  case atStart => exact ⟨0, Nat.zero_le _, rfl, rfl, by (repeat (first | exact Plus.refl _ | apply Plus.plus | apply Plus.alloc | apply Plus.drew))⟩
  case round =>
    obtain ⟨k, hk, rfl, rfl, hp⟩ := hrel
    have hs := fadd_in (xs.take k)
    by_cases hlt : k < xs.length
    · obtain ⟨b, o, rfl, hb, hc⟩ := (hr.plus hp) (by omega)
      have c1 := hc k 0 hlt (by omega)
      clear hc hr
      haveI : InW b wr := ⟨hb⟩
      have htk := take_getD xs k hlt
      have hnx := fadd_snoc (xs.take k) (xs.getD k 0)
      rw [← htk] at hnx
      unfold intAt at c1
      simp only [Nat.mul_one, Nat.add_zero] at c1
      generalize xs.getD k 0 = x at *
      generalize fadd (xs.take k) = S at *
      have hx := fcl_in x
      replace hnx := Lib.hid hnx
      clear htk
      go_wp2_with (first | (go_at_call 13; (with_reducible refine (clamp_any _ _).mono ?_); rintro e w' ⟨rfl, ey, rfl⟩) | (go_at_call 14; (with_reducible refine (ref_clamp _ _).mono ?_); rintro e w' ⟨rfl, ey, rfl⟩))
      go_roundw
      case rel => exact ⟨k + 1, hlt, by go_num, by rw [hnx.out], Plus.trans hp (by (repeat (first | exact Plus.refl _ | apply Plus.plus | apply Plus.alloc | apply Plus.drew)))⟩
      case measure => simp [intOf]; omega
    · have hk2 : k = xs.length := by omega
      subst hk2
      have hE := Lib.hid (show xs.take xs.length = xs by simp)
      go_wp2_with fail
      go_ret
      exact ⟨ret_int (by rw [hE.out]), hp⟩
theorem div_any (a b : Int) : Calls Tryd.prog 20 #[.int .i64 a, .int .i64 b] w fun e w' => e = .returned (.tuple #[.int .i64 (fdivV a b).1, .int .i64 (fdivV a b).2]) ∧ w.Plus w' := by
  have hA := fcl_in a
  have hB := fcl_in b
  have hV : fdivV a b = if fcl b = 0 then (0, 11) else (fcl (qd (fcl a * 256) (fcl b)), 0) := rfl
  by_cases hb : fcl b = 0
  · rw [if_pos hb] at hV
    rw [hV]
    clear hV
    go_enter Tryd.func20, Tryd.ntmps20
    go_wp2_with (first | (go_at_call 13; (with_reducible refine (clamp_any _ _).mono ?_); rintro e w' ⟨rfl, ey, rfl⟩) | (go_at_call 14; (with_reducible refine (ref_clamp _ _).mono ?_); rintro e w' ⟨rfl, ey, rfl⟩))
    go_ret2
    exact ⟨rfl, by (repeat (first | exact Plus.refl _ | apply Plus.plus | apply Plus.alloc | apply Plus.drew))⟩
  · rw [if_neg hb] at hV
    rw [hV]
    clear hV
    have hq := qd_in (fcl a * 256) (fcl b) hb (by omega)
    have hQ : qd (fcl a * 256) (fcl b) = if (fcl a * 256).tmod (fcl b) ≠ 0 ∧ ¬ (fcl a * 256 < 0 ↔ fcl b < 0) then (fcl a * 256).tdiv (fcl b) - 1 else (fcl a * 256).tdiv (fcl b) := rfl
    have hbe : (fcl b == 0) = false := by rw [beq_eq_false_iff_ne]; exact hb
    have hw1 : wrap64 (fcl a * 256) = fcl a * 256 := w64_id (by omega) (by omega)
    obtain ⟨q, hq1⟩ : ∃ q, (fcl a * 256).tdiv (fcl b) = q := ⟨_, rfl⟩
    obtain ⟨r, hr1⟩ : ∃ r, (fcl a * 256).tmod (fcl b) = r := ⟨_, rfl⟩
    rw [hq1, hr1] at hQ
    rw [hq1] at hq
    by_cases hr0 : r = 0
    · rw [if_neg (fun h => h.1 hr0)] at hQ
      subst hr0
      rw [hQ]
      clear hQ
      go_enter Tryd.func20, Tryd.ntmps20
      go_wp2_with (first | (go_at_call 13; (with_reducible refine (clamp_any _ _).mono ?_); rintro e w' ⟨rfl, ey, rfl⟩) | (go_at_call 14; (with_reducible refine (ref_clamp _ _).mono ?_); rintro e w' ⟨rfl, ey, rfl⟩))
      go_ret2
      exact ⟨rfl, by (repeat (first | exact Plus.refl _ | apply Plus.plus | apply Plus.alloc | apply Plus.drew))⟩
    · have hre : (r == 0) = false := by rw [beq_eq_false_iff_ne]; exact hr0
      have hrn : (r != 0) = true := by rw [bne_iff_ne]; exact hr0
      by_cases h1 : fcl a < 0
      · have h1' : fcl a * 256 < 0 := by omega
        by_cases h2 : fcl b < 0
        · rw [if_neg (fun h => h.2 ⟨fun _ => h2, fun _ => h1'⟩)] at hQ
          rw [hQ]
          clear hQ
          go_enter Tryd.func20, Tryd.ntmps20
          go_wp2_with (first | (go_at_call 13; (with_reducible refine (clamp_any _ _).mono ?_); rintro e w' ⟨rfl, ey, rfl⟩) | (go_at_call 14; (with_reducible refine (ref_clamp _ _).mono ?_); rintro e w' ⟨rfl, ey, rfl⟩))
          go_ret2
          exact ⟨rfl, by (repeat (first | exact Plus.refl _ | apply Plus.plus | apply Plus.alloc | apply Plus.drew))⟩
        · rw [if_pos ⟨hr0, fun h => h2 (h.1 h1')⟩] at hQ
          have hd2 : decide (fcl b < 0) = false := decide_eq_false h2
          rw [hQ]
          rw [hQ] at hq
          clear hQ
          go_enter Tryd.func20, Tryd.ntmps20
          go_wp2_with (first | (go_at_call 13; (with_reducible refine (clamp_any _ _).mono ?_); rintro e w' ⟨rfl, ey, rfl⟩) | (go_at_call 14; (with_reducible refine (ref_clamp _ _).mono ?_); rintro e w' ⟨rfl, ey, rfl⟩))
          go_ret2
          exact ⟨rfl, by (repeat (first | exact Plus.refl _ | apply Plus.plus | apply Plus.alloc | apply Plus.drew))⟩
      · have h1' : ¬ fcl a * 256 < 0 := by omega
        by_cases h2 : fcl b < 0
        · rw [if_pos ⟨hr0, fun h => h1' (h.2 h2)⟩] at hQ
          have hd1 : decide (fcl a * 256 < 0) = false := decide_eq_false h1'
          rw [hQ]
          rw [hQ] at hq
          clear hQ
          go_enter Tryd.func20, Tryd.ntmps20
          go_wp2_with (first | (go_at_call 13; (with_reducible refine (clamp_any _ _).mono ?_); rintro e w' ⟨rfl, ey, rfl⟩) | (go_at_call 14; (with_reducible refine (ref_clamp _ _).mono ?_); rintro e w' ⟨rfl, ey, rfl⟩))
          go_ret2
          exact ⟨rfl, by (repeat (first | exact Plus.refl _ | apply Plus.plus | apply Plus.alloc | apply Plus.drew))⟩
        · rw [if_neg (fun h => h.2 ⟨fun h => absurd h h1', fun h => absurd h h2⟩)] at hQ
          have hd1 : decide (fcl a * 256 < 0) = false := decide_eq_false h1'
          have hd2 : decide (fcl b < 0) = false := decide_eq_false h2
          rw [hQ]
          clear hQ
          go_enter Tryd.func20, Tryd.ntmps20
          go_wp2_with (first | (go_at_call 13; (with_reducible refine (clamp_any _ _).mono ?_); rintro e w' ⟨rfl, ey, rfl⟩) | (go_at_call 14; (with_reducible refine (ref_clamp _ _).mono ?_); rintro e w' ⟨rfl, ey, rfl⟩))
          go_ret2
          exact ⟨rfl, by (repeat (first | exact Plus.refl _ | apply Plus.plus | apply Plus.alloc | apply Plus.drew))⟩
theorem below_any (q b n : Int) (h1 : -4611686018427387904 ≤ b * q) (h2 : b * q ≤ 4611686018427387904) : Calls Tryd.prog 26 #[.int .i64 q, .int .i64 b, .int .i64 n] w fun e w' => e = .returned (.bool (belowB q b n)) ∧ w.Plus w' := by
  have hw : wrap64 (b * q) = b * q := w64_id (by omega) (by omega)
  have hB : belowB q b n = if 0 < b then decide (b * q ≤ n) else decide (n ≤ b * q) := rfl
  by_cases hb : 0 < b
  · rw [if_pos hb] at hB
    rw [hB]
    clear hB
    go_enter Tryd.func26, Tryd.ntmps26
    go_wp2_with fail
    go_ret
    exact ⟨rfl, by (repeat (first | exact Plus.refl _ | apply Plus.plus | apply Plus.alloc | apply Plus.drew))⟩
  · rw [if_neg hb] at hB
    rw [hB]
    clear hB
    go_enter Tryd.func26, Tryd.ntmps26
    go_wp2_with fail
    go_ret
    exact ⟨rfl, by (repeat (first | exact Plus.refl _ | apply Plus.plus | apply Plus.alloc | apply Plus.drew))⟩
/-- the bounds of the search -/
def BoundOk (B m L : Int) : Prop := (1 ≤ m ∧ 1 ≤ L ∧ L ≤ 549755813888 ∧ 274877906944 < m * L) ∧ (m ≤ B ∨ B ≤ -m) ∧ (-1152921504606846976 ≤ B * L ∧ B * L ≤ 1152921504606846976)
theorem prod_in {B q L : Int} (hL : -L ≤ q ∧ q ≤ L) (h : -1152921504606846976 ≤ B * L ∧ B * L ≤ 1152921504606846976) (h0 : 0 ≤ L) : -4611686018427387904 ≤ B * q ∧ B * q ≤ 4611686018427387904 := by
  have h1 : (B * q).natAbs ≤ (B * L).natAbs := by
    rw [Int.natAbs_mul, Int.natAbs_mul]
    exact Nat.mul_le_mul_left _ (by omega)
  omega
/-- the reference's search, from -L to L -/
structure Srch (A B L lo hi : Int) : Prop where
  lt : lo < hi
  lo1 : -L ≤ lo
  hi1 : hi ≤ L
  b1 : belowB lo B A = true
  b2 : belowB hi B A = false
theorem Srch.start {A B m L : Int} (hB : B ≠ 0) (hA : -274877906944 ≤ A ∧ A ≤ 274877906944) (h : BoundOk B m L) : Srch A B L (-L) L := by
  obtain ⟨⟨h1, h2, h3, h4⟩, h5, h6⟩ := h
  exact ⟨by omega, Int.le_refl _, Int.le_refl _, below_lo (m := m) (by omega) hB h5 hA (by omega) ⟨by rw [Int.neg_neg]; omega, h1⟩, below_hi (m := m) (by omega) hB h5 hA (by omega) ⟨h4, h1⟩⟩
theorem Srch.up {A B L lo hi m : Int} (h : Srch A B L lo hi) (hm : lo < m ∧ m < hi) (hb : belowB m B A = true) : Srch A B L m hi := ⟨hm.2, by have := h.lo1; omega, h.hi1, hb, h.b2⟩
theorem Srch.down {A B L lo hi m : Int} (h : Srch A B L lo hi) (hm : lo < m ∧ m < hi) (hb : belowB m B A = false) : Srch A B L lo m := ⟨hm.1, h.lo1, by have := h.hi1; omega, h.b1, hb⟩
theorem bound1 {B : Int} (h : ¬ 1 < B) (h2 : ¬ B < -1) (h0 : B ≠ 0) : BoundOk B 1 549755813888 := by unfold BoundOk; omega
theorem bound2 {B : Int} (h : 1 < B ∨ B < -1) (h2 : ¬ 1048576 < B) (h3 : ¬ B < -1048576) : BoundOk B 2 274877906944 := by unfold BoundOk; omega
theorem bound3 {B : Int} (h : 1048576 < B ∨ B < -1048576) (h2 : -1073741824 ≤ B ∧ B ≤ 1073741824) : BoundOk B 1048577 524288 := by unfold BoundOk; omega
theorem ref_div_any (a b : Int) : Calls Tryd.prog 21 #[.int .i64 a, .int .i64 b] w fun e w' => e = .returned (.tuple #[.int .i64 (fdivV a b).1, .int .i64 (fdivV a b).2]) ∧ w.Plus w' := by
  have hA := fcl_in a
  have hB := fcl_in b
  have hV : fdivV a b = if fcl b = 0 then (0, 11) else (fcl (qd (256 * fcl a) (fcl b)), 0) := by rw [Int.mul_comm 256 (fcl a)]; rfl
  by_cases hb : fcl b = 0
  · rw [if_pos hb] at hV
    rw [hV]
    clear hV
    go_enter Tryd.func21, Tryd.ntmps21
    go_wp2_with (first | (go_at_call 13; (with_reducible refine (clamp_any _ _).mono ?_); rintro e w' ⟨rfl, ey, rfl⟩) | (go_at_call 14; (with_reducible refine (ref_clamp _ _).mono ?_); rintro e w' ⟨rfl, ey, rfl⟩))
    go_ret2
    exact ⟨rfl, by (repeat (first | exact Plus.refl _ | apply Plus.plus | apply Plus.alloc | apply Plus.drew))⟩
  rw [if_neg hb] at hV
  rw [hV]
  clear hV
  have hq := Lib.hid (qd_is (256 * fcl a) (fcl b) hb)
  have hbe : (fcl b == 0) = false := by rw [beq_eq_false_iff_ne]; exact hb
  have hw1 : wrap64 (256 * fcl a) = 256 * fcl a := w64_id (by omega) (by omega)
  obtain ⟨m, L, hbo, hL⟩ : ∃ m L, BoundOk (fcl b) m L ∧ ((¬ 1 < fcl b ∧ ¬ fcl b < -1 ∧ L = 549755813888) ∨ ((1 < fcl b ∨ fcl b < -1) ∧ ¬ 1048576 < fcl b ∧ ¬ fcl b < -1048576 ∧ L = 274877906944) ∨ ((1048576 < fcl b ∨ fcl b < -1048576) ∧ L = 524288)) := by
    by_cases c1 : 1048576 < fcl b ∨ fcl b < -1048576
    · exact ⟨_, _, bound3 c1 hB, .inr (.inr ⟨c1, rfl⟩)⟩
    · by_cases c2 : 1 < fcl b ∨ fcl b < -1
      · exact ⟨_, _, bound2 c2 (by omega) (by omega), .inr (.inl ⟨c2, by omega, by omega, rfl⟩)⟩
      · exact ⟨_, _, bound1 (by omega) (by omega) hb, .inl ⟨by omega, by omega, rfl⟩⟩
  have hS := Lib.hid (Srch.start hb (show -274877906944 ≤ 256 * fcl a ∧ 256 * fcl a ≤ 274877906944 by omega) hbo)
  have hP := Lib.hid hbo.2.2
  have hL0 : 0 ≤ L ∧ L ≤ 549755813888 := by have := hbo.1; omega
  clear hbo
  have hbel := Lib.hid (fun w q h => below_any w q (fcl b) (256 * fcl a) (prod_in h hP.out hL0.1).1 (prod_in h hP.out hL0.1).2)
  rcases hL with ⟨c1, c2, rfl⟩ | ⟨c1, c2, c3, rfl⟩ | ⟨c1, rfl⟩
  · go_enter Tryd.func21, Tryd.ntmps21
    go_wp2_with (first | (go_at_call 13; (with_reducible refine (clamp_any _ _).mono ?_); rintro e w' ⟨rfl, ey, rfl⟩) | (go_at_call 14; (with_reducible refine (ref_clamp _ _).mono ?_); rintro e w' ⟨rfl, ey, rfl⟩))
    go_loopw [8, 9, 10] (fun lo hi m wr => ∃ l h : Int, lo = .int .i64 l ∧ hi = .int .i64 h ∧ Srch (256 * fcl a) (fcl b) 549755813888 l h ∧ w.Plus wr) (fun lo hi _ _ => (intOf hi - intOf lo).toNat)
    case atStart => exact ⟨_, _, rfl, rfl, hS.out, by (repeat (first | exact Plus.refl _ | apply Plus.plus | apply Plus.alloc | apply Plus.drew))⟩
    case round =>
      obtain ⟨l, h, rfl, rfl, hs, hp⟩ := hrel
      have s1 := hs.lt
      have s2 := hs.lo1
      have s3 := hs.hi1
      replace hs := Lib.hid hs
      by_cases hgt : 1 < h - l
      · obtain ⟨m, hm⟩ : ∃ m, l + (h - l) / 2 = m := ⟨_, rfl⟩
        have hm1 : l < m ∧ m < h := by omega
        have hbm := Lib.hid (fun w' => hbel.out w' m ⟨by omega, by omega⟩)
        by_cases hbb : belowB m (fcl b) (256 * fcl a) = true
        · have hup := Lib.hid (hs.out.up hm1 hbb)
          rw [hbb] at hbm
          replace hbb := Lib.hid hbb
          go_wp2_with (first | (go_at_call 26; (with_reducible refine (hbm.out _).mono ?_); rintro e w' ⟨rfl, ey, rfl⟩))
          go_roundw
          case rel => exact ⟨_, _, rfl, rfl, hup.out, Plus.trans hp (by (repeat (first | exact Plus.refl _ | apply Plus.plus | apply Plus.alloc | apply Plus.drew)))⟩
          case measure => simp [intOf]; omega
        · have hbf : belowB m (fcl b) (256 * fcl a) = false := by simpa using hbb
          have hdn := Lib.hid (hs.out.down hm1 hbf)
          rw [hbf] at hbm
          replace hbb := Lib.hid hbb
          replace hbf := Lib.hid hbf
          go_wp2_with (first | (go_at_call 26; (with_reducible refine (hbm.out _).mono ?_); rintro e w' ⟨rfl, ey, rfl⟩))
          go_roundw
          case rel => exact ⟨_, _, rfl, rfl, hdn.out, Plus.trans hp (by (repeat (first | exact Plus.refl _ | apply Plus.plus | apply Plus.alloc | apply Plus.drew)))⟩
          case measure => simp [intOf]; omega
      · have hE := Lib.hid ((IsDiv.of_below hb hs.out.b1 (by have := hs.out.b2; rwa [show h = l + 1 by omega] at this)).eq hq.out hb)
        go_wp2_with (first | (go_at_call 13; (with_reducible refine (clamp_any _ _).mono ?_); rintro e w' ⟨rfl, ey, rfl⟩) | (go_at_call 14; (with_reducible refine (ref_clamp _ _).mono ?_); rintro e w' ⟨rfl, ey, rfl⟩))
        go_ret2
        rw [← hE.out]
        exact ⟨rfl, Plus.trans hp (by (repeat (first | exact Plus.refl _ | apply Plus.plus | apply Plus.alloc | apply Plus.drew)))⟩

  · have c4 : (decide (1 < fcl b) || decide (fcl b < -1)) = true := by simp; omega
    go_enter Tryd.func21, Tryd.ntmps21
    rcases c1 with c1 | c1
    · go_wp2_with (first | (go_at_call 13; (with_reducible refine (clamp_any _ _).mono ?_); rintro e w' ⟨rfl, ey, rfl⟩) | (go_at_call 14; (with_reducible refine (ref_clamp _ _).mono ?_); rintro e w' ⟨rfl, ey, rfl⟩))
      go_loopw [8, 9, 10] (fun lo hi m wr => ∃ l h : Int, lo = .int .i64 l ∧ hi = .int .i64 h ∧ Srch (256 * fcl a) (fcl b) 274877906944 l h ∧ w.Plus wr) (fun lo hi _ _ => (intOf hi - intOf lo).toNat)
      case atStart => exact ⟨_, _, rfl, rfl, hS.out, by (repeat (first | exact Plus.refl _ | apply Plus.plus | apply Plus.alloc | apply Plus.drew))⟩
      case round =>
        obtain ⟨l, h, rfl, rfl, hs, hp⟩ := hrel
        have s1 := hs.lt
        have s2 := hs.lo1
        have s3 := hs.hi1
        replace hs := Lib.hid hs
        by_cases hgt : 1 < h - l
        · obtain ⟨m, hm⟩ : ∃ m, l + (h - l) / 2 = m := ⟨_, rfl⟩
          have hm1 : l < m ∧ m < h := by omega
          have hbm := Lib.hid (fun w' => hbel.out w' m ⟨by omega, by omega⟩)
          by_cases hbb : belowB m (fcl b) (256 * fcl a) = true
          · have hup := Lib.hid (hs.out.up hm1 hbb)
            rw [hbb] at hbm
            replace hbb := Lib.hid hbb
            go_wp2_with (first | (go_at_call 26; (with_reducible refine (hbm.out _).mono ?_); rintro e w' ⟨rfl, ey, rfl⟩))
            go_roundw
            case rel => exact ⟨_, _, rfl, rfl, hup.out, Plus.trans hp (by (repeat (first | exact Plus.refl _ | apply Plus.plus | apply Plus.alloc | apply Plus.drew)))⟩
            case measure => simp [intOf]; omega
          · have hbf : belowB m (fcl b) (256 * fcl a) = false := by simpa using hbb
            have hdn := Lib.hid (hs.out.down hm1 hbf)
            rw [hbf] at hbm
            replace hbb := Lib.hid hbb
            replace hbf := Lib.hid hbf
            go_wp2_with (first | (go_at_call 26; (with_reducible refine (hbm.out _).mono ?_); rintro e w' ⟨rfl, ey, rfl⟩))
            go_roundw
            case rel => exact ⟨_, _, rfl, rfl, hdn.out, Plus.trans hp (by (repeat (first | exact Plus.refl _ | apply Plus.plus | apply Plus.alloc | apply Plus.drew)))⟩
            case measure => simp [intOf]; omega
        · have hE := Lib.hid ((IsDiv.of_below hb hs.out.b1 (by have := hs.out.b2; rwa [show h = l + 1 by omega] at this)).eq hq.out hb)
          go_wp2_with (first | (go_at_call 13; (with_reducible refine (clamp_any _ _).mono ?_); rintro e w' ⟨rfl, ey, rfl⟩) | (go_at_call 14; (with_reducible refine (ref_clamp _ _).mono ?_); rintro e w' ⟨rfl, ey, rfl⟩))
          go_ret2
          rw [← hE.out]
          exact ⟨rfl, Plus.trans hp (by (repeat (first | exact Plus.refl _ | apply Plus.plus | apply Plus.alloc | apply Plus.drew)))⟩

    · have c5 : ¬ 1 < fcl b := by omega
      go_wp2_with (first | (go_at_call 13; (with_reducible refine (clamp_any _ _).mono ?_); rintro e w' ⟨rfl, ey, rfl⟩) | (go_at_call 14; (with_reducible refine (ref_clamp _ _).mono ?_); rintro e w' ⟨rfl, ey, rfl⟩))
      go_loopw [8, 9, 10] (fun lo hi m wr => ∃ l h : Int, lo = .int .i64 l ∧ hi = .int .i64 h ∧ Srch (256 * fcl a) (fcl b) 274877906944 l h ∧ w.Plus wr) (fun lo hi _ _ => (intOf hi - intOf lo).toNat)
      case atStart => exact ⟨_, _, rfl, rfl, hS.out, by (repeat (first | exact Plus.refl _ | apply Plus.plus | apply Plus.alloc | apply Plus.drew))⟩
      case round =>
        obtain ⟨l, h, rfl, rfl, hs, hp⟩ := hrel
        have s1 := hs.lt
        have s2 := hs.lo1
        have s3 := hs.hi1
        replace hs := Lib.hid hs
        by_cases hgt : 1 < h - l
        · obtain ⟨m, hm⟩ : ∃ m, l + (h - l) / 2 = m := ⟨_, rfl⟩
          have hm1 : l < m ∧ m < h := by omega
          have hbm := Lib.hid (fun w' => hbel.out w' m ⟨by omega, by omega⟩)
          by_cases hbb : belowB m (fcl b) (256 * fcl a) = true
          · have hup := Lib.hid (hs.out.up hm1 hbb)
            rw [hbb] at hbm
            replace hbb := Lib.hid hbb
            go_wp2_with (first | (go_at_call 26; (with_reducible refine (hbm.out _).mono ?_); rintro e w' ⟨rfl, ey, rfl⟩))
            go_roundw
            case rel => exact ⟨_, _, rfl, rfl, hup.out, Plus.trans hp (by (repeat (first | exact Plus.refl _ | apply Plus.plus | apply Plus.alloc | apply Plus.drew)))⟩
            case measure => simp [intOf]; omega
          · have hbf : belowB m (fcl b) (256 * fcl a) = false := by simpa using hbb
            have hdn := Lib.hid (hs.out.down hm1 hbf)
            rw [hbf] at hbm
            replace hbb := Lib.hid hbb
            replace hbf := Lib.hid hbf
            go_wp2_with (first | (go_at_call 26; (with_reducible refine (hbm.out _).mono ?_); rintro e w' ⟨rfl, ey, rfl⟩))
            go_roundw
            case rel => exact ⟨_, _, rfl, rfl, hdn.out, Plus.trans hp (by (repeat (first | exact Plus.refl _ | apply Plus.plus | apply Plus.alloc | apply Plus.drew)))⟩
            case measure => simp [intOf]; omega
        · have hE := Lib.hid ((IsDiv.of_below hb hs.out.b1 (by have := hs.out.b2; rwa [show h = l + 1 by omega] at this)).eq hq.out hb)
          go_wp2_with (first | (go_at_call 13; (with_reducible refine (clamp_any _ _).mono ?_); rintro e w' ⟨rfl, ey, rfl⟩) | (go_at_call 14; (with_reducible refine (ref_clamp _ _).mono ?_); rintro e w' ⟨rfl, ey, rfl⟩))
          go_ret2
          rw [← hE.out]
          exact ⟨rfl, Plus.trans hp (by (repeat (first | exact Plus.refl _ | apply Plus.plus | apply Plus.alloc | apply Plus.drew)))⟩

  · go_enter Tryd.func21, Tryd.ntmps21
    rcases c1 with c1 | c1
    · have c5 : 1 < fcl b := by omega
      go_wp2_with (first | (go_at_call 13; (with_reducible refine (clamp_any _ _).mono ?_); rintro e w' ⟨rfl, ey, rfl⟩) | (go_at_call 14; (with_reducible refine (ref_clamp _ _).mono ?_); rintro e w' ⟨rfl, ey, rfl⟩))
      go_loopw [8, 9, 10] (fun lo hi m wr => ∃ l h : Int, lo = .int .i64 l ∧ hi = .int .i64 h ∧ Srch (256 * fcl a) (fcl b) 524288 l h ∧ w.Plus wr) (fun lo hi _ _ => (intOf hi - intOf lo).toNat)
      case atStart => exact ⟨_, _, rfl, rfl, hS.out, by (repeat (first | exact Plus.refl _ | apply Plus.plus | apply Plus.alloc | apply Plus.drew))⟩
      case round =>
        obtain ⟨l, h, rfl, rfl, hs, hp⟩ := hrel
        have s1 := hs.lt
        have s2 := hs.lo1
        have s3 := hs.hi1
        replace hs := Lib.hid hs
        by_cases hgt : 1 < h - l
        · obtain ⟨m, hm⟩ : ∃ m, l + (h - l) / 2 = m := ⟨_, rfl⟩
          have hm1 : l < m ∧ m < h := by omega
          have hbm := Lib.hid (fun w' => hbel.out w' m ⟨by omega, by omega⟩)
          by_cases hbb : belowB m (fcl b) (256 * fcl a) = true
          · have hup := Lib.hid (hs.out.up hm1 hbb)
            rw [hbb] at hbm
            replace hbb := Lib.hid hbb
            go_wp2_with (first | (go_at_call 26; (with_reducible refine (hbm.out _).mono ?_); rintro e w' ⟨rfl, ey, rfl⟩))
            go_roundw
            case rel => exact ⟨_, _, rfl, rfl, hup.out, Plus.trans hp (by (repeat (first | exact Plus.refl _ | apply Plus.plus | apply Plus.alloc | apply Plus.drew)))⟩
            case measure => simp [intOf]; omega
          · have hbf : belowB m (fcl b) (256 * fcl a) = false := by simpa using hbb
            have hdn := Lib.hid (hs.out.down hm1 hbf)
            rw [hbf] at hbm
            replace hbb := Lib.hid hbb
            replace hbf := Lib.hid hbf
            go_wp2_with (first | (go_at_call 26; (with_reducible refine (hbm.out _).mono ?_); rintro e w' ⟨rfl, ey, rfl⟩))
            go_roundw
            case rel => exact ⟨_, _, rfl, rfl, hdn.out, Plus.trans hp (by (repeat (first | exact Plus.refl _ | apply Plus.plus | apply Plus.alloc | apply Plus.drew)))⟩
            case measure => simp [intOf]; omega
        · have hE := Lib.hid ((IsDiv.of_below hb hs.out.b1 (by have := hs.out.b2; rwa [show h = l + 1 by omega] at this)).eq hq.out hb)
          go_wp2_with (first | (go_at_call 13; (with_reducible refine (clamp_any _ _).mono ?_); rintro e w' ⟨rfl, ey, rfl⟩) | (go_at_call 14; (with_reducible refine (ref_clamp _ _).mono ?_); rintro e w' ⟨rfl, ey, rfl⟩))
          go_ret2
          rw [← hE.out]
          exact ⟨rfl, Plus.trans hp (by (repeat (first | exact Plus.refl _ | apply Plus.plus | apply Plus.alloc | apply Plus.drew)))⟩

    · have c5 : ¬ 1 < fcl b := by omega
      have c6 : ¬ 1048576 < fcl b := by omega
      have c7 : fcl b < -1 := by omega
      go_wp2_with (first | (go_at_call 13; (with_reducible refine (clamp_any _ _).mono ?_); rintro e w' ⟨rfl, ey, rfl⟩) | (go_at_call 14; (with_reducible refine (ref_clamp _ _).mono ?_); rintro e w' ⟨rfl, ey, rfl⟩))
      go_loopw [8, 9, 10] (fun lo hi m wr => ∃ l h : Int, lo = .int .i64 l ∧ hi = .int .i64 h ∧ Srch (256 * fcl a) (fcl b) 524288 l h ∧ w.Plus wr) (fun lo hi _ _ => (intOf hi - intOf lo).toNat)
      case atStart => exact ⟨_, _, rfl, rfl, hS.out, by (repeat (first | exact Plus.refl _ | apply Plus.plus | apply Plus.alloc | apply Plus.drew))⟩
      case round =>
        obtain ⟨l, h, rfl, rfl, hs, hp⟩ := hrel
        have s1 := hs.lt
        have s2 := hs.lo1
        have s3 := hs.hi1
        replace hs := Lib.hid hs
        by_cases hgt : 1 < h - l
        · obtain ⟨m, hm⟩ : ∃ m, l + (h - l) / 2 = m := ⟨_, rfl⟩
          have hm1 : l < m ∧ m < h := by omega
          have hbm := Lib.hid (fun w' => hbel.out w' m ⟨by omega, by omega⟩)
          by_cases hbb : belowB m (fcl b) (256 * fcl a) = true
          · have hup := Lib.hid (hs.out.up hm1 hbb)
            rw [hbb] at hbm
            replace hbb := Lib.hid hbb
            go_wp2_with (first | (go_at_call 26; (with_reducible refine (hbm.out _).mono ?_); rintro e w' ⟨rfl, ey, rfl⟩))
            go_roundw
            case rel => exact ⟨_, _, rfl, rfl, hup.out, Plus.trans hp (by (repeat (first | exact Plus.refl _ | apply Plus.plus | apply Plus.alloc | apply Plus.drew)))⟩
            case measure => simp [intOf]; omega
          · have hbf : belowB m (fcl b) (256 * fcl a) = false := by simpa using hbb
            have hdn := Lib.hid (hs.out.down hm1 hbf)
            rw [hbf] at hbm
            replace hbb := Lib.hid hbb
            replace hbf := Lib.hid hbf
            go_wp2_with (first | (go_at_call 26; (with_reducible refine (hbm.out _).mono ?_); rintro e w' ⟨rfl, ey, rfl⟩))
            go_roundw
            case rel => exact ⟨_, _, rfl, rfl, hdn.out, Plus.trans hp (by (repeat (first | exact Plus.refl _ | apply Plus.plus | apply Plus.alloc | apply Plus.drew)))⟩
            case measure => simp [intOf]; omega
        · have hE := Lib.hid ((IsDiv.of_below hb hs.out.b1 (by have := hs.out.b2; rwa [show h = l + 1 by omega] at this)).eq hq.out hb)
          go_wp2_with (first | (go_at_call 13; (with_reducible refine (clamp_any _ _).mono ?_); rintro e w' ⟨rfl, ey, rfl⟩) | (go_at_call 14; (with_reducible refine (ref_clamp _ _).mono ?_); rintro e w' ⟨rfl, ey, rfl⟩))
          go_ret2
          rw [← hE.out]
          exact ⟨rfl, Plus.trans hp (by (repeat (first | exact Plus.refl _ | apply Plus.plus | apply Plus.alloc | apply Plus.drew)))⟩

end
end Go.Proofs.YtndbcjgbcplgcaaDoor
