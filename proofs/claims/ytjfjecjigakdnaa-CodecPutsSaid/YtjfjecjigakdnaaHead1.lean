/- octet.head: what bytes say. -/
import Derived.Test.YtjfjecjigakdnaaRefLay
set_option linter.unusedSimpArgs false
set_option linter.unusedVariables false
namespace Go.Proofs.Ytjfjecjigakdnaa.Octs
open Go.RowKit
/-- the number that bytes are, the highest one first -/
def num : List UInt8 → Nat := fun l => l.foldl (fun n b => 256 * n + b.toNat) 0
theorem num_snoc (l : List UInt8) (b : UInt8) : num (l ++ [b]) = 256 * num l + b.toNat := by simp [num]
theorem num_lt_aux : ∀ (l : List UInt8) (a : Nat), l.foldl (fun n b => 256 * n + b.toNat) a < (a + 1) * 256 ^ l.length := by
  intro l
  induction l with
  | nil => intro a; simp
  | cons b l ih =>
    intro a
    have h1 := ih (256 * a + b.toNat)
    have h2 := b.toNat_lt
    have h3 : (256 * a + b.toNat + 1) * 256 ^ l.length ≤ ((a + 1) * 256) * 256 ^ l.length := Nat.mul_le_mul_right _ (by omega)
    simp only [List.foldl_cons, List.length_cons, Nat.pow_succ]
    rw [Nat.mul_comm (256 ^ l.length) 256, ← Nat.mul_assoc]
    omega
theorem num_lt (l : List UInt8) : num l < 256 ^ l.length := by
  have := num_lt_aux l 0
  simpa [num] using this
theorem num_lt7 (l : List UInt8) (h : l.length ≤ 7) : num l < 72057594037927936 :=
  Nat.lt_of_lt_of_le (num_lt l) (Nat.pow_le_pow_right (by decide) h)
theorem num_lt8 (l : List UInt8) (h : l.length ≤ 8) : num l < 18446744073709551616 :=
  Nat.lt_of_lt_of_le (num_lt l) (Nat.pow_le_pow_right (by decide) h)
/-- a number of 64 bits, with its sign -/
def sx (d : Nat) : Int := IntKind.i64.wrap (d : Int)
theorem sx_small (d : Nat) (h : d < 9223372036854775808) : sx d = d := wrap_id (by omega) (by omega)
theorem sx_big (d : Nat) (h : 9223372036854775808 ≤ d) (h2 : d < 18446744073709551616) : sx d < 0 := by
  unfold sx; rw [IntKind.wrap_i64]; omega
theorem or_step (d c : Nat) (hd : d < 72057594037927936) (hc : c < 256) : bits .or .i64 (IntKind.i64.wrap ((d : Int) * 256)) (c : Int) = sx (256 * d + c) := by
  show IntKind.i64.wrap ((BitVec.ofInt 64 (IntKind.i64.wrap ((d : Int) * 256)) ||| BitVec.ofInt 64 (c : Int)).toNat : Int) = _
  have h1 : (BitVec.ofInt 64 (IntKind.i64.wrap ((d : Int) * 256))).toNat = d * 256 := by
    rw [BitVec.toNat_ofInt, IntKind.wrap_i64]
    simp only [show ((2 ^ 64 : Nat) : Int) = 18446744073709551616 from rfl]
    omega
  have h2 : (BitVec.ofInt 64 (c : Int)).toNat = c := by
    rw [BitVec.toNat_ofInt]
    simp only [show ((2 ^ 64 : Nat) : Int) = 18446744073709551616 from rfl]
    omega
  have h3 : d * 256 ||| c = 256 * d + c := by
    have := Nat.shiftLeft_add_eq_or_of_lt (show c < 2 ^ 8 from hc) d
    rw [Nat.shiftLeft_eq] at this
    rw [show (256 : Nat) = 2 ^ 8 from rfl, ← this, Nat.mul_comm]
  rw [BitVec.toNat_or, h1, h2, h3]
  rfl
theorem and_127 (c : Nat) (hc : c < 256) : bits .and .u8 (c : Int) 127 = ((c % 128 : Nat) : Int) := by
  have := u8_and_nat c 127 hc (by decide)
  rw [show ((127 : Nat) : Int) = 127 from rfl] at this
  rw [this, show (127 : Nat) = 2 ^ 7 - 1 from rfl, Nat.and_two_pow_sub_one_eq_mod]
def headK (s : ByteArray) : Nat := (s.data.toList.getD 0 0).toNat % 128
def headD (s : ByteArray) : Nat := num ((bytes s).drop 1 |>.take (headK s))
/-- do bytes begin with a number? -/
def headOk (s : ByteArray) : Prop := 0 < s.size ∧ headK s ≤ 8 ∧ headK s < s.size ∧ ¬ (0 < headK s ∧ ((bytes s).getD 1 0).toNat = 0) ∧ headD s < 9223372036854775808
instance (s : ByteArray) : Decidable (headOk s) := by unfold headOk; infer_instance
/-- the number with which bytes begin -/
def headN (s : ByteArray) : Int := if 127 < ((bytes s).getD 0 0).toNat then -(headD s : Int) - 1 else headD s
def headV (s : ByteArray) : Value := if headOk s then .tuple #[.int .i64 (headN s), .int .i64 (1 + headK s : Nat), .bool true] else .tuple #[.int .i64 0, .int .i64 0, .bool false]
theorem byte_get (s : ByteArray) (i : Nat) (h : i < s.size) : (bytes s).getD i 0 = s[i] := by
  have h2 : i < s.data.size := h
  unfold bytes
  rw [List.getD_eq_getElem?_getD, Array.getElem?_toList, Array.getElem?_eq_getElem h2]
  rfl
theorem conv_string (s : ByteArray) (k : Nat) (w : World) (hk : k < s.size) :
    ∃ W1 cap, (convert 9 93 (.string (s.extract 1 (1 + k)))).run Try.prog w = .ok (.slice (some ⟨w.heap.size, 0, none⟩) k cap) W1 ∧ w.Plus W1 ∧ w.heap.size < W1.heap.size ∧
      ∀ i, i < k → W1.cell? ⟨w.heap.size, i, none⟩ = some (u8v ((bytes s).getD (1 + i) 0)) := by
  have hsz : (s.extract 1 (1 + k)).size = k := by rw [ByteArray.size_extract]; omega
  have hr := run_bytes_of_string (P := Try.prog) w 9 93 5 (s.extract 1 (1 + k)) (by kernel_rfl) (by kernel_rfl) (by kernel_rfl)
  rw [hsz] at hr
  generalize grownCap w k 0 5 = cap at hr
  generalize hf : ((bytesRow (s.extract 1 (1 + k)) cap).size, (bytesRow (s.extract 1 (1 + k)) cap).size + 1) = f at hr
  have hrow : ∀ i, i < k → (bytesRow (s.extract 1 (1 + k)) cap)[i]? = some (u8v ((bytes s).getD (1 + i) 0)) := fun i hi => by
    have hd : i < (s.extract 1 (1 + k)).data.size := by show i < (s.extract 1 (1 + k)).size; omega
    have h2 : (s.extract 1 (1 + k)).data[i] = (bytes s).getD (1 + i) 0 := by
      rw [byte_get s (1 + i) (by omega)]
      show (s.extract 1 (1 + k))[i] = _
      rw [ByteArray.getElem_extract]
    rw [← h2]
    exact bytesRow_at (s.extract 1 (1 + k)) cap i hd
  generalize bytesRow (s.extract 1 (1 + k)) cap = C at hr hrow
  refine ⟨_, _, hr, Plus.alloc (Plus.drew (Plus.refl w)) _, by rw [World.size_alloc]; exact Nat.lt_succ_self _, fun i hi => ?_⟩
  have hb : (w.drew.alloc (.cells C 5 f)).heap[w.heap.size]? = some (.cells C 5 f) := by
    show (w.heap.push (.cells C 5 f))[w.heap.size]? = _
    simp
  unfold World.cell?
  rw [hb]
  exact hrow i hi
theorem head_bad (s : ByteArray) (w : World) (hs : s.size ≤ 1000000000) (h : ¬ (0 < s.size ∧ headK s ≤ 8 ∧ headK s < s.size)) :
    Calls Try.prog 92 #[.string s] w fun e w' => e = .returned (headV s) ∧ w.Plus w' := by
  have hV : headV s = .tuple #[.int .i64 0, .int .i64 0, .bool false] := if_neg fun k => h ⟨k.1, k.2.1, k.2.2.1⟩
  rw [hV]
  by_cases h0 : 0 < s.size
  · have hand : bits .and .u8 ((s[0].toNat : Nat) : Int) 127 = (headK s : Int) := by
      rw [and_127 _ s[0].toNat_lt]
      unfold headK
      rw [show s.data.toList.getD 0 0 = s[0] from byte_get s 0 h0]
    have hemp : s.toList.isEmpty = false := by
      rw [← decide_eq_emptyBytes, decide_eq_false_iff_not]
      rintro rfl
      simp at h0
    generalize headK s = k at *
    clear hV
    by_cases h8 : k ≤ 8
    · have hks : ¬ k < s.size := fun h2 => h ⟨h0, h8, h2⟩
      have hwk : wrap64 (k : Int) = k := w64_id (by omega) (by omega)
      clear h
      go_enter Try.func92, Try.ntmps92
      go_wp2_with fail
      exact bodyPost_ret (v := .tuple #[.int .i64 0, .int .i64 0, .bool false]) (by simp [results, Try.results92, go_sem]) rfl ⟨rfl, by (repeat (first | exact Plus.refl _ | apply Plus.plus | apply Plus.alloc | apply Plus.drew))⟩
    · have h8i : (8 : Int) < k := by omega
      clear h
      go_enter Try.func92, Try.ntmps92
      go_wp2_with fail
      exact bodyPost_ret (v := .tuple #[.int .i64 0, .int .i64 0, .bool false]) (by simp [results, Try.results92, go_sem]) rfl ⟨rfl, by (repeat (first | exact Plus.refl _ | apply Plus.plus | apply Plus.alloc | apply Plus.drew))⟩
  · have hs0 : s = ByteArray.empty := by
      apply ByteArray.ext
      exact Array.eq_empty_of_size_eq_zero (by have : s.data.size = s.size := rfl; omega)
    subst hs0
    clear hV h h0 hs
    have hemp : ByteArray.empty.toList.isEmpty = true := by
      rw [← decide_eq_emptyBytes]
      exact decide_eq_true rfl
    go_enter Try.func92, Try.ntmps92
    go_wp2_with fail
    exact bodyPost_ret (v := .tuple #[.int .i64 0, .int .i64 0, .bool false]) (by simp [results, Try.results92, go_sem]) rfl ⟨rfl, by (repeat (first | exact Plus.refl _ | apply Plus.plus | apply Plus.alloc | apply Plus.drew))⟩
theorem part_get (s : ByteArray) (k j : Nat) (h : j < k) (hk : k < s.size) : (((bytes s).drop 1).take k).getD j 0 = (bytes s).getD (1 + j) 0 := by
  rw [List.getD_eq_getElem?_getD, List.getD_eq_getElem?_getD, List.getElem?_take, if_pos h, List.getElem?_drop]
set_option maxHeartbeats 1000000 in
set_option maxRecDepth 100000 in
theorem head_good (s : ByteArray) (w : World) (hs : s.size ≤ 1000000000) (h0 : 0 < s.size) (h8 : headK s ≤ 8) (hk : headK s < s.size) :
    Calls Try.prog 92 #[.string s] w fun e w' => e = .returned (headV s) ∧ w.Plus w' := by
  have hc0 : (bytes s).getD 0 0 = s[0] := byte_get s 0 h0
  have hand : bits .and .u8 ((s[0].toNat : Nat) : Int) 127 = (headK s : Int) := by
    rw [and_127 _ s[0].toNat_lt]
    unfold headK
    rw [show s.data.toList.getD 0 0 = s[0] from hc0]
  have hemp : s.toList.isEmpty = false := by
    rw [← decide_eq_emptyBytes, decide_eq_false_iff_not]
    rintro rfl
    simp at h0
  obtain ⟨W1, cap, hcv, hpW, hltW, hrow⟩ := conv_string s (headK s) w hk
  have hVd : headV s = if (0 < s.size ∧ headK s ≤ 8 ∧ headK s < s.size ∧ ¬ (0 < headK s ∧ ((bytes s).getD 1 0).toNat = 0) ∧ headD s < 9223372036854775808) then .tuple #[.int .i64 (if 127 < s[0].toNat then -(headD s : Int) - 1 else headD s), .int .i64 (1 + headK s : Nat), .bool true] else .tuple #[.int .i64 0, .int .i64 0, .bool false] := by
    unfold headV headN
    rw [hc0]
    rfl
  have hD : headD s = num (((bytes s).drop 1).take (headK s)) := rfl
  have hpart := fun j h => part_get s (headK s) j h hk
  have hpl : (((bytes s).drop 1).take (headK s)).length = headK s := by rw [List.length_take, List.length_drop, bytes_length]; omega
  generalize headD s = D at *
  generalize headV s = V at *
  generalize headK s = k at *
  generalize ((bytes s).drop 1).take k = L at *
  have hb1 : ∀ h : 0 < k, ((bytes s).getD 1 0) = s[1] := fun h => byte_get s 1 (by omega)
  have hrow' : ∀ j, j < k → W1.cell? ⟨w.heap.size, j, none⟩ = some (u8v (L.getD j 0)) := fun j hj => by rw [hpart j hj]; exact hrow j hj
  have hwk : wrap64 (k : Int) = k := w64_id (by omega) (by omega)
  have hwk1 : wrap64 (1 + (k : Int)) = 1 + k := w64_id (by omega) (by omega)
  haveI : InW w.heap.size W1 := ⟨hltW⟩
  replace hc0 := Lib.hid hc0
  replace hrow' := Lib.hid hrow'
  replace hVd := Lib.hid hVd
  replace hb1 := Lib.hid hb1
  replace hD := Lib.hid hD
  clear hrow hpart
  go_enter Try.func92, Try.ntmps92
  go_wp2_with fail
  go_loop [6, 8, 36] (fun n _ i => ∃ j : Nat, j ≤ k ∧ i = .int .i64 j ∧ n = .int .i64 (sx (num (L.take j)))) (fun _ _ i => k - (intOf i).toNat)
  case atStart => exact ⟨0, Nat.zero_le _, rfl, by simp [num]; rfl⟩
  case round =>
    obtain ⟨j, hj, rfl, rfl⟩ := hrel
    by_cases hlt : j < k
    · have c1 := hrow'.out j hlt
      have htk := take_getD 0 L j (by omega)
      have hnl := num_lt7 (L.take j) (by rw [List.length_take]; omega)
      have hnx : num (L.take (j + 1)) = 256 * num (L.take j) + (L.getD j 0).toNat := by rw [htk, num_snoc]
      generalize L.getD j 0 = b at *
      have hbl := b.toNat_lt
      generalize num (L.take j) = d at *
      rw [sx_small d (by omega)]
      have hor := or_step d b.toNat hnl hbl
      have hor2 : bits .or .i64 (wrap64 ((d : Int) * 256)) (b.toNat : Int) = sx (256 * d + b.toNat) := by
        rw [show wrap64 ((d : Int) * 256) = IntKind.i64.wrap ((d : Int) * 256) by simp only [wrap64, IntKind.wrap_i64]]
        exact hor
      replace hnx := Lib.hid hnx
      clear htk
      go_wp2_with fail
      go_round
      case rel => exact ⟨j + 1, hlt, by go_num, by rw [hnx.out]⟩
      case measure => simp [intOf]; omega
    · have hjk : j = k := by omega
      subst hjk
      rw [List.take_of_length_le (by omega)]
      have hDl := num_lt8 L (by omega)
      rw [← hD.out] at hDl
      rw [← hD.out]
      replace hD := Lib.hid trivial
      by_cases hk0 : 0 < j
      · have hz1 := hb1.out hk0
        have hj1 : 1 < s.size := by omega
        by_cases hz : s[1].toNat = 0
        · have hV : V = .tuple #[.int .i64 0, .int .i64 0, .bool false] := by rw [hVd.out, if_neg (fun h => h.2.2.2.1 ⟨hk0, by rw [hz1]; exact hz⟩)]
          replace hV := Lib.hid hV.symm
          replace hz1 := Lib.hid hz1
          have hzi : ((s[1].toNat : Nat) : Int) = 0 := by omega
          generalize sx D = q at *
          go_wp2_with fail
          exact bodyPost_ret (v := .tuple #[.int .i64 0, .int .i64 0, .bool false]) (by simp [results, Try.results92, go_sem]) rfl ⟨by rw [← hV.out], hpW⟩
        · have hzz : ¬ (0 < j ∧ ((bytes s).getD 1 0).toNat = 0) := fun h => hz (by rw [← hz1]; exact h.2)
          replace hz1 := Lib.hid hz1
          have hzi : ¬ ((s[1].toNat : Nat) : Int) = 0 := by omega
          have hzi2 : (((s[1].toNat : Nat) : Int) == 0) = false := by simpa using hzi
          by_cases hD63 : D < 9223372036854775808
          · rw [sx_small D hD63]
            by_cases hc : 127 < s[0].toNat
            · have hV : V = .tuple #[.int .i64 (-(D : Int) - 1), .int .i64 (1 + (j : Int)), .bool true] := by rw [hVd.out, if_pos ⟨h0, h8, hk, hzz, hD63⟩, if_pos hc]; simp
              have hci : (127 : Int) < (s[0].toNat : Int) := by omega
              have hnot := not_pos D hD63
              replace hV := Lib.hid hV.symm
              go_wp2_with fail
              exact bodyPost_ret (v := .tuple #[.int .i64 (-(D : Int) - 1), .int .i64 (1 + (j : Int)), .bool true]) (by simp [results, Try.results92, go_sem]) rfl ⟨by rw [← hV.out], hpW⟩
            · have hV : V = .tuple #[.int .i64 ((D : Int)), .int .i64 (1 + (j : Int)), .bool true] := by rw [hVd.out, if_pos ⟨h0, h8, hk, hzz, hD63⟩, if_neg hc]; simp
              have hci : ¬ (127 : Int) < (s[0].toNat : Int) := by omega
              replace hV := Lib.hid hV.symm
              go_wp2_with fail
              exact bodyPost_ret (v := .tuple #[.int .i64 ((D : Int)), .int .i64 (1 + (j : Int)), .bool true]) (by simp [results, Try.results92, go_sem]) rfl ⟨by rw [← hV.out], hpW⟩
          · have hq := sx_big D (by omega) hDl
            have hV : V = .tuple #[.int .i64 0, .int .i64 0, .bool false] := by rw [hVd.out, if_neg (fun h => hD63 h.2.2.2.2)]
            replace hV := Lib.hid hV.symm
            generalize sx D = q at *
            go_wp2_with fail
            exact bodyPost_ret (v := .tuple #[.int .i64 0, .int .i64 0, .bool false]) (by simp [results, Try.results92, go_sem]) rfl ⟨by rw [← hV.out], hpW⟩
      · have hzz : ¬ (0 < j ∧ ((bytes s).getD 1 0).toNat = 0) := fun h => hk0 h.1
        have hk0i : ¬ (0 : Int) < j := by omega
        by_cases hD63 : D < 9223372036854775808
        · rw [sx_small D hD63]
          by_cases hc : 127 < s[0].toNat
          · have hV : V = .tuple #[.int .i64 (-(D : Int) - 1), .int .i64 (1 + (j : Int)), .bool true] := by rw [hVd.out, if_pos ⟨h0, h8, hk, hzz, hD63⟩, if_pos hc]; simp
            have hci : (127 : Int) < (s[0].toNat : Int) := by omega
            have hnot := not_pos D hD63
            replace hV := Lib.hid hV.symm
            go_wp2_with fail
            exact bodyPost_ret (v := .tuple #[.int .i64 (-(D : Int) - 1), .int .i64 (1 + (j : Int)), .bool true]) (by simp [results, Try.results92, go_sem]) rfl ⟨by rw [← hV.out], hpW⟩
          · have hV : V = .tuple #[.int .i64 ((D : Int)), .int .i64 (1 + (j : Int)), .bool true] := by rw [hVd.out, if_pos ⟨h0, h8, hk, hzz, hD63⟩, if_neg hc]; simp
            have hci : ¬ (127 : Int) < (s[0].toNat : Int) := by omega
            replace hV := Lib.hid hV.symm
            go_wp2_with fail
            exact bodyPost_ret (v := .tuple #[.int .i64 ((D : Int)), .int .i64 (1 + (j : Int)), .bool true]) (by simp [results, Try.results92, go_sem]) rfl ⟨by rw [← hV.out], hpW⟩
        · have hq := sx_big D (by omega) hDl
          have hV : V = .tuple #[.int .i64 0, .int .i64 0, .bool false] := by rw [hVd.out, if_neg (fun h => hD63 h.2.2.2.2)]
          replace hV := Lib.hid hV.symm
          generalize sx D = q at *
          go_wp2_with fail
          exact bodyPost_ret (v := .tuple #[.int .i64 0, .int .i64 0, .bool false]) (by simp [results, Try.results92, go_sem]) rfl ⟨by rw [← hV.out], hpW⟩
end Go.Proofs.Ytjfjecjigakdnaa.Octs
