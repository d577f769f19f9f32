/- Plain laws and walks: Head1, Reader, Reader2, OctAwake, RefRead, RefRead2, RefRead3, Dec, RdO. -/
import Derived.Test.YtpdlgflbcgemnaaGreatDoorGb
import Derived.Test.YtpdlgflbcgemnaaGreatDoorGa
-- Head1
/- octet.head: what bytes say. -/
set_option linter.unusedSimpArgs false
set_option linter.unusedVariables false
set_option maxRecDepth 100000
namespace Go.Proofs.YtpdlgflbcgemnaaGreatDoor.Octs
open Go.RowKit
/-- the number that bytes are, the highest one first -/
def num : List UInt8 → Nat := fun l => l.foldl (fun n b => 256 * n + b.toNat) 0
theorem num_snoc (l : List UInt8) (b : UInt8) : num (l ++ [b]) = 256 * num l + b.toNat := by simp [num]
theorem num_lt_aux : ∀ (l : List UInt8) (a : Nat), l.foldl (fun n b => 256 * n + b.toNat) a < (a + 1) * 256 ^ l.length := by
  intro l
  induction l with
  | nil => intro a; simp
  | cons b l ih =>
    intro a
    have h1 := ih (256 * a + b.toNat)
    have h2 := b.toNat_lt
    have h3 : (256 * a + b.toNat + 1) * 256 ^ l.length ≤ ((a + 1) * 256) * 256 ^ l.length := Nat.mul_le_mul_right _ (by omega)
    simp only [List.foldl_cons, List.length_cons, Nat.pow_succ]
    rw [Nat.mul_comm (256 ^ l.length) 256, ← Nat.mul_assoc]
    omega
theorem num_lt (l : List UInt8) : num l < 256 ^ l.length := by
  have := num_lt_aux l 0
  simpa [num] using this
theorem num_lt7 (l : List UInt8) (h : l.length ≤ 7) : num l < 72057594037927936 :=
  Nat.lt_of_lt_of_le (num_lt l) (Nat.pow_le_pow_right (by decide) h)
theorem num_lt8 (l : List UInt8) (h : l.length ≤ 8) : num l < 18446744073709551616 :=
  Nat.lt_of_lt_of_le (num_lt l) (Nat.pow_le_pow_right (by decide) h)
/-- a number of 64 bits, with its sign -/
def sx (d : Nat) : Int := IntKind.i64.wrap (d : Int)
theorem sx_small (d : Nat) (h : d < 9223372036854775808) : sx d = d := wrap_id (by omega) (by omega)
theorem sx_big (d : Nat) (h : 9223372036854775808 ≤ d) (h2 : d < 18446744073709551616) : sx d < 0 := by
  unfold sx; rw [IntKind.wrap_i64]; omega
theorem or_step (d c : Nat) (hd : d < 72057594037927936) (hc : c < 256) : bits .or .i64 (IntKind.i64.wrap ((d : Int) * 256)) (c : Int) = sx (256 * d + c) := by
  show IntKind.i64.wrap ((BitVec.ofInt 64 (IntKind.i64.wrap ((d : Int) * 256)) ||| BitVec.ofInt 64 (c : Int)).toNat : Int) = _
  have h1 : (BitVec.ofInt 64 (IntKind.i64.wrap ((d : Int) * 256))).toNat = d * 256 := by
    rw [BitVec.toNat_ofInt, IntKind.wrap_i64]
    simp only [show ((2 ^ 64 : Nat) : Int) = 18446744073709551616 from rfl]
    omega
  have h2 : (BitVec.ofInt 64 (c : Int)).toNat = c := by
    rw [BitVec.toNat_ofInt]
    simp only [show ((2 ^ 64 : Nat) : Int) = 18446744073709551616 from rfl]
    omega
  have h3 : d * 256 ||| c = 256 * d + c := by
    have := Nat.shiftLeft_add_eq_or_of_lt (show c < 2 ^ 8 from hc) d
    rw [Nat.shiftLeft_eq] at this
    rw [show (256 : Nat) = 2 ^ 8 from rfl, ← this, Nat.mul_comm]
  rw [BitVec.toNat_or, h1, h2, h3]
  rfl
theorem and_127 (c : Nat) (hc : c < 256) : bits .and .u8 (c : Int) 127 = ((c % 128 : Nat) : Int) := by
  have := u8_and_nat c 127 hc (by decide)
  rw [show ((127 : Nat) : Int) = 127 from rfl] at this
  rw [this, show (127 : Nat) = 2 ^ 7 - 1 from rfl, Nat.and_two_pow_sub_one_eq_mod]
def headK (s : ByteArray) : Nat := (s.data.toList.getD 0 0).toNat % 128
def headD (s : ByteArray) : Nat := num ((bytes s).drop 1 |>.take (headK s))
/-- do bytes begin with a number? -/
def headOk (s : ByteArray) : Prop := 0 < s.size ∧ headK s ≤ 8 ∧ headK s < s.size ∧ ¬ (0 < headK s ∧ ((bytes s).getD 1 0).toNat = 0) ∧ headD s < 9223372036854775808
instance (s : ByteArray) : Decidable (headOk s) := by unfold headOk; infer_instance
/-- the number with which bytes begin -/
def headN (s : ByteArray) : Int := if 127 < ((bytes s).getD 0 0).toNat then -(headD s : Int) - 1 else headD s
def headV (s : ByteArray) : Value := if headOk s then .tuple #[.int .i64 (headN s), .int .i64 (1 + headK s : Nat), .bool true] else .tuple #[.int .i64 0, .int .i64 0, .bool false]
theorem byte_get (s : ByteArray) (i : Nat) (h : i < s.size) : (bytes s).getD i 0 = s[i] := by
  have h2 : i < s.data.size := h
  unfold bytes
  rw [List.getD_eq_getElem?_getD, Array.getElem?_toList, Array.getElem?_eq_getElem h2]
  rfl
theorem conv_string (s : ByteArray) (k : Nat) (w : World) (hk : k < s.size) :
    ∃ W1 cap, (convert 9 99 (.string (s.extract 1 (1 + k)))).run Tryz.prog w = .ok (.slice (some ⟨w.heap.size, 0, none⟩) k cap) W1 ∧ w.Plus W1 ∧ w.heap.size < W1.heap.size ∧
      ∀ i, i < k → W1.cell? ⟨w.heap.size, i, none⟩ = some (u8v ((bytes s).getD (1 + i) 0)) := by
  have hsz : (s.extract 1 (1 + k)).size = k := by rw [ByteArray.size_extract]; omega
  have hr := run_bytes_of_string (P := Tryz.prog) w 9 99 5 (s.extract 1 (1 + k)) (by kernel_rfl) (by kernel_rfl) (by kernel_rfl)
  rw [hsz] at hr
  generalize grownCap w k 0 5 = cap at hr
  generalize hf : ((bytesRow (s.extract 1 (1 + k)) cap).size, (bytesRow (s.extract 1 (1 + k)) cap).size + 1) = f at hr
  have hrow : ∀ i, i < k → (bytesRow (s.extract 1 (1 + k)) cap)[i]? = some (u8v ((bytes s).getD (1 + i) 0)) := fun i hi => by
    have hd : i < (s.extract 1 (1 + k)).data.size := by show i < (s.extract 1 (1 + k)).size; omega
    have h2 : (s.extract 1 (1 + k)).data[i] = (bytes s).getD (1 + i) 0 := by
      rw [byte_get s (1 + i) (by omega)]
      show (s.extract 1 (1 + k))[i] = _
      rw [ByteArray.getElem_extract]
    rw [← h2]
    exact bytesRow_at (s.extract 1 (1 + k)) cap i hd
  generalize bytesRow (s.extract 1 (1 + k)) cap = C at hr hrow
  refine ⟨_, _, hr, Plus.alloc (Plus.drew (Plus.refl w)) _, by rw [World.size_alloc]; exact Nat.lt_succ_self _, fun i hi => ?_⟩
  have hb : (w.drew.alloc (.cells C 5 f)).heap[w.heap.size]? = some (.cells C 5 f) := by
    show (w.heap.push (.cells C 5 f))[w.heap.size]? = _
    simp
  unfold World.cell?
  rw [hb]
  exact hrow i hi
theorem head_bad (s : ByteArray) (w : World) (hs : s.size ≤ 281474976710656) (h : ¬ (0 < s.size ∧ headK s ≤ 8 ∧ headK s < s.size)) :
    Calls Tryz.prog 75 #[.string s] w fun e w' => e = .returned (headV s) ∧ w.Plus w' := by
  have hV : headV s = .tuple #[.int .i64 0, .int .i64 0, .bool false] := if_neg fun k => h ⟨k.1, k.2.1, k.2.2.1⟩
  rw [hV]
  by_cases h0 : 0 < s.size
  · have hand : bits .and .u8 ((s[0].toNat : Nat) : Int) 127 = (headK s : Int) := by
      rw [and_127 _ s[0].toNat_lt]
      unfold headK
      rw [show s.data.toList.getD 0 0 = s[0] from byte_get s 0 h0]
    have hemp : s.toList.isEmpty = false := by
      rw [← decide_eq_emptyBytes, decide_eq_false_iff_not]
      rintro rfl
      simp at h0
    generalize headK s = k at *
    clear hV
    by_cases h8 : k ≤ 8
    · have hks : ¬ k < s.size := fun h2 => h ⟨h0, h8, h2⟩
      have hwk : wrap64 (k : Int) = k := w64_id (by omega) (by omega)
      clear h
      go_enter Tryz.func75, Tryz.ntmps75
      go_wp2_with fail
      exact bodyPost_ret (v := .tuple #[.int .i64 0, .int .i64 0, .bool false]) (by simp [results, Tryz.results75, go_sem]) rfl ⟨rfl, by (repeat (first | exact Plus.refl _ | apply Plus.plus | apply Plus.alloc | apply Plus.drew))⟩
    · have h8i : (8 : Int) < k := by omega
      clear h
      go_enter Tryz.func75, Tryz.ntmps75
      go_wp2_with fail
      exact bodyPost_ret (v := .tuple #[.int .i64 0, .int .i64 0, .bool false]) (by simp [results, Tryz.results75, go_sem]) rfl ⟨rfl, by (repeat (first | exact Plus.refl _ | apply Plus.plus | apply Plus.alloc | apply Plus.drew))⟩
  · have hs0 : s = ByteArray.empty := by
      apply ByteArray.ext
      exact Array.eq_empty_of_size_eq_zero (by have : s.data.size = s.size := rfl; omega)
    subst hs0
    clear hV h h0 hs
    have hemp : ByteArray.empty.toList.isEmpty = true := by
      rw [← decide_eq_emptyBytes]
      exact decide_eq_true rfl
    go_enter Tryz.func75, Tryz.ntmps75
    go_wp2_with fail
    exact bodyPost_ret (v := .tuple #[.int .i64 0, .int .i64 0, .bool false]) (by simp [results, Tryz.results75, go_sem]) rfl ⟨rfl, by (repeat (first | exact Plus.refl _ | apply Plus.plus | apply Plus.alloc | apply Plus.drew))⟩
theorem part_get (s : ByteArray) (k j : Nat) (h : j < k) (hk : k < s.size) : (((bytes s).drop 1).take k).getD j 0 = (bytes s).getD (1 + j) 0 := by
  rw [List.getD_eq_getElem?_getD, List.getD_eq_getElem?_getD, List.getElem?_take, if_pos h, List.getElem?_drop]
set_option maxHeartbeats 1000000 in
set_option maxRecDepth 100000 in
theorem head_good (s : ByteArray) (w : World) (hs : s.size ≤ 281474976710656) (h0 : 0 < s.size) (h8 : headK s ≤ 8) (hk : headK s < s.size) :
    Calls Tryz.prog 75 #[.string s] w fun e w' => e = .returned (headV s) ∧ w.Plus w' := by
  have hc0 : (bytes s).getD 0 0 = s[0] := byte_get s 0 h0
  have hand : bits .and .u8 ((s[0].toNat : Nat) : Int) 127 = (headK s : Int) := by
    rw [and_127 _ s[0].toNat_lt]
    unfold headK
    rw [show s.data.toList.getD 0 0 = s[0] from hc0]
  have hemp : s.toList.isEmpty = false := by
    rw [← decide_eq_emptyBytes, decide_eq_false_iff_not]
    rintro rfl
    simp at h0
  obtain ⟨W1, cap, hcv, hpW, hltW, hrow⟩ := conv_string s (headK s) w hk
  have hVd : headV s = if (0 < s.size ∧ headK s ≤ 8 ∧ headK s < s.size ∧ ¬ (0 < headK s ∧ ((bytes s).getD 1 0).toNat = 0) ∧ headD s < 9223372036854775808) then .tuple #[.int .i64 (if 127 < s[0].toNat then -(headD s : Int) - 1 else headD s), .int .i64 (1 + headK s : Nat), .bool true] else .tuple #[.int .i64 0, .int .i64 0, .bool false] := by
    unfold headV headN
    rw [hc0]
    rfl
  have hD : headD s = num (((bytes s).drop 1).take (headK s)) := rfl
  have hpart := fun j h => part_get s (headK s) j h hk
  have hpl : (((bytes s).drop 1).take (headK s)).length = headK s := by rw [List.length_take, List.length_drop, bytes_length]; omega
  generalize headD s = D at *
  generalize headV s = V at *
  generalize headK s = k at *
  generalize ((bytes s).drop 1).take k = L at *
  have hb1 : ∀ h : 0 < k, ((bytes s).getD 1 0) = s[1] := fun h => byte_get s 1 (by omega)
  have hrow' : ∀ j, j < k → W1.cell? ⟨w.heap.size, j, none⟩ = some (u8v (L.getD j 0)) := fun j hj => by rw [hpart j hj]; exact hrow j hj
  have hwk : wrap64 (k : Int) = k := w64_id (by omega) (by omega)
  have hwk1 : wrap64 (1 + (k : Int)) = 1 + k := w64_id (by omega) (by omega)
  haveI : InW w.heap.size W1 := ⟨hltW⟩
  replace hc0 := Lib.hid hc0
  replace hrow' := Lib.hid hrow'
  replace hVd := Lib.hid hVd
  replace hb1 := Lib.hid hb1
  replace hD := Lib.hid hD
  clear hrow hpart
  go_enter Tryz.func75, Tryz.ntmps75
  go_wp2_with fail
  go_loop [6, 8, 36] (fun n _ i => ∃ j : Nat, j ≤ k ∧ i = .int .i64 j ∧ n = .int .i64 (sx (num (L.take j)))) (fun _ _ i => k - (intOf i).toNat)
  case atStart => exact ⟨0, Nat.zero_le _, rfl, by simp [num]; rfl⟩
  case round =>
    obtain ⟨j, hj, rfl, rfl⟩ := hrel
    by_cases hlt : j < k
    · have c1 := hrow'.out j hlt
      have htk := take_getD 0 L j (by omega)
      have hnl := num_lt7 (L.take j) (by rw [List.length_take]; omega)
      have hnx : num (L.take (j + 1)) = 256 * num (L.take j) + (L.getD j 0).toNat := by rw [htk, num_snoc]
      generalize L.getD j 0 = b at *
      have hbl := b.toNat_lt
      generalize num (L.take j) = d at *
      rw [sx_small d (by omega)]
      have hor := or_step d b.toNat hnl hbl
      have hor2 : bits .or .i64 (wrap64 ((d : Int) * 256)) (b.toNat : Int) = sx (256 * d + b.toNat) := by
        rw [show wrap64 ((d : Int) * 256) = IntKind.i64.wrap ((d : Int) * 256) by simp only [wrap64, IntKind.wrap_i64]]
        exact hor
      replace hnx := Lib.hid hnx
      clear htk
      go_wp2_with fail
      go_round
      case rel => exact ⟨j + 1, hlt, by go_num, by rw [hnx.out]⟩
      case measure => simp [intOf]; omega
    · have hjk : j = k := by omega
      subst hjk
      rw [List.take_of_length_le (by omega)]
      have hDl := num_lt8 L (by omega)
      rw [← hD.out] at hDl
      rw [← hD.out]
      replace hD := Lib.hid trivial
      by_cases hk0 : 0 < j
      · have hz1 := hb1.out hk0
        have hj1 : 1 < s.size := by omega
        by_cases hz : s[1].toNat = 0
        · have hV : V = .tuple #[.int .i64 0, .int .i64 0, .bool false] := by rw [hVd.out, if_neg (fun h => h.2.2.2.1 ⟨hk0, by rw [hz1]; exact hz⟩)]
          replace hV := Lib.hid hV.symm
          replace hz1 := Lib.hid hz1
          have hzi : ((s[1].toNat : Nat) : Int) = 0 := by omega
          generalize sx D = q at *
          go_wp2_with fail
          exact bodyPost_ret (v := .tuple #[.int .i64 0, .int .i64 0, .bool false]) (by simp [results, Tryz.results75, go_sem]) rfl ⟨by rw [← hV.out], hpW⟩
        · have hzz : ¬ (0 < j ∧ ((bytes s).getD 1 0).toNat = 0) := fun h => hz (by rw [← hz1]; exact h.2)
          replace hz1 := Lib.hid hz1
          have hzi : ¬ ((s[1].toNat : Nat) : Int) = 0 := by omega
          have hzi2 : (((s[1].toNat : Nat) : Int) == 0) = false := by simpa using hzi
          by_cases hD63 : D < 9223372036854775808
          · rw [sx_small D hD63]
            by_cases hc : 127 < s[0].toNat
            · have hV : V = .tuple #[.int .i64 (-(D : Int) - 1), .int .i64 (1 + (j : Int)), .bool true] := by rw [hVd.out, if_pos ⟨h0, h8, hk, hzz, hD63⟩, if_pos hc]; simp
              have hci : (127 : Int) < (s[0].toNat : Int) := by omega
              have hnot := not_pos D hD63
              replace hV := Lib.hid hV.symm
              go_wp2_with fail
              exact bodyPost_ret (v := .tuple #[.int .i64 (-(D : Int) - 1), .int .i64 (1 + (j : Int)), .bool true]) (by simp [results, Tryz.results75, go_sem]) rfl ⟨by rw [← hV.out], hpW⟩
            · have hV : V = .tuple #[.int .i64 ((D : Int)), .int .i64 (1 + (j : Int)), .bool true] := by rw [hVd.out, if_pos ⟨h0, h8, hk, hzz, hD63⟩, if_neg hc]; simp
              have hci : ¬ (127 : Int) < (s[0].toNat : Int) := by omega
              replace hV := Lib.hid hV.symm
              go_wp2_with fail
              exact bodyPost_ret (v := .tuple #[.int .i64 ((D : Int)), .int .i64 (1 + (j : Int)), .bool true]) (by simp [results, Tryz.results75, go_sem]) rfl ⟨by rw [← hV.out], hpW⟩
          · have hq := sx_big D (by omega) hDl
            have hV : V = .tuple #[.int .i64 0, .int .i64 0, .bool false] := by rw [hVd.out, if_neg (fun h => hD63 h.2.2.2.2)]
            replace hV := Lib.hid hV.symm
            generalize sx D = q at *
            go_wp2_with fail
            exact bodyPost_ret (v := .tuple #[.int .i64 0, .int .i64 0, .bool false]) (by simp [results, Tryz.results75, go_sem]) rfl ⟨by rw [← hV.out], hpW⟩
      · have hzz : ¬ (0 < j ∧ ((bytes s).getD 1 0).toNat = 0) := fun h => hk0 h.1
        have hk0i : ¬ (0 : Int) < j := by omega
        by_cases hD63 : D < 9223372036854775808
        · rw [sx_small D hD63]
          by_cases hc : 127 < s[0].toNat
          · have hV : V = .tuple #[.int .i64 (-(D : Int) - 1), .int .i64 (1 + (j : Int)), .bool true] := by rw [hVd.out, if_pos ⟨h0, h8, hk, hzz, hD63⟩, if_pos hc]; simp
            have hci : (127 : Int) < (s[0].toNat : Int) := by omega
            have hnot := not_pos D hD63
            replace hV := Lib.hid hV.symm
            go_wp2_with fail
            exact bodyPost_ret (v := .tuple #[.int .i64 (-(D : Int) - 1), .int .i64 (1 + (j : Int)), .bool true]) (by simp [results, Tryz.results75, go_sem]) rfl ⟨by rw [← hV.out], hpW⟩
          · have hV : V = .tuple #[.int .i64 ((D : Int)), .int .i64 (1 + (j : Int)), .bool true] := by rw [hVd.out, if_pos ⟨h0, h8, hk, hzz, hD63⟩, if_neg hc]; simp
            have hci : ¬ (127 : Int) < (s[0].toNat : Int) := by omega
            replace hV := Lib.hid hV.symm
            go_wp2_with fail
            exact bodyPost_ret (v := .tuple #[.int .i64 ((D : Int)), .int .i64 (1 + (j : Int)), .bool true]) (by simp [results, Tryz.results75, go_sem]) rfl ⟨by rw [← hV.out], hpW⟩
        · have hq := sx_big D (by omega) hDl
          have hV : V = .tuple #[.int .i64 0, .int .i64 0, .bool false] := by rw [hVd.out, if_neg (fun h => hD63 h.2.2.2.2)]
          replace hV := Lib.hid hV.symm
          generalize sx D = q at *
          go_wp2_with fail
          exact bodyPost_ret (v := .tuple #[.int .i64 0, .int .i64 0, .bool false]) (by simp [results, Tryz.results75, go_sem]) rfl ⟨by rw [← hV.out], hpW⟩
end Go.Proofs.YtpdlgflbcgemnaaGreatDoor.Octs
-- Reader
/- octet.Reader: walks. -/
set_option linter.unusedSimpArgs false
set_option linter.unusedVariables false
namespace Go.Proofs.YtpdlgflbcgemnaaGreatDoor.Octs
open Go.RowKit
/-- a reader that lies in a world -/
structure RdAt (w : World) (N : Nat) (s : ByteArray) (b : Bool) : Prop where
  lt : N < w.heap.size
  c0 : w.cell? ⟨N, 0, none⟩ = some (.string s)
  c1 : w.cell? ⟨N, 1, none⟩ = some (.bool b)
  f0 : w.frozen? ⟨N, 0, none⟩ = false
  f1 : w.frozen? ⟨N, 1, none⟩ = false
/-- w', grown out of w but for block N -/
structure Upd (w w' : World) (N : Nat) : Prop where
  os : w'.os = w.os
  tape : w'.tape = w.tape
  output : w'.output = w.output
  size : w.heap.size ≤ w'.heap.size
  block : ∀ k, k < w.heap.size → k ≠ N → w'.heap[k]? = w.heap[k]?
theorem Upd.refl (w : World) (N : Nat) : Upd w w N := ⟨rfl, rfl, rfl, Nat.le_refl _, fun _ _ _ => rfl⟩
theorem Upd.trans {w w' w'' : World} {N : Nat} (h : Upd w w' N) (k : Upd w' w'' N) : Upd w w'' N :=
  ⟨k.os.trans h.os, k.tape.trans h.tape, k.output.trans h.output, Nat.le_trans h.size k.size, fun i hi hn => (k.block i (Nat.lt_of_lt_of_le hi h.size) hn).trans (h.block i hi hn)⟩
theorem Upd.plus {w w' : World} {N : Nat} (h : Upd w w' N) (e : Ext) : Upd w (w'.plus e) N :=
  h.trans ⟨rfl, rfl, rfl, by rw [World.size_plus_eq]; omega, fun i hi _ => w'.plus_block e hi⟩
theorem Upd.setCell {w w' : World} {N : Nat} (h : Upd w w' N) (i : Nat) (v : Value) : Upd w (w'.setCell ⟨N, i, none⟩ v) N :=
  h.trans ⟨rfl, rfl, rfl, by rw [World.size_setCell]; exact Nat.le_refl _, fun k hk hn => by
    simp only [World.setCell]
    rw [Array.getElem?_modify, if_neg (fun e => hn e.symm)]⟩
theorem Upd.toPlus {W0 w w' : World} {N : Nat} (h : Upd w w' N) (hp : W0.Plus w) (hN : W0.heap.size ≤ N) : W0.Plus w' := by
  have hb := Plus.below hp
  exact plus_of_below ⟨h.os.trans hb.os, h.tape.trans hb.tape, h.output.trans hb.output, Nat.le_trans hb.size h.size, fun k hk =>
    (h.block k (Nat.lt_of_lt_of_le hk hb.size) (by omega)).trans (hb.block k hk)⟩
theorem Upd.rd {w w' : World} {N M : Nat} {s : ByteArray} {b : Bool} (h : Upd w w' N) (hne : M ≠ N) (hr : RdAt w M s b) : RdAt w' M s b := by
  have hb := h.block M hr.lt hne
  exact ⟨Nat.lt_of_lt_of_le hr.lt h.size, (World.cell?_of_block (w := w) (a := ⟨M, 0, none⟩) hb).trans hr.c0, (World.cell?_of_block (w := w) (a := ⟨M, 1, none⟩) hb).trans hr.c1,
    (World.frozen?_of_block (w := w) (a := ⟨M, 0, none⟩) hb).trans hr.f0, (World.frozen?_of_block (w := w) (a := ⟨M, 1, none⟩) hb).trans hr.f1⟩
theorem RdAt.plus {w : World} {N : Nat} {s : ByteArray} {b : Bool} (h : RdAt w N s b) (e : Ext) : RdAt (w.plus e) N s b := by
  haveI : InW N w := ⟨h.lt⟩
  exact ⟨by rw [World.size_plus_eq]; have := h.lt; omega, by rw [World.cell?_plus]; exact h.c0, by rw [World.cell?_plus]; exact h.c1, by rw [World.frozen?_plus]; exact h.f0, by rw [World.frozen?_plus]; exact h.f1⟩
theorem RdAt.set0 {w : World} {N : Nat} {s : ByteArray} {b : Bool} (h : RdAt w N s b) (s' : ByteArray) : RdAt (w.setCell ⟨N, 0, none⟩ (.string s')) N s' b := by
  obtain ⟨lt, c0, c1, f0, f1⟩ := h
  refine ⟨by rw [World.size_setCell]; exact lt, ?_, ?_, ?_, ?_⟩
  all_goals simp [go_sem, c0, c1, f0, f1]
theorem RdAt.set1 {w : World} {N : Nat} {s : ByteArray} {b : Bool} (h : RdAt w N s b) (b' : Bool) : RdAt (w.setCell ⟨N, 1, none⟩ (.bool b')) N s b' := by
  obtain ⟨lt, c0, c1, f0, f1⟩ := h
  refine ⟨by rw [World.size_setCell]; exact lt, ?_, ?_, ?_, ?_⟩
  all_goals simp [go_sem, c0, c1, f0, f1]
abbrev rdV (n : Nat) : Value := .pointer (some ⟨n, 0, none⟩)
/-- what a reader reads as a number, and its state behind that -/
def rInt (s : ByteArray) (b : Bool) : Int × ByteArray × Bool := if b then (0, s, true) else if headOk s then (headN s, s.extract (1 + headK s) s.size, false) else (0, ⟨#[]⟩, true)
def rText (s : ByteArray) (b : Bool) : ByteArray × ByteArray × Bool :=
  if (rInt s b).2.2 then (⟨#[]⟩, (rInt s b).2.1, true)
  else if (rInt s b).1 < 0 ∨ 65536 < (rInt s b).1 ∨ ((rInt s b).2.1.size : Int) < (rInt s b).1 then (⟨#[]⟩, ⟨#[]⟩, true)
  else ((rInt s b).2.1.extract 0 (rInt s b).1.toNat, (rInt s b).2.1.extract (rInt s b).1.toNat (rInt s b).2.1.size, false)
def rCount (s : ByteArray) (b : Bool) (most : Int) : Int × ByteArray × Bool :=
  if (rInt s b).1 < 0 ∨ most < (rInt s b).1 then (0, ⟨#[]⟩, true) else rInt s b
def RdPost (w : World) (N : Nat) (v : Value) (s : ByteArray) (b : Bool) (e : Ending) (w' : World) : Prop := e = .returned v ∧ RdAt w' N s b ∧ Upd w w' N
theorem head_any (s : ByteArray) (w : World) (hs : s.size ≤ 281474976710656) :
    Calls Tryz.prog 75 #[.string s] w fun e w' => e = .returned (headV s) ∧ w.Plus w' := by
  by_cases h : 0 < s.size ∧ headK s ≤ 8 ∧ headK s < s.size
  · exact head_good s w hs h.1 h.2.1 h.2.2
  · exact head_bad s w hs h
section
variable (w : World) (N : Nat) (s : ByteArray) (b : Bool)
set_option maxRecDepth 100000 in
theorem of_new (hs : s.size ≤ 281474976710656) : Calls Tryz.prog 39 #[.string s] w fun e w' => ∃ N, e = .returned (rdV N) ∧ w.heap.size ≤ N ∧ RdAt w' N s false ∧ w.Plus w' := by
  go_enter Tryz.func39, Tryz.ntmps39
  go_wp2_with fail
  go_ret
  refine ⟨_, rfl, Nat.le_refl _, ⟨?_, ?_, ?_, ?_, ?_⟩, by (repeat (first | exact Plus.refl _ | apply Plus.plus | apply Plus.alloc | apply Plus.drew))⟩
  all_goals simp [go_sem]
set_option maxRecDepth 100000 in
theorem rdInt (h : RdAt w N s b) (hs : s.size ≤ 281474976710656) :
    Calls Tryz.prog 40 #[rdV N] w (RdPost w N (.int .i64 (rInt s b).1) (rInt s b).2.1 (rInt s b).2.2) := by
  have hr := h
  obtain ⟨lt, c0, c1, f0, f1⟩ := h
  haveI : InW N w := ⟨lt⟩
  cases b with
  | true =>
    have hE : rInt s true = (0, s, true) := rfl
    rw [hE]
    replace hr := Lib.hid hr
    go_enter Tryz.func40, Tryz.ntmps40
    go_wp2_with fail
    go_ret
    exact ⟨rfl, hr.out, Upd.refl _ _⟩
  | false =>
    have hH := fun w => head_any s w hs
    by_cases hok : headOk s
    · have hE : rInt s false = (headN s, s.extract (1 + headK s) s.size, false) := by simp [rInt, hok]
      have hV : headV s = .tuple #[.int .i64 (headN s), .int .i64 (1 + headK s : Nat), .bool true] := if_pos hok
      rw [hE]
      rw [hV] at hH
      have hk := hok.2.2.1
      generalize headN s = n at *
      generalize headK s = k at *
      replace hr := Lib.hid hr
      replace hH := Lib.hid hH
      clear hE hV hok
      have hk1 : 1 + k ≤ s.size := by omega
      go_enter Tryz.func40, Tryz.ntmps40
      go_wp2_with (first | (go_at_call 75; (with_reducible refine (hH.out _).mono ?_); rintro e w' ⟨rfl, ey, rfl⟩))
      go_ret
      exact ⟨rfl, (hr.out.set0 _).plus _, ((Upd.refl _ _).setCell _ _).plus _⟩
    · have hE : rInt s false = (0, ⟨#[]⟩, true) := by simp [rInt, hok]
      have hV : headV s = .tuple #[.int .i64 0, .int .i64 0, .bool false] := if_neg hok
      rw [hE]
      rw [hV] at hH
      replace hr := Lib.hid hr
      replace hH := Lib.hid hH
      clear hE hV hok
      go_enter Tryz.func40, Tryz.ntmps40
      go_wp2_with (first | (go_at_call 75; (with_reducible refine (hH.out _).mono ?_); rintro e w' ⟨rfl, ey, rfl⟩))
      go_ret
      exact ⟨rfl, ((hr.out.set1 _).set0 _).plus _, (((Upd.refl _ _).setCell _ _).setCell _ _).plus _⟩
set_option maxRecDepth 100000 in
theorem int_nil : Calls Tryz.prog 40 #[.pointer none] w fun e w' => e = .returned (.int .i64 0) ∧ w.Plus w' := by
  go_enter Tryz.func40, Tryz.ntmps40
  go_wp2_with fail
  go_ret
  exact ⟨rfl, by (repeat (first | exact Plus.refl _ | apply Plus.plus | apply Plus.alloc | apply Plus.drew))⟩
end
end Go.Proofs.YtpdlgflbcgemnaaGreatDoor.Octs
-- Reader2
/- octet.Reader: Text, Count, Left, Done. -/
set_option linter.unusedSimpArgs false
set_option linter.unusedVariables false
namespace Go.Proofs.YtpdlgflbcgemnaaGreatDoor.Octs
open Go.RowKit
theorem rInt_size (s : ByteArray) (b : Bool) : (rInt s b).2.1.size ≤ s.size := by
  unfold rInt
  repeat' split
  · exact Nat.le_refl _
  · rw [ByteArray.size_extract]; omega
  · exact Nat.zero_le _
theorem head_in (s : ByteArray) (h : headOk s) : In64 (headN s) := by
  have h1 := h.2.2.2.2
  have h2 : headN s = -(headD s : Int) - 1 ∨ headN s = (headD s : Int) := by unfold headN; split <;> simp
  unfold In64
  rcases h2 with h2 | h2 <;> rw [h2] <;> omega
theorem rInt_in (s : ByteArray) (b : Bool) : In64 (rInt s b).1 := by
  unfold rInt
  repeat' split
  · simp [In64]
  · exact head_in s (by assumption)
  · simp [In64]
/-- read: w' has the reader at its new state -/
theorem RdPost.out {w : World} {N : Nat} {v : Value} {s : ByteArray} {b : Bool} {e : Ending} {w' : World} (h : RdPost w N v s b e w') : e = .returned v ∧ RdAt w' N s b ∧ Upd w w' N := h
section
variable (w : World) (N : Nat) (s : ByteArray) (b : Bool)
set_option maxRecDepth 100000 in
theorem rdCount (most : Int) (h : RdAt w N s b) (hs : s.size ≤ 281474976710656) :
    Calls Tryz.prog 76 #[rdV N, .int .i64 most] w (RdPost w N (.int .i64 (rCount s b most).1) (rCount s b most).2.1 (rCount s b most).2.2) := by
  have hC := rdInt w N s b h hs
  have hE : rCount s b most = rCount s b most := rfl
  conv at hE => rhs; unfold rCount
  rw [hE]
  clear hE h
  generalize rInt s b = t at *
  obtain ⟨n, s', b'⟩ := t
  simp only at hC ⊢
  replace hC := Lib.hid hC
  by_cases hc : n < 0 ∨ most < n
  · rw [if_pos hc]
    go_enter Tryz.func76, Tryz.ntmps76
    by_cases hn1 : n < 0
    · go_wp2_with (first | (go_at_call 40; (with_reducible refine hC.out.mono ?_); rintro e w' ⟨rfl, hr, hu⟩; obtain ⟨lt, c0, c1, f0, f1⟩ := hr; haveI : InW N w' := ⟨lt⟩))
      go_ret
      exact ⟨rfl, (RdAt.set1 ⟨lt, c0, c1, f0, f1⟩ _).set0 _, (hu.setCell _ _).setCell _ _⟩
    · have hn3 : most < n := by omega
      go_wp2_with (first | (go_at_call 40; (with_reducible refine hC.out.mono ?_); rintro e w' ⟨rfl, hr, hu⟩; obtain ⟨lt, c0, c1, f0, f1⟩ := hr; haveI : InW N w' := ⟨lt⟩))
      go_ret
      exact ⟨rfl, (RdAt.set1 ⟨lt, c0, c1, f0, f1⟩ _).set0 _, (hu.setCell _ _).setCell _ _⟩
  · rw [if_neg hc]
    have hn1 : ¬ n < 0 := by omega
    have hn3 : ¬ most < n := by omega
    clear hc
    go_enter Tryz.func76, Tryz.ntmps76
    go_wp2_with (first | (go_at_call 40; (with_reducible refine hC.out.mono ?_); rintro e w' ⟨rfl, hr, hu⟩; obtain ⟨lt, c0, c1, f0, f1⟩ := hr; haveI : InW N w' := ⟨lt⟩))
    go_ret
    exact ⟨rfl, ⟨lt, c0, c1, f0, f1⟩, hu⟩
set_option maxRecDepth 100000 in
theorem rdLeft (h : RdAt w N s b) (hs : s.size ≤ 281474976710656) :
    Calls Tryz.prog 77 #[rdV N] w fun e w' => e = .returned (.int .i64 (s.size : Int)) ∧ w.Plus w' := by
  obtain ⟨lt, c0, c1, f0, f1⟩ := h
  haveI : InW N w := ⟨lt⟩
  have hz : wrap64 (s.size : Int) = s.size := w64_id (by omega) (by omega)
  go_enter Tryz.func77, Tryz.ntmps77
  go_wp2_with fail
  go_ret
  exact ⟨rfl, by (repeat (first | exact Plus.refl _ | apply Plus.plus | apply Plus.alloc | apply Plus.drew))⟩
def rDone (s : ByteArray) (b : Bool) : Int := if b ∨ s ≠ ⟨#[]⟩ then 2 else 0
set_option maxRecDepth 100000 in
theorem rdDone (h : RdAt w N s b) :
    Calls Tryz.prog 47 #[rdV N] w fun e w' => e = .returned (.int .i64 (rDone s b)) ∧ w.Plus w' := by
  obtain ⟨lt, c0, c1, f0, f1⟩ := h
  haveI : InW N w := ⟨lt⟩
  have hR : rDone s b = if b ∨ s ≠ ⟨#[]⟩ then 2 else 0 := rfl
  generalize rDone s b = R at *
  cases b with
  | true =>
    obtain rfl : R = 2 := by rw [hR]; simp
    clear hR
    go_enter Tryz.func47, Tryz.ntmps47
    go_wp2_with fail
    go_ret
    exact ⟨rfl, by (repeat (first | exact Plus.refl _ | apply Plus.plus | apply Plus.alloc | apply Plus.drew))⟩
  | false =>
    by_cases hz : s = ⟨#[]⟩
    · obtain rfl : R = 0 := by rw [hR]; simp [hz]
      clear hR
      subst hz
      go_enter Tryz.func47, Tryz.ntmps47
      go_wp2_with fail
      go_ret
      exact ⟨rfl, by (repeat (first | exact Plus.refl _ | apply Plus.plus | apply Plus.alloc | apply Plus.drew))⟩
    · obtain rfl : R = 2 := by rw [hR]; simp [hz]
      clear hR
      have hz2 : s.toList.isEmpty = false := by
        rw [← decide_eq_emptyBytes, decide_eq_false_iff_not]; exact hz
      go_enter Tryz.func47, Tryz.ntmps47
      go_wp2_with fail
      go_ret
      exact ⟨rfl, by (repeat (first | exact Plus.refl _ | apply Plus.plus | apply Plus.alloc | apply Plus.drew))⟩
set_option maxRecDepth 100000 in
theorem count_nil (most : Int) : Calls Tryz.prog 76 #[.pointer none, .int .i64 most] w fun e w' => e = .returned (.int .i64 0) ∧ w.Plus w' := by
  have hC := fun w => Lib.hid (int_nil w)
  go_enter Tryz.func76, Tryz.ntmps76
  go_wp2_with (first | (go_at_call 40; (with_reducible refine (hC _).out.mono ?_); rintro e w' ⟨rfl, ex, rfl⟩))
  go_ret
  exact ⟨rfl, by (repeat (first | exact Plus.refl _ | apply Plus.plus | apply Plus.alloc | apply Plus.drew))⟩
set_option maxRecDepth 100000 in
theorem left_nil : Calls Tryz.prog 77 #[.pointer none] w fun e w' => e = .returned (.int .i64 0) ∧ w.Plus w' := by
  go_enter Tryz.func77, Tryz.ntmps77
  go_wp2_with fail
  go_ret
  exact ⟨rfl, by (repeat (first | exact Plus.refl _ | apply Plus.plus | apply Plus.alloc | apply Plus.drew))⟩
set_option maxRecDepth 100000 in
theorem done_nil : Calls Tryz.prog 47 #[.pointer none] w fun e w' => e = .returned (.int .i64 2) ∧ w.Plus w' := by
  go_enter Tryz.func47, Tryz.ntmps47
  go_wp2_with fail
  go_ret
  exact ⟨rfl, by (repeat (first | exact Plus.refl _ | apply Plus.plus | apply Plus.alloc | apply Plus.drew))⟩
end
end Go.Proofs.YtpdlgflbcgemnaaGreatDoor.Octs
-- OctAwake
/- octet: awake: walk. -/
set_option linter.unusedSimpArgs false
set_option linter.unusedVariables false
namespace Go.Proofs.YtpdlgflbcgemnaaGreatDoor.Octs
open Go.RowKit
theorem lit_i1 (w : World) (t : TypeId) (n : Nat) (a : Int) [h : SizeN w n] : RowsAt (w.alloc (.cells #[.int .i64 a] t)) (some ⟨n, 0, none⟩) 1 1 (intAt [a]) := by
  intro _
  refine ⟨n, 0, rfl, by rw [World.size_alloc, h.size]; omega, fun i j hi hj => ?_⟩
  obtain rfl : j = 0 := by omega
  obtain rfl : i = 0 := by omega
  rw [World.cell?_alloc_new']; rfl
theorem lit_i3 (w : World) (t : TypeId) (n : Nat) (a b c : Int) [h : SizeN w n] : RowsAt (w.alloc (.cells #[.int .i64 a, .int .i64 b, .int .i64 c] t)) (some ⟨n, 0, none⟩) 1 3 (intAt [a, b, c]) := by
  intro _
  refine ⟨n, 0, rfl, by rw [World.size_alloc, h.size]; omega, fun i j hi hj => ?_⟩
  obtain rfl : j = 0 := by omega
  have : i = 0 ∨ i = 1 ∨ i = 2 := by omega
  rcases this with rfl | rfl | rfl <;> (rw [World.cell?_alloc_new']; rfl)
theorem lit_s1 (w : World) (t : TypeId) (n : Nat) (a : ByteArray) [h : SizeN w n] : RowsAt (w.alloc (.cells #[.string a] t)) (some ⟨n, 0, none⟩) 1 1 (strAt [a]) := by
  intro _
  refine ⟨n, 0, rfl, by rw [World.size_alloc, h.size]; omega, fun i j hi hj => ?_⟩
  obtain rfl : j = 0 := by omega
  obtain rfl : i = 0 := by omega
  rw [World.cell?_alloc_new']; rfl
/-- one number's bytes, asked for in a call of its own -/
theorem int_one (w : World) (t : TypeId) (n : Nat) (a : Int) (c : Nat) [h : SizeN w n] (ha : In64 a) :
    Calls Tryz.prog 28 #[.slice (some ⟨n, 0, none⟩) 1 c] (w.alloc (.cells #[.int .i64 a] t)) fun e w' => e = .returned (.string (txt (enc a))) ∧ (w.alloc (.cells #[.int .i64 a] t)).Plus w' := by
  have := int_any [a] (some ⟨n, 0, none⟩) c (w.alloc (.cells #[.int .i64 a] t)) (by simp) (by simpa using ha) (lit_i1 w t n a)
  simpa [encs] using this
theorem RdAt.plus' {w w' : World} {N : Nat} {s : ByteArray} {b : Bool} (h : RdAt w N s b) (hp : w.Plus w') : RdAt w' N s b := by
  obtain ⟨e, rfl⟩ := hp
  exact h.plus e
theorem aw1 : rInt ⟨#[1, 0]⟩ false = (0, ⟨#[]⟩, true) := by decide +kernel
theorem aw2 : txt (enc 5) ++ txt (encT ⟨#[97, 98]⟩) = ⟨#[1, 5, 1, 2, 97, 98]⟩ := by decide +kernel
theorem aw3 : rInt ⟨#[1, 5, 1, 2, 97, 98]⟩ false = (5, ⟨#[1, 2, 97, 98]⟩, false) := by decide +kernel
theorem aw4 : rText ⟨#[1, 2, 97, 98]⟩ false = (⟨#[97, 98]⟩, ⟨#[]⟩, false) := by decide +kernel
theorem aw5 : txt (encs [0, -1, 64]) = ⟨#[0, 128, 1, 64]⟩ := by decide +kernel
theorem aw6 : txt (encT ⟨#[97, 98]⟩) = ⟨#[1, 2, 97, 98]⟩ := by decide +kernel
end Go.Proofs.YtpdlgflbcgemnaaGreatDoor.Octs
-- RefRead
/- the reference's Reader: walks. -/
set_option linter.unusedSimpArgs false
set_option linter.unusedVariables false
namespace Go.Proofs.YtpdlgflbcgemnaaGreatDoor.Octs
open Go.RowKit
theorem num_from (l : List UInt8) : ∀ a : Nat, l.foldl (fun n b => 256 * n + b.toNat) a = a * 256 ^ l.length + num l := by
  induction l with
  | nil => intro a; simp [num]
  | cons b l ih =>
    intro a
    have h1 := ih (256 * a + b.toNat)
    have h2 := ih b.toNat
    have h3 : num (b :: l) = l.foldl (fun n b => 256 * n + b.toNat) b.toNat := by simp [num]
    rw [List.foldl_cons, h1, h3, h2, List.length_cons, Nat.pow_succ, Nat.add_mul, Nat.add_assoc]
    congr 1
    rw [Nat.mul_comm 256 a, Nat.mul_assoc, Nat.mul_comm 256]
theorem num_cons (b : UInt8) (l : List UInt8) : num (b :: l) = b.toNat * 256 ^ l.length + num l := by
  rw [← num_from l b.toNat]; simp [num]
theorem headD_small (s : ByteArray) (hk : headK s < s.size) (h8 : headK s ≤ 8) : headD s < 9223372036854775808 ↔ ¬ (headK s = 8 ∧ 127 < ((bytes s).getD 1 0).toNat) := by
  have hD : headD s = num (((bytes s).drop 1).take (headK s)) := rfl
  have hpl : (((bytes s).drop 1).take (headK s)).length = headK s := by rw [List.length_take, List.length_drop, bytes_length]; omega
  rw [hD]
  by_cases h7 : headK s ≤ 7
  · have := num_lt7 (((bytes s).drop 1).take (headK s)) (by omega)
    constructor
    · intro _ h; omega
    · intro _; omega
  · have he : headK s = 8 := by omega
    have hp := part_get s (headK s) 0 (by omega) hk
    generalize hL : ((bytes s).drop 1).take (headK s) = L at *
    rw [he] at *
    cases L with
    | nil => simp at hpl
    | cons b l =>
      have h1 : (b :: l).getD 0 0 = b := rfl
      rw [h1] at hp
      rw [← hp, num_cons]
      have h2 := num_lt l
      have h3 : l.length = 7 := by simpa using hpl
      rw [h3] at h2 ⊢
      simp only [Nat.reducePow] at h2 ⊢
      have := b.toNat_lt
      constructor
      · intro h h5
        have h2 := h5.2
        omega
      · intro h
        have h4 : ¬ 127 < b.toNat := fun h2 => h (by simp; exact h2)
        omega
section
variable (w : World) (N : Nat) (s : ByteArray) (b : Bool)
end
end Go.Proofs.YtpdlgflbcgemnaaGreatDoor.Octs
-- RefRead2
/- the reference's Reader: Int, a number that may be: walk. -/
set_option linter.unusedSimpArgs false
set_option linter.unusedVariables false
namespace Go.Proofs.YtpdlgflbcgemnaaGreatDoor.Octs
open Go.RowKit
section
variable (w : World) (N : Nat) (s : ByteArray) (b : Bool)
end
end Go.Proofs.YtpdlgflbcgemnaaGreatDoor.Octs
-- RefRead3
/- the reference's Reader: Int, Text, Count, Done: contracts. -/
set_option linter.unusedSimpArgs false
set_option linter.unusedVariables false
namespace Go.Proofs.YtpdlgflbcgemnaaGreatDoor.Octs
open Go.RowKit
theorem rInt_inv (s : ByteArray) (b : Bool) (hb : b = true → s = ⟨#[]⟩) : (rInt s b).2.2 = true → (rInt s b).2.1 = ⟨#[]⟩ := by
  unfold rInt
  repeat' split
  · intro _; exact hb (by assumption)
  · intro h; cases h
  · intro _; rfl
theorem rText_inv (s : ByteArray) (b : Bool) (hb : b = true → s = ⟨#[]⟩) : (rText s b).2.2 = true → (rText s b).2.1 = ⟨#[]⟩ := by
  have hi := rInt_inv s b hb
  unfold rText
  repeat' split
  · intro _; exact hi (by assumption)
  · intro _; rfl
  · intro h; cases h
theorem rCount_inv (s : ByteArray) (b : Bool) (most : Int) (hb : b = true → s = ⟨#[]⟩) : (rCount s b most).2.2 = true → (rCount s b most).2.1 = ⟨#[]⟩ := by
  have hi := rInt_inv s b hb
  unfold rCount
  repeat' split
  · intro _; rfl
  · exact hi
theorem rText_size (s : ByteArray) (b : Bool) : (rText s b).2.1.size ≤ s.size := by
  have hi := rInt_size s b
  unfold rText
  repeat' split
  · exact hi
  · exact Nat.zero_le _
  · rw [ByteArray.size_extract]; omega
theorem rCount_size (s : ByteArray) (b : Bool) (most : Int) : (rCount s b most).2.1.size ≤ s.size := by
  have hi := rInt_size s b
  unfold rCount
  repeat' split
  · exact Nat.zero_le _
  · exact hi
section
variable (w : World) (N : Nat) (s : ByteArray) (b : Bool)
theorem size_zero (s : ByteArray) : s.size = 0 ↔ s = ⟨#[]⟩ := by
  constructor
  · intro h
    rw [← txt_bytes s]
    have : bytes s = [] := List.eq_nil_of_length_eq_zero (by rw [bytes_length]; exact h)
    rw [this]; rfl
  · rintro rfl; rfl
end
end Go.Proofs.YtpdlgflbcgemnaaGreatDoor.Octs
-- Dec
/- octet: what was laid is read again: plain laws. -/
set_option linter.unusedSimpArgs false
set_option linter.unusedVariables false
namespace Go.Proofs.YtpdlgflbcgemnaaGreatDoor.Octs
open Go.RowKit
theorem u8n (m : Nat) : (UInt8.ofNat m).toNat = m % 256 := by simp
theorem num_big : ∀ (k n : Nat), num (big n k) = n % 256 ^ k
  | 0, n => by simp [big, num, Nat.mod_one]
  | k + 1, n => by
    rw [big, num_snoc, num_big k (n / 256), u8n, Nat.pow_succ, Nat.mul_comm (256 ^ k) 256, Nat.mod_mul, Nat.add_comm]
theorem lt_bsz (m : Nat) (h : m < 18446744073709551616) : m < 256 ^ bsz m := by
  unfold bsz
  repeat' split
  all_goals (simp only [Nat.reducePow]; omega)
theorem bsz_ge (m : Nat) (h : 0 < bsz m) : 256 ^ (bsz m - 1) ≤ m := by
  revert h
  unfold bsz
  repeat' split
  all_goals (simp only [Nat.reducePow, Nat.reduceSub]; omega)
theorem mag_lt (n : Int) (h : In64 n) : mag n < 9223372036854775808 := by
  unfold In64 at h
  unfold mag
  split <;> omega
theorem sgn_cases (n : Int) : (n < 0 ∧ sgn n = 128) ∨ (0 ≤ n ∧ sgn n = 0) := by
  unfold sgn
  split <;> omega
theorem num_cons0 (l : List UInt8) (b : UInt8) (h : b.toNat = 0) : num (b :: l) = num l := by
  show List.foldl _ (256 * 0 + b.toNat) l = _
  rw [h]; rfl
/-- what was laid, read -/
theorem dec_enc (n : Int) (h : In64 n) (r : List UInt8) : headOk (txt (enc n ++ r)) ∧ headN (txt (enc n ++ r)) = n ∧ headK (txt (enc n ++ r)) = bsz (mag n) := by
  have hm := mag_lt n h
  have h8 := bsz_le (mag n)
  have hb0 : (bytes (txt (enc n ++ r))).getD 0 0 = UInt8.ofNat (sgn n + bsz (mag n)) := rfl
  have hbv : (UInt8.ofNat (sgn n + bsz (mag n))).toNat = sgn n + bsz (mag n) := by
    rw [u8n]
    rcases sgn_cases n with ⟨_, h1⟩ | ⟨_, h1⟩ <;> rw [h1] <;> omega
  have hK : headK (txt (enc n ++ r)) = bsz (mag n) := by
    unfold headK
    rw [show (txt (enc n ++ r)).data.toList.getD 0 0 = UInt8.ofNat (sgn n + bsz (mag n)) from rfl, hbv]
    rcases sgn_cases n with ⟨_, h1⟩ | ⟨_, h1⟩ <;> rw [h1] <;> omega
  have hdrop : (bytes (txt (enc n ++ r))).drop 1 = big (mag n) (bsz (mag n)) ++ r := rfl
  have htake : (big (mag n) (bsz (mag n)) ++ r).take (bsz (mag n)) = big (mag n) (bsz (mag n)) := by
    rw [List.take_append_of_le_length (by rw [big_length]; exact Nat.le_refl _), List.take_of_length_le (by rw [big_length]; exact Nat.le_refl _)]
  have hnum : num (big (mag n) (bsz (mag n))) = mag n := by
    rw [num_big, Nat.mod_eq_of_lt (lt_bsz _ (by omega))]
  have hD : headD (txt (enc n ++ r)) = mag n := by
    unfold headD
    rw [hK, hdrop, htake, hnum]
  have hsz : (txt (enc n ++ r)).size = 1 + bsz (mag n) + r.length := by rw [txt_size, List.length_append, enc_length]
  refine ⟨⟨by omega, by omega, by omega, ?_, by omega⟩, ?_, hK⟩
  · rw [hK]
    rintro ⟨hpos, hz⟩
    have hg := bsz_ge (mag n) hpos
    have hl := big_length (bsz (mag n)) (mag n)
    have hb1 : (bytes (txt (enc n ++ r))).getD 1 0 = (big (mag n) (bsz (mag n)) ++ r).getD 0 0 := rfl
    rw [hb1] at hz
    generalize bsz (mag n) = k at *
    generalize hB : big (mag n) k = B at *
    cases B with
    | nil => simp at hl; omega
    | cons b t =>
      have h1 : b.toNat = 0 := hz
      rw [num_cons0 t b h1] at hnum
      have h2 := num_lt t
      have h3 : t.length = k - 1 := by simp at hl; omega
      rw [h3] at h2
      omega
  · unfold headN
    rw [hb0, hbv, hD]
    generalize bsz (mag n) = k at h8 ⊢
    unfold mag
    rcases sgn_cases n with ⟨h0, h1⟩ | ⟨h0, h1⟩
    · rw [h1, if_pos (by omega), if_pos h0]; omega
    · rw [h1, if_neg (by omega), if_neg (by omega)]; omega
theorem txt_extract (m : List UInt8) (a b : Nat) : (txt m).extract a b = txt ((m.drop a).take (b - a)) := Lib.extract_eq (txt m) a b
theorem extract_txt (l r : List UInt8) (k z : Nat) (hk : l.length = k) (hz : (txt (l ++ r)).size = z) : (txt (l ++ r)).extract k z = txt r := by
  subst hk hz
  rw [txt_extract, List.drop_left, txt_size, List.length_append, List.take_of_length_le (by omega)]
theorem extract_fore (l r : List UInt8) (k : Nat) (hk : l.length = k) : (txt (l ++ r)).extract 0 k = txt l := by
  subst hk
  rw [txt_extract, List.drop_zero, Nat.sub_zero, List.take_left]
theorem rInt_enc (n : Int) (h : In64 n) (r : List UInt8) : rInt (txt (enc n ++ r)) false = (n, txt r, false) := by
  obtain ⟨h1, h2, h3⟩ := dec_enc n h r
  unfold rInt
  rw [if_neg (by simp), if_pos h1, h2, h3, extract_txt (enc n) r (1 + bsz (mag n)) _ (enc_length n) rfl]
theorem rText_enc (s : ByteArray) (h : s.size ≤ 65536) (r : List UInt8) : rText (txt (encT s ++ r)) false = (s, txt r, false) := by
  have h1 := rInt_enc (s.size : Int) (by unfold In64; omega) (bytes s ++ r)
  rw [← List.append_assoc] at h1
  unfold rText
  unfold encT
  rw [h1]
  simp only
  have hz : (txt (bytes s ++ r)).size = s.size + r.length := by rw [txt_size, List.length_append, bytes_length]
  rw [if_neg (by simp), if_neg (by rw [hz]; omega)]
  rw [show ((s.size : Int)).toNat = s.size from rfl]
  rw [extract_txt (bytes s) r s.size _ (bytes_length s) rfl]
  rw [extract_fore (bytes s) r s.size (bytes_length s), txt_bytes]
/-- no number's bytes begin another's -/
theorem enc_prefix {a b : Int} (ha : In64 a) (hb : In64 b) {u v : List UInt8} (h : enc a ++ u = enc b ++ v) : a = b := by
  have h1 := rInt_enc a ha u
  rw [h, rInt_enc b hb v] at h1
  exact (congrArg Prod.fst h1).symm
theorem encT_prefix {s t : ByteArray} (hs : s.size ≤ 9223372036854775807) (ht : t.size ≤ 9223372036854775807) {u v : List UInt8} (h : encT s ++ u = encT t ++ v) : s = t := by
  unfold encT at h
  rw [List.append_assoc, List.append_assoc] at h
  have h1 := enc_prefix (by unfold In64; omega) (by unfold In64; omega) h
  have h2 : s.size = t.size := by omega
  rw [h2] at h
  have h3 := List.append_cancel_left h
  have h4 : bytes s = bytes t := List.append_inj_left h3 (by rw [bytes_length, bytes_length, h2])
  rw [← txt_bytes s, ← txt_bytes t, h4]
/-- is one text the other's beginning? -/
def beg (s t : ByteArray) : Bool := decide (s.extract 0 (min s.size t.size) = t.extract 0 (min s.size t.size))
theorem beg_iff (l m : List UInt8) : beg (txt l) (txt m) = true ↔ ∃ u v, l ++ u = m ++ v := by
  unfold beg
  rw [decide_eq_true_iff, txt_extract, txt_extract, txt_inj, txt_size, txt_size]
  simp only [List.drop_zero, Nat.sub_zero]
  constructor
  · intro h
    rcases Nat.le_total l.length m.length with hl | hl
    · rw [Nat.min_eq_left hl, List.take_length] at h
      exact ⟨m.drop l.length, [], by have h2 := List.take_append_drop l.length m; rw [← h] at h2; rw [List.append_nil]; exact h2⟩
    · rw [Nat.min_eq_right hl, List.take_length] at h
      exact ⟨[], l.drop m.length, by have h2 := List.take_append_drop m.length l; rw [h] at h2; rw [List.append_nil]; exact h2.symm⟩
  · rintro ⟨u, v, h⟩
    have h1 := congrArg (List.take (min l.length m.length)) h
    rw [List.take_append_of_le_length (Nat.min_le_left _ _), List.take_append_of_le_length (Nat.min_le_right _ _)] at h1
    exact h1
theorem beg_int {a b : Int} (ha : In64 a) (hb : In64 b) : beg (txt (enc a)) (txt (enc b)) = decide (a = b) := by
  rw [Bool.eq_iff_iff, beg_iff, decide_eq_true_iff]
  constructor
  · rintro ⟨u, v, h⟩
    exact enc_prefix ha hb h
  · rintro rfl
    exact ⟨[], [], rfl⟩
theorem beg_text {s t : ByteArray} (hs : s.size ≤ 9223372036854775807) (ht : t.size ≤ 9223372036854775807) : beg (txt (encT s)) (txt (encT t)) = decide (s = t) := by
  rw [Bool.eq_iff_iff, beg_iff, decide_eq_true_iff]
  constructor
  · rintro ⟨u, v, h⟩
    exact encT_prefix hs ht h
  · rintro rfl
    exact ⟨[], [], rfl⟩
end Go.Proofs.YtpdlgflbcgemnaaGreatDoor.Octs
-- RdO
/- octet: readers as assertions; numbers and texts that are laid: contracts. -/
set_option linter.unusedSimpArgs false
set_option linter.unusedVariables false
namespace Go.Proofs.YtpdlgflbcgemnaaGreatDoor.Octs
open Go.RowKit
/-- a reader, as an assertion -/
def rdA (N : Nat) (s : ByteArray) (b : Bool) : Asn where
  holds w S := (∀ k, S k ↔ k = N) ∧ RdAt w N s b
  keep w w' S h hs hk := by
    obtain ⟨h1, lt, c0, c1, f0, f1⟩ := h
    have e := hk N ((h1 N).2 rfl)
    exact ⟨h1, by omega, (World.cell?_of_block (w := w) (a := ⟨N, 0, none⟩) e).trans c0, (World.cell?_of_block (w := w) (a := ⟨N, 1, none⟩) e).trans c1, (World.frozen?_of_block (w := w) (a := ⟨N, 0, none⟩) e).trans f0, (World.frozen?_of_block (w := w) (a := ⟨N, 1, none⟩) e).trans f1⟩
  inb w S h k hk := by rw [(h.1 k).1 hk]; exact h.2.lt
theorem Upd.chg {w w' : World} {N : Nat} (h : Upd w w' N) {S : Nat → Prop} (hS : S N) : Chg w w' S := ⟨h.os, h.tape, h.output, h.size, fun k hk hn => h.block k hk fun e => hn (by rw [e]; exact hS)⟩
section
variable {W wx : World} {N : Nat} {s : ByteArray} {b : Bool} {l : List Asn}
theorem rd_O {f : FuncId} {args : Array Value} {v : Value} {s' : ByteArray} {b' : Bool} (h : Own W wx (rdA N s b :: l)) (k : RdAt wx N s b → Calls Tryz.prog f args wx (RdPost wx N v s' b')) :
    Calls Tryz.prog f args wx (OwnTo W v (rdA N s' b' :: l)) :=
  Own.call (X := fun e _ P' => e = .returned v ∧ P' = rdA N s' b') h
    (fun A hA => (k hA.2).mono fun e w' ⟨h1, h2, h3⟩ => ⟨_, A, ⟨h1, rfl⟩, h3.chg ((hA.1 N).2 rfl), ⟨hA.1, h2⟩, fun k hk => .inl hk⟩) (fun e w' P' ⟨h1, h2⟩ h3 => ⟨h1, by rw [← h2]; exact h3⟩)
theorem rdInt_O (h : Own W wx (rdA N s b :: l)) (hs : s.size ≤ 281474976710656) : Calls Tryz.prog 40 #[rdV N] wx (OwnTo W (.int .i64 (rInt s b).1) (rdA N (rInt s b).2.1 (rInt s b).2.2 :: l)) :=
  rd_O h fun k => rdInt wx N s b k hs
theorem rdDone_O (h : Own W wx (rdA N s b :: l)) : Calls Tryz.prog 47 #[rdV N] wx fun e w' => e = .returned (.int .i64 (rDone s b)) ∧ wx.Plus w' := by
  obtain ⟨A, hA, _⟩ := h.get
  exact rdDone wx N s b hA.2
theorem Own.rd (i : Nat) (h : Own W wx l) (hi : l[i]? = some (rdA N s b)) : RdAt wx N s b := by
  obtain ⟨A, hA, _⟩ := h.at hi
  exact hA.2
theorem of_O (h : Own W wx l) (hs : s.size ≤ 281474976710656) : Calls Tryz.prog 39 #[.string s] wx (fun e w' => ∃ N, e = .returned (rdV N) ∧ Own W w' (rdA N s false :: l)) :=
  (of_new wx s hs).mono fun e w' ⟨N, h1, h2, h3, h4⟩ => ⟨N, h1, Own.add (A := fun k => k = N) h (Chg.of_Plus h4 _) ⟨fun k => Iff.rfl, h3⟩ (fun k hk => by omega)⟩
end
theorem int_at4 (w : World) (b c : Nat) (x y z u : Int) [hb : InW b w] (h0 : w.cell? ⟨b, 0, none⟩ = some (.int .i64 x)) (h1 : w.cell? ⟨b, 1, none⟩ = some (.int .i64 y)) (h2 : w.cell? ⟨b, 2, none⟩ = some (.int .i64 z)) (h3 : w.cell? ⟨b, 3, none⟩ = some (.int .i64 u)) (hx : In64 x) (hy : In64 y) (hz : In64 z) (hu : In64 u) :
    Calls Tryz.prog 28 #[.slice (some ⟨b, 0, none⟩) 4 c] w fun e w' => e = .returned (.string (txt (enc x ++ (enc y ++ (enc z ++ enc u))))) ∧ w.Plus w' := by
  have := int_any [x, y, z, u] (some ⟨b, 0, none⟩) c w (by simp) (by simp; exact ⟨hx, hy, hz, hu⟩) (fun _ => ⟨b, 0, rfl, hb.lt, fun i j hi hj => by
    obtain rfl : j = 0 := by omega
    have : i = 0 ∨ i = 1 ∨ i = 2 ∨ i = 3 := by simp at hi; omega
    rcases this with rfl | rfl | rfl | rfl
    · exact h0
    · exact h1
    · exact h2
    · exact h3⟩)
  simpa [encs] using this
end Go.Proofs.YtpdlgflbcgemnaaGreatDoor.Octs
