/- frame.Sum and the reference's sum: walks. -/
import Derived.Test.YtgckipebgcmhlaaDoorProg
import Derived.Test.YtgckipebgcmhlaaDoorGrow
import Derived.Test.YtgckipebgcmhlaaDoorCrc
import Derived.Laws.BitsAllLaws
import Derived.Laws.BitsLemmas
import Derived.Outline
set_option linter.unusedSimpArgs false
set_option linter.unusedVariables false
namespace Go.Proofs.YtgckipebgcmhlaaDoor
open Go.RowKit
open Go.Crc hiding step
theorem ofInt_u32 (a : Nat) (ha : a < 4294967296) : (BitVec.ofInt 32 (a : Int)).toNat = a := by
  rw [BitVec.ofInt_natCast, BitVec.toNat_ofNat]; exact Nat.mod_eq_of_lt (by omega)
theorem wrap_u32_nat (a : Nat) (ha : a < 4294967296) : IntKind.u32.wrap (a : Int) = (a : Int) := by
  rw [IntKind.wrap_u32]; omega
theorem u32_xor_nat (a b : Nat) (ha : a < 4294967296) (hb : b < 4294967296) : bits .xor .u32 (a : Int) (b : Int) = ((a ^^^ b : Nat) : Int) := by
  have hx : a ^^^ b < 2 ^ 32 := Nat.xor_lt_two_pow (by omega) (by omega)
  show IntKind.u32.wrap ((BitVec.ofInt 32 (a : Int) ^^^ BitVec.ofInt 32 (b : Int)).toNat : Int) = _
  rw [BitVec.toNat_xor, ofInt_u32 a ha, ofInt_u32 b hb, wrap_u32_nat _ (by omega)]
theorem u32_and_nat (a b : Nat) (ha : a < 4294967296) (hb : b < 4294967296) : bits .and .u32 (a : Int) (b : Int) = ((a &&& b : Nat) : Int) := by
  have hx : a &&& b < 2 ^ 32 := Nat.and_lt_two_pow _ (by omega)
  show IntKind.u32.wrap ((BitVec.ofInt 32 (a : Int) &&& BitVec.ofInt 32 (b : Int)).toNat : Int) = _
  rw [BitVec.toNat_and, ofInt_u32 a ha, ofInt_u32 b hb, wrap_u32_nat _ (by omega)]
theorem u32_low (a : Nat) (ha : a < 4294967296) : bits .and .u32 (a : Int) 15 = ((a % 16 : Nat) : Int) := by
  have := u32_and_nat a 15 ha (by omega)
  rwa [show a &&& 15 = a % 16 from Nat.and_two_pow_sub_one_eq_mod a 4] at this
theorem xor_full (c : Nat) (hc : c < 4294967296) : c ^^^ 4294967295 = 4294967295 - c := by
  apply Nat.eq_of_testBit_eq
  intro i
  rw [Nat.testBit_xor, show (4294967295 : Nat) = 2 ^ 32 - 1 from rfl, Nat.testBit_two_pow_sub_one, show 2 ^ 32 - 1 - c = 2 ^ 32 - (c + 1) by omega, Nat.testBit_two_pow_sub_succ hc]
  by_cases hi : i < 32
  · simp [hi]
  · simp [hi, Nat.testBit_lt_two_pow (show c < 2 ^ i from Nat.lt_of_lt_of_le hc (Nat.pow_le_pow_right (n := 2) (by omega) (show 32 ≤ i by omega)))]

def strAt (xs : List ByteArray) (i _j : Nat) : Value := .string (xs.getD i ByteArray.empty)
/-- the table lies in block 0 -/
structure Nib (w : World) : Prop where
  inw : 0 < w.heap.size
  cell : ∀ n, n < 16 → w.cell? ⟨0, n, none⟩ = some (.int .u32 (nib n))
theorem Nib.plus {w w' : World} (h : Nib w) (hp : w.Plus w') : Nib w' := by
  obtain ⟨e, rfl⟩ := hp
  haveI : InW 0 w := ⟨h.inw⟩
  exact ⟨(InW.plus w e 0).lt, fun n hn => by rw [World.cell?_plus]; exact h.cell n hn⟩
theorem Nib.alloc {w : World} (h : Nib w) (o : Obj) : Nib (w.alloc o) := h.plus (by (repeat (first | exact Plus.refl _ | apply Plus.plus | apply Plus.alloc | apply Plus.drew)))

def bytes (y : ByteArray) : List UInt8 := y.data.toList
theorem bytes_take (y : ByteArray) (i : Nat) (h : i < y.size) : (bytes y).take (i + 1) = (bytes y).take i ++ [y[i]] := by
  have h2 : i < (bytes y).length := by simpa [bytes] using h
  rw [List.take_add_one, List.getElem?_eq_getElem h2]
  rfl
/-- all bytes of the strings -/
def allBytes (xs : List ByteArray) : List UInt8 := xs.flatMap bytes
theorem allBytes_take (xs : List ByteArray) (k : Nat) (h : k < xs.length) : allBytes (xs.take (k + 1)) = allBytes (xs.take k) ++ bytes (xs.getD k ByteArray.empty) := by
  unfold allBytes
  rw [List.take_add_one, List.getElem?_eq_getElem h, List.flatMap_append]
  simp [List.getD, h]
theorem bytes_end (y : ByteArray) : (bytes y).take y.size = bytes y := List.take_of_length_le (Nat.le_of_eq (by simp [bytes]))

theorem sum_any (xs : List ByteArray) (A : Option Addr) (c : Nat) (w : World) (hx : xs.length ≤ 1000) (hr : RowsAt w A 1 xs.length (strAt xs)) (hT : Nib w)
    (hs : ∀ k, (xs.getD k ByteArray.empty).size ≤ 140737488351232) :
    Calls Tryd.prog 11 #[.slice A xs.length c] w fun e w' => e = .returned (.int .u32 ((sum (allBytes xs) : Nat) : Int)) ∧ w.Plus w' := by
  go_enter Tryd.func11, Tryd.ntmps11
  haveI : InW 0 w := ⟨hT.inw⟩
  go_wp2
  go_loopw [3, 5, 6, 9] (fun s x j i wr => ∃ k : Nat, k ≤ xs.length ∧ i = .int .i64 k ∧ s = .int .u32 ((run 4294967295 (allBytes (xs.take k)) : Nat) : Int) ∧ w.Plus wr) (fun _ _ _ i _ => xs.length - (intOf i).toNat)
  case atStart => exact ⟨0, Nat.zero_le _, rfl, rfl, by (repeat (first | exact Plus.refl _ | apply Plus.plus | apply Plus.alloc | apply Plus.drew))⟩
  case round =>
    obtain ⟨k, hk, rfl, rfl, e, rfl⟩ := hrel
    have hrk : run 4294967295 (allBytes (xs.take k)) < 4294967296 := run_lt _ (by omega)
    by_cases hlt : k < xs.length
    · obtain ⟨b, off, rfl, hb, hc⟩ := hr (by omega)
      haveI : InW b w := ⟨hb⟩
      have c0 := hc k 0 hlt (by omega)
      clear hc hr
      unfold strAt at c0
      simp only [Nat.add_zero, Nat.mul_one] at c0
      have hsz := hs k
      have hnext := Lib.hid (allBytes_take xs k hlt)
      generalize xs.getD k ByteArray.empty = y at c0 hsz hnext
      generalize hR : run 4294967295 (allBytes (xs.take k)) = R at hrk
      go_wp2
      obtain ⟨wo, hwo⟩ : ∃ wo : World, wo = w.plus e := ⟨_, rfl⟩
      have hTo : Nib wo := hwo ▸ hT.plus ⟨e, rfl⟩
      rw [← hwo]
      have hPo : w.Plus wo := by rw [hwo]; (repeat (first | exact Plus.refl _ | apply Plus.plus | apply Plus.alloc | apply Plus.drew))
      clear hwo c0
      go_loop [3, 6] (fun s j => ∃ i : Nat, i ≤ y.size ∧ j = .int .i64 i ∧ s = .int .u32 ((run R ((bytes y).take i) : Nat) : Int)) (fun _ j => y.size - (intOf j).toNat)
      case atStart => exact ⟨0, Nat.zero_le _, rfl, rfl⟩
      case round =>
        obtain ⟨i, hi, rfl, rfl⟩ := hrel
        have hri : run R ((bytes y).take i) < 4294967296 := run_lt _ hrk
        by_cases hlt2 : i < y.size
        · have hstep := Lib.hid (bytes_take y i hlt2)
          have hsnoc := Lib.hid (run_snoc R ((bytes y).take i) y[i])
          generalize hS : run R ((bytes y).take i) = S at hri
          have hy := u8_lt y[i]
          have hy2 := y[i].toNat_lt
          have e0 : ((y[i].toNat : Nat) : Int) % 4294967296 = ((y[i].toNat : Nat) : Int) := by omega
          have e1 := u32_xor_nat S y[i].toNat hri hy
          have l1 := xor_lt hri hy
          generalize hc1 : S ^^^ y[i].toNat = c1 at e1 l1
          have e2 := u32_low c1 l1
          have t1 := hTo.cell (c1 % 16) (Nat.mod_lt _ (by omega))
          have n1 := nib_lt (Nat.mod_lt c1 (show 0 < 16 by omega))
          have m1 : c1 % 16 < 16 := Nat.mod_lt _ (by omega)
          have d1 : ((c1 : Nat) : Int) / 16 = ((c1 / 16 : Nat) : Int) := by omega
          have hf1 : half c1 = (c1 / 16) ^^^ nib (c1 % 16) := rfl
          generalize hd : c1 % 16 = g1 at e2 t1 n1 m1 hf1
          have e3 := u32_xor_nat (c1 / 16) (nib g1) (by omega) n1
          rw [← hf1] at e3
          have l2 := half_lt l1
          have hh2 : half (half c1) = Crc.step S y[i].toNat := by rw [← hc1]; rfl
          have hl3 := half_lt l2
          generalize hc2 : half c1 = c2 at e3 l2 hh2 hl3
          have e4 := u32_low c2 l2
          have t2 := hTo.cell (c2 % 16) (Nat.mod_lt _ (by omega))
          have n2 := nib_lt (Nat.mod_lt c2 (show 0 < 16 by omega))
          have m2 : c2 % 16 < 16 := Nat.mod_lt _ (by omega)
          have d2 : ((c2 : Nat) : Int) / 16 = ((c2 / 16 : Nat) : Int) := by omega
          have hf2 : half c2 = (c2 / 16) ^^^ nib (c2 % 16) := rfl
          generalize hd2 : c2 % 16 = g2 at e4 t2 n2 m2 hf2
          have e5 := u32_xor_nat (c2 / 16) (nib g2) (by omega) n2
          rw [← hf2, hh2] at e5
          generalize nib g1 = v1 at t1 e3 n1
          generalize nib g2 = v2 at t2 e5 n2
          generalize hc3 : Crc.step S y[i].toNat = c3 at e5
          clear hf1 hf2
          generalize c1 / 16 = q1 at d1 e3
          generalize c2 / 16 = q2 at d2 e5
          clear hh2 hl3 hTo hrk hri
          replace hS := Lib.hid hS
          replace hc3 := Lib.hid hc3
          replace hc1 := Lib.hid hc1
          replace hc2 := Lib.hid hc2
          replace hd := Lib.hid hd
          replace hd2 := Lib.hid hd2
          go_wp2
          go_round
          · refine ⟨i + 1, hlt2, by simp, ?_⟩
            rw [hstep.out, hsnoc.out, hS.out, hc3.out]
          · simp [intOf]; omega
        · have hie : i = y.size := by omega
          subst hie
          rw [bytes_end] at hri ⊢
          go_wp2
          go_roundw
          case rel => exact ⟨k + 1, hlt, by simp, by rw [hnext.out, run_append, hR], hPo⟩
          case measure => simp [intOf]; omega
    · have hke : k = xs.length := by omega
      subst hke
      rw [List.take_length] at hrk ⊢
      have e9 := u32_xor_nat 4294967295 _ (by omega) hrk
      rw [Nat.xor_comm, xor_full _ hrk] at e9
      replace e9 : bits BinOp.xor IntKind.u32 IntKind.u32.max _ = _ := e9
      go_wp2
      go_ret
      exact ⟨rfl, by (repeat (first | exact Plus.refl _ | apply Plus.plus | apply Plus.alloc | apply Plus.drew))⟩
end Go.Proofs.YtgckipebgcmhlaaDoor
