/- frame.First and the reference's: walks. -/
import Derived.Test.YtgckipebgcmhlaaDoorRead
set_option linter.unusedSimpArgs false
set_option linter.unusedVariables false
namespace Go.Proofs.YtgckipebgcmhlaaDoor
open Go.RowKit
open Go.Crc hiding step
theorem or_add (x y i : Nat) (h : y < 2 ^ i) : (x * 2 ^ i) ||| y = x * 2 ^ i + y := by
  have := Nat.two_pow_add_eq_or_of_lt h x
  rw [Nat.mul_comm]; exact this.symm
theorem ofInt_i64 (a : Nat) (ha : a < 9223372036854775808) : (BitVec.ofInt 64 (a : Int)).toNat = a := by
  rw [BitVec.ofInt_natCast, BitVec.toNat_ofNat]; exact Nat.mod_eq_of_lt (by omega)
theorem i64_or_nat (a b : Nat) (ha : a < 9223372036854775808) (hb : b < 9223372036854775808) : bits .or .i64 (a : Int) (b : Int) = ((a ||| b : Nat) : Int) := by
  have hx : a ||| b < 2 ^ 63 := Nat.or_lt_two_pow (by omega) (by omega)
  show IntKind.i64.wrap ((BitVec.ofInt 64 (a : Int) ||| BitVec.ofInt 64 (b : Int)).toNat : Int) = _
  rw [BitVec.toNat_or, ofInt_i64 a ha, ofInt_i64 b hb, IntKind.wrap_i64]
  omega
theorem first_far (s : ByteArray) (a : Nat) (w : World) (hT : Nib w) (hs : s.size ≤ 1000000) (ha : a ≤ s.size) (h3 : ¬ s.size - a < 3) :
    Calls Tryd.prog 15 #[.string s, .int .i64 a] w fun e w' => e = .returned (firstV s a) ∧ w.Plus w' := by
  go_enter Tryd.func15, Tryd.ntmps15
  go_wp2_with fail
  have hts : (s.extract a s.size).size = s.size - a := by simp
  have t0 : ∀ h : 0 < (s.extract a s.size).size, (s.extract a s.size)[0].toNat = at8 s a := fun h => by rw [at8_eq _ 0 h, at8_rest]; rfl
  have t1 : ∀ h : 1 < (s.extract a s.size).size, (s.extract a s.size)[1].toNat = at8 s (a + 1) := fun h => by rw [at8_eq _ 1 h, at8_rest]
  have t2 : ∀ h : 2 < (s.extract a s.size).size, (s.extract a s.size)[2].toNat = at8 s (a + 2) := fun h => by rw [at8_eq _ 2 h, at8_rest]
  have htx := Lib.hid (extract_eq s a s.size)
  have l0 := at8_lt s a
  have l1 := at8_lt s (a + 1)
  have l2 := at8_lt s (a + 2)
  have hnum := Lib.hid (show num s a = 65536 * at8 s a + 256 * at8 s (a + 1) + at8 s (a + 2) from rfl)
  generalize at8 s a = x at t0 l0 hnum
  generalize at8 s (a + 1) = y at t1 l1 hnum
  generalize at8 s (a + 2) = z at t2 l2 hnum
  generalize s.extract a s.size = t at *
  have i0 : 0 < t.size := by omega
  have i1 : 1 < (t.size : Int) := by omega
  have i2 : 2 < (t.size : Int) := by omega
  replace hts := Lib.hid hts
  replace t0 := t0 i0
  replace t1 := t1 (by omega)
  replace t2 := t2 (by omega)
  go_region
  have hN : bits .or .i64 (bits .or .i64 ((x : Int) * 65536) ((y : Int) * 256)) (z : Int) = ((num s a : Nat) : Int) := by
    have e1 := i64_or_nat (x * 65536) (y * 256) (by omega) (by omega)
    rw [or_add x (y * 256) 16 (by omega)] at e1
    have e2 := i64_or_nat (x * 65536 + y * 256) z (by omega) (by omega)
    rw [show x * 65536 + y * 256 = (x * 256 + y) * 2 ^ 8 by omega, or_add _ z 8 (by omega)] at e2
    rw [show ((x : Int) * 65536) = ((x * 65536 : Nat) : Int) by omega, show ((y : Int) * 256) = ((y * 256 : Nat) : Int) by omega]
    rw [show (65536 : Nat) = 2 ^ 16 from rfl, e1, show x * 2 ^ 16 + y * 256 = (x * 256 + y) * 2 ^ 8 by omega, e2, hnum.out]
    congr 1; omega
  have hnl : num s a < 16777216 := by rw [hnum.out]; omega
  simp only [hN]
  clear hN t0 t1 t2 hnum
  generalize hn : num s a = n at hnl
  by_cases c1 : 65536 < n
  · have hV : firstV s a = .tuple #[.string (txt []), .int .i64 0, .int .i64 2] := by simp [firstV, code, h3, hn, c1]
    replace hV := Lib.hid hV
    replace hn := Lib.hid hn
    have c2 : (65536 : Int) < n := by omega
    go_wp2_with fail
    exact bodyPost_ret (v := .tuple #[.string (txt []), .int .i64 0, .int .i64 2]) (by simp [results, Tryd.results15, go_sem]; rfl) rfl ⟨by rw [hV.out], by (repeat (first | exact Plus.refl _ | apply Plus.plus | apply Plus.alloc | apply Plus.drew))⟩
  · by_cases c3 : s.size - a < 7 + n
    · have hV : firstV s a = .tuple #[.string (txt []), .int .i64 0, .int .i64 4] := by simp [firstV, code, h3, hn, c1, c3]
      replace hV := Lib.hid hV
      replace hn := Lib.hid hn
      have hts2 := hts.out
      have c2 : ¬ (65536 : Int) < n := by omega
      have c4 : (t.size : Int) < 7 + (n : Int) := by omega
      clear hts2
      go_wp2_with fail
      exact bodyPost_ret (v := .tuple #[.string (txt []), .int .i64 0, .int .i64 4]) (by simp [results, Tryd.results15, go_sem]; rfl) rfl ⟨by rw [hV.out], by (repeat (first | exact Plus.refl _ | apply Plus.plus | apply Plus.alloc | apply Plus.drew))⟩
    · have hts2 := hts.out
      have c2 : ¬ (65536 : Int) < n := by omega
      have c4 : ¬ (t.size : Int) < 7 + (n : Int) := by omega
      have b3 : (3 : Int) + n ≤ t.size := by omega
      have b7 : (7 : Int) + n ≤ t.size := by omega
      have b37 : (3 : Int) + n ≤ 7 + n := by omega
      have b0 : (0 : Int) ≤ 3 + n := by omega
      have w3 : IntKind.i64.wrap ((3 : Int) + n) = 3 + n := by rw [IntKind.wrap_i64]; omega
      have w7 : IntKind.i64.wrap ((7 : Int) + n) = 7 + n := by rw [IntKind.wrap_i64]; omega
      clear hts2
      replace hn := Lib.hid hn
      have q3 : ((3 : Int) + n).toNat = 3 + n := by omega
      have q7 : ((7 : Int) + n).toNat = 7 + n := by omega
      have htx2 := htx.out
      have p1 : bytes (t.extract 0 (3 + n)) = part s a (3 + n) := by rw [bytes_extract, htx2, part_rest]; rfl
      have p2 : bytes (t.extract (3 + n) (7 + n)) = part s (a + 3 + n) 4 := by
        rw [bytes_extract, htx2, part_rest, show 7 + n - (3 + n) = 4 by omega, show a + (3 + n) = a + 3 + n by omega]
      have p3 : t.extract 3 (3 + n) = txt (part s (a + 3) n) := by rw [extract_eq, htx2, part_rest, show 3 + n - 3 = n by omega]
      replace p1 := Lib.hid p1
      replace p2 := Lib.hid p2
      replace p3 := Lib.hid p3
      clear htx2
      have hx : (t.extract 0 (3 + n)).size ≤ 1000000 := by rw [ByteArray.size_extract]; omega
      go_wp2_with fail
      go_region_held3 (fun _ => True) (trivial) (first | (go_at_call 11; refine (sum_one (t.extract 0 (3 + n)) _ _ _ (hT.plus (by (repeat (first | exact Plus.refl _ | apply Plus.plus | apply Plus.alloc | apply Plus.drew)))) hx (by simp [go_sem]) (by simp [go_sem])).mono ?_; rintro e w' ⟨rfl, ey, rfl⟩) | (go_at_call 21; refine (tail_any _ _ (sum_lt _)).mono ?_; rintro e w' ⟨rfl, ey, rfl⟩))
      all_goals go_wp2
      · rename_i h
        rw [ByteArray.toList_eq, ByteArray.toList_eq] at h
        have hne : ¬ big (sum (part s a (3 + n))) 4 = part s (a + 3 + n) 4 := by
          have h2 : ¬ bytes (txt (big (sum (bytes (t.extract 0 (3 + n)))) 4)) = bytes (t.extract (3 + n) (7 + n)) := by simpa [bytes] using h
          rwa [bytes_txt, p1.out, p2.out] at h2
        have hV : firstV s a = .tuple #[.string (txt []), .int .i64 0, .int .i64 3] := by simp [firstV, code, h3, hn.out, c1, c3, hne]
        exact bodyPost_ret (v := .tuple #[.string (txt []), .int .i64 0, .int .i64 3]) (by simp [results, Tryd.results15, go_sem]; rfl) rfl ⟨by rw [hV], by (repeat (first | exact Plus.refl _ | apply Plus.plus | apply Plus.alloc | apply Plus.drew))⟩
      · rename_i h
        rw [ByteArray.toList_eq, ByteArray.toList_eq] at h
        have he : big (sum (part s a (3 + n))) 4 = part s (a + 3 + n) 4 := by
          have h2 : bytes (txt (big (sum (bytes (t.extract 0 (3 + n)))) 4)) = bytes (t.extract (3 + n) (7 + n)) := by simpa [bytes] using h
          rwa [bytes_txt, p1.out, p2.out] at h2
        have hV : firstV s a = .tuple #[.string (txt (part s (a + 3) n)), .int .i64 ((a + 7 + n : Nat) : Int), .int .i64 0] := by simp [firstV, code, h3, hn.out, c1, c3, he]
        exact bodyPost_ret (v := .tuple #[.string (txt (part s (a + 3) n)), .int .i64 ((a + 7 + n : Nat) : Int), .int .i64 0]) (by simp [results, Tryd.results15, go_sem, p3.out]) rfl ⟨by rw [hV], by (repeat (first | exact Plus.refl _ | apply Plus.plus | apply Plus.alloc | apply Plus.drew))⟩
theorem ref_first_far (s : ByteArray) (a : Nat) (w : World) (hs : s.size ≤ 1000000) (ha : a ≤ s.size) (h3 : ¬ s.size - a < 3) :
    Calls Tryd.prog 16 #[.string s, .int .i64 a] w fun e w' => e = .returned (firstV s a) ∧ w.Plus w' := by
  go_enter Tryd.func16, Tryd.ntmps16
  have i0 : a < s.size := by omega
  have i1 : a + 1 < s.size := by omega
  have i2 : a + 2 < s.size := by omega
  have w1 : IntKind.i64.wrap ((a : Int) + 1) = (a : Int) + 1 := by rw [IntKind.wrap_i64]; omega
  have w2 : IntKind.i64.wrap ((a : Int) + 2) = (a : Int) + 2 := by rw [IntKind.wrap_i64]; omega
  have j1 : (0 : Int) ≤ (a : Int) + 1 := by omega
  have j2 : (0 : Int) ≤ (a : Int) + 2 := by omega
  have k1 : (a : Int) + 1 < (s.size : Int) := by omega
  have k2 : (a : Int) + 2 < (s.size : Int) := by omega
  have t0 := at8_eq s a i0
  have t1 := at8_eq s (a + 1) i1
  have t2 := at8_eq s (a + 2) i2
  have l0 := at8_lt s a
  have l1 := at8_lt s (a + 1)
  have l2 := at8_lt s (a + 2)
  have hnum := Lib.hid (show num s a = 65536 * at8 s a + 256 * at8 s (a + 1) + at8 s (a + 2) from rfl)
  have hcode := Lib.hid (show code s a = _ from rfl)
  generalize hx : at8 s a = x at t0 l0 hnum
  generalize hy : at8 s (a + 1) = y at t1 l1 hnum
  generalize hz : at8 s (a + 2) = z at t2 l2 hnum
  clear hx hy hz
  go_wp2_with fail
  go_region
  have hN : 65536 * (x : Int) + 256 * (y : Int) + (z : Int) = ((num s a : Nat) : Int) := by rw [hnum.out]; omega
  have hnl : num s a < 16777216 := by rw [hnum.out]; omega
  simp only [hN]
  clear hN t0 t1 t2 hnum
  have hcs := Lib.hid (code_same s a)
  generalize hn : num s a = n at hnl hcs
  by_cases c1 : 65536 < n
  · have hV : firstV s a = .tuple #[.string (txt []), .int .i64 0, .int .i64 2] := by simp [firstV, code, h3, hn, c1]
    replace hV := Lib.hid hV
    replace hn := Lib.hid hn
    have c2 : (65536 : Int) < n := by omega
    go_wp2_with fail
    exact bodyPost_ret (v := .tuple #[.string (txt []), .int .i64 0, .int .i64 2]) (by simp [results, Tryd.results16, go_sem]; rfl) rfl ⟨by rw [hV.out], by (repeat (first | exact Plus.refl _ | apply Plus.plus | apply Plus.alloc | apply Plus.drew))⟩
  · by_cases c3 : s.size - a < 7 + n
    · have hV : firstV s a = .tuple #[.string (txt []), .int .i64 0, .int .i64 4] := by simp [firstV, code, h3, hn, c1, c3]
      replace hV := Lib.hid hV
      replace hn := Lib.hid hn
      have c2 : ¬ (65536 : Int) < n := by omega
      have c4 : (s.size : Int) - a < (n : Int) + 7 := by omega
      go_wp2_with fail
      exact bodyPost_ret (v := .tuple #[.string (txt []), .int .i64 0, .int .i64 4]) (by simp [results, Tryd.results16, go_sem]; rfl) rfl ⟨by rw [hV.out], by (repeat (first | exact Plus.refl _ | apply Plus.plus | apply Plus.alloc | apply Plus.drew))⟩
    · have c2 : ¬ (65536 : Int) < n := by omega
      have c4 : ¬ (s.size : Int) - a < (n : Int) + 7 := by omega
      replace hn := Lib.hid hn
      have p1 : s.extract (a + 3) (a + 3 + n) = txt (part s (a + 3) n) := by rw [extract_eq, show a + 3 + n - (a + 3) = n by omega]
      have p2 : bytes (s.extract a (a + 7 + n)) = part s a (7 + n) := by rw [bytes_extract, show a + 7 + n - a = 7 + n by omega]
      have hz : (s.extract (a + 3) (a + 3 + n)).size ≤ 65536 := by rw [ByteArray.size_extract]; omega
      replace p1 := Lib.hid p1
      replace p2 := Lib.hid p2
      go_wp2_with (first | (go_at_call 14; (with_reducible refine (ref_frame_short _ _ hz).mono ?_); rintro e w' ⟨rfl, ey, rfl⟩))
      · rename_i h
        rw [ByteArray.toList_eq, ByteArray.toList_eq] at h
        have hne : ¬ big (sum (part s a (3 + n))) 4 = part s (a + 3 + n) 4 := by
          have h2 : ¬ bytes (txt (framed (bytes (s.extract (a + 3) (a + 3 + n))))) = bytes (s.extract a (a + 7 + n)) := by simpa [bytes] using h
          rw [bytes_txt, p1.out, p2.out, bytes_txt] at h2
          exact fun h => h2 ((hcs.out (by omega)).2 h)
        have hV : firstV s a = .tuple #[.string (txt []), .int .i64 0, .int .i64 3] := by simp [firstV, code, h3, hn.out, c1, c3, hne]
        exact bodyPost_ret (v := .tuple #[.string (txt []), .int .i64 0, .int .i64 3]) (by simp [results, Tryd.results16, go_sem]; rfl) rfl ⟨by rw [hV], by (repeat (first | exact Plus.refl _ | apply Plus.plus | apply Plus.alloc | apply Plus.drew))⟩
      · rename_i h
        rw [ByteArray.toList_eq, ByteArray.toList_eq] at h
        have he : big (sum (part s a (3 + n))) 4 = part s (a + 3 + n) 4 := by
          have h2 : bytes (txt (framed (bytes (s.extract (a + 3) (a + 3 + n))))) = bytes (s.extract a (a + 7 + n)) := by simpa [bytes] using h
          rw [bytes_txt, p1.out, p2.out, bytes_txt] at h2
          exact (hcs.out (by omega)).1 h2
        have hV : firstV s a = .tuple #[.string (txt (part s (a + 3) n)), .int .i64 ((a + 7 + n : Nat) : Int), .int .i64 0] := by simp [firstV, code, h3, hn.out, c1, c3, he]
        exact bodyPost_ret (v := .tuple #[.string (txt (part s (a + 3) n)), .int .i64 ((a + 7 + n : Nat) : Int), .int .i64 0]) (by simp [results, Tryd.results16, go_sem, p1.out]) rfl ⟨by rw [hV], by (repeat (first | exact Plus.refl _ | apply Plus.plus | apply Plus.alloc | apply Plus.drew))⟩
theorem first_any (s : ByteArray) (a : Nat) (w : World) (hT : Nib w) (hs : s.size ≤ 1000000) (ha : a ≤ s.size) :
    Calls Tryd.prog 15 #[.string s, .int .i64 a] w fun e w' => e = .returned (firstV s a) ∧ w.Plus w' := by
  by_cases h3 : s.size - a < 3
  · have hV : firstV s a = .tuple #[.string (txt []), .int .i64 0, .int .i64 4] := by simp [firstV, code, h3]
    go_enter Tryd.func15, Tryd.ntmps15
    have e0 : ((s.size - a : Nat) : Int) = (s.size : Int) - a := by omega
    have c4 : (s.size : Int) - a < 3 := by omega
    replace hV := Lib.hid hV
    go_wp2_with fail
    exact bodyPost_ret (v := .tuple #[.string (txt []), .int .i64 0, .int .i64 4]) (by simp [results, Tryd.results15, go_sem]; rfl) rfl ⟨by rw [hV.out], by (repeat (first | exact Plus.refl _ | apply Plus.plus | apply Plus.alloc | apply Plus.drew))⟩
  · exact first_far s a w hT hs ha h3
theorem ref_first_any (s : ByteArray) (a : Nat) (w : World) (hs : s.size ≤ 1000000) (ha : a ≤ s.size) :
    Calls Tryd.prog 16 #[.string s, .int .i64 a] w fun e w' => e = .returned (firstV s a) ∧ w.Plus w' := by
  by_cases h3 : s.size - a < 3
  · have hV : firstV s a = .tuple #[.string (txt []), .int .i64 0, .int .i64 4] := by simp [firstV, code, h3]
    go_enter Tryd.func16, Tryd.ntmps16
    have c4 : (s.size : Int) - a < 3 := by omega
    replace hV := Lib.hid hV
    go_wp2_with fail
    exact bodyPost_ret (v := .tuple #[.string (txt []), .int .i64 0, .int .i64 4]) (by simp [results, Tryd.results16, go_sem]; rfl) rfl ⟨by rw [hV.out], by (repeat (first | exact Plus.refl _ | apply Plus.plus | apply Plus.alloc | apply Plus.drew))⟩
  · exact ref_first_far s a w hs ha h3
theorem first_out (s : ByteArray) (i : Int) (w : World) (hs : s.size ≤ 1000000) (hi : i < 0 ∨ (s.size : Int) < i) :
    Calls Tryd.prog 15 #[.string s, .int .i64 i] w fun e w' => e = .returned (.tuple #[.string (txt []), .int .i64 0, .int .i64 1]) ∧ w.Plus w' := by
  rcases hi with h | h
  · go_enter Tryd.func15, Tryd.ntmps15
    go_wp2_with fail
    exact bodyPost_ret (v := .tuple #[.string (txt []), .int .i64 0, .int .i64 1]) (by simp [results, Tryd.results15, go_sem]; rfl) rfl ⟨rfl, by (repeat (first | exact Plus.refl _ | apply Plus.plus | apply Plus.alloc | apply Plus.drew))⟩
  · go_enter Tryd.func15, Tryd.ntmps15
    have h0 : ¬ i < 0 := by omega
    go_wp2_with fail
    exact bodyPost_ret (v := .tuple #[.string (txt []), .int .i64 0, .int .i64 1]) (by simp [results, Tryd.results15, go_sem]; rfl) rfl ⟨rfl, by (repeat (first | exact Plus.refl _ | apply Plus.plus | apply Plus.alloc | apply Plus.drew))⟩
theorem ref_first_out (s : ByteArray) (i : Int) (w : World) (hs : s.size ≤ 1000000) (hi : i < 0 ∨ (s.size : Int) < i) :
    Calls Tryd.prog 16 #[.string s, .int .i64 i] w fun e w' => e = .returned (.tuple #[.string (txt []), .int .i64 0, .int .i64 1]) ∧ w.Plus w' := by
  rcases hi with h | h
  · go_enter Tryd.func16, Tryd.ntmps16
    go_wp2_with fail
    exact bodyPost_ret (v := .tuple #[.string (txt []), .int .i64 0, .int .i64 1]) (by simp [results, Tryd.results16, go_sem]; rfl) rfl ⟨rfl, by (repeat (first | exact Plus.refl _ | apply Plus.plus | apply Plus.alloc | apply Plus.drew))⟩
  · go_enter Tryd.func16, Tryd.ntmps16
    have h0 : ¬ i < 0 := by omega
    go_wp2_with fail
    exact bodyPost_ret (v := .tuple #[.string (txt []), .int .i64 0, .int .i64 1]) (by simp [results, Tryd.results16, go_sem]; rfl) rfl ⟨rfl, by (repeat (first | exact Plus.refl _ | apply Plus.plus | apply Plus.alloc | apply Plus.drew))⟩
end Go.Proofs.YtgckipebgcmhlaaDoor
