/- fixed: Read: walks. -/
import Derived.Test.YtndbcjgbcplgcaaDoorFix4
set_option linter.unusedSimpArgs false
set_option linter.unusedVariables false
namespace Go.Proofs.YtndbcjgbcplgcaaDoor
open Go.RowKit
def numV (l : List UInt8) (most : Nat) : Value := if numOk l most = true then .tuple #[.int .i64 (numl l), .bool true] else .tuple #[.int .i64 0, .bool false]
theorem not_dig {l : List UInt8} {c : UInt8} (h : isDig c = false) (hm : c ∈ l) : l.all isDig = false := by
  rw [List.all_eq_false]
  exact ⟨c, hm, by simp [h]⟩
section
variable (w : World)
theorem number_any (s : ByteArray) (most : Nat) (hs : s.size ≤ 140737488351232) (hm : most ≤ 8) :
    Calls Tryd.prog 31 #[.string s, .int .i64 most] w fun e w' => e = .returned (numV (bytes s) most) ∧ w.Plus w' := by
  have hV : numV (bytes s) most = if numOk (bytes s) most = true then .tuple #[.int .i64 (numl (bytes s)), .bool true] else .tuple #[.int .i64 0, .bool false] := rfl
  have hO : numOk (bytes s) most = (decide (s.size ≤ most) && (bytes s).all isDig) := by unfold numOk; rw [bytes_length]
  generalize numV (bytes s) most = V at *
  generalize numOk (bytes s) most = O at *
  replace hV := Lib.hid hV
  replace hO := Lib.hid hO
  go_enter Tryd.func31, Tryd.ntmps31
  go_wp2_with fail
  go_loop [6, 7] (fun n i => ∃ k : Nat, k ≤ s.size ∧ k ≤ most ∧ i = .int .i64 k ∧ n = .int .i64 (numl ((bytes s).take k)) ∧ ((bytes s).take k).all isDig = true) (fun _ i => s.size - (intOf i).toNat)
  case atStart => exact ⟨0, Nat.zero_le _, Nat.zero_le _, rfl, rfl, rfl⟩
  case round =>
    obtain ⟨k, hk, hkm, rfl, rfl, hd⟩ := hrel
    have hnl := numl_le _ hd
    have htl : ((bytes s).take k).length ≤ 8 := by rw [List.length_take]; omega
    have h8 : 10 ^ ((bytes s).take k).length ≤ 10 ^ 8 := Nat.pow_le_pow_right (by decide) htl
    have hN : numl ((bytes s).take k) < 100000000 := Nat.lt_of_lt_of_le hnl h8
    clear h8 hnl htl
    by_cases hlt : k < s.size
    · by_cases hkm2 : k = most
      · have hF : V = .tuple #[.int .i64 0, .bool false] := by
          rw [hV.out, hO.out, decide_eq_false (by omega)]; rfl
        replace hF := Lib.hid hF
        subst hkm2
        replace hd := Lib.hid hd
        generalize numl ((bytes s).take k) = N at *
        go_wp2_with fail
        go_ret2
        exact ⟨congrArg Ending.returned hF.out.symm, by (repeat (first | exact Plus.refl _ | apply Plus.plus | apply Plus.alloc | apply Plus.drew))⟩
      · have hkb : ((k : Int) == (most : Int)) = false := by rw [beq_eq_false_iff_ne]; omega
        have hsn := bytes_take s k hlt
        have hmem : s[k] ∈ bytes s := by
          have : s[k] ∈ (bytes s).take (k + 1) := by rw [hsn]; simp
          exact List.mem_of_mem_take this
        have hcl := s[k].toNat_lt
        by_cases hc : isDig s[k] = true
        · have hsn2 := numl_snoc ((bytes s).take k) s[k]
          rw [← hsn] at hsn2
          have hd2 := Lib.hid (show ((bytes s).take (k + 1)).all isDig = true by rw [hsn, List.all_append, hd]; simp [hc])
          have hb : 48 ≤ s[k].toNat ∧ s[k].toNat ≤ 57 := by unfold isDig at hc; simpa using hc
          obtain ⟨d, hdd⟩ : ∃ d : Nat, s[k].toNat - 48 = d := ⟨_, rfl⟩
          have hdi : ((s[k].toNat : Nat) : Int) - 48 = (d : Int) := by omega
          have hd9 : d ≤ 9 := by omega
          have hlo : decide (((s[k].toNat : Nat) : Int) < 48) = false := by simp; omega
          have hhi : decide ((57 : Int) < ((s[k].toNat : Nat) : Int)) = false := by simp; omega
          have hwu : IntKind.u8.wrap (d : Int) = (d : Int) := by rw [IntKind.wrap_u8]; omega
          rw [hdd] at hsn2
          have hnx := Lib.hid hsn2
          replace hd := Lib.hid hd
          replace hc := Lib.hid hc
          replace hdd := Lib.hid hdd
          clear hsn hsn2 hmem
          generalize numl ((bytes s).take k) = N at *
          have hkm3 : k < most := by omega
          go_wp2_with fail
          go_round
          case rel => exact ⟨k + 1, hlt, hkm3, by go_num, by rw [hnx.out]; go_num, hd2.out⟩
          case measure => simp [intOf]; omega
        · have hcf : isDig s[k] = false := by simpa using hc
          have hF : V = .tuple #[.int .i64 0, .bool false] := by
            rw [hV.out, hO.out, not_dig hcf hmem]; simp
          replace hF := Lib.hid hF
          have hb : s[k].toNat < 48 ∨ 57 < s[k].toNat := by unfold isDig at hcf; simp at hcf; omega
          replace hcf := Lib.hid hcf
          replace hc := Lib.hid hc
          replace hd := Lib.hid hd
          replace hmem := Lib.hid hmem
          replace hsn := Lib.hid hsn
          generalize numl ((bytes s).take k) = N at *
          by_cases hb1 : s[k].toNat < 48
          · have hlo : decide (((s[k].toNat : Nat) : Int) < 48) = true := by simp; omega
            clear hb
            go_wp2_with fail
            go_ret2
            exact ⟨congrArg Ending.returned hF.out.symm, by (repeat (first | exact Plus.refl _ | apply Plus.plus | apply Plus.alloc | apply Plus.drew))⟩
          · have hb2 : 57 < s[k].toNat := by omega
            have hlo : decide (((s[k].toNat : Nat) : Int) < 48) = false := by simp; omega
            have hhi : decide ((57 : Int) < ((s[k].toNat : Nat) : Int)) = true := by simp; omega
            clear hb
            go_wp2_with fail
            go_ret2
            exact ⟨congrArg Ending.returned hF.out.symm, by (repeat (first | exact Plus.refl _ | apply Plus.plus | apply Plus.alloc | apply Plus.drew))⟩
    · have hke : k = s.size := by omega
      have hE : V = .tuple #[.int .i64 (numl ((bytes s).take k)), .bool true] := by
        rw [hke, bytes_end] at hd
        rw [hV.out, hO.out, hd, decide_eq_true (by omega), hke, bytes_end]; rfl
      replace hE := Lib.hid hE
      replace hd := Lib.hid hd
      generalize numl ((bytes s).take k) = N at *
      go_wp2_with fail
      go_ret2
      exact ⟨congrArg Ending.returned hE.out.symm, by (repeat (first | exact Plus.refl _ | apply Plus.plus | apply Plus.alloc | apply Plus.drew))⟩
theorem index_any (s : ByteArray) : Calls Tryd.prog 30 #[.string s, .int .u8 46] w fun e w' => e = .returned (.int .i64 (dotAt (bytes s))) ∧ w.Plus w' := by
  have hC : ∀ w, Calls Tryd.prog 36 #[.string s, .int .u8 46] w fun e w' => e = .returned (.int .i64 (dotAt (bytes s))) ∧ w.Plus w' := fun w => by
    go_enter Tryd.func36, Tryd.ntmps36
    go_wp2
    rw [run_callFunc_extern Tryd.func40 (by kernel_rfl) (by kernel_rfl) (by kernel_rfl) (e := Extern.BytealgIndexByte.indexByte) (by kernel_rfl), Lib.run_indexByteString]
    simp only [Result.andThen]
    rw [Oper.upon_value]
    go_wp2
    go_ret
    exact ⟨rfl, by (repeat (first | exact Plus.refl _ | apply Plus.plus | apply Plus.alloc | apply Plus.drew))⟩
  replace hC := Lib.hid hC
  generalize dotAt (bytes s) = D at *
  go_enter Tryd.func30, Tryd.ntmps30
  go_wp2_with (first | (go_at_call 36; (with_reducible refine (hC.out _).mono ?_); rintro e w' ⟨rfl, ey, rfl⟩))
  go_ret
  exact ⟨rfl, by (repeat (first | exact Plus.refl _ | apply Plus.plus | apply Plus.alloc | apply Plus.drew))⟩
end
theorem index_lt : ∀ (l : List UInt8) (c : UInt8), Lib.indexByte l c < l.length
  | [], c => by simp [Lib.indexByte]
  | b :: l, c => by
    have := index_lt l c
    simp only [Lib.indexByte, List.length_cons]
    split
    · omega
    · split <;> omega
theorem dot_bounds (l : List UInt8) : -1 ≤ dotAt l ∧ dotAt l < l.length := ⟨Lib.indexByte_ge l 46, index_lt l 46⟩
theorem pow_more (k : Nat) (h : k < 8) (n : Nat) : n * 10 ^ (8 - (k + 1)) * 10 = n * 10 ^ (8 - k) := by
  rw [Nat.mul_assoc, ← Nat.pow_succ]
  congr 2
  omega
section
variable (w : World)
/-- the end of Read -/
theorem head45 (s : ByteArray) : ((bytes s).head? = some 45 ↔ ∃ h : 0 < s.size, s[0].toNat = 45) := by
  constructor
  · intro h
    have h0 : 0 < s.size := by
      rw [← bytes_length]
      cases hb : bytes s with
      | nil => rw [hb] at h; simp at h
      | cons a l => simp
    refine ⟨h0, ?_⟩
    have e := byte_get s 0 h0
    cases hb : bytes s with
    | nil => rw [hb] at h; simp at h
    | cons a l =>
      rw [hb] at h e
      simp at h e
      rw [← e, h]
      rfl
  · rintro ⟨h0, h⟩
    have e := byte_get s 0 h0
    cases hb : bytes s with
    | nil => rw [← bytes_length, hb] at h0; simp at h0
    | cons a l =>
      rw [hb] at e
      simp at e
      rw [← e] at h
      simp only [List.head?_cons, Option.some.injEq]
      exact UInt8.toNat_inj.1 h
end
end Go.Proofs.YtndbcjgbcplgcaaDoor
