/- big-endian bytes: head, tail, high. -/
import Derived.Test.YtgckipebgcmhlaaDoorSum
import Derived.Laws.IdiomStrings
import Derived.Deep.RegionHeld3
import Derived.Deep.RegionLaw
import Derived.Deep.DeepCutAuto
set_option linter.unusedSimpArgs false
set_option linter.unusedVariables false
namespace Go.Proofs.YtgckipebgcmhlaaDoor
open Go.RowKit
open Go.Crc hiding step
def big : Nat → Nat → List UInt8
  | _, 0 => []
  | n, k + 1 => big (n / 256) k ++ [UInt8.ofNat n]
def txt (l : List UInt8) : ByteArray := ⟨l.toArray⟩
theorem big_length : ∀ (k n : Nat), (big n k).length = k
  | 0, _ => rfl
  | k + 1, n => by simp [big, big_length k]
theorem bytes_txt (l : List UInt8) : bytes (txt l) = l := rfl
theorem txt_bytes (y : ByteArray) : txt (bytes y) = y := rfl
theorem txt_append (l m : List UInt8) : txt l ++ txt m = txt (l ++ m) := by
  apply ByteArray.ext
  simp [txt]
theorem txt_size (l : List UInt8) : (txt l).size = l.length := by simp [txt, ByteArray.size]
theorem conv_new (l : List UInt8) (w : World) (cs : Array Value) (h : ∀ j (hj : j < l.length), cs[j]? = some (.int .u8 ((l[j].toNat : Nat) : Int))) :
    (convert 45 9 (.slice (some ⟨w.heap.size, 0, none⟩) l.length l.length)).run Tryd.prog (w.alloc (.cells cs 5)) = .ok (.string (txt l)) (w.alloc (.cells cs 5)) :=
  run_convert_bytes_back (P := Tryd.prog) (w.alloc (.cells cs 5)) 45 9 5 ⟨w.heap.size, 0, none⟩ l.length l (by kernel_rfl) (by kernel_rfl) (by kernel_rfl)
    (fun j hj => by
      have := h j hj
      by_cases h0 : j = 0
      · subst h0
        simpa [go_sem, Addr.add] using this
      · simpa [go_sem, Addr.add, h0] using this)
theorem u8_of (m : Nat) : (((UInt8.ofNat m).toNat : Nat) : Int) = (m : Int) % 256 := by
  simp [UInt8.toNat_ofNat]
theorem conv_one (n m : Nat) (w : World) (h : w.cell? ⟨m, 0, none⟩ = some (.int .u8 ((n : Int) % 256))) :
    (convert 45 9 (.slice (some ⟨m, 0, none⟩) 1 1)).run Tryd.prog w = .ok (.string (txt [UInt8.ofNat n])) w :=
  run_convert_bytes_back (P := Tryd.prog) w 45 9 5 ⟨m, 0, none⟩ 1 [UInt8.ofNat n] (by kernel_rfl) (by kernel_rfl) (by kernel_rfl)
    (fun j hj => by
      have : j = 0 := by simpa using hj
      subst this
      simpa [u8_of, Addr.add] using h)
theorem head_any (n : Nat) (w : World) (hn : n < 16777216) :
    Calls Tryd.prog 20 #[.int .i64 n] w fun e w' => e = .returned (.string (txt (big n 3))) ∧ w.Plus w' := by
  go_enter Tryd.func20, Tryd.ntmps20
  have hconv := conv_new (big n 3) w #[.int .u8 ((n : Int) / 65536), .int .u8 ((n : Int) / 256 % 256), .int .u8 ((n : Int) % 256)] (fun j hj => by
    rw [big_length] at hj
    have e : big n 3 = [UInt8.ofNat (n / 256 / 256), UInt8.ofNat (n / 256), UInt8.ofNat n] := rfl
    simp only [e]
    match j, hj with
    | 0, _ => simp [u8_of]; omega
    | 1, _ => simp [u8_of]
    | 2, _ => simp [u8_of])
  rw [big_length] at hconv
  go_wp2
  all_goals go_ret
  exact ⟨rfl, by (repeat (first | exact Plus.refl _ | apply Plus.plus | apply Plus.alloc | apply Plus.drew))⟩
theorem tail_any (n : Nat) (w : World) (hn : n < 4294967296) :
    Calls Tryd.prog 21 #[.int .u32 n] w fun e w' => e = .returned (.string (txt (big n 4))) ∧ w.Plus w' := by
  go_enter Tryd.func21, Tryd.ntmps21
  have hconv := conv_new (big n 4) w #[.int .u8 ((n : Int) / 16777216), .int .u8 ((n : Int) / 65536 % 256), .int .u8 ((n : Int) / 256 % 256), .int .u8 ((n : Int) % 256)] (fun j hj => by
    rw [big_length] at hj
    have e : big n 4 = [UInt8.ofNat (n / 256 / 256 / 256), UInt8.ofNat (n / 256 / 256), UInt8.ofNat (n / 256), UInt8.ofNat n] := rfl
    simp only [e]
    match j, hj with
    | 0, _ => simp [u8_of]; omega
    | 1, _ => simp [u8_of]; omega
    | 2, _ => simp [u8_of]
    | 3, _ => simp [u8_of])
  rw [big_length] at hconv
  go_wp2
  all_goals go_ret
  exact ⟨rfl, by (repeat (first | exact Plus.refl _ | apply Plus.plus | apply Plus.alloc | apply Plus.drew))⟩
set_option maxHeartbeats 4000000 in
/-- the reference's bytes, by recursion: one step -/
theorem high_step (k n q : Nat) (B : List UInt8) (w : World) (hk : k + 1 ≤ 4) (hn : n < 4294967296) (hq : (n : Int) / 256 = (q : Int)) (hsz : (txt B).size ≤ 4)
    (ih : ∀ w, Calls Tryd.prog 22 #[.int .i64 q, .int .i64 k] w fun e w' => e = .returned (.string (txt B)) ∧ w.Plus w')
    (hc : ∀ (m : Nat) (w : World), w.cell? ⟨m, 0, none⟩ = some (.int .u8 ((n : Int) % 256)) → (convert 45 9 (.slice (some ⟨m, 0, none⟩) 1 1)).run Tryd.prog w = .ok (.string (txt [UInt8.ofNat n])) w) :
    Calls Tryd.prog 22 #[.int .i64 n, .int .i64 (k + 1 : Nat)] w fun e w' => e = .returned (.string (txt (B ++ [UInt8.ofNat n]))) ∧ w.Plus w' := by
  go_enter Tryd.func22, Tryd.ntmps22
  have hne : ¬ ((k : Int) + 1 = 0) := by omega
  have hz : ((k : Int) + 1 == 0) = false := by simp; omega
  have hk1 : (((k + 1 : Nat) : Int) - 1) = (k : Int) := by omega
  have hw1 : IntKind.i64.wrap (q : Int) = (q : Int) := by rw [IntKind.wrap_i64]; omega
  have hw2 : IntKind.i64.wrap (k : Int) = (k : Int) := by rw [IntKind.wrap_i64]; omega
  have hm1 : (n : Int).tmod 256 = (n : Int) % 256 := by rw [Int.tmod_eq_emod_of_nonneg (by omega)]
  have hm2 : IntKind.u8.wrap ((n : Int) % 256) = (n : Int) % 256 := by rw [IntKind.wrap_u8]; omega
  have hs1 : (txt [UInt8.ofNat n]).size = 1 := by rw [txt_size]; rfl
  go_wp2
  go_region_with (first | (go_at_call 22; (with_reducible refine (ih _).mono ?_); rintro e w' ⟨rfl, ey, rfl⟩))
  all_goals go_wp2
  all_goals go_ret
  all_goals exact ⟨by simp [txt_append, Act.put], by (repeat (first | exact Plus.refl _ | apply Plus.plus | apply Plus.alloc | apply Plus.drew))⟩
theorem high_any : ∀ (k n : Nat) (w : World), k ≤ 4 → n < 4294967296 →
    Calls Tryd.prog 22 #[.int .i64 n, .int .i64 k] w fun e w' => e = .returned (.string (txt (big n k))) ∧ w.Plus w'
  | 0, n, w, hk, hn => by
    go_enter Tryd.func22, Tryd.ntmps22
    go_wp2
    all_goals go_ret
    exact ⟨rfl, by (repeat (first | exact Plus.refl _ | apply Plus.plus | apply Plus.alloc | apply Plus.drew))⟩
  | k + 1, n, w, hk, hn => high_step k n (n / 256) (big (n / 256) k) w hk hn (by omega) (by rw [txt_size, big_length]; omega) (fun w => high_any k (n / 256) w (by omega) (by omega)) (fun m w h => conv_one n m w h)
end Go.Proofs.YtgckipebgcmhlaaDoor
