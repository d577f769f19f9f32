/- frame.Frame and the reference's: walks. -/
import Derived.Test.YtgckipebgcmhlaaDoorHead
import Derived.Test.YtgckipebgcmhlaaDoorSumR
set_option linter.unusedSimpArgs false
set_option linter.unusedVariables false
namespace Go.Proofs.YtgckipebgcmhlaaDoor
open Go.RowKit
open Go.Crc hiding step
/-- what is read in a frame's head and text -/
def headed (l : List UInt8) : List UInt8 := big l.length 3 ++ l
def framed (l : List UInt8) : List UInt8 := headed l ++ big (sum (headed l)) 4
theorem two_rows {w : World} {b : Nat} {x y : ByteArray} (hb : b < w.heap.size) (h0 : w.cell? ⟨b, 0, none⟩ = some (.string x)) (h1 : w.cell? ⟨b, 1, none⟩ = some (.string y)) :
    RowsAt w (some ⟨b, 0, none⟩) 1 [x, y].length (strAt [x, y]) := fun _ => ⟨b, 0, rfl, hb, fun i j hi hj => by
  obtain rfl : j = 0 := by omega
  match i, hi with
  | 0, _ => simpa [strAt] using h0
  | 1, _ => simpa [strAt] using h1⟩
theorem one_row {w : World} {b : Nat} {x : ByteArray} (hb : b < w.heap.size) (h0 : w.cell? ⟨b, 0, none⟩ = some (.string x)) :
    RowsAt w (some ⟨b, 0, none⟩) 1 [x].length (strAt [x]) := fun _ => ⟨b, 0, rfl, hb, fun i j hi hj => by
  obtain rfl : j = 0 := by omega
  match i, hi with
  | 0, _ => simpa [strAt] using h0⟩
theorem bytes_length (y : ByteArray) : (bytes y).length = y.size := by simp [bytes]
theorem sum_two (x y : ByteArray) (b c : Nat) (w : World) (hT : Nib w) (hx : x.size ≤ 1000000) (hy : y.size ≤ 1000000) (hb : b < w.heap.size)
    (h0 : w.cell? ⟨b, 0, none⟩ = some (.string x)) (h1 : w.cell? ⟨b, 1, none⟩ = some (.string y)) :
    Calls Tryd.prog 11 #[.slice (some ⟨b, 0, none⟩) 2 c] w fun e w' => e = .returned (.int .u32 ((sum (bytes x ++ bytes y) : Nat) : Int)) ∧ w.Plus w' := by
  have := sum_any [x, y] (some ⟨b, 0, none⟩) c w (by simp) (two_rows hb h0 h1) hT (fun k => by
    match k with
    | 0 => simp; omega
    | 1 => simp; omega
    | k + 2 => simp)
  simpa [allBytes] using this
theorem sum_one (x : ByteArray) (b c : Nat) (w : World) (hT : Nib w) (hx : x.size ≤ 1000000) (hb : b < w.heap.size)
    (h0 : w.cell? ⟨b, 0, none⟩ = some (.string x)) :
    Calls Tryd.prog 11 #[.slice (some ⟨b, 0, none⟩) 1 c] w fun e w' => e = .returned (.int .u32 ((sum (bytes x) : Nat) : Int)) ∧ w.Plus w' := by
  have := sum_any [x] (some ⟨b, 0, none⟩) c w (by simp) (one_row hb h0) hT (fun k => by
    match k with
    | 0 => simp; omega
    | k + 1 => simp)
  simpa [allBytes] using this
theorem frame_short (s : ByteArray) (w : World) (hT : Nib w) (hs : s.size ≤ 65536) :
    Calls Tryd.prog 13 #[.string s] w fun e w' => e = .returned (.tuple #[.string (txt (framed (bytes s))), .int .i64 0]) ∧ w.Plus w' := by
  go_enter Tryd.func13, Tryd.ntmps13
  have hh : (txt (big s.size 3)).size = 3 := by rw [txt_size, big_length]
  have hf : framed (bytes s) = big s.size 3 ++ bytes s ++ big (sum (big s.size 3 ++ bytes s)) 4 := by rw [framed, headed, bytes_length]
  have ht : ∀ n, (txt (big n 4)).size = 4 := fun n => by rw [txt_size, big_length]
  have hhs : (txt (big s.size 3) ++ s).size = s.size + 3 := by rw [ByteArray.size_append, hh]; omega
  have key : txt (big s.size 3) ++ s ++ txt (big (sum (bytes (txt (big s.size 3)) ++ bytes s)) 4) = txt (framed (bytes s)) := by
    rw [hf, ← txt_append, ← txt_append]; rfl
  go_wp2_with (first | (go_at_call 20; (with_reducible refine (head_any _ _ (by omega)).mono ?_); rintro e w' ⟨rfl, ey, rfl⟩) | (go_at_call 21; (with_reducible refine (tail_any _ _ (sum_lt _)).mono ?_); rintro e w' ⟨rfl, ey, rfl⟩) | (go_at_call 11; (with_reducible refine (sum_two (txt (big s.size 3)) s _ _ _ (hT.plus (by (repeat (first | exact Plus.refl _ | apply Plus.plus | apply Plus.alloc | apply Plus.drew)))) (by omega) (by omega) (by simp [go_sem]) (by simp [go_sem]) (by simp [go_sem])).mono ?_); rintro e w' ⟨rfl, ey, rfl⟩))
  exact bodyPost_ret (v := .tuple #[.string (txt (framed (bytes s))), .int .i64 0]) (by simp [results, Tryd.results13, go_sem, key]; rw [hf, List.append_assoc]) rfl ⟨rfl, by (repeat (first | exact Plus.refl _ | apply Plus.plus | apply Plus.alloc | apply Plus.drew))⟩
theorem frame_long (s : ByteArray) (w : World) (hm : s.size ≤ 140737488351232) (hs : 65536 < s.size) :
    Calls Tryd.prog 13 #[.string s] w fun e w' => e = .returned (.tuple #[.string (txt []), .int .i64 1]) ∧ w.Plus w' := by
  go_enter Tryd.func13, Tryd.ntmps13
  go_wp2_with (first | (go_at_call 20; (with_reducible refine (head_any _ _ (by omega)).mono ?_); rintro e w' ⟨rfl, ey, rfl⟩) | (go_at_call 21; (with_reducible refine (tail_any _ _ (sum_lt _)).mono ?_); rintro e w' ⟨rfl, ey, rfl⟩) | (go_at_call 11; (with_reducible refine (sum_two (txt (big s.size 3)) s _ _ _ (hT.plus (by (repeat (first | exact Plus.refl _ | apply Plus.plus | apply Plus.alloc | apply Plus.drew)))) (by omega) (by omega) (by simp [go_sem]) (by simp [go_sem]) (by simp [go_sem])).mono ?_); rintro e w' ⟨rfl, ey, rfl⟩))
  exact bodyPost_ret (v := .tuple #[.string (txt []), .int .i64 1]) (by simp [results, Tryd.results13, go_sem]; rfl) rfl ⟨rfl, by (repeat (first | exact Plus.refl _ | apply Plus.plus | apply Plus.alloc | apply Plus.drew))⟩
theorem high3 (n : Nat) (w : World) (hn : n < 4294967296) :
    Calls Tryd.prog 22 #[.int .i64 n, .int .i64 3] w fun e w' => e = .returned (.string (txt (big n 3))) ∧ w.Plus w' := high_any 3 n w (by omega) hn
theorem high4 (n : Nat) (w : World) (hn : n < 4294967296) :
    Calls Tryd.prog 22 #[.int .i64 n, .int .i64 4] w fun e w' => e = .returned (.string (txt (big n 4))) ∧ w.Plus w' := high_any 4 n w (by omega) hn
theorem ref_frame_short (s : ByteArray) (w : World) (hs : s.size ≤ 65536) :
    Calls Tryd.prog 14 #[.string s] w fun e w' => e = .returned (.tuple #[.string (txt (framed (bytes s))), .int .i64 0]) ∧ w.Plus w' := by
  go_enter Tryd.func14, Tryd.ntmps14
  have hh : (txt (big s.size 3)).size = 3 := by rw [txt_size, big_length]
  have hf : framed (bytes s) = big s.size 3 ++ bytes s ++ big (sum (big s.size 3 ++ bytes s)) 4 := by rw [framed, headed, bytes_length]
  have ht : ∀ n, (txt (big n 4)).size = 4 := fun n => by rw [txt_size, big_length]
  have hhs : (txt (big s.size 3) ++ s).size = s.size + 3 := by rw [ByteArray.size_append, hh]; omega
  have key : txt (big s.size 3) ++ s ++ txt (big (sum (bytes (txt (big s.size 3) ++ s))) 4) = txt (framed (bytes s)) := by
    rw [hf, ← txt_append, ← txt_append]
    have : bytes (txt (big s.size 3) ++ s) = big s.size 3 ++ bytes s := by
      conv => lhs; rw [← txt_bytes s, txt_append]
      rfl
    rw [this]; rfl
  have hl := sum_lt (bytes (txt (big s.size 3) ++ s))
  go_wp2_with (first | (go_at_call 20; (with_reducible refine (head_any _ _ (by omega)).mono ?_); rintro e w' ⟨rfl, ey, rfl⟩) | (go_at_call 21; (with_reducible refine (tail_any _ _ (sum_lt _)).mono ?_); rintro e w' ⟨rfl, ey, rfl⟩) | (go_at_call 11; (with_reducible refine (sum_two (txt (big s.size 3)) s _ _ _ (hT.plus (by (repeat (first | exact Plus.refl _ | apply Plus.plus | apply Plus.alloc | apply Plus.drew)))) (by omega) (by omega) (by simp [go_sem]) (by simp [go_sem]) (by simp [go_sem])).mono ?_); rintro e w' ⟨rfl, ey, rfl⟩) | (go_at_call 22; (with_reducible refine (high3 _ _ (by omega)).mono ?_); rintro e w' ⟨rfl, ey, rfl⟩) | (go_at_call 22; (with_reducible refine (high4 _ _ (sum_lt _)).mono ?_); rintro e w' ⟨rfl, ey, rfl⟩) | (go_at_call 12; (with_reducible refine (refsum _ _ (by omega)).mono ?_); rintro e w' ⟨rfl, ey, rfl⟩))
  exact bodyPost_ret (v := .tuple #[.string (txt (framed (bytes s))), .int .i64 0]) (by simp [results, Tryd.results14, go_sem, key]; rw [hf, List.append_assoc]) rfl ⟨rfl, by (repeat (first | exact Plus.refl _ | apply Plus.plus | apply Plus.alloc | apply Plus.drew))⟩
theorem ref_frame_long (s : ByteArray) (w : World) (hm : s.size ≤ 140737488351232) (hs : 65536 < s.size) :
    Calls Tryd.prog 14 #[.string s] w fun e w' => e = .returned (.tuple #[.string (txt []), .int .i64 1]) ∧ w.Plus w' := by
  go_enter Tryd.func14, Tryd.ntmps14
  go_wp2_with (first | (go_at_call 20; (with_reducible refine (head_any _ _ (by omega)).mono ?_); rintro e w' ⟨rfl, ey, rfl⟩) | (go_at_call 21; (with_reducible refine (tail_any _ _ (sum_lt _)).mono ?_); rintro e w' ⟨rfl, ey, rfl⟩) | (go_at_call 11; (with_reducible refine (sum_two (txt (big s.size 3)) s _ _ _ (hT.plus (by (repeat (first | exact Plus.refl _ | apply Plus.plus | apply Plus.alloc | apply Plus.drew)))) (by omega) (by omega) (by simp [go_sem]) (by simp [go_sem]) (by simp [go_sem])).mono ?_); rintro e w' ⟨rfl, ey, rfl⟩) | (go_at_call 22; (with_reducible refine (high3 _ _ (by omega)).mono ?_); rintro e w' ⟨rfl, ey, rfl⟩) | (go_at_call 22; (with_reducible refine (high4 _ _ (sum_lt _)).mono ?_); rintro e w' ⟨rfl, ey, rfl⟩) | (go_at_call 12; (with_reducible refine (refsum _ _ (by omega)).mono ?_); rintro e w' ⟨rfl, ey, rfl⟩))
  exact bodyPost_ret (v := .tuple #[.string (txt []), .int .i64 1]) (by simp [results, Tryd.results14, go_sem]; rfl) rfl ⟨rfl, by (repeat (first | exact Plus.refl _ | apply Plus.plus | apply Plus.alloc | apply Plus.drew))⟩
end Go.Proofs.YtgckipebgcmhlaaDoor
