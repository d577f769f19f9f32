/- octet: one number's, one text's bytes, asked for in a call of its own; begins. -/
import Derived.Test.YtgcmoalilghfbaaOctAwake
import Derived.Test.YtgcmoalilghfbaaDec
set_option linter.unusedSimpArgs false
set_option linter.unusedVariables false
namespace Go.Proofs.Ytgcmoalilghfbaa
open Go.RowKit
theorem int_at (w : World) (b c : Nat) (a : Int) [hb : InW b w] (h0 : w.cell? ⟨b, 0, none⟩ = some (.int .i64 a)) (ha : In64 a) :
    Calls Try.prog 12 #[.slice (some ⟨b, 0, none⟩) 1 c] w fun e w' => e = .returned (.string (txt (enc a))) ∧ w.Plus w' := by
  have := int_any [a] (some ⟨b, 0, none⟩) c w (by simp) (by simpa using ha) (fun _ => ⟨b, 0, rfl, hb.lt, fun i j hi hj => by
    obtain rfl : j = 0 := by omega
    obtain rfl : i = 0 := by simpa using hi
    exact h0⟩)
  simpa [encs] using this
theorem text_at (w : World) (b c : Nat) (a : ByteArray) [hb : InW b w] (h0 : w.cell? ⟨b, 0, none⟩ = some (.string a)) (ha : a.size ≤ 200000) :
    Calls Try.prog 14 #[.slice (some ⟨b, 0, none⟩) 1 c] w fun e w' => e = .returned (.string (txt (encT a))) ∧ w.Plus w' := by
  have := text_any [a] (some ⟨b, 0, none⟩) c w (by simp) (by simpa using ha) (fun _ => ⟨b, 0, rfl, hb.lt, fun i j hi hj => by
    obtain rfl : j = 0 := by omega
    obtain rfl : i = 0 := by simpa using hi
    exact h0⟩)
  simpa [encTs] using this
theorem eq_bytes (s t : ByteArray) : (s.toList == t.toList) = decide (s = t) := by
  rw [Bool.eq_iff_iff, beq_iff_eq, decide_eq_true_iff, ByteArray.toList_eq, ByteArray.toList_eq]
  exact ⟨fun h => by rw [← txt_bytes s, ← txt_bytes t]; unfold bytes; rw [h], fun h => by rw [h]⟩
theorem begins_any (s t : ByteArray) (w : World) (hs : s.size ≤ 1000000000) (ht : t.size ≤ 1000000000) :
    Calls Try.prog 20 #[.string s, .string t] w fun e w' => e = .returned (.bool (beg s t)) ∧ w.Plus w' := by
  obtain ⟨n, hn⟩ : ∃ n, n = min s.size t.size := ⟨_, rfl⟩
  have hm : min (s.size : Int) (t.size : Int) = n := by omega
  have h1 : (n : Int) ≤ s.size := by omega
  have h2 : (n : Int) ≤ t.size := by omega
  have hB : beg s t = decide (s.extract 0 n = t.extract 0 n) := by rw [hn]; rfl
  rw [hB]
  clear hB
  replace hn := Lib.hid hn
  go_enter Try.func20, Try.ntmps20
  go_upto_region 2 with fail
  go_region
  go_wp2_with fail
  exact bodyPost_ret (v := .bool ((s.extract 0 n).toList == (t.extract 0 n).toList)) (by simp [results, Try.results20, go_sem]) rfl ⟨by rw [eq_bytes], by (repeat (first | exact Plus.refl _ | apply Plus.plus | apply Plus.alloc | apply Plus.drew))⟩
end Go.Proofs.Ytgcmoalilghfbaa
