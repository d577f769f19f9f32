/- octet.lay, Int, Text: walks. -/
import Derived.Test.YtjfjecjigakdnaaOct
import Derived.Test.YtjfjecjigakdnaaLen
import Derived.Laws.IdiomStrings
import Derived.Lib.Zigzag
import Derived.Deep.RegionHeld3
import Derived.Deep.RegionLaw
import Derived.Deep.DeepCutAuto
set_option linter.unusedSimpArgs false
set_option linter.unusedVariables false
namespace Go.Proofs.Ytjfjecjigakdnaa.Octs
open Go.RowKit
theorem infoU8 : (Try.prog.info? 5).map (fun i => (i.zero, i.size, i.bytes)) = some (some (.int .u8 0), 1, 1) := by kernel_rfl
theorem underU8s : Try.prog.underlying 93 = some (.slice 5) := by kernel_rfl
theorem one_new {w : World} {g : Nat} {u : Value} (h : w.cell? ⟨g, 0, none⟩ = some u) : ∀ j v, [u][j]? = some v → w.cell? ((⟨g, 0, none⟩ : Addr).add j) = some v := by
  intro j v hj
  match j, hj with
  | 0, hj => simp at hj; subst hj; simpa [Addr.add] using h
theorem big_next (m k s : Nat) (h : k < s) : big (m / 256 ^ k) (s - k) = big (m / 256 ^ (k + 1)) (s - (k + 1)) ++ [UInt8.ofNat (m / 256 ^ k)] := by
  obtain ⟨d, hd⟩ : ∃ d, s - k = d + 1 := ⟨s - k - 1, by omega⟩
  rw [hd, show s - (k + 1) = d by omega]
  show big (m / 256 ^ k / 256) d ++ _ = _
  rw [Nat.div_div_eq_div_mul, ← Nat.pow_succ]
theorem pow_shift (k : Nat) : (2 : Int) ^ (8 * (k : Int)).toNat = ((256 ^ k : Nat) : Int) := by
  have : (8 * (k : Int)).toNat = 8 * k := by omega
  rw [this, Int.pow_mul]
  simp
theorem not_neg (m : Nat) (hm : m < 9223372036854775808) : bits .xor .i64 (-1) (-(m : Int) - 1) = (m : Int) := by
  show IntKind.i64.wrap ((BitVec.ofInt 64 (-1) ^^^ BitVec.ofInt 64 (-(m : Int) - 1)).toNat : Int) = _
  have h1 : (BitVec.ofInt 64 (-1)).toNat = 2 ^ 64 - 1 := by decide
  have h2 : (BitVec.ofInt 64 (-(m : Int) - 1)).toNat = 18446744073709551615 - m := by
    rw [BitVec.toNat_ofInt]
    simp only [show ((2 ^ 64 : Nat) : Int) = 18446744073709551616 from rfl]
    omega
  rw [BitVec.toNat_xor, h1, h2, Lib.xor_ones64 _ (by omega), IntKind.wrap_i64]
  omega
theorem not_pos (m : Nat) (hm : m < 9223372036854775808) : bits .xor .i64 (-1) (m : Int) = -(m : Int) - 1 := Lib.i64_not m hm
set_option maxHeartbeats 1000000 in
set_option maxRecDepth 100000 in
theorem lay_any (W0 w : World) (l : List UInt8) (v : Value) (n : Int) (hl : l.length ≤ 1000000000) (hp : W0.Plus w) (hown : w.ownsRow W0.heap.size 5 1 v l.length (l.map u8v)) (hn : -9223372036854775808 ≤ n ∧ n ≤ 9223372036854775807) :
    Calls Try.prog 82 #[v, .int .i64 n] w fun e w' => ∃ v', e = .returned v' ∧ w'.ownsRow W0.heap.size 5 1 v' (l ++ enc n).length ((l ++ enc n).map u8v) ∧ W0.Plus w' := by
  obtain ⟨i0, hi0, hz0, hz1, hz2⟩ := info_parts infoU8
  have hm : mag n < 9223372036854775808 := by unfold mag; split <;> omega
  have hL := bsz_len (mag n) (by omega)
  have hs8 := bsz_le (mag n)
  have henc : enc n = UInt8.ofNat (sgn n + bsz (mag n)) :: big (mag n) (bsz (mag n)) := rfl
  by_cases h0 : n < 0
  · have hsg : sgn n = 128 := if_pos h0
    have hmg : ((mag n : Nat) : Int) = -n - 1 := by unfold mag; rw [if_pos h0]; omega
    rw [hsg] at henc
    generalize enc n = E at *
    generalize mag n = m at *
    obtain rfl : n = -(m : Int) - 1 := by omega
    clear hmg h0 hn
    have hnot := not_neg m hm
    have hn0 : -(m : Int) - 1 < 0 := by omega
    obtain ⟨z, hz⟩ : ∃ z, z = bsz m := ⟨_, rfl⟩
    rw [← hz] at hL hs8 henc
    have hLi : ((Lib.bitLen m : Nat) + 7 : Int) / 8 = z := by omega
    have hLb : Lib.bitLen m ≤ 64 := by omega
    have hLen : ∀ (x : Int) (w : World), x = m → Calls Try.prog 96 #[.int .u64 x] w fun e w' => e = .returned (.int .i64 (Lib.bitLen m)) ∧ w' = w := fun x w hx => by
      subst hx
      exact bits_Len64 m w (by omega) (by omega)
    generalize Lib.bitLen m = Lb at *
    have hmod : (128 + (z : Int)) % 256 = 128 + (z : Int) := by omega
    have hu : IntKind.u64.wrap (m : Int) = m := by rw [IntKind.wrap_u64]; omega
    replace hLen := Lib.hid hLen
    replace henc := Lib.hid henc
    replace hsg := Lib.hid hsg
    replace hz := Lib.hid hz
    clear hL
    go_enter Try.func82, Try.ntmps82
    go_wp2_with (first | (go_at_call 96; (with_reducible refine (hLen.out _ _ (by omega)).mono ?_); rintro e w' ⟨rfl, rfl⟩) | (at_builtin; refine wpList_append_own _ rfl _ _ 93 rfl W0.heap.size 5 i0 (.int .u8 0) 1 1 underU8s hi0 hz0 hz1 hz2 rfl (by decide) _ _ _ rfl (hown.alloc _) _ 1 1 [.int .u8 (128 + (z : Int))] rfl rfl (one_new (by simp [go_sem])) (by intro u hu; simp at hu; subst hu; rfl) (by unfold maxLen; omega) (by omega) (by have := (Plus.below hp).size; simp [go_sem]; omega) ?_; intro v1 w1 hown1 hgrow1 _))
    have hp1 := World.grownBy.toPlus (Plus.alloc hp _) hgrow1 (fun g hg => (hown.lt g hg).1)
    have hown2 : w1.ownsRow W0.heap.size 5 1 v1 (l ++ [UInt8.ofNat (128 + z)]).length ((l ++ [UInt8.ofNat (128 + z)]).map u8v) := by
      simpa [u8v, hmod] using hown1
    clear hown1 hgrow1 hown
    go_loopw [0, 7] (fun v i wr => ∃ k : Nat, k ≤ z ∧ i = .int .i64 ((k : Int) - 1) ∧ wr.ownsRow W0.heap.size 5 1 v (l ++ UInt8.ofNat (128 + z) :: big (m / 256 ^ k) (z - k)).length ((l ++ UInt8.ofNat (128 + z) :: big (m / 256 ^ k) (z - k)).map u8v) ∧ W0.Plus wr) (fun _ i _ => (intOf i + 1).toNat)
    case atStart => exact ⟨z, Nat.le_refl _, by simp, by simpa [big] using hown2, hp1⟩
    case round =>
      obtain ⟨k, hk, rfl, hown, hp⟩ := hrel
      clear hown2 hp1
      cases k with
      | zero =>
        have hE : E = UInt8.ofNat (128 + z) :: big (m / 256 ^ 0) (z - 0) := by rw [henc.out]; simp
        replace hE := Lib.hid hE
        go_wp2_with fail
        go_ret
        exact ⟨_, rfl, by rw [hE.out]; exact hown, hp⟩
      | succ k =>
        have hnx := big_next m k z hk
        have hsh : (m : Int) / 2 ^ (8 * (k : Int)).toNat = ((m / 256 ^ k : Nat) : Int) := by rw [pow_shift]; simp
        have hle : m / 256 ^ k ≤ m := Nat.div_le_self _ _
        generalize hy : m / 256 ^ k = y at *
        replace hy := Lib.hid hy
        have hb : (((UInt8.ofNat y).toNat : Nat) : Int) = (y : Int) % 256 := u8_of y
        have hbl := big_length (z - (k + 1)) (m / 256 ^ (k + 1))
        generalize hB : big (m / 256 ^ (k + 1)) (z - (k + 1)) = B at *
        replace hB := Lib.hid hB
        replace hb := Lib.hid hb
        replace hnx := Lib.hid hnx
        have hk1 : (((k + 1 : Nat) : Int) - 1) = k := by omega
        have hwy : IntKind.u8.wrap (y : Int) = (y : Int) % 256 := by rw [IntKind.wrap_u8]
        go_wp2_with (first | (at_builtin; refine wpList_append_own _ rfl _ _ 93 rfl W0.heap.size 5 i0 (.int .u8 0) 1 1 underU8s hi0 hz0 hz1 hz2 rfl (by decide) _ _ _ rfl (hown.alloc _) _ 1 1 [.int .u8 ((y : Int) % 256)] rfl rfl (one_new (by simp [go_sem])) (by intro u hu; simp at hu; subst hu; rfl) (by unfold maxLen; simp; omega) (by simp; omega) (by have := (Plus.below hp).size; simp [go_sem]; omega) ?_; intro v1 w1 hown1 hgrow1 _))
        refine ⟨⟨k, by omega, by simp, by rw [hy.out, hnx.out]; simpa [u8v, hb.out, Nat.add_assoc] using hown1, World.grownBy.toPlus (Plus.alloc hp _) hgrow1 (fun g hg => (hown.lt g hg).1)⟩, ?_⟩
        first | (simp [intOf]; done) | (simp [intOf]; omega)
  · have hsg : sgn n = 0 := if_neg h0
    have hmg : ((mag n : Nat) : Int) = n := by unfold mag; rw [if_neg h0]; omega
    rw [hsg] at henc
    generalize enc n = E at *
    generalize mag n = m at *
    obtain rfl : n = (m : Int) := by omega
    clear hmg h0 hn
    obtain ⟨z, hz⟩ : ∃ z, z = bsz m := ⟨_, rfl⟩
    rw [← hz] at hL hs8 henc
    have hLi : ((Lib.bitLen m : Nat) + 7 : Int) / 8 = z := by omega
    have hLb : Lib.bitLen m ≤ 64 := by omega
    have hLen : ∀ (x : Int) (w : World), x = m → Calls Try.prog 96 #[.int .u64 x] w fun e w' => e = .returned (.int .i64 (Lib.bitLen m)) ∧ w' = w := fun x w hx => by
      subst hx
      exact bits_Len64 m w (by omega) (by omega)
    generalize Lib.bitLen m = Lb at *
    have hmod : (z : Int) % 256 = (z : Int) := by omega
    have hu : IntKind.u64.wrap (m : Int) = m := by rw [IntKind.wrap_u64]; omega
    replace hLen := Lib.hid hLen
    replace henc := Lib.hid henc
    replace hsg := Lib.hid hsg
    replace hz := Lib.hid hz
    clear hL
    go_enter Try.func82, Try.ntmps82
    go_wp2_with (first | (go_at_call 96; (with_reducible refine (hLen.out _ _ (by omega)).mono ?_); rintro e w' ⟨rfl, rfl⟩) | (at_builtin; refine wpList_append_own _ rfl _ _ 93 rfl W0.heap.size 5 i0 (.int .u8 0) 1 1 underU8s hi0 hz0 hz1 hz2 rfl (by decide) _ _ _ rfl (hown.alloc _) _ 1 1 [.int .u8 ((z : Int))] rfl rfl (one_new (by simp [go_sem])) (by intro u hu; simp at hu; subst hu; rfl) (by unfold maxLen; omega) (by omega) (by have := (Plus.below hp).size; simp [go_sem]; omega) ?_; intro v1 w1 hown1 hgrow1 _))
    have hp1 := World.grownBy.toPlus (Plus.alloc hp _) hgrow1 (fun g hg => (hown.lt g hg).1)
    have hown2 : w1.ownsRow W0.heap.size 5 1 v1 (l ++ [UInt8.ofNat (0 + z)]).length ((l ++ [UInt8.ofNat (0 + z)]).map u8v) := by
      simpa [u8v, hmod] using hown1
    clear hown1 hgrow1 hown
    go_loopw [0, 7] (fun v i wr => ∃ k : Nat, k ≤ z ∧ i = .int .i64 ((k : Int) - 1) ∧ wr.ownsRow W0.heap.size 5 1 v (l ++ UInt8.ofNat (0 + z) :: big (m / 256 ^ k) (z - k)).length ((l ++ UInt8.ofNat (0 + z) :: big (m / 256 ^ k) (z - k)).map u8v) ∧ W0.Plus wr) (fun _ i _ => (intOf i + 1).toNat)
    case atStart => exact ⟨z, Nat.le_refl _, by simp, by simpa [big] using hown2, hp1⟩
    case round =>
      obtain ⟨k, hk, rfl, hown, hp⟩ := hrel
      clear hown2 hp1
      cases k with
      | zero =>
        have hE : E = UInt8.ofNat (0 + z) :: big (m / 256 ^ 0) (z - 0) := by rw [henc.out]; simp
        replace hE := Lib.hid hE
        go_wp2_with fail
        go_ret
        exact ⟨_, rfl, by rw [hE.out]; exact hown, hp⟩
      | succ k =>
        have hnx := big_next m k z hk
        have hsh : (m : Int) / 2 ^ (8 * (k : Int)).toNat = ((m / 256 ^ k : Nat) : Int) := by rw [pow_shift]; simp
        have hle : m / 256 ^ k ≤ m := Nat.div_le_self _ _
        generalize hy : m / 256 ^ k = y at *
        replace hy := Lib.hid hy
        have hb : (((UInt8.ofNat y).toNat : Nat) : Int) = (y : Int) % 256 := u8_of y
        have hbl := big_length (z - (k + 1)) (m / 256 ^ (k + 1))
        generalize hB : big (m / 256 ^ (k + 1)) (z - (k + 1)) = B at *
        replace hB := Lib.hid hB
        replace hb := Lib.hid hb
        replace hnx := Lib.hid hnx
        have hk1 : (((k + 1 : Nat) : Int) - 1) = k := by omega
        have hwy : IntKind.u8.wrap (y : Int) = (y : Int) % 256 := by rw [IntKind.wrap_u8]
        go_wp2_with (first | (at_builtin; refine wpList_append_own _ rfl _ _ 93 rfl W0.heap.size 5 i0 (.int .u8 0) 1 1 underU8s hi0 hz0 hz1 hz2 rfl (by decide) _ _ _ rfl (hown.alloc _) _ 1 1 [.int .u8 ((y : Int) % 256)] rfl rfl (one_new (by simp [go_sem])) (by intro u hu; simp at hu; subst hu; rfl) (by unfold maxLen; simp; omega) (by simp; omega) (by have := (Plus.below hp).size; simp [go_sem]; omega) ?_; intro v1 w1 hown1 hgrow1 _))
        refine ⟨⟨k, by omega, by simp, by rw [hy.out, hnx.out]; simpa [u8v, hb.out, Nat.add_assoc] using hown1, World.grownBy.toPlus (Plus.alloc hp _) hgrow1 (fun g hg => (hown.lt g hg).1)⟩, ?_⟩
        first | (simp [intOf]; done) | (simp [intOf]; omega)
theorem conv_all (l : List UInt8) (w : World) (base : Nat) (v : Value) (hown : w.ownsRow base 5 1 v l.length (l.map u8v)) :
    (convert 93 9 v).run Try.prog w = .ok (.string (txt l)) w := by
  have hcells : ∀ g, v.ownBlock = some g → ∀ j u, (l.map u8v)[j]? = some u → w.cell? ((⟨g, 0, none⟩ : Addr).add j) = some u := fun g hg => hown.cells hg
  rcases hown with ⟨hl, ⟨rfl, h0⟩ | ⟨g, cap, cur, rfl, hb, hc, hr⟩⟩
  · have hl0 : l = [] := by simpa using h0
    subst hl0
    rw [run_convert_bytes_string (P := Try.prog) w 93 9 5 none 0 0 (by kernel_rfl) (by kernel_rfl) (by kernel_rfl)]
    first | rfl | (simp [go_sem]; done) | (simp [go_sem, loadCells]; rfl)
  · exact run_convert_bytes_back (P := Try.prog) w 93 9 5 ⟨g, 0, none⟩ cap l (by kernel_rfl) (by kernel_rfl) (by kernel_rfl)
      (fun j hj => hcells g rfl j _ (by simp [hj]))
end Go.Proofs.Ytjfjecjigakdnaa.Octs
