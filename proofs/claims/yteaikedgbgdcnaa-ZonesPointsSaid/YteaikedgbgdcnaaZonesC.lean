/- zones: New. -/
import Derived.Test.YteaikedgbgdcnaaZonesB
set_option linter.unusedSimpArgs false
set_option linter.unusedVariables false
namespace Go.Proofs.Yteaikedgbgdcnaa
open Go.RowKit
/-- the numbers of a map that is -/
structure Okk (a b s r : Int) : Prop where
  a1 : 1 ≤ a
  a4 : a ≤ 4
  b1 : 1 ≤ b
  b4 : b ≤ 4
  s1 : 256 ≤ s
  s2 : s ≤ 1048576
  r0 : 0 ≤ r
  r1 : r ≤ s
theorem Okk.as {a b s r : Int} (h : Okk a b s r) : 256 ≤ a * s ∧ a * s ≤ 4194304 := by
  obtain ⟨a1, a4, _, _, s1, s2, _, _⟩ := h
  have : a = 1 ∨ a = 2 ∨ a = 3 ∨ a = 4 := by omega
  rcases this with rfl | rfl | rfl | rfl <;> omega
theorem Okk.bs {a b s r : Int} (h : Okk a b s r) : 256 ≤ b * s ∧ b * s ≤ 4194304 := by
  obtain ⟨_, _, b1, b4, s1, s2, _, _⟩ := h
  have : b = 1 ∨ b = 2 ∨ b = 3 ∨ b = 4 := by omega
  rcases this with rfl | rfl | rfl | rfl <;> omega
theorem Okk.ab {a b s r : Int} (h : Okk a b s r) : 1 ≤ a * b ∧ a * b ≤ 16 := by
  obtain ⟨a1, a4, b1, b4, _, _, _, _⟩ := h
  have : a = 1 ∨ a = 2 ∨ a = 3 ∨ a = 4 := by omega
  rcases this with rfl | rfl | rfl | rfl <;> omega
theorem Cfg.ok.okk {a b s r p i q : Int} (h : (Cfg.mk a b s r p i q).ok) : Okk a b s r := by
  simp only [Cfg.ok] at h
  exact ⟨by omega, by omega, by omega, by omega, by omega, by omega, by omega, by omega⟩
/-- a map that lies in a world -/
structure MapAt (w : World) (n : Nat) (a b s r : Int) : Prop where
  lt : n < w.heap.size
  c0 : w.cell? ⟨n, 0, none⟩ = some (.int .i64 a)
  c1 : w.cell? ⟨n, 1, none⟩ = some (.int .i64 b)
  c2 : w.cell? ⟨n, 2, none⟩ = some (.int .i64 s)
  c3 : w.cell? ⟨n, 3, none⟩ = some (.int .i64 r)
  c7 : w.cell? ⟨n, 7, none⟩ = some (.int .i64 0)
  c8 : w.cell? ⟨n, 8, none⟩ = some (.int .i64 0)
  c9 : w.cell? ⟨n, 9, none⟩ = some (.int .i64 (a * s))
  c10 : w.cell? ⟨n, 10, none⟩ = some (.int .i64 (b * s))
theorem MapAt.plus {w w' : World} {n : Nat} {a b s r : Int} (h : MapAt w n a b s r) (hp : w.Plus w') : MapAt w' n a b s r := by
  obtain ⟨e, rfl⟩ := hp
  have k := fun i => w.plus_cell e (p := ⟨n, i, none⟩) h.lt
  exact ⟨by rw [World.size_plus_eq]; have := h.lt; omega, (k _).trans h.c0, (k _).trans h.c1, (k _).trans h.c2, (k _).trans h.c3, (k _).trans h.c7, (k _).trans h.c8, (k _).trans h.c9, (k _).trans h.c10⟩
abbrev mapV (n : Nat) : Value := .pointer (some ⟨n, 0, none⟩)
theorem w64_id {n : Int} (h1 : -9223372036854775808 ≤ n) (h2 : n ≤ 9223372036854775807) : wrap64 n = n := by
  simp only [wrap64]; omega
theorem iw_id {n : Int} (h1 : -9223372036854775808 ≤ n) (h2 : n ≤ 9223372036854775807) : IntKind.i64.wrap n = n := by
  unfold IntKind.wrap
  simp only [IntKind.bits, IntKind.signed, Bool.true_and, decide_eq_true_eq, show (2 : Int) ^ (64 - 1) = 9223372036854775808 from rfl, show (2 : Int) ^ 64 = 18446744073709551616 from rfl]
  split <;> omega
theorem new_ok (a b s r p i q : Int) (w : World) (hok : (Cfg.mk a b s r p i q).ok) :
    Calls Try.prog 11 #[(Cfg.mk a b s r p i q).v] w fun e w' => ∃ k, e = .returned (.tuple #[mapV k, .int .i64 0]) ∧ MapAt w' k a b s r ∧ w.Plus w' := by
  have hC : ∀ w, Calls Try.prog 13 #[(Cfg.mk a b s r p i q).v] w fun e w' => e = .returned (.int .i64 0) ∧ w.Plus w' := fun w =>
    (check_any a b s r p i q w).mono fun e w' ⟨⟨n, he, h⟩, hp⟩ => by
      rcases h with ⟨rfl, _⟩ | ⟨_, h⟩
      · exact ⟨he, hp⟩
      · exact absurd hok h
  have h1 := hok.okk.as
  have h2 := hok.okk.bs
  have g1 : wrap64 (a * s) = a * s := w64_id (by omega) (by omega)
  have g2 : wrap64 (b * s) = b * s := w64_id (by omega) (by omega)
  clear hok
  unfold Cfg.v at *
  go_enter Try.func11, Try.ntmps11
  go_wp2_with (first | (go_at_call 13; (with_reducible refine (hC _).mono ?_); rintro e w' ⟨rfl, ey, rfl⟩))
  refine bodyPost_ret (v := .tuple #[mapV (w.heap.size + 1 + ey.objs.size), .int .i64 0]) (by simp [results, Try.results11, go_sem]) rfl ⟨_, rfl, ⟨?_, ?_, ?_, ?_, ?_, ?_, ?_, ?_, ?_⟩, by (repeat (first | exact Plus.refl _ | apply Plus.plus | apply Plus.alloc | apply Plus.drew))⟩
  · simp only [World.size_alloc, World.size_plus]; omega
  all_goals rw [World.cell?_alloc_new']; rfl
theorem new_bad (a b s r p i q : Int) (w : World) (hok : ¬ (Cfg.mk a b s r p i q).ok) :
    Calls Try.prog 11 #[(Cfg.mk a b s r p i q).v] w fun e w' => e = .returned (.tuple #[.pointer none, .int .i64 1]) ∧ w.Plus w' := by
  have hC : ∀ w, Calls Try.prog 13 #[(Cfg.mk a b s r p i q).v] w fun e w' => e = .returned (.int .i64 1) ∧ w.Plus w' := fun w =>
    (check_any a b s r p i q w).mono fun e w' ⟨⟨n, he, h⟩, hp⟩ => by
      rcases h with ⟨_, h⟩ | ⟨rfl, _⟩
      · exact absurd h hok
      · exact ⟨he, hp⟩
  clear hok
  unfold Cfg.v at *
  go_enter Try.func11, Try.ntmps11
  go_wp2_with (first | (go_at_call 13; (with_reducible refine (hC _).mono ?_); rintro e w' ⟨rfl, ey, rfl⟩))
  exact bodyPost_ret (v := .tuple #[.pointer none, .int .i64 1]) (by simp [results, Try.results11, go_sem]) rfl ⟨rfl, by (repeat (first | exact Plus.refl _ | apply Plus.plus | apply Plus.alloc | apply Plus.drew))⟩
section
variable (a b s r : Int) (n : Nat) (w : World)
theorem count_any (ho : Okk a b s r) (hm : MapAt w n a b s r) :
    Calls Try.prog 27 #[mapV n] w fun e w' => e = .returned (.int .i64 (a * b)) ∧ w.Plus w' := by
  have h1 := ho.ab
  have g1 : wrap64 (a * b) = a * b := w64_id (by omega) (by omega)
  obtain ⟨lt, c0, c1, c2, c3, c7, c8, c9, c10⟩ := hm
  haveI : InW n w := ⟨lt⟩
  go_enter Try.func27, Try.ntmps27
  go_wp2
  go_region
  go_wp2
  go_ret
  exact ⟨rfl, by (repeat (first | exact Plus.refl _ | apply Plus.plus | apply Plus.alloc | apply Plus.drew))⟩
theorem count_nil : Calls Try.prog 27 #[.pointer none] w fun e w' => e = .returned (.int .i64 0) ∧ w.Plus w' := by
  go_enter Try.func27, Try.ntmps27
  go_wp2
  go_ret
  exact ⟨rfl, by (repeat (first | exact Plus.refl _ | apply Plus.plus | apply Plus.alloc | apply Plus.drew))⟩
theorem world_any (ho : Okk a b s r) (hm : MapAt w n a b s r) :
    Calls Try.prog 30 #[mapV n] w fun e w' => e = .returned (rectV 0 0 (a * s) (b * s)) ∧ w.Plus w' := by
  obtain ⟨lt, c0, c1, c2, c3, c7, c8, c9, c10⟩ := hm
  haveI : InW n w := ⟨lt⟩
  go_enter Try.func30, Try.ntmps30
  go_wp2
  refine bodyPost_ret (v := rectV 0 0 (a * s) (b * s)) (by simp [results, Try.results30, go_sem]) rfl ⟨rfl, by (repeat (first | exact Plus.refl _ | apply Plus.plus | apply Plus.alloc | apply Plus.drew))⟩
theorem world_nil : Calls Try.prog 30 #[.pointer none] w fun e w' => e = .returned (rectV 0 0 0 0) ∧ w.Plus w' := by
  go_enter Try.func30, Try.ntmps30
  go_wp2
  refine bodyPost_ret (v := rectV 0 0 0 0) (by simp [results, Try.results30, go_sem]) rfl ⟨rfl, by (repeat (first | exact Plus.refl _ | apply Plus.plus | apply Plus.alloc | apply Plus.drew))⟩
end
/-- the rectangle of zone k -/
def zoneI (a b s k : Int) : R4 := if 0 ≤ k ∧ k < a * b then ⟨k % a * s, k / a * s, k % a * s + s, k / a * s + s⟩ else ⟨0, 0, 0, 0⟩
theorem mul4 {m s : Int} (h0 : 0 ≤ m) (h1 : m ≤ 3) (h2 : 256 ≤ s) (h3 : s ≤ 1048576) : 0 ≤ m * s ∧ m * s ≤ 3145728 := by
  have : m = 0 ∨ m = 1 ∨ m = 2 ∨ m = 3 := by omega
  rcases this with rfl | rfl | rfl | rfl <;> omega
theorem divs {a b k : Int} (a1 : 1 ≤ a) (a4 : a ≤ 4) (b1 : 1 ≤ b) (b4 : b ≤ 4) (h0 : 0 ≤ k) (h1 : k < a * b) : 0 ≤ k % a ∧ k % a < a ∧ 0 ≤ k / a ∧ k / a < b := by
  have : a = 1 ∨ a = 2 ∨ a = 3 ∨ a = 4 := by omega
  rcases this with rfl | rfl | rfl | rfl <;> omega
section
variable (a b s r : Int) (n : Nat) (w : World)
theorem zone_any (k : Int) (ho : Okk a b s r) (hm : MapAt w n a b s r) :
    Calls Try.prog 29 #[mapV n, .int .i64 k] w fun e w' => e = .returned (zoneI a b s k).v ∧ w.Plus w' := by
  have hC := fun w hm => count_any a b s r n w ho hm
  have hab := ho.ab
  by_cases h0 : 0 ≤ k
  · by_cases h1 : k < a * b
    · have hz : zoneI a b s k = ⟨k % a * s, k / a * s, k % a * s + s, k / a * s + s⟩ := if_pos ⟨h0, h1⟩
      rw [hz]
      have hd := divs ho.a1 ho.a4 ho.b1 ho.b4 h0 h1
      have e1 : k.tmod a = k % a := Int.tmod_eq_emod_of_nonneg h0
      have e2 : k.tdiv a = k / a := Int.tdiv_eq_ediv_of_nonneg h0
      have m1 := mul4 hd.1 (by have := ho.a4; omega) ho.s1 ho.s2
      have m2 := mul4 hd.2.2.1 (by have := ho.b4; omega) ho.s1 ho.s2
      have hs := ho.s1
      have hs2 := ho.s2
      have ha : ¬ a = 0 := by have := ho.a1; omega
      have ha1 := ho.a1
      have ha4 := ho.a4
      have hb4 := ho.b4
      clear hz ho
      generalize k % a = u at *
      generalize k / a = v at *
      have g1 : wrap64 (u * s) = u * s := w64_id (by omega) (by omega)
      have g2 : wrap64 (v * s) = v * s := w64_id (by omega) (by omega)
      have g3 : wrap64 v = v := w64_id (by omega) (by omega)
      generalize a * b = m at *
      have hm2 := hm
      obtain ⟨lt, c0, c1, c2, c3, c7, c8, c9, c10⟩ := hm
      haveI : InW n w := ⟨lt⟩
      replace hm2 := Lib.hid hm2
      go_enter Try.func29, Try.ntmps29
      go_wp2_with (first | (go_at_call 27; (with_reducible refine (hC _ (hm2.out.plus (by (repeat (first | exact Plus.refl _ | apply Plus.plus | apply Plus.alloc | apply Plus.drew))))).mono ?_); rintro e w' ⟨rfl, ey, rfl⟩))
      go_region
      go_wp2
      refine wp_region_grow_tail 17 (by kernel_rfl) (by kernel_rfl) ?_
      simp only [List.take_succ_cons, List.take_zero, List.drop_succ_cons, List.drop_zero]
      repeat (go_big_quiet_step (fail))
      refine wpQuiet_nil ?_
      intro ex
      go_wp2
      refine bodyPost_ret (v := rectV (u * s) (v * s) (u * s + s) (v * s + s)) (by simp [results, Try.results29, go_sem]) rfl ⟨rfl, by (repeat (first | exact Plus.refl _ | apply Plus.plus | apply Plus.alloc | apply Plus.drew))⟩
    · have hz : zoneI a b s k = ⟨0, 0, 0, 0⟩ := if_neg (fun h => h1 h.2)
      rw [hz]
      replace hm := Lib.hid hm
      clear hz ho
      generalize a * b = m at *
      go_enter Try.func29, Try.ntmps29
      go_wp2_with (first | (go_at_call 27; (with_reducible refine (hC _ (hm.out.plus (by (repeat (first | exact Plus.refl _ | apply Plus.plus | apply Plus.alloc | apply Plus.drew))))).mono ?_); rintro e w' ⟨rfl, ey, rfl⟩))
      refine bodyPost_ret (v := rectV 0 0 0 0) (by simp [results, Try.results29, go_sem]) rfl ⟨rfl, by (repeat (first | exact Plus.refl _ | apply Plus.plus | apply Plus.alloc | apply Plus.drew))⟩
  · have hz : zoneI a b s k = ⟨0, 0, 0, 0⟩ := if_neg (fun h => h0 h.1)
    rw [hz]
    clear hz ho hC
    go_enter Try.func29, Try.ntmps29
    go_wp2
    refine bodyPost_ret (v := rectV 0 0 0 0) (by simp [results, Try.results29, go_sem]) rfl ⟨rfl, by (repeat (first | exact Plus.refl _ | apply Plus.plus | apply Plus.alloc | apply Plus.drew))⟩
theorem zone_nil (k : Int) : Calls Try.prog 29 #[.pointer none, .int .i64 k] w fun e w' => e = .returned (rectV 0 0 0 0) ∧ w.Plus w' := by
  by_cases h0 : 0 ≤ k
  all_goals
    go_enter Try.func29, Try.ntmps29
    go_wp2_with (first | (go_at_call 27; (with_reducible refine (count_nil _).mono ?_); rintro e w' ⟨rfl, ey, rfl⟩))
    refine bodyPost_ret (v := rectV 0 0 0 0) (by simp [results, Try.results29, go_sem]) rfl ⟨rfl, by (repeat (first | exact Plus.refl _ | apply Plus.plus | apply Plus.alloc | apply Plus.drew))⟩
def inI (x m : Int) : Int := max 0 (min x (m - 1))
theorem in_any (x y : Int) (ho : Okk a b s r) (hm : MapAt w n a b s r) :
    Calls Try.prog 16 #[mapV n, .int .i64 x, .int .i64 y] w fun e w' => e = .returned (.tuple #[.int .i64 (inI x (a * s)), .int .i64 (inI y (b * s))]) ∧ w.Plus w' := by
  have h1 := ho.as
  have h2 := ho.bs
  obtain ⟨lt, c0, c1, c2, c3, c7, c8, c9, c10⟩ := hm
  haveI : InW n w := ⟨lt⟩
  generalize a * s = A at *
  generalize b * s = B at *
  clear ho
  go_enter Try.func16, Try.ntmps16
  go_wp2
  refine wp_region_grow (by kernel_rfl) (by kernel_rfl) ?_
  repeat (go_big_quiet_step (fail))
  refine wpQuiet_nil ?_
  intro ex
  go_wp2
  refine bodyPost_ret (v := .tuple #[.int .i64 (inI x A), .int .i64 (inI y B)]) (by simp [results, Try.results16, go_sem, inI]) rfl ⟨rfl, by (repeat (first | exact Plus.refl _ | apply Plus.plus | apply Plus.alloc | apply Plus.drew))⟩
theorem in_nil (x y : Int) : Calls Try.prog 16 #[.pointer none, .int .i64 x, .int .i64 y] w fun e w' => e = .returned (.tuple #[.int .i64 0, .int .i64 0]) ∧ w.Plus w' := by
  go_enter Try.func16, Try.ntmps16
  go_wp2
  refine bodyPost_ret (v := .tuple #[.int .i64 0, .int .i64 0]) (by simp [results, Try.results16, go_sem]) rfl ⟨rfl, by (repeat (first | exact Plus.refl _ | apply Plus.plus | apply Plus.alloc | apply Plus.drew))⟩
theorem into_any (x m : Int) (h0 : 1 ≤ m) (h1 : m ≤ 9000000) : Calls Try.prog 34 #[.int .i64 x, .int .i64 m] w fun e w' => e = .returned (.int .i64 (inI x m)) ∧ w.Plus w' := by
  go_enter Try.func34, Try.ntmps34
  go_wp2
  all_goals go_ret
  all_goals exact ⟨ret_int (by unfold inI; omega), by (repeat (first | exact Plus.refl _ | apply Plus.plus | apply Plus.alloc | apply Plus.drew))⟩
theorem refIn_any (x y p i q : Int) (ho : Okk a b s r) :
    Calls Try.prog 17 #[(Cfg.mk a b s r p i q).v, .int .i64 x, .int .i64 y] w fun e w' => e = .returned (.tuple #[.int .i64 (inI x (a * s)), .int .i64 (inI y (b * s))]) ∧ w.Plus w' := by
  have h1 := ho.as
  have h2 := ho.bs
  clear ho
  obtain ⟨A, hA⟩ : ∃ A, a * s = A := ⟨_, rfl⟩
  obtain ⟨B, hB⟩ : ∃ B, b * s = B := ⟨_, rfl⟩
  rw [hA] at h1 ⊢
  rw [hB] at h2 ⊢
  have g1 : IntKind.i64.wrap (a * s) = A := by rw [hA]; exact iw_id (by omega) (by omega)
  have g2 : IntKind.i64.wrap (b * s) = B := by rw [hB]; exact iw_id (by omega) (by omega)
  clear hA hB
  unfold Cfg.v
  go_enter Try.func17, Try.ntmps17
  go_wp2_with fail
  refine wp_region_grow (by kernel_rfl) (by kernel_rfl) ?_
  repeat (go_big_quiet_step ((first | (go_at_call 34; exact Calls.plus_of (into_any _ _ _ (by omega) (by omega))))))
  refine wpQuiet_nil ?_
  intro ex
  go_wp2_with fail
  refine bodyPost_ret (v := .tuple #[.int .i64 (inI x A), .int .i64 (inI y B)]) (by simp [results, Try.results17, go_sem]) rfl ⟨rfl, by (repeat (first | exact Plus.refl _ | apply Plus.plus | apply Plus.alloc | apply Plus.drew))⟩
theorem mod_any (k m : Int) (h0 : 1 ≤ m) (h1 : m ≤ 9000000) : Calls Try.prog 25 #[.int .i64 k, .int .i64 m] w fun e w' => e = .returned (.int .i64 (k % m)) ∧ w.Plus w' := by
  have e1 := Int.lt_tmod_of_pos k (show (0 : Int) < m by omega)
  have e2 := Int.tmod_lt_of_pos k (show (0 : Int) < m by omega)
  have e3 : (k.tmod m + m).tmod m = k % m := by
    rw [Int.tmod_eq_emod_of_nonneg (by omega), Int.add_emod_right, Int.tmod_def, Int.sub_mul_emod_self_left]
  have e4 : ¬ m = 0 := by omega
  have e5 := Int.emod_nonneg k e4
  have e6 := Int.emod_lt_of_pos k (show (0 : Int) < m by omega)
  generalize hk : k % m = u at *
  have hk2 := Lib.hid hk
  clear hk
  generalize ht : k.tmod m = t at *
  go_enter Try.func25, Try.ntmps25
  go_wp2
  go_ret
  exact ⟨rfl, by (repeat (first | exact Plus.refl _ | apply Plus.plus | apply Plus.alloc | apply Plus.drew))⟩
end
end Go.Proofs.Yteaikedgbgdcnaa
