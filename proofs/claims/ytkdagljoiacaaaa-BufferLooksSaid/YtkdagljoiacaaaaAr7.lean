/- arch: what reads a store: walk. -/
import Derived.Test.YtkdagljoiacaaaaAr6
set_option linter.unusedSimpArgs false
set_option linter.unusedVariables false
namespace Go.Proofs.Ytkdagljoiacaaaa
open Go.RowKit
theorem store_open {W wx : World} {S : Nat} {T : Tabs} {l : List Asn} (h : Own W wx (storeA S T :: l)) : ∃ M c, Tab T c ∧ Own W wx (storeL S M c (total T) (findT T) l) := by
  obtain ⟨⟨M, c⟩, O⟩ := h.ex
  exact ⟨M, c, Own.fact 3 O rfl, (O.pull 3 rfl).drop⟩
set_option maxRecDepth 100000 in
set_option maxHeartbeats 4000000 in
theorem has_store {W wx : World} {S : Nat} {T : Tabs} {l : List Asn} (h : Own W wx (storeA S T :: l)) (a : IdR) (ha : IdW a) :
    Calls Try.prog 46 #[chP S, a.v] wx fun e w' => e = .returned (.bool (findT T a).isSome) ∧ wx.Plus w' := by
  obtain ⟨M, c, hTab, O⟩ := store_open h
  obtain ⟨is, ii, ig⟩ := a
  have O1 : Own W (wx.alloc (.cells #[nI is, nI ii, nI ig] 38)) (storeL S M c (total T) (findT T) (cellsA wx.heap.size [nI is, nI ii, nI ig] :: l)) := (Own.newCells O [nI is, nI ii, nI ig] 38).perm (List.perm_middle (l₁ := [_, _, _])).symm
  have hP := Lib.hid (Plus.alloc (Plus.refl wx) (.cells #[nI is, nI ii, nI ig] 38))
  generalize hX : wx.heap.size = X at *
  generalize hwy : wx.alloc (.cells #[nI is, nI ii, nI ig] 38) = wy at *
  clear O h hTab
  obtain ⟨lS, sM, sc, sf, _⟩ := store_at O1
  obtain ⟨lX, qX, fX⟩ := O1.cells 3 rfl
  have q0 := qX 0 (by simp)
  have q1 := qX 1 (by simp)
  have q2 := qX 2 (by simp)
  simp only [List.getElem?_cons_succ, List.getElem?_cons_zero] at q0 q1 q2
  haveI : InW X wy := ⟨lX⟩
  obtain ⟨x, y, hxy⟩ : ∃ x y : Int, (findT T ⟨is, ii, ig⟩).elim (.agg #[nI 0, nI 0]) plV = .agg #[nI x, nI y] := by
    cases findT T ⟨is, ii, ig⟩ with
    | none => exact ⟨0, 0, rfl⟩
    | some p => exact ⟨p.1, p.2, rfl⟩
  have l1 := look_at O1.drew ⟨is, ii, ig⟩ ha true
  have l2 := look_at ((O1.alloc (.cells #[nI 0, nI 0] 77)).drew) ⟨is, ii, ig⟩ ha true
  rw [hxy, if_pos rfl] at l1 l2
  generalize (findT T ⟨is, ii, ig⟩).isSome = r at *
  clear qX fX sc sf lX hxy
  replace O1 := Lib.hid O1
  go_enter Try.func46, Try.ntmps46
  go_upto_region 1 with fail
  go_cut [6] (fun v wz => v = .bool r ∧ wx.Plus wz)
  case first =>
    go_region
    all_goals
      go_wp2_with fail
      go_meet
      exact ⟨rfl, by (repeat (first | exact hP.out | apply Plus.plus | apply Plus.alloc | apply Plus.drew))⟩
  clear l1 l2 q0 q1 q2 sM lS O1 hwy hX hP
  obtain ⟨rfl, hP⟩ := hcut
  replace hP := Lib.hid hP
  go_wp2_with fail
  go_ret
  exact ⟨rfl, by (repeat (first | exact hP.out | apply Plus.plus | apply Plus.alloc | apply Plus.drew))⟩
set_option maxRecDepth 100000 in
set_option maxHeartbeats 4000000 in
theorem len_store {W wx : World} {S : Nat} {T : Tabs} {l : List Asn} (h : Own W wx (storeA S T :: l)) :
    Calls Try.prog 18 #[chP S] wx fun e w' => e = .returned (nI (total T)) ∧ wx.Plus w' := by
  obtain ⟨M, c, hTab, O⟩ := store_open h
  obtain ⟨lS, sM, sc, sf, hM⟩ := store_at O
  have hl := MapAt.len mapTy hM 3
  clear sc sf hTab h hM
  replace O := Lib.hid O
  go_enter Try.func18, Try.ntmps18
  go_wp2_with fail
  go_ret
  exact ⟨rfl, by (repeat (first | exact Plus.refl _ | apply Plus.plus | apply Plus.alloc | apply Plus.drew))⟩
set_option maxRecDepth 100000 in
set_option maxHeartbeats 8000000 in
theorem at_store {W wx : World} {S : Nat} {T : Tabs} {l : List Asn} (h : Own W wx (storeA S T :: l)) (hg : GoodT T) (m i : Nat) (b : BdR) (hm : m < 32) (hb : (T m)[i]? = some b) (ht : total T ≤ 100000) :
    Calls Try.prog 29 #[chP S, plV (m, i)] wx fun e w' => e = .returned b.v ∧ wx.Plus w' := by
  obtain ⟨M, c, hTab, O⟩ := store_open h
  have hlen : (T m).length ≤ 100000 := Nat.le_trans (len_total T _ hm) ht
  have hil := (List.getElem?_eq_some_iff.1 hb).1
  have hbm := (hg.ok m hm b (List.mem_of_getElem? hb)).2
  have O1 : Own W (wx.alloc (.cells #[nI m, nI i] 77)) (storeL S M c (total T) (findT T) (cellsA wx.heap.size [nI m, nI i] :: l)) := (Own.newCells O [nI m, nI i] 77).perm (List.perm_middle (l₁ := [_, _, _])).symm
  have hP := Lib.hid (Plus.alloc (Plus.refl wx) (.cells #[nI m, nI i] 77))
  have hIX : InW wx.heap.size (wx.alloc (.cells #[nI m, nI i] 77)) := inferInstance
  have hsX : SizeN (wx.alloc (.cells #[nI m, nI i] 77)) (wx.heap.size + 1) := inferInstance
  have hm32i : (m : Int) < 32 := by omega
  have hili : (i : Int) < (T m).length := by omega
  have h8 : ∀ k, k < 8 → (c (m * 8 + k)).n = (T m).length ∧ (c (m * 8 + k)).cs = colCs k (T m) := fun k hk => by
    have := hTab (m * 8 + k) (by omega)
    rw [show (m * 8 + k) / 8 = m by omega, show (m * 8 + k) % 8 = k by omega] at this
    exact this
  generalize hX : wx.heap.size = X at *
  generalize hwy : wx.alloc (.cells #[nI m, nI i] 77) = wy at *
  clear O h
  obtain ⟨lS, sM, sc, sf, _⟩ := store_at O1
  obtain ⟨lX, qX, fX⟩ := O1.cells 3 rfl
  have q0 := qX 0 (by simp)
  have q1 := qX 1 (by simp)
  simp only [List.getElem?_cons_succ, List.getElem?_cons_zero] at q0 q1
  haveI : InW X wy := ⟨lX⟩
  obtain ⟨g0, o0, cap0, had0, _, hg0, hc0, _⟩ := col_at O1 (m * 8 + 0) (by omega) (by rw [(h8 0 (by omega)).1]; omega)
  have s0 := sc (m * 8 + 0) (by omega)
  rw [show (c (m * 8 + 0)).v = .slice (some ⟨g0, o0, none⟩) (T m).length cap0 by unfold Col.v; rw [had0, (h8 0 (by omega)).1]] at s0
  rw [(h8 0 (by omega)).1, (h8 0 (by omega)).2, show szc (m * 8 + 0) = 3 by unfold szc; rw [if_pos (by omega)]] at hc0
  haveI := hg0
  obtain ⟨g1, o1, cap1, had1, _, hg1, hc1, _⟩ := col_at O1 (m * 8 + 1) (by omega) (by rw [(h8 1 (by omega)).1]; omega)
  have s1 := sc (m * 8 + 1) (by omega)
  rw [show (c (m * 8 + 1)).v = .slice (some ⟨g1, o1, none⟩) (T m).length cap1 by unfold Col.v; rw [had1, (h8 1 (by omega)).1]] at s1
  rw [(h8 1 (by omega)).1, (h8 1 (by omega)).2, show szc (m * 8 + 1) = 1 by unfold szc; rw [if_neg (by omega)]] at hc1
  haveI := hg1
  obtain ⟨g2, o2, cap2, had2, _, hg2, hc2, _⟩ := col_at O1 (m * 8 + 2) (by omega) (by rw [(h8 2 (by omega)).1]; omega)
  have s2 := sc (m * 8 + 2) (by omega)
  rw [show (c (m * 8 + 2)).v = .slice (some ⟨g2, o2, none⟩) (T m).length cap2 by unfold Col.v; rw [had2, (h8 2 (by omega)).1]] at s2
  rw [(h8 2 (by omega)).1, (h8 2 (by omega)).2, show szc (m * 8 + 2) = 1 by unfold szc; rw [if_neg (by omega)]] at hc2
  haveI := hg2
  obtain ⟨g3, o3, cap3, had3, _, hg3, hc3, _⟩ := col_at O1 (m * 8 + 3) (by omega) (by rw [(h8 3 (by omega)).1]; omega)
  have s3 := sc (m * 8 + 3) (by omega)
  rw [show (c (m * 8 + 3)).v = .slice (some ⟨g3, o3, none⟩) (T m).length cap3 by unfold Col.v; rw [had3, (h8 3 (by omega)).1]] at s3
  rw [(h8 3 (by omega)).1, (h8 3 (by omega)).2, show szc (m * 8 + 3) = 1 by unfold szc; rw [if_neg (by omega)]] at hc3
  haveI := hg3
  obtain ⟨g4, o4, cap4, had4, _, hg4, hc4, _⟩ := col_at O1 (m * 8 + 4) (by omega) (by rw [(h8 4 (by omega)).1]; omega)
  have s4 := sc (m * 8 + 4) (by omega)
  rw [show (c (m * 8 + 4)).v = .slice (some ⟨g4, o4, none⟩) (T m).length cap4 by unfold Col.v; rw [had4, (h8 4 (by omega)).1]] at s4
  rw [(h8 4 (by omega)).1, (h8 4 (by omega)).2, show szc (m * 8 + 4) = 1 by unfold szc; rw [if_neg (by omega)]] at hc4
  haveI := hg4
  obtain ⟨g5, o5, cap5, had5, _, hg5, hc5, _⟩ := col_at O1 (m * 8 + 5) (by omega) (by rw [(h8 5 (by omega)).1]; omega)
  have s5 := sc (m * 8 + 5) (by omega)
  rw [show (c (m * 8 + 5)).v = .slice (some ⟨g5, o5, none⟩) (T m).length cap5 by unfold Col.v; rw [had5, (h8 5 (by omega)).1]] at s5
  rw [(h8 5 (by omega)).1, (h8 5 (by omega)).2, show szc (m * 8 + 5) = 1 by unfold szc; rw [if_neg (by omega)]] at hc5
  haveI := hg5
  obtain ⟨g6, o6, cap6, had6, _, hg6, hc6, _⟩ := col_at O1 (m * 8 + 6) (by omega) (by rw [(h8 6 (by omega)).1]; omega)
  have s6 := sc (m * 8 + 6) (by omega)
  rw [show (c (m * 8 + 6)).v = .slice (some ⟨g6, o6, none⟩) (T m).length cap6 by unfold Col.v; rw [had6, (h8 6 (by omega)).1]] at s6
  rw [(h8 6 (by omega)).1, (h8 6 (by omega)).2, show szc (m * 8 + 6) = 1 by unfold szc; rw [if_neg (by omega)]] at hc6
  haveI := hg6
  obtain ⟨g7, o7, cap7, had7, _, hg7, hc7, _⟩ := col_at O1 (m * 8 + 7) (by omega) (by rw [(h8 7 (by omega)).1]; omega)
  have s7 := sc (m * 8 + 7) (by omega)
  rw [show (c (m * 8 + 7)).v = .slice (some ⟨g7, o7, none⟩) (T m).length cap7 by unfold Col.v; rw [had7, (h8 7 (by omega)).1]] at s7
  rw [(h8 7 (by omega)).1, (h8 7 (by omega)).2, show szc (m * 8 + 7) = 1 by unfold szc; rw [if_neg (by omega)]] at hc7
  haveI := hg7
  obtain ⟨d0, d1, d2⟩ := colCs_get0 (T m) i b hb
  have y0 := (hc0 (i * 3) (by omega)).trans d0
  have y1 : wy.cell? ⟨g0, o0 + i * 3 + 1, none⟩ = _ := (hc0 (i * 3 + 1) (by omega)).trans d1
  have y2 : wy.cell? ⟨g0, o0 + i * 3 + 2, none⟩ = _ := (hc0 (i * 3 + 2) (by omega)).trans d2
  simp only [Nat.mul_one] at hc1 hc2 hc3 hc4 hc5 hc6 hc7
  have x1 : wy.cell? ⟨g1, o1 + i, none⟩ = some (nI b.x) := (hc1 i (by omega)).trans (by rw [colCs_get1 1 (by omega), hb]; rfl)
  have x2 : wy.cell? ⟨g2, o2 + i, none⟩ = some (nI b.y) := (hc2 i (by omega)).trans (by rw [colCs_get1 2 (by omega), hb]; rfl)
  have x3 : wy.cell? ⟨g3, o3 + i, none⟩ = some (nI b.vx) := (hc3 i (by omega)).trans (by rw [colCs_get1 3 (by omega), hb]; rfl)
  have x4 : wy.cell? ⟨g4, o4 + i, none⟩ = some (nI b.vy) := (hc4 i (by omega)).trans (by rw [colCs_get1 4 (by omega), hb]; rfl)
  have x5 : wy.cell? ⟨g5, o5 + i, none⟩ = some (nI b.hp) := (hc5 i (by omega)).trans (by rw [colCs_get1 5 (by omega), hb]; rfl)
  have x6 : wy.cell? ⟨g6, o6 + i, none⟩ = some (nI b.pw) := (hc6 i (by omega)).trans (by rw [colCs_get1 6 (by omega), hb]; rfl)
  have x7 : wy.cell? ⟨g7, o7 + i, none⟩ = some (nI b.lf) := (hc7 i (by omega)).trans (by rw [colCs_get1 7 (by omega), hb]; rfl)
  simp only [Nat.add_zero] at s0
  have hbv : b.v = .agg #[nI b.id.s, nI b.id.i, nI b.id.g, nI (m : Int), nI b.x, nI b.y, nI b.vx, nI b.vy, nI b.hp, nI b.pw, nI b.lf] := by unfold BdR.v; rw [hbm]
  rw [hbv]
  clear hbv hc0 hc1 hc2 hc3 hc4 hc5 hc6 hc7 had0 had1 had2 had3 had4 had5 had6 had7 d0 d1 d2 h8 sc sf sM hTab hbm qX fX lX hg ht hlen
  replace hb := Lib.hid hb
  replace O1 := Lib.hid O1
  generalize (T m).length = n at *
  generalize b.id.s = is at *
  generalize b.id.i = ii at *
  generalize b.id.g = ig at *
  go_enter Try.func29, Try.ntmps29
  go_upto_region 1 with fail
  go_region
  go_upto_region 3 with fail
  refine wp_region_grow_tail 59 (by kernel_rfl) (by kernel_rfl) ?_
  simp only [List.take_succ_cons, List.take_zero, List.drop_succ_cons, List.drop_zero]
  repeat (go_big_quiet_step (fail))
  refine wpQuiet_nil ?_
  intro ex
  go_wp2_with fail
  exact bodyPost_ret (v := .agg #[nI is, nI ii, nI ig, nI (m : Int), nI b.x, nI b.y, nI b.vx, nI b.vy, nI b.hp, nI b.pw, nI b.lf]) (by simp [results, Try.results29, go_sem]) rfl ⟨rfl, by (repeat (first | exact hP.out | apply Plus.plus | apply Plus.alloc | apply Plus.drew))⟩
end Go.Proofs.Ytkdagljoiacaaaa
