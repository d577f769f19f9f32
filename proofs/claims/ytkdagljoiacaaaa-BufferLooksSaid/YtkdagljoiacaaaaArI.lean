/- arch: the reference's Same, All, Copy: walk. -/
import Derived.Test.YtkdagljoiacaaaaArH
import Derived.Test.YtkdagljoiacaaaaArRc
set_option linter.unusedSimpArgs false
set_option linter.unusedVariables false
namespace Go.Proofs.Ytkdagljoiacaaaa
open Go.RowKit
/-- an entity's cells -/
structure Bd11 (w : World) (g p : Nat) (b : BdR) : Prop where
  c0 : w.cell? ⟨g, p, none⟩ = some (nI b.id.s)
  c1 : w.cell? ⟨g, p + 1, none⟩ = some (nI b.id.i)
  c2 : w.cell? ⟨g, p + 2, none⟩ = some (nI b.id.g)
  c3 : w.cell? ⟨g, p + 3, none⟩ = some (nI b.mask)
  c4 : w.cell? ⟨g, p + 4, none⟩ = some (nI b.x)
  c5 : w.cell? ⟨g, p + 5, none⟩ = some (nI b.y)
  c6 : w.cell? ⟨g, p + 6, none⟩ = some (nI b.vx)
  c7 : w.cell? ⟨g, p + 7, none⟩ = some (nI b.vy)
  c8 : w.cell? ⟨g, p + 8, none⟩ = some (nI b.hp)
  c9 : w.cell? ⟨g, p + 9, none⟩ = some (nI b.pw)
  c10 : w.cell? ⟨g, p + 10, none⟩ = some (nI b.lf)
theorem sl_bd {w : World} {A : Option Addr} {n c : Nat} {xs : List BdR} (h : Sl w 11 (.slice A n c) n (bdsCs xs)) (i : Nat) (b : BdR) (hb : xs[i]? = some b) (hi : i < n) : ∃ g o, A = some ⟨g, o, none⟩ ∧ InW g w ∧ Bd11 w g (o + i * 11) b := by
  obtain ⟨g, o, hA, hg, hc⟩ := h.cellsOf (by omega)
  have key : ∀ k, k < 11 → w.cell? ⟨g, o + i * 11 + k, none⟩ = b.cs[k]? := fun k hk => by
    rw [Nat.add_assoc, hc (i * 11 + k) (by omega), bdsCs_get _ i b hb k hk]
  exact ⟨g, o, hA, ⟨hg⟩, key 0 (by omega), key 1 (by omega), key 2 (by omega), key 3 (by omega), key 4 (by omega), key 5 (by omega), key 6 (by omega), key 7 (by omega), key 8 (by omega), key 9 (by omega), key 10 (by omega)⟩
theorem Sl.atP {w : World} {size : Nat} {v : Value} {n : Nat} {cs : List Value} (h : Sl w size v n cs) : ∀ w', w.Plus w' → Sl w' size v n cs := by
  rintro w' ⟨e, rfl⟩
  exact h.plus e
set_option maxRecDepth 100000 in
set_option maxHeartbeats 1000000 in
theorem same_true (w : World) (A B : Option Addr) (c d n : Nat) (xs : List BdR) (hn : n = xs.length) (hx0 : Sl w 11 (.slice A n c) n (bdsCs xs)) (hy0 : Sl w 11 (.slice B n d) n (bdsCs xs)) (hlen : n ≤ 1000000) :
    Calls Try.prog 16 #[.slice A n c, .slice B n d] w fun e w' => e = .returned (.bool true) ∧ w.Plus w' := by
  have hx := Lib.hid (Sl.atP hx0)
  have hy := Lib.hid (Sl.atP hy0)
  replace hn := Lib.hid hn
  clear hx0 hy0
  go_enter Try.func16, Try.ntmps16
  go_wp2_with fail
  go_loopw [5] (fun v wr => ∃ i : Nat, i ≤ n ∧ v = nI i ∧ w.Plus wr) (fun v _ => n - (intOf v).toNat)
  case atStart => exact ⟨0, by omega, rfl, Plus.refl _⟩
  case round =>
    obtain ⟨i, hi, rfl, hp⟩ := hrel
    by_cases hlt : i < n
    · have hlti : (i : Int) < n := by omega
      obtain ⟨b, hb⟩ : ∃ b, xs[i]? = some b := ⟨_, List.getElem?_eq_getElem (by rw [← hn.out]; exact hlt)⟩
      obtain ⟨g, o, rfl, hg, hX⟩ := sl_bd (hx.out _ hp) i b hb hlt
      obtain ⟨g2, o2, rfl, hg2, hY⟩ := sl_bd (hy.out _ hp) i b hb hlt
      obtain ⟨a0, a1, a2, a3, a4, a5, a6, a7, a8, a9, a10⟩ := hX
      obtain ⟨b0, b1, b2, b3, b4, b5, b6, b7, b8, b9, b10⟩ := hY
      have hq := neqBd b b
      rw [decide_eq_true rfl] at hq
      replace hp := Lib.hid hp
      clear hb
      go_upto_region 6 with fail
      refine wp_region_grow (by kernel_rfl) (by kernel_rfl) ?_
      repeat (go_big_quiet_step (fail))
      refine wpQuiet_nil ?_
      intro ex
      go_wp2_with fail
      go_roundw
      case rel => exact ⟨i + 1, hlt, by go_num, Plus.plus hp.out ex⟩
      case measure => simp [intOf]; omega
    · obtain rfl : i = n := by omega
      replace hp := Lib.hid hp
      go_wp2_with fail
      go_ret
      exact ⟨rfl, hp.out⟩
set_option maxRecDepth 100000 in
set_option maxHeartbeats 1000000 in
theorem refAll_O {W wx : World} {R : Nat} {T : Tabs} {l : List Asn} (h : Own W wx (refA R T :: l)) (ht : total T ≤ 90000) :
    Calls Try.prog 40 #[chP R] wx fun e w' => ∃ A c, e = .returned (.slice A (allT T).length c) ∧ Own W w' (slA 11 (.slice A (allT T).length c) (allT T).length (bdsCs (allT T)) :: refA R T :: l) := by
  obtain ⟨i0, hi0, hz0, hz1, hz2⟩ := info_parts infoBd
  replace hi0 := Lib.hid hi0
  replace hz0 := Lib.hid hz0
  replace hz1 := Lib.hid hz1
  replace hz2 := Lib.hid hz2
  obtain ⟨c, O⟩ := ref_open h
  have hall := Lib.hid (allT_length T)
  clear h
  have O1 := Lib.hid (Own.nilSl O 11)
  replace O := Lib.hid O
  go_enter Try.func40, Try.ntmps40
  go_wp2_with fail
  go_loopw [3, 4] (fun s v wr => ∃ (m : Nat) (A : Option Addr) (cp : Nat), m ≤ 32 ∧ v = nI m ∧ s = .slice A (allN T m).length cp ∧ (allN T m).length ≤ total T ∧ Own W wr (slA 11 (.slice A (allN T m).length cp) (allN T m).length (bdsCs (allN T m)) :: refL R c T l)) (fun _ v _ => 32 - (intOf v).toNat)
  case atStart => exact ⟨0, none, 0, by omega, rfl, rfl, by simp [allN], O1.out⟩
  case round =>
    obtain ⟨m, A, cp, hm, rfl, rfl, hlen, O2⟩ := hrel
    by_cases hm32 : m < 32
    · have hm32i : (m : Int) < 32 := by omega
      obtain ⟨lR, sc, sf⟩ := ref_at ((O2.pull 2 rfl).pull 2 rfl)
      have s0 := sc m hm32
      have hS := Lib.hid (src_bds (ps := T m) ((ref_pull ((O2.pull 2 rfl).pull 2 rfl) hm32).sl 0 rfl) rfl)
      have hl2 : (allN T (m + 1)).length = (allN T m).length + (T m).length := by rw [allN_succ, List.length_append]
      have hl3 : (allN T (m + 1)).length ≤ total T := by
        rw [← allT_length]
        have : ∀ k, (allN T (m + 1)).length ≤ (allN T (m + 1 + k)).length := by
          intro k
          induction k with
          | zero => exact Nat.le_refl _
          | succ k ih => rw [← Nat.add_assoc, allN_succ T (m + 1 + k), List.length_append]; omega
        have := this (32 - (m + 1))
        rwa [show m + 1 + (32 - (m + 1)) = 32 by omega] at this
      have hcs : bdsCs (allN T (m + 1)) = bdsCs (allN T m) ++ bdsCs (T m) := by rw [allN_succ, bdsCs_append]
      have hb1 : (allN T m).length + (T m).length ≤ 90000 := by omega
      rw [hl2] at hl3
      obtain ⟨n, hn⟩ : ∃ n, n = (allN T m).length := ⟨_, rfl⟩
      obtain ⟨k, hk⟩ : ∃ k, k = (T m).length := ⟨_, rfl⟩
      rw [← hn, ← hk] at hb1 hl3 hl2
      rw [← hk] at s0 hS
      rw [← hn] at O2
      replace O2 := Lib.hid O2
      replace hl2 := Lib.hid hl2
      replace hcs := Lib.hid hcs
      replace hl3 := Lib.hid hl3
      clear sc sf hlen
      rw [← hn]
      replace hn := Lib.hid hn
      replace hk := Lib.hid hk
      go_upto_region 5 with fail
      go_upto_region 4 with (at_builtin; refine wpList_append_O rfl _ _ 33 33 rfl 40 i0 _ 11 88 underBds hi0.out hz0.out hz1.out hz2.out rfl rfl O2.out rfl hS.out (by unfold maxLen; omega) (by omega) ?_; intro A2 cap2 w6 O6)
      rw [← hcs.out] at O6
      clear O2 hS s0 lR
      replace O6 := Lib.hid O6
      go_wp2_with fail
      go_roundw
      case rel => exact ⟨m + 1, A2, cap2, hm32, by go_num, by rw [hl2.out], by rw [hl2.out]; exact hl3.out, by rw [hl2.out]; exact O6.out⟩
      case measure => simp [intOf]; omega
    · obtain rfl : m = 32 := by omega
      obtain ⟨q, hq⟩ : ∃ q, q = allN T 32 := ⟨_, rfl⟩
      rw [← hq] at O2 hlen
      rw [← hq]
      replace hq := Lib.hid hq
      replace O2 := Lib.hid O2
      go_wp2_with fail
      go_ret
      have e : allT T = q := hq.out.symm
      rw [e]
      exact ⟨A, cp, rfl, (ref_shut ((O2.out.pull 2 rfl).pull 2 rfl)).rot1⟩
theorem refZero (w : World) : (zeroValue 53).run Try.prog w = .ok (.agg (rcellsL (fun _ => (none, 0)) (fun _ => [])).toArray) w := by kernel_rfl
theorem rcols0 {W w : World} {l : List Asn} (h : Own W w l) : Own W w (bothA (rcolsL (fun _ => (none, 0)) (fun _ => [])) :: l) := by
  refine Own.join ?_
  unfold rcolsL
  generalize List.range 32 = L
  induction L with
  | nil => exact h
  | cons j r ih => exact Own.nilSl ih 11
def cutTabs (T : Tabs) (m : Nat) : Tabs := fun k => if k < m then T k else []
theorem cutTabs_zero (T : Tabs) : cutTabs T 0 = fun _ => [] := by funext k; simp [cutTabs]
theorem cutTabs_succ (T : Tabs) (m : Nat) : cutTabs T (m + 1) = upd (cutTabs T m) m (T m) := by
  funext k
  unfold cutTabs upd
  by_cases e : k = m
  · subst e; rw [if_pos rfl, if_pos (by omega)]
  · rw [if_neg e]
    show _ = if k < m then T k else []
    by_cases h : k < m
    · rw [if_pos h, if_pos (by omega)]
    · rw [if_neg h, if_neg (by omega)]
theorem cutTabs_all {T : Tabs} (hc : Cln T) : cutTabs T 32 = T := by
  funext k
  unfold cutTabs
  by_cases h : k < 32
  · rw [if_pos h]
  · rw [if_neg h, hc k (by omega)]
theorem cutTabs_at (T : Tabs) (m : Nat) : cutTabs T m m = [] := by unfold cutTabs; rw [if_neg (by omega)]
/-- a reference's store without entities -/
theorem ref_new {W w : World} {l : List Asn} (h : Own W w l) : Own W (w.alloc (.cells (rcellsL (fun _ => (none, 0)) (fun _ => [])).toArray 53)) (refL w.heap.size (fun _ => (none, 0)) (fun _ => []) l) :=
  rcols0 (Own.newCells h (rcellsL (fun _ => (none, 0)) (fun _ => [])) 53)
end Go.Proofs.Ytkdagljoiacaaaa
