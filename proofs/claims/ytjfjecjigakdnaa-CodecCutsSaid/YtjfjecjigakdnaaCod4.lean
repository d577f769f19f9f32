/- codec: numbers, an iterator: walk. -/
import Derived.Test.YtjfjecjigakdnaaCod3
import Derived.Test.YtjfjecjigakdnaaGe
set_option linter.unusedSimpArgs false
set_option linter.unusedVariables false
namespace Go.Proofs.Ytjfjecjigakdnaa
open Go.RowKit
attribute [local go_sem] Oper.semAt_some
/-- the components: their bits, and where they lie in an entity -/
def crows : List (Int × Nat) := [(1, 4), (1, 5), (2, 6), (2, 7), (4, 8), (8, 9), (16, 10)]
def offs (m : Int) (k : Nat) : List Nat := ((crows.take k).filter (fun r => bitB m r.1)).map (·.2)
theorem crow_at (i : Nat) (h : i < 7) : ∃ p o, crows[i]? = some (p, o) ∧ (p = 1 ∨ p = 2 ∨ p = 4 ∨ p = 8 ∨ p = 16) ∧ 4 ≤ o ∧ o ≤ 10 := by
  rcases (by omega : i = 0 ∨ i = 1 ∨ i = 2 ∨ i = 3 ∨ i = 4 ∨ i = 5 ∨ i = 6) with rfl | rfl | rfl | rfl | rfl | rfl | rfl <;> exact ⟨_, _, rfl, by simp, by omega, by omega⟩
theorem offs_succ (m : Int) (i : Nat) {p : Int} {o : Nat} (h : crows[i]? = some (p, o)) : offs m (i + 1) = offs m i ++ (if bitB m p then [o] else []) := by
  unfold offs
  rw [List.take_add_one, h, List.filter_append, List.map_append]
  congr 1
  cases hb : bitB m p <;> simp [hb]
theorem offs_post (m : Int) (i : Nat) : ∃ post, offs m 7 = offs m i ++ post := by
  unfold offs
  refine ⟨((crows.drop i).filter (fun r => bitB m r.1)).map (·.2), ?_⟩
  rw [← List.map_append, ← List.filter_append, List.take_append_drop, List.take_of_length_le (by decide)]
def crowCs (Xb : Nat) : List Value := crows.flatMap fun r => [nI r.1, .pointer (some ⟨Xb, r.2, none⟩)]
theorem crowCs_get (Xb i : Nat) {p : Int} {o : Nat} (h : crows[i]? = some (p, o)) : (crowCs Xb)[i * 2]? = some (nI p) ∧ (crowCs Xb)[i * 2 + 1]? = some (.pointer (some ⟨Xb, o, none⟩)) := by
  have hi : i < 7 := (List.getElem?_eq_some_iff.1 h).1
  rcases (by omega : i = 0 ∨ i = 1 ∨ i = 2 ∨ i = 3 ∨ i = 4 ∨ i = 5 ∨ i = 6) with rfl | rfl | rfl | rfl | rfl | rfl | rfl <;> (cases h; exact ⟨rfl, rfl⟩)
theorem and_ne (m : Int) {p : Int} (hp : p = 1 ∨ p = 2 ∨ p = 4 ∨ p = 8 ∨ p = 16) : (bits .and .i64 m p != 0) = bitB m p := by
  have h := and_bitZ m hp
  have key : ∀ j : Nat, j ≤ 4 → p = ((2 ^ j : Nat) : Int) → (bits .and .i64 m p != 0) = bitB m p := fun j hj he => by
    rw [and_two m p j he hj] at h ⊢
    split at h
    · rw [if_pos (by assumption), ← h]; simp; omega
    · rw [if_neg (by assumption), ← h]; simp; omega
  rcases hp with hp | hp | hp | hp | hp
  · exact key 0 (by omega) (by simpa using hp)
  · exact key 1 (by omega) (by simpa using hp)
  · exact key 2 (by omega) (by simpa using hp)
  · exact key 3 (by omega) (by simpa using hp)
  · exact key 4 (by omega) (by simpa using hp)
set_option maxRecDepth 100000 in
set_option maxHeartbeats 400000 in
theorem numbers_gives (n : Nat) (hn : 5 ≤ n) (W0 : World) (Pb Xb : Nat) (m : Int) (C : List Nat → List Value) (hC : ∀ pre, (C pre)[3]? = some (nI m)) :
    SeqB Fence.wide n Try.prog 97 #[.pointer (some ⟨Pb, 0, none⟩)] W0 (fun o : Nat => .pointer (some ⟨Xb, o, none⟩)) (offs m 7) (fun pre => [cellsA Pb [.pointer (some ⟨Xb, 0, none⟩)], cellsA Xb (C pre)]) := by
  intro l I W hY h0
  have hn1 : 1 ≤ n := by omega
  refine callsIn_of_wp Try.func97 rfl trivial ?_ rfl
  simp only [Try.ntmps97, List.size_toArray, List.length_cons, List.length_nil, Nat.reduceAdd, Nat.reduceSub, Array.replicate_succ, Array.replicate_zero, List.push_toArray, List.append_toArray, List.nil_append, List.cons_append]
  refine wpIn_wide.2 ?_
  obtain ⟨lP, qP, _⟩ := h0.cells 0 rfl
  have p0 := qP 0 (by simp)
  simp only [List.getElem?_cons_zero] at p0
  haveI : InW Pb W := ⟨lP⟩
  clear qP lP
  replace h0 := Lib.hid h0
  replace hY := Lib.hid hY
  replace hC := Lib.hid hC
  go_upto_region 0 with fail
  go_region_held3 (fun w' => w'.cell? ⟨Pb, 0, none⟩ = some (.pointer (some ⟨Xb, 0, none⟩))) (simp [go_sem, *]) (fail)
  have O1 : Own W0 (W.alloc (.cells (crowCs Xb).toArray 135)).drew (cellsA W.heap.size (crowCs Xb) :: ([cellsA Pb [.pointer (some ⟨Xb, 0, none⟩)], cellsA Xb (C (offs m 0))] ++ I (offs m 0))) := (h0.out.newCells (crowCs Xb) 135).drew
  obtain ⟨w1, hw1⟩ : ∃ w1, (W.alloc (.cells (crowCs Xb).toArray 135)).drew = w1 := ⟨_, rfl⟩
  rw [hw1] at O1
  go_upto_block 0 with fail
  change Code.wp _ _ _ _ (W.alloc (.cells (crowCs Xb).toArray 135)).drew
  rw [hw1]
  generalize W.heap.size = Ab at *
  clear hw1 p0 h0
  replace O1 := Lib.hid O1
  go_wp2_with fail
  go_loopw [35] (fun v wr => ∃ i : Nat, i ≤ 7 ∧ v = nI i ∧ Own W0 wr (cellsA Ab (crowCs Xb) :: ([cellsA Pb [.pointer (some ⟨Xb, 0, none⟩)], cellsA Xb (C (offs m i))] ++ I (offs m i)))) (fun v _ => 7 - (intOf v).toNat)
  case atStart => exact ⟨0, by omega, rfl, O1.out⟩
  case round =>
    clear O1
    obtain ⟨i, hi, rfl, O2⟩ := hrel
    by_cases hlt : i < 7
    · have hlti : (i : Int) < 7 := by omega
      obtain ⟨p, o, hr, hp, _⟩ := crow_at i hlt
      have hcs := crowCs_get Xb i hr
      have hoff := offs_succ m i hr
      obtain ⟨post, hpost⟩ := offs_post m (i + 1)
      rw [hoff] at hpost
      have hbit := and_ne m hp
      obtain ⟨lA, qA, _⟩ := O2.cells 0 rfl
      have a0 := (qA (i * 2) (List.getElem?_eq_some_iff.1 hcs.1).1).trans hcs.1
      have a1 := (qA (i * 2 + 1) (List.getElem?_eq_some_iff.1 hcs.2).1).trans hcs.2
      obtain ⟨lP, qP, _⟩ := O2.cells 1 rfl
      have p0 := qP 0 (by simp)
      obtain ⟨lX, qX, _⟩ := O2.cells 2 rfl
      have x3 := (qX 3 (List.getElem?_eq_some_iff.1 (hC.out (offs m i))).1).trans (hC.out (offs m i))
      simp only [List.getElem?_cons_zero] at p0
      haveI : InW Ab wr := ⟨lA⟩
      haveI : InW Pb wr := ⟨lP⟩
      haveI : InW Xb wr := ⟨lX⟩
      clear qA qP qX lA lP lX hcs hr
      replace O2 := Lib.hid O2
      replace hp := Lib.hid hp
      go_upto_region 3 with fail
      refine (wpIn_wide (n := n)).1 ?_
      refine wpIn_region_grow_tail 12 (by kernel_rfl) (by kernel_rfl) ?_
      simp only [List.take_succ_cons, List.take_zero, List.drop_succ_cons, List.drop_zero]
      cases hb : bitB m p with
      | true =>
        rw [hb] at hbit hoff hpost
        simp only [if_true] at hoff hpost
        replace hb := Lib.hid hb
        repeat (go_big_quiet_step (fail))
        refine wpQuiet_nil ?_
        intro ex
        have O3 := (O2.out.alloc (.cells #[nI p, .pointer (some ⟨Xb, o, none⟩)] 135)).plus ex
        have O4 := O3.snoc
        rw [List.append_assoc] at O4
        obtain ⟨fn, tmps, assign, body, hy, hR⟩ := hY.out (offs m i) o post _ [cellsA Ab (crowCs Xb)] (by rw [hpost, List.append_assoc]; rfl) O4
        rw [← hoff] at hR
        replace hoff := Lib.hid hoff
        replace hpost := Lib.hid hpost
        clear O3 O4
        gi_wp2
        refine hR.mono ?_
        rintro e W3 ⟨rfl, O5⟩
        have O6 : Own W0 W3 (cellsA Ab (crowCs Xb) :: ([cellsA Pb [.pointer (some ⟨Xb, 0, none⟩)], cellsA Xb (C (offs m (i + 1)))] ++ I (offs m (i + 1)))) := O5.perm (by
          rw [← List.append_assoc]
          exact List.perm_append_singleton _ _)
        replace O6 := Lib.hid O6
        clear hR hy O5 a0 a1 x3
        gi_wp2
        go_wp2_with fail
        go_roundw
        case rel => exact ⟨i + 1, hlt, by go_num, O6.out⟩
        case measure => simp [intOf]; omega
      | false =>
        rw [hb] at hbit hoff hpost
        simp only [Bool.false_eq_true, if_false, List.append_nil] at hoff hpost
        replace hb := Lib.hid hb
        replace hpost := Lib.hid hpost
        repeat (go_big_quiet_step (fail))
        refine wpQuiet_nil ?_
        intro ex
        have O3 := (O2.out.alloc (.cells #[nI p, .pointer (some ⟨Xb, o, none⟩)] 135)).plus ex
        rw [← hoff] at O3
        replace O3 := Lib.hid O3
        replace hoff := Lib.hid hoff
        gi_wp2_with (refine ⟨fun _ _ => trivial, ?_⟩)
        go_wp2_with fail
        go_roundw
        case rel => exact ⟨i + 1, hlt, by go_num, O3.out⟩
        case measure => simp [intOf]; omega
    · obtain rfl : i = 7 := by omega
      replace O2 := Lib.hid O2.drop
      go_wp2_with fail
      go_end0
      exact ⟨⟨_, rfl⟩, O2.out⟩
end Go.Proofs.Ytjfjecjigakdnaa
