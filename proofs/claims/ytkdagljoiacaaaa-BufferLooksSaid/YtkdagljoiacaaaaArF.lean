/- arch: All, and the iterator that it hands back: walk. -/
import Derived.Test.YtkdagljoiacaaaaRangeO
import Derived.Test.YtkdagljoiacaaaaAr10
import Derived.Shelf.Abstract
import Derived.Shelf.RegionOpen
import Derived.OwnWalkIn
import Derived.TacticsInMore
import Derived.LoopNIn
import Derived.LoopIn
set_option linter.unusedSimpArgs false
set_option linter.unusedVariables false
namespace Go.Proofs.Ytkdagljoiacaaaa
open Go.RowKit Go.Shelf
attribute [local go_sem] Oper.semAt_some
def allN (T : Tabs) (m : Nat) : List BdR := (List.range m).flatMap T
def allT (T : Tabs) : List BdR := allN T 32
theorem allN_succ (T : Tabs) (m : Nat) : allN T (m + 1) = allN T m ++ T m := by unfold allN; rw [List.range_succ, List.flatMap_append]; simp
theorem allT_split (T : Tabs) {m i : Nat} {b : BdR} (hm : m < 32) (hb : (T m)[i]? = some b) : ∃ post, (allN T m ++ (T m).take i) ++ b :: post = allT T := by
  have hil := (List.getElem?_eq_some_iff.1 hb).1
  have e1 : (T m).take i ++ b :: (T m).drop (i + 1) = T m := by
    have hb2 : (T m)[i] = b := (List.getElem?_eq_some_iff.1 hb).2
    rw [← hb2, ← List.drop_eq_getElem_cons hil, List.take_append_drop]
  have e2 : ∃ q, allN T 32 = allN T (m + 1) ++ q := by
    have : ∀ k, ∃ q, allN T (m + 1 + k) = allN T (m + 1) ++ q := by
      intro k
      induction k with
      | zero => exact ⟨[], by simp⟩
      | succ k ih =>
        obtain ⟨q, hq⟩ := ih
        exact ⟨q ++ T (m + 1 + k), by rw [← Nat.add_assoc, allN_succ, hq, List.append_assoc]⟩
    have h := this (32 - (m + 1))
    rwa [show m + 1 + (32 - (m + 1)) = 32 by omega] at h
  obtain ⟨q, hq⟩ := e2
  refine ⟨(T m).drop (i + 1) ++ q, ?_⟩
  unfold allT
  rw [hq, allN_succ, List.append_assoc, List.append_assoc]
  congr 1
  rw [← List.cons_append, ← List.append_assoc, e1]
set_option maxRecDepth 100000 in
set_option maxHeartbeats 1000000 in
theorem all1_gives (n : Nat) (hn : 5 ≤ n) (W0 : World) (S Bs : Nat) (T : Tabs) (hg : GoodT T) (ht : total T ≤ 90000) :
    SeqO Fence.wide n Try.prog 28 #[.pointer (some ⟨Bs, 0, none⟩)] W0 BdR.v (allT T) [storeA S T, cellsA Bs [chP S]] := by
  intro l I X W hY h0
  have h1 : 1 ≤ n := by omega
  have h2 : 1 ≤ n - 1 := by omega
  have h3 : 1 ≤ n - 1 - 1 := by omega
  refine callsIn_of_wp Try.func28 rfl trivial ?_ rfl
  simp only [Try.ntmps28, List.size_toArray, List.length_cons, List.length_nil, Nat.reduceAdd, Nat.reduceSub, Array.replicate_succ, Array.replicate_zero, List.push_toArray, List.append_toArray, List.nil_append, List.cons_append]
  obtain ⟨lB, qB, _⟩ := h0.cells 1 rfl
  have b0 := qB 0 (by simp)
  simp only [List.getElem?_cons_zero] at b0
  haveI : InW Bs W := ⟨lB⟩
  clear qB lB
  replace h0 := Lib.hid h0
  replace hY := Lib.hid hY
  gi_wp2
  gi_loopw [7] (fun v wr => ∃ m : Nat, m ≤ 32 ∧ v = nI m ∧ Own W0 wr ([storeA S T, cellsA Bs [chP S]] ++ I (allN T m))) (fun v _ => 32 - (intOf v).toNat)
  case atStart => exact ⟨0, by omega, rfl, h0.out⟩
  case round =>
    clear b0 h0
    obtain ⟨m, hm, rfl, O1⟩ := hrel
    obtain ⟨lB, qB, _⟩ := O1.cells 1 rfl
    have b0 := qB 0 (by simp)
    simp only [List.getElem?_cons_zero] at b0
    haveI : InW Bs wr := ⟨lB⟩
    clear qB lB
    by_cases hm32 : m < 32
    · have hm32i : (m : Int) < 32 := by omega
      obtain ⟨M, c, hTab, O2⟩ := store_open O1
      obtain ⟨lS, sM, sc, sf, _⟩ := store_at O2
      have s0 := sc (m * 8) (by omega)
      have hT0 := (hTab (m * 8) (by omega)).1
      rw [show m * 8 / 8 = m by omega] at hT0
      rw [show (c (m * 8)).v = .slice (c (m * 8)).ad.1 (T m).length (c (m * 8)).ad.2 by unfold Col.v; rw [hT0]] at s0
      have hlen : (T m).length ≤ 90000 := Nat.le_trans (len_total T _ hm32) ht
      obtain ⟨nl, hnl⟩ : ∃ nl, nl = (T m).length := ⟨_, rfl⟩
      rw [← hnl] at s0 hlen
      replace hnl := Lib.hid hnl
      clear sc sf hTab hT0 O2 sM
      replace O1 := Lib.hid O1
      gi_wp2
      gi_loopw [18] (fun v wz => ∃ i : Nat, i ≤ nl ∧ v = nI i ∧ Own W0 wz ([storeA S T, cellsA Bs [chP S]] ++ I (allN T m ++ (T m).take i))) (fun v _ => nl - (intOf v).toNat)
      case atStart => exact ⟨0, by omega, rfl, by rw [List.take_zero, List.append_nil]; exact O1.out⟩
      case round =>
        clear b0 s0 O1 lS this
        obtain ⟨i, hi, rfl, O1⟩ := hrel
        obtain ⟨lB, qB, _⟩ := O1.cells 1 rfl
        have b0 := qB 0 (by simp)
        simp only [List.getElem?_cons_zero] at b0
        rename World => wz
        haveI : InW Bs wz := ⟨lB⟩
        clear qB lB
        by_cases hlt : i < nl
        · have hlti : (i : Int) < nl := by omega
          obtain ⟨b, hb⟩ : ∃ b, (T m)[i]? = some b := ⟨_, List.getElem?_eq_getElem (by rw [← hnl.out]; exact hlt)⟩
          have hb2 : allN T m ++ (T m).take (i + 1) = (allN T m ++ (T m).take i) ++ [b] := by
            rw [List.append_assoc]
            congr 1
            rw [List.take_add_one, hb]
            rfl
          obtain ⟨post, hpost⟩ := allT_split T hm32 hb
          have hW := Lib.hid (Own.at_plus O1)
          have kA := Lib.hid (at_store O1 hg m i b hm32 hb (by omega))
          have hYw := Lib.hid (fun ey => hY.out _ b post (wz.plus ey) hpost (O1.plus ey))
          replace hb2 := Lib.hid hb2
          replace O1 := Lib.hid O1
          replace hpost := Lib.hid hpost
          clear hb hg
          gi_wp2_with ((refine ⟨trivial, ?_⟩; gi_at_call 29; refine (callsIn_wide.2 kA.out).mono ?_; rintro e w' ⟨rfl, ey, rfl⟩; obtain ⟨fn, tmps, assign, body, hy, hR⟩ := hYw.out ey))
          refine hR.mono ?_
          rintro e W3 (⟨rfl, O3⟩ | ⟨rfl, O3⟩)
          · rw [← hb2.out] at O3
            clear hb2 hYw hR hy kA hW
            replace O3 := Lib.hid O3
            gi_wp2
            go_roundw
            case rel => exact ⟨i + 1, hlt, by go_num, O3.out⟩
            case measure => simp [intOf]; omega
          · replace O3 := Lib.hid O3
            clear hYw hR hy kA hW
            gi_wp2
            refine bodyPost_ret (results_none rfl _ _ _) rfl ?_
            exact ⟨⟨_, rfl⟩, .inr ⟨_, post, by rw [List.append_assoc]; exact hpost.out, by simp, O3.out⟩⟩
        · obtain rfl : i = nl := by omega
          rw [hnl.out, List.take_length, ← allN_succ] at O1
          replace O1 := Lib.hid O1
          gi_wp2
          go_roundw
          case rel => exact ⟨m + 1, hm32, by go_num, O1.out⟩
          case measure => simp [intOf]; omega
    · obtain rfl : m = 32 := by omega
      replace O1 := Lib.hid O1
      gi_wp2
      go_end0
      exact ⟨⟨_, rfl⟩, .inl O1.out⟩
set_option maxRecDepth 100000 in
theorem all_any (S : Nat) (w : World) : Calls Try.prog 15 #[chP S] w fun e w' => e = .returned (.func (.func 28) #[] #[.pointer (some ⟨w.heap.size, 0, none⟩)]) ∧ w' = w.alloc (.cells #[chP S] 25) := by
  go_enter Try.func15, Try.ntmps15
  go_wp2_with fail
  go_ret
  exact ⟨rfl, rfl⟩
end Go.Proofs.Ytkdagljoiacaaaa
