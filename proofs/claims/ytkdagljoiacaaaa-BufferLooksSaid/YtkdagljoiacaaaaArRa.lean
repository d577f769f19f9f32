/- arch: the reference's at: walk. -/
import Derived.Test.YtkdagljoiacaaaaArR
import Derived.Deep.CutBlock
import Derived.Deep.DeepCutAuto
set_option linter.unusedSimpArgs false
set_option linter.unusedVariables false
namespace Go.Proofs.Ytkdagljoiacaaaa
open Go.RowKit
def atV : Option (Nat × Nat) → Value
  | none => .tuple #[nI (-1), nI (-1)]
  | some p => .tuple #[nI p.1, nI p.2]
set_option maxRecDepth 100000 in
set_option maxHeartbeats 4000000 in
theorem refAt_any {W wx : World} {R : Nat} {T : Tabs} {l : List Asn} (h : Own W wx (refA R T :: l)) (hg : GoodT T) (a : IdR) (ht : total T ≤ 100000) :
    Calls Try.prog 55 #[chP R, a.v] wx fun e w' => e = .returned (atV (findT T a)) ∧ wx.Plus w' := by
  obtain ⟨c, O⟩ := ref_open h
  obtain ⟨V, hV⟩ : ∃ V, V = atV (findT T a) := ⟨_, rfl⟩
  rw [← hV]
  obtain ⟨is, ii, ig⟩ := a
  replace hV := Lib.hid hV
  have hP := Lib.hid (Plus.alloc (Plus.refl wx) (.cells #[nI is, nI ii, nI ig] 38))
  have O1 : Own W (wx.alloc (.cells #[nI is, nI ii, nI ig] 38)) (refL R c T (cellsA wx.heap.size [nI is, nI ii, nI ig] :: l)) := (Own.newCells O [nI is, nI ii, nI ig] 38).perm (List.perm_middle (l₁ := [_, _])).symm
  generalize hX : wx.heap.size = X at *
  generalize hwy : wx.alloc (.cells #[nI is, nI ii, nI ig] 38) = wy at *
  clear O h
  have hO := Lib.hid (Own.atP O1)
  replace O1 := Lib.hid O1
  go_enter Try.func55, Try.ntmps55
  go_wp2_with fail
  go_loopw [6] (fun v wr => ∃ m : Nat, m ≤ 32 ∧ v = nI m ∧ (∀ k, k < m → ∀ b ∈ T k, b.id ≠ ⟨is, ii, ig⟩) ∧ wy.Plus wr) (fun v _ => 32 - (intOf v).toNat)
  case atStart => exact ⟨0, by omega, rfl, fun k hk => by omega, Plus.refl _⟩
  case round =>
    obtain ⟨m, hm, rfl, hno, hp⟩ := hrel
    by_cases hm32 : m < 32
    · have hm32i : (m : Int) < 32 := by omega
      replace hno := Lib.hid hno
      replace hp := Lib.hid hp
      go_wp2_with fail
      go_loopw [7] (fun v wz => ∃ i : Nat, i ≤ (T m).length ∧ v = nI i ∧ (∀ k, k < i → ∀ b, (T m)[k]? = some b → b.id ≠ ⟨is, ii, ig⟩) ∧ wy.Plus wz) (fun v _ => (T m).length - (intOf v).toNat)
      case atStart => exact ⟨0, by omega, rfl, fun k hk => by omega, hp.out⟩
      case round =>
        obtain ⟨i, hi, rfl, hni, hp2⟩ := hrel
        have O2 := hO.out _ hp2
        obtain ⟨lR, sc, sf⟩ := ref_at O2
        have s0 := sc m hm32
        have hlen : (T m).length ≤ 100000 := Nat.le_trans (len_total T _ hm32) ht
        by_cases hlt : i < (T m).length
        · have hlti : (i : Int) < (T m).length := by omega
          obtain ⟨b, hb⟩ : ∃ b, (T m)[i]? = some b := ⟨_, List.getElem?_eq_getElem hlt⟩
          obtain ⟨g, o, hA, hgl, hc⟩ := ((ref_pull O2 hm32).sl 0 rfl).cellsOf (by omega)
          haveI : InW g wr := ⟨hgl⟩
          have x0 := (hc (i * 11) (by omega)).trans (bdsCs_get _ i b hb 0 (by omega))
          have x1 : wr.cell? ⟨g, o + i * 11 + 1, none⟩ = _ := (hc (i * 11 + 1) (by omega)).trans (bdsCs_get _ i b hb 1 (by omega))
          have x2 : wr.cell? ⟨g, o + i * 11 + 2, none⟩ = _ := (hc (i * 11 + 2) (by omega)).trans (bdsCs_get _ i b hb 2 (by omega))
          simp only [List.getElem?_cons_succ, List.getElem?_cons_zero] at x0 x1 x2
          rw [hA] at s0
          obtain ⟨lX, qX, fX⟩ := O2.cells 2 rfl
          have q0 := qX 0 (by simp)
          have q1 := qX 1 (by simp)
          have q2 := qX 2 (by simp)
          simp only [List.getElem?_cons_succ, List.getElem?_cons_zero] at q0 q1 q2
          haveI : InW X wr := ⟨lX⟩
          clear qX fX lX sc sf hc hA
          replace O2 := Lib.hid O2
          replace hb := Lib.hid hb
          replace hni := Lib.hid hni
          replace hp2 := Lib.hid hp2
          go_upto_region 7 with fail
          by_cases hid : b.id = ⟨is, ii, ig⟩
          · have hF : findT T ⟨is, ii, ig⟩ = some (m, i) := by rw [← hid]; exact findT_of hg hm32 hb.out
            have heq := eqId3 b.id.s b.id.i b.id.g is ii ig
            rw [show (⟨b.id.s, b.id.i, b.id.g⟩ : IdR) = ⟨is, ii, ig⟩ from hid, decide_eq_true rfl] at heq
            replace hF := Lib.hid hF
            replace hid := Lib.hid hid
            refine wp_region_grow (by kernel_rfl) (by kernel_rfl) ?_
            repeat (go_big_quiet_step (fail))
            refine wpQuiet_nil ?_
            intro ex
            go_wp2_with fail
            go_ret2
            exact ⟨by rw [hV.out, hF.out]; rfl, Plus.trans hP.out (Plus.plus hp2.out _)⟩
          · have heq := eqId3 b.id.s b.id.i b.id.g is ii ig
            rw [decide_eq_false (show ¬ (⟨b.id.s, b.id.i, b.id.g⟩ : IdR) = ⟨is, ii, ig⟩ from hid)] at heq
            have hni2 : ∀ k, k < i + 1 → ∀ b, (T m)[k]? = some b → b.id ≠ ⟨is, ii, ig⟩ := by
              intro k hk b' hb'
              by_cases e : k = i
              · subst e
                rw [hb.out] at hb'
                cases hb'
                exact hid
              · exact hni.out k (by omega) b' hb'
            replace hni2 := Lib.hid hni2
            replace hid := Lib.hid hid
            refine wp_region_grow (by kernel_rfl) (by kernel_rfl) ?_
            repeat (go_big_quiet_step (fail))
            refine wpQuiet_nil ?_
            intro ex
            go_wp2_with fail
            go_roundw
            case rel => exact ⟨i + 1, hlt, by go_num, hni2.out, Plus.plus hp2.out _⟩
            case measure => simp [intOf]; omega
        · obtain rfl : i = (T m).length := by omega
          rw [show (Value.slice (c m).1 (T m).length (c m).2) = .slice (c m).1 (T m).length (c m).2 from rfl] at s0
          have hno2 : ∀ k, k < m + 1 → ∀ b ∈ T k, b.id ≠ ⟨is, ii, ig⟩ := by
            intro k hk b hb
            by_cases e : k = m
            · subst e
              obtain ⟨j, hj⟩ := List.getElem?_of_mem hb
              exact hni j (List.getElem?_eq_some_iff.1 hj).1 b hj
            · exact hno.out k (by omega) b hb
          clear sc sf hni
          replace O2 := Lib.hid O2
          replace hno2 := Lib.hid hno2
          replace hp2 := Lib.hid hp2
          obtain ⟨n, hn⟩ : ∃ n, n = (T m).length := ⟨_, rfl⟩
          rw [← hn] at s0
          replace hn := Lib.hid hn
          rw [← hn.out]
          go_wp2_with fail
          go_roundw
          case rel => exact ⟨m + 1, hm32, by go_num, hno2.out, hp2.out⟩
          case measure => simp [intOf]; omega
    · obtain rfl : m = 32 := by omega
      have e : findT T ⟨is, ii, ig⟩ = none := findT_none.2 fun k hk b hb => hno k hk b hb
      replace e := Lib.hid e
      replace hno := Lib.hid hno
      replace hp := Lib.hid hp
      go_wp2_with fail
      go_ret2
      exact ⟨by rw [hV.out, e.out]; rfl, Plus.trans hP.out hp.out⟩
end Go.Proofs.Ytkdagljoiacaaaa
