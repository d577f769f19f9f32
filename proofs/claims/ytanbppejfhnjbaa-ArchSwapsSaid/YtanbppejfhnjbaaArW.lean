/- arch: the law's made: walk; what is told of tables. -/
import Derived.Test.YtanbppejfhnjbaaArU
set_option linter.unusedSimpArgs false
set_option linter.unusedVariables false
namespace Go.Proofs.Ytanbppejfhnjbaa
open Go.RowKit
set_option maxRecDepth 1000000 in
set_option maxHeartbeats 400000 in
theorem made_O {W wx : World} {l : List Asn} (h : Own W wx l) (ds : List DeedR) (A : Option Addr) (cp : Nat) (hc : ds.length ≤ cp) (hn : cp ≤ 9223372036854775807) (hr : RowsAt W A 12 ds.length (dRow ds)) (hid : ∀ d ∈ ds, IdW d.b.id) :
    Calls Try.prog 11 #[.slice A ds.length cp] wx fun e w' => ∃ S, e = .returned (chP S) ∧ Own W w' (storeA S (runT (ds.take 60)) :: l) := by
  have hz := refZero
  have k0 := Lib.hid (new_store h)
  have kb := Lib.hid (ref_box W)
  obtain ⟨cs0, hcs0⟩ : ∃ cs0, cs0 = (rcellsL (fun _ => (none, 0)) (fun _ => [])).toArray := ⟨_, rfl⟩
  rw [← hcs0] at hz kb
  clear hcs0
  have kF := Lib.hid (fun w => few_any A ds.length cp w hc (by omega) (rows_hA hr))
  obtain ⟨m, hm⟩ : ∃ m, m = min ds.length 60 := ⟨_, rfl⟩
  rw [← hm] at kF
  have hmb : m ≤ 60 ∧ m ≤ ds.length := by omega
  obtain ⟨hm60, hmd⟩ := hmb
  have hmt := Lib.hid (show ds.take m = ds.take 60 by
    by_cases h60 : 60 < ds.length
    · rw [hm, show min ds.length 60 = 60 by omega]
    · rw [List.take_of_length_le (by omega), List.take_of_length_le (by omega)])
  replace hr := Lib.hid hr
  replace hid := Lib.hid hid
  replace hm := Lib.hid hm
  replace h := Lib.hid h
  go_enter Try.func11, Try.ntmps11
  go_upto_region 4 with (first
    | (go_at_call 18; (with_reducible refine k0.out.mono ?_); rintro e w1 ⟨S, rfl, O1⟩; replace O1 := Lib.hid O1)
    | (go_at_call 20; (with_reducible refine (kF.out _).mono ?_); rintro e w2 ⟨rfl, e2, rfl⟩))
  have O2 := O1.out.plus e2
  generalize w1.plus e2 = w3 at *
  clear k0 kF O1 h
  replace O2 := Lib.hid O2
  go_loopw [4] (fun v wr => ∃ i : Nat, i ≤ m ∧ v = nI i ∧ Own W wr (storeA S (runT (ds.take i)) :: l)) (fun v _ => m - (intOf v).toNat)
  case atStart => exact ⟨0, by omega, rfl, O2.out⟩
  case round =>
    clear O2
    obtain ⟨i, hi, rfl, O2⟩ := hrel
    by_cases hlt : i < m
    · have hlti : (i : Int) < m := by omega
      obtain ⟨x, hx⟩ : ∃ x, ds[i]? = some x := ⟨_, List.getElem?_eq_getElem (by omega)⟩
      have hrw := hr.out.plus O2.p
      obtain ⟨g, o, rfl, hg, hD⟩ := deed_at hrw i (by omega) x hx
      obtain ⟨G, C, hT⟩ := run_good (ds.take i)
      rw [List.length_take] at hT
      have hidx := hid.out x (List.mem_of_getElem? hx)
      have OB : Own W (wr.alloc (.cells cs0 50)) (storeA S (runT (ds.take i)) :: refA wr.heap.size (fun _ => []) :: l) := (kb.out _ _ O2).rot1
      have k21 := Lib.hid (step_O OB G good_none x hidx (by omega) (by rw [total0]; omega))
      have e1 : runT (ds.take (i + 1)) = stepT (runT (ds.take i)) x := by rw [take_snoc hx, runT_snoc]
      rw [← e1] at k21
      obtain ⟨a0, a1, a2, a3, a4, a5, a6, a7, a8, a9, a10, a11⟩ := hD
      replace O2 := Lib.hid O2
      clear hrw hx hidx e1 G C hT OB
      go_wp2_with (go_at_call 21; (with_reducible refine k21.out.mono ?_); rintro e w5 ⟨v, hv, rfl, O5⟩; replace O5 := Lib.hid ((O5.pull 1 rfl).drop))
      go_roundw
      case rel => exact ⟨i + 1, hlt, by go_num, O5.out⟩
      case measure => simp [intOf]; omega
    · obtain rfl : i = m := by omega
      rw [hmt.out] at O2
      replace O2 := Lib.hid O2
      go_wp2_with fail
      go_ret
      exact ⟨S, rfl, O2.out⟩
/-- how many names tables tell -/
def cntL (L : List (Ad × TbR)) : Nat := (L.map fun x => x.2.2.length).sum
theorem cntL_all {T : Tabs} {L : List (Ad × TbR)} (hL : L.map (·.2) = tabsN T 32) : cntL L = total T := by
  have e : cntL L = ((L.map (·.2)).map fun y => y.2.length).sum := by unfold cntL; rw [List.map_map]; rfl
  rw [e, hL]
  unfold total tabsN
  generalize List.range 32 = R
  induction R with
  | nil => rfl
  | cons k r ih =>
    rw [List.flatMap_cons, List.map_append, List.sum_append, ih, List.map_cons, List.sum_cons]
    congr 1
    by_cases h0 : (T k).length = 0
    · rw [if_pos h0, h0]; rfl
    · rw [if_neg h0]; simp
theorem cntL_take {L : List (Ad × TbR)} {i : Nat} {x : Ad × TbR} (h : L[i]? = some x) : cntL (L.take (i + 1)) = cntL (L.take i) + x.2.2.length := by
  rw [take_snoc h]
  unfold cntL
  rw [List.map_append, List.sum_append]
  simp
theorem tabs_at {T : Tabs} {L : List (Ad × TbR)} (hL : L.map (·.2) = tabsN T 32) {i : Nat} {x : Ad × TbR} (hx : L[i]? = some x) : ∃ m : Nat, m < 32 ∧ 0 < (T m).length ∧ x.2 = ((m : Int), (T m).map (·.id)) := by
  have : x.2 ∈ tabsN T 32 := by rw [← hL]; exact List.mem_map.2 ⟨x, List.mem_of_getElem? hx, rfl⟩
  unfold tabsN at this
  obtain ⟨m, hm, h2⟩ := List.mem_flatMap.1 this
  split at h2
  · cases h2
  · rename_i h0
    simp only [List.mem_singleton] at h2
    exact ⟨m, List.mem_range.1 hm, by omega, h2⟩
theorem tabs_lt {T : Tabs} {L : List (Ad × TbR)} (hL : L.map (·.2) = tabsN T 32) {i j : Nat} {x y : Ad × TbR} (hij : i < j) (hx : L[i]? = some x) (hy : L[j]? = some y) : x.2.1 < y.2.1 := by
  have hp : (tabsN T 32).Pairwise (fun a b => a.1 < b.1) := by
    unfold tabsN
    rw [List.pairwise_flatMap]
    refine ⟨fun m hm => ?_, ?_⟩
    · split
      · exact List.Pairwise.nil
      · exact List.pairwise_singleton _ _
    · rw [List.pairwise_iff_getElem]
      intro a b ha hb hab p hp q hq
      simp only [List.getElem_range] at hp hq
      split at hp
      · cases hp
      · split at hq
        · cases hq
        · simp only [List.mem_singleton] at hp hq
          rw [hp, hq]
          simp only
          omega
  rw [← hL, List.pairwise_map, List.pairwise_iff_getElem] at hp
  have h1 := List.getElem?_eq_some_iff.1 hx
  have h2 := List.getElem?_eq_some_iff.1 hy
  obtain ⟨hi, rfl⟩ := h1
  obtain ⟨hj, rfl⟩ := h2
  exact hp i j hi hj hij
end Go.Proofs.Ytanbppejfhnjbaa
