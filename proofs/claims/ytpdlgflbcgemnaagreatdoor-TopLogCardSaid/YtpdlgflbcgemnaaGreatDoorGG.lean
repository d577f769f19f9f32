/- Plain laws and walks: CodX, CodY. -/
import Derived.Test.YtpdlgflbcgemnaaGreatDoorGh
import Derived.Deep.CutBlock
import Derived.Deep.DeepCutAuto
-- CodX
/- codec: the reference's takeRest: walk. -/
set_option linter.unusedSimpArgs false
set_option linter.unusedVariables false
namespace Go.Proofs.YtpdlgflbcgemnaaGreatDoor
open Go.RowKit
set_option maxRecDepth 100000
set_option maxHeartbeats 1000000
theorem rInt_bad (s : ByteArray) (b : Bool) : (Octs.rInt s b).2.2 = true → (Octs.rInt s b).1 = 0 := by
  unfold Octs.rInt
  split
  · intro _; rfl
  · split
    · intro h; cases h
    · intro _; rfl
section
variable {W wx : World} {N : Nat} {s : ByteArray} {b : Bool} {l : List Asn}
theorem fill_parts (t0 : BdR × ByteArray × Bool) (m : Int) : fillB t0 (offs m 7) =
    (fun t => if bitB m 16 then stepB t 10 else t) ((fun t => if bitB m 8 then stepB t 9 else t) ((fun t => if bitB m 4 then stepB t 8 else t) ((fun t => if bitB m 2 then stepB (stepB t 6) 7 else t) ((fun t => if bitB m 1 then stepB (stepB t 4) 5 else t) t0)))) := by
  unfold fillB offs crows
  cases h1 : bitB m 1 <;> cases h2 : bitB m 2 <;> cases h4 : bitB m 4 <;> cases h8 : bitB m 8 <;> cases h16 : bitB m 16 <;> simp [List.filter, h1, h2, h4, h8, h16]
/-- a state of a reader that is read on -/
def Sound (n : Nat) (m : Int) (t : BdR × ByteArray × Bool) : Prop := t.2.1.size ≤ n ∧ inv (t.2.1, t.2.2) ∧ t.1.mask = m
theorem Sound.step {n : Nat} {m : Int} {t : BdR × ByteArray × Bool} (h : Sound n m t) (o : Nat) : Sound n m (stepB t o) := by
  obtain ⟨h1, h2, h3⟩ := h
  refine ⟨Nat.le_trans (Octs.rInt_size _ _) h1, rInt_inv2 _ _ h2, ?_⟩
  rw [← h3]
  unfold stepB setF
  split <;> rfl
end
end Go.Proofs.YtpdlgflbcgemnaaGreatDoor
-- CodY
/- codec: take: walk. -/
set_option linter.unusedSimpArgs false
set_option linter.unusedVariables false
namespace Go.Proofs.YtpdlgflbcgemnaaGreatDoor
open Go.RowKit
set_option maxRecDepth 100000
set_option maxHeartbeats 1000000
attribute [local go_sem] Oper.semAt_some
section
variable {W wx : World} {N : Nat} {s : ByteArray} {b : Bool} {l : List Asn}
theorem rdStep {n : Nat} {m : Int} {wz : World} {t : BdR × ByteArray × Bool} {l' : List Asn} (hn : n ≤ 281474976710656) (ht : Sound n m t) (O : Own W wz (Octs.rdA N t.2.1 t.2.2 :: l')) (o : Nat) :
    Calls Tryz.prog 40 #[Octs.rdV N] wz (fun e w' => ∃ x, e = .returned (nI x) ∧ (stepB t o).1 = setF t.1 o x ∧ Own W w' (Octs.rdA N (stepB t o).2.1 (stepB t o).2.2 :: l')) :=
  (Octs.rdInt_O O (Nat.le_trans ht.1 hn)).mono fun e w' h => ⟨_, h.1, rfl, h.2⟩
theorem Sound.fill {n : Nat} {m : Int} {t : BdR × ByteArray × Bool} (h : Sound n m t) (pre : List Nat) : Sound n m (fillB t pre) := by
  induction pre generalizing t with
  | nil => exact h
  | cons o r ih => exact ih (h.step o)
theorem offs_in (m : Int) (o : Nat) (hom : o ∈ offs m 7) : 4 ≤ o ∧ o ≤ 10 := by
  unfold offs at hom
  obtain ⟨r, hr, rfl⟩ := List.mem_map.1 hom
  have := List.mem_of_mem_take (List.mem_filter.1 hr).1
  unfold crows at this
  simp only [List.mem_cons, List.not_mem_nil, or_false] at this
  rcases this with rfl | rfl | rfl | rfl | rfl | rfl | rfl <;> simp
theorem take_O (h : Own W wx (Octs.rdA N s b :: l)) (hs : s.size ≤ 281474976710656) (hb : inv (s, b)) : Calls Tryz.prog 79 #[Octs.rdV N] wx (OwnTo W (tkR s b).1.v (Octs.rdA N (tkR s b).2.1 (tkR s b).2.2 :: l)) := by
  have z1 := Octs.rInt_size s b
  have i1 := rInt_inv2 s b hb
  have O0 := (h.newCells [Octs.rdV N] 87).newCells [nI 0, nI 0, nI 0, nI 0, nI 0, nI 0, nI 0, nI 0, nI 0, nI 0, nI 0] 75
  rw [World.size_alloc] at O0
  obtain ⟨w0, hw0⟩ : ∃ q, (wx.alloc (.cells #[Octs.rdV N] 87)).alloc (.cells #[nI 0, nI 0, nI 0, nI 0, nI 0, nI 0, nI 0, nI 0, nI 0, nI 0, nI 0] 75) = q := ⟨_, rfl⟩
  rw [hw0] at O0
  have k1 := Octs.rdInt_O (O0.pull 2 rfl) hs
  unfold tkR
  have hV : rawR s b = rawR s b := rfl
  conv at hV => rhs; unfold rawR
  generalize rawR s b = V at *
  rcases h1 : Octs.rInt s b with ⟨m, s1, b1⟩
  rw [h1] at k1 z1 i1 hV
  simp only at k1 z1 hV
  obtain ⟨t0, ht0⟩ : ∃ t : BdR × ByteArray × Bool, t = (⟨⟨0, 0, 0⟩, m, 0, 0, 0, 0, 0, 0, 0⟩, s1, b1) := ⟨_, rfl⟩
  rw [← ht0] at hV
  have S0 : Sound s.size m t0 := by rw [ht0]; exact ⟨z1, i1, rfl⟩
  obtain ⟨lQ, qQ, _⟩ := O0.cells 1 rfl
  have y0 := qQ 0 (by simp)
  simp only [List.getElem?_cons_zero] at y0
  haveI : InW wx.heap.size w0 := ⟨lQ⟩
  clear lQ qQ
  replace k1 : RowKit.Hid (Calls Tryz.prog 40 #[Octs.rdV N] w0 (OwnTo W (nI m) (Octs.rdA N s1 b1 :: cellsA (wx.heap.size + 1) [nI 0, nI 0, nI 0, nI 0, nI 0, nI 0, nI 0, nI 0, nI 0, nI 0, nI 0] :: cellsA wx.heap.size [Octs.rdV N] :: l))) := Lib.hid k1
  replace hw0 := Lib.hid hw0
  replace hV := Lib.hid hV
  replace ht0 := Lib.hid ht0
  replace S0 := Lib.hid S0
  have hz : s1.size ≤ 281474976710656 := by omega
  clear h1 z1 i1 O0 h hb
  refine (callsIn_wide (n := 20)).1 ?_
  refine callsIn_of_wp_marks Tryz.func79 rfl trivial ?_ rfl
  simp only [Tryz.ntmps79, List.size_toArray, List.length_cons, List.length_nil, Nat.reduceAdd, Nat.reduceSub, Array.replicate_succ, Array.replicate_zero, List.push_toArray, List.append_toArray, List.nil_append, List.cons_append]
  refine wpIn_wide.2 ?_
  go_upto_region 1 with fail
  rw [hw0.out]
  clear hw0
  generalize wx.heap.size = Rb at *
  go_upto_region 2 with (go_at_call 40; (with_reducible refine k1.out.mono ?_); clear k1; rintro e w1 ⟨rfl, P1⟩)
  have O1 := P1.newCells [nI 0, nI 0, nI 0, nI m, nI 0, nI 0, nI 0, nI 0, nI 0, nI 0, nI 0] 75
  obtain ⟨w2, hw2⟩ : ∃ q, w1.alloc (.cells #[nI 0, nI 0, nI 0, nI m, nI 0, nI 0, nI 0, nI 0, nI 0, nI 0, nI 0] 75) = q := ⟨_, rfl⟩
  rw [hw2] at O1
  rw [hw2]
  clear hw2 P1 y0
  generalize w1.heap.size = B at *
  replace O1 : Own W w2 (cellsA B [nI 0, nI 0, nI 0, nI m, nI 0, nI 0, nI 0, nI 0, nI 0, nI 0, nI 0] :: Octs.rdA N s1 b1 :: cellsA (Rb + 1) [nI 0, nI 0, nI 0, nI 0, nI 0, nI 0, nI 0, nI 0, nI 0, nI 0, nI 0] :: cellsA Rb [Octs.rdV N] :: l) := O1
  obtain ⟨lQ, qQ, fQx⟩ := O1.cells 0 rfl
  have x0 := qQ 0 (by simp)
  have x1 := qQ 1 (by simp)
  have x2 := qQ 2 (by simp)
  have x3 := qQ 3 (by simp)
  have x4 := qQ 4 (by simp)
  have x5 := qQ 5 (by simp)
  have x6 := qQ 6 (by simp)
  have x7 := qQ 7 (by simp)
  have x8 := qQ 8 (by simp)
  have x9 := qQ 9 (by simp)
  have x10 := qQ 10 (by simp)
  simp only [List.getElem?_cons_succ, List.getElem?_cons_zero] at x0 x1 x2 x3 x4 x5 x6 x7 x8 x9 x10
  haveI : InW B w2 := ⟨lQ⟩
  clear qQ lQ
  clear fQx
  obtain ⟨lQ, qQ, _⟩ := O1.cells 3 rfl
  have y0 := qQ 0 (by simp)
  simp only [List.getElem?_cons_zero] at y0
  haveI : InW Rb w2 := ⟨lQ⟩
  clear lQ qQ
  by_cases hbad : m < 0 ∨ 31 < m
  · obtain rfl : V = (bdZ, ⟨#[]⟩, true) := hV.out.trans (if_pos hbad)
    clear hV ht0 S0
    have kS := Lib.hid (spoil_O O1.rot1 hz)
    replace O1 := Lib.hid O1
    by_cases hm0 : m < 0
    · clear hbad
      go_upto_region 4 with (go_at_call 76; (with_reducible refine kS.out.mono ?_); rintro e w6 ⟨rfl, O6⟩; clear kS O1 y0 x0 x1 x2 x3 x4 x5 x6 x7 x8 x9 x10; obtain ⟨lQ, qQ, fQr⟩ := O6.cells 2 rfl; have r0 := qQ 0 (by simp); have r1 := qQ 1 (by simp); have r2 := qQ 2 (by simp); have r3 := qQ 3 (by simp); have r4 := qQ 4 (by simp); have r5 := qQ 5 (by simp); have r6 := qQ 6 (by simp); have r7 := qQ 7 (by simp); have r8 := qQ 8 (by simp); have r9 := qQ 9 (by simp); have r10 := qQ 10 (by simp); simp only [List.getElem?_cons_succ, List.getElem?_cons_zero] at r0 r1 r2 r3 r4 r5 r6 r7 r8 r9 r10; haveI : InW (Rb + 1) w6 := ⟨lQ⟩; clear qQ lQ; replace O6 := Lib.hid O6)
      go_wp2_with fail
      have OZ := (((((((((((O6.out.setCellAt 2 0 (nI 0) rfl (by simp)).setCellAt 2 1 (nI 0) rfl (by simp)).setCellAt 2 2 (nI 0) rfl (by simp)).setCellAt 2 3 (nI 0) rfl (by simp)).setCellAt 2 4 (nI 0) rfl (by simp)).setCellAt 2 5 (nI 0) rfl (by simp)).setCellAt 2 6 (nI 0) rfl (by simp)).setCellAt 2 7 (nI 0) rfl (by simp)).setCellAt 2 8 (nI 0) rfl (by simp)).setCellAt 2 9 (nI 0) rfl (by simp)).setCellAt 2 10 (nI 0) rfl (by simp))
      simp only [List.set_cons_succ, List.set_cons_zero] at OZ
      clear O6 fQr r0 r1 r2 r3 r4 r5 r6 r7 r8 r9 r10
      obtain ⟨wf, hwf⟩ : ∃ q, (((((((((((w6.setCell ⟨(Rb + 1), 0, none⟩ (nI 0)).setCell ⟨(Rb + 1), 1, none⟩ (nI 0)).setCell ⟨(Rb + 1), 2, none⟩ (nI 0)).setCell ⟨(Rb + 1), 3, none⟩ (nI 0)).setCell ⟨(Rb + 1), 4, none⟩ (nI 0)).setCell ⟨(Rb + 1), 5, none⟩ (nI 0)).setCell ⟨(Rb + 1), 6, none⟩ (nI 0)).setCell ⟨(Rb + 1), 7, none⟩ (nI 0)).setCell ⟨(Rb + 1), 8, none⟩ (nI 0)).setCell ⟨(Rb + 1), 9, none⟩ (nI 0)).setCell ⟨(Rb + 1), 10, none⟩ (nI 0)) = q := ⟨_, rfl⟩
      rw [hwf] at OZ
      refine Eq.mpr (congrArg (bodyPostM _ _ _ _ _ _ _) hwf) ?_
      clear hwf
      obtain ⟨-, q9, -⟩ := OZ.cells 2 rfl
      have r0 := q9 0 (by simp)
      have r1 := q9 1 (by simp)
      have r2 := q9 2 (by simp)
      have r3 := q9 3 (by simp)
      have r4 := q9 4 (by simp)
      have r5 := q9 5 (by simp)
      have r6 := q9 6 (by simp)
      have r7 := q9 7 (by simp)
      have r8 := q9 8 (by simp)
      have r9 := q9 9 (by simp)
      have r10 := q9 10 (by simp)
      simp only [List.getElem?_cons_succ, List.getElem?_cons_zero] at r0 r1 r2 r3 r4 r5 r6 r7 r8 r9 r10
      clear q9
      exact ⟨bdZ.v, (by simp [results, Tryz.results79, go_sem, *]), rfl, OZ.rot1.drop.rot1.drop.rot1.drop⟩
    · have hm1 : 31 < m := by omega
      clear hbad
      go_upto_region 4 with (go_at_call 76; (with_reducible refine kS.out.mono ?_); rintro e w6 ⟨rfl, O6⟩; clear kS O1 y0 x0 x1 x2 x3 x4 x5 x6 x7 x8 x9 x10; obtain ⟨lQ, qQ, fQr⟩ := O6.cells 2 rfl; have r0 := qQ 0 (by simp); have r1 := qQ 1 (by simp); have r2 := qQ 2 (by simp); have r3 := qQ 3 (by simp); have r4 := qQ 4 (by simp); have r5 := qQ 5 (by simp); have r6 := qQ 6 (by simp); have r7 := qQ 7 (by simp); have r8 := qQ 8 (by simp); have r9 := qQ 9 (by simp); have r10 := qQ 10 (by simp); simp only [List.getElem?_cons_succ, List.getElem?_cons_zero] at r0 r1 r2 r3 r4 r5 r6 r7 r8 r9 r10; haveI : InW (Rb + 1) w6 := ⟨lQ⟩; clear qQ lQ; replace O6 := Lib.hid O6)
      go_wp2_with fail
      have OZ := (((((((((((O6.out.setCellAt 2 0 (nI 0) rfl (by simp)).setCellAt 2 1 (nI 0) rfl (by simp)).setCellAt 2 2 (nI 0) rfl (by simp)).setCellAt 2 3 (nI 0) rfl (by simp)).setCellAt 2 4 (nI 0) rfl (by simp)).setCellAt 2 5 (nI 0) rfl (by simp)).setCellAt 2 6 (nI 0) rfl (by simp)).setCellAt 2 7 (nI 0) rfl (by simp)).setCellAt 2 8 (nI 0) rfl (by simp)).setCellAt 2 9 (nI 0) rfl (by simp)).setCellAt 2 10 (nI 0) rfl (by simp))
      simp only [List.set_cons_succ, List.set_cons_zero] at OZ
      clear O6 fQr r0 r1 r2 r3 r4 r5 r6 r7 r8 r9 r10
      obtain ⟨wf, hwf⟩ : ∃ q, (((((((((((w6.setCell ⟨(Rb + 1), 0, none⟩ (nI 0)).setCell ⟨(Rb + 1), 1, none⟩ (nI 0)).setCell ⟨(Rb + 1), 2, none⟩ (nI 0)).setCell ⟨(Rb + 1), 3, none⟩ (nI 0)).setCell ⟨(Rb + 1), 4, none⟩ (nI 0)).setCell ⟨(Rb + 1), 5, none⟩ (nI 0)).setCell ⟨(Rb + 1), 6, none⟩ (nI 0)).setCell ⟨(Rb + 1), 7, none⟩ (nI 0)).setCell ⟨(Rb + 1), 8, none⟩ (nI 0)).setCell ⟨(Rb + 1), 9, none⟩ (nI 0)).setCell ⟨(Rb + 1), 10, none⟩ (nI 0)) = q := ⟨_, rfl⟩
      rw [hwf] at OZ
      refine Eq.mpr (congrArg (bodyPostM _ _ _ _ _ _ _) hwf) ?_
      clear hwf
      obtain ⟨-, q9, -⟩ := OZ.cells 2 rfl
      have r0 := q9 0 (by simp)
      have r1 := q9 1 (by simp)
      have r2 := q9 2 (by simp)
      have r3 := q9 3 (by simp)
      have r4 := q9 4 (by simp)
      have r5 := q9 5 (by simp)
      have r6 := q9 6 (by simp)
      have r7 := q9 7 (by simp)
      have r8 := q9 8 (by simp)
      have r9 := q9 9 (by simp)
      have r10 := q9 10 (by simp)
      simp only [List.getElem?_cons_succ, List.getElem?_cons_zero] at r0 r1 r2 r3 r4 r5 r6 r7 r8 r9 r10
      clear q9
      exact ⟨bdZ.v, (by simp [results, Tryz.results79, go_sem, *]), rfl, OZ.rot1.drop.rot1.drop.rot1.drop⟩
  · have hm0 : ¬ m < 0 := fun h => hbad (.inl h)
    have hm1 : ¬ 31 < m := fun h => hbad (.inr h)
    replace hV : RowKit.Hid (V = _) := Lib.hid (hV.out.trans (if_neg hbad))
    clear hbad
    have O2 := O1.newCells [.pointer (some ⟨B, 0, none⟩)] 162
    replace O1 := Lib.hid O1
    go_wp2_with (go_at_call 106; (with_reducible refine (numbers_any B _).mono ?_); rintro e w3 ⟨rfl, rfl⟩)
    generalize w2.heap.size = Pb at *
    obtain ⟨w3, hw3⟩ : ∃ w3, w2.alloc (.cells #[.pointer (some ⟨B, 0, none⟩)] 162) = w3 := ⟨_, rfl⟩
    rw [hw3] at O2
    try rw [hw3]
    clear hw3 O1 x0 x1 x2 x3 x4 x5 x6 x7 x8 x9 x10 y0
    obtain ⟨I, hI⟩ : ∃ I : List Nat → List Asn, I = fun pre => Octs.rdA N (fillB t0 pre).2.1 (fillB t0 pre).2.2 :: cellsA (Rb + 1) [nI 0, nI 0, nI 0, nI 0, nI 0, nI 0, nI 0, nI 0, nI 0, nI 0, nI 0] :: cellsA Rb [Octs.rdV N] :: l := ⟨_, rfl⟩
    have O3 : Own W w3 ([cellsA Pb [.pointer (some ⟨B, 0, none⟩)], cellsA B (fillB t0 []).1.cs] ++ I []) := by
      rw [hI, show fillB t0 [] = t0 from rfl, ht0.out]
      exact O2
    clear O2 ht0
    rename_i K1 hK1
    replace hK1 := Lib.hid hK1
    refine (wpIn_wide (n := 20)).1 ?_
    refine wpIn_rangeB (F := Fence.wide) (n := 20) (W0 := W) (α := Nat) 4 rfl (by omega) (gf := 125) (lb := #[.pointer (some ⟨Pb, 0, none⟩)]) rfl trivial enters_numbers (numbers_gives 19 (by omega) W Pb B m (fun pre => (fillB t0 pre).1.cs) (fun pre => by have := (S0.out.fill pre).2.2; show some (nI (fillB t0 pre).1.mask) = _; rw [this]))
      I O3 ?assign ?body ?done
    case assign =>
      intro l x W K hK
      gi_wp2
      exact hK
    case body =>
      intro ln pre o post wz R hpre O
      have ho := offs_in m o (by rw [← hpre]; simp)
      have hS := S0.out.fill pre
      rw [hI] at O ⊢
      simp only [rangeN, List.setIfInBounds_toArray, List.set_cons_succ, List.set_cons_zero]
      have kR := Lib.hid (rdStep hs hS (O.pull 2 rfl) o)
      obtain ⟨lQ, qQ, _⟩ := O.cells 4 rfl
      have y0 := qQ 0 (by simp)
      simp only [List.getElem?_cons_zero] at y0
      haveI : InW Rb wz := ⟨lQ⟩
      clear lQ qQ
      obtain ⟨y, hy⟩ : ∃ y, (fillB t0 pre).1.cs[o]? = some (nI y) := by
        rcases (by omega : o = 4 ∨ o = 5 ∨ o = 6 ∨ o = 7 ∨ o = 8 ∨ o = 9 ∨ o = 10) with rfl | rfl | rfl | rfl | rfl | rfl | rfl <;> exact ⟨_, rfl⟩
      have hset := fun x => setF_cs (fillB t0 pre).1 o x ho
      have hsn := fillB_snoc t0 pre o
      replace hset := Lib.hid hset
      replace hsn := Lib.hid hsn
      replace hpre := Lib.hid hpre
      replace hI := Lib.hid hI
      replace O := Lib.hid O
      clear O3 hS hV
      gi_wp2_with ((refine ⟨trivial, ?_⟩; gi_at_call 40; refine (callsIn_wide.2 kR.out).mono ?_; rintro e v ⟨x, rfl, hx, P⟩; replace hx := Lib.hid hx; obtain ⟨lQ, qQ, fQ⟩ := P.cells 2 rfl; have xo := (qQ o (List.getElem?_eq_some_iff.1 hy).1).trans hy; have fo := fQ o; haveI : InW B v := ⟨lQ⟩; clear qQ fQ lQ; replace P := Lib.hid P))
      show Own W (v.setCell ⟨B, o, none⟩ (nI x)) ([cellsA Pb [.pointer (some ⟨B, 0, none⟩)], cellsA B (fillB t0 (pre ++ [o])).1.cs] ++ ((Octs.rdA N (fillB t0 (pre ++ [o])).2.1 (fillB t0 (pre ++ [o])).2.2 :: cellsA (Rb + 1) [nI 0, nI 0, nI 0, nI 0, nI 0, nI 0, nI 0, nI 0, nI 0, nI 0, nI 0] :: cellsA Rb [Octs.rdV N] :: l) ++ R))
      rw [hsn.out, hx.out, hset.out]
      have P2 := Own.push ([cellsA Pb [.pointer (some ⟨B, 0, none⟩)], cellsA B (fillB t0 pre).1.cs] ++ ((Octs.rdA N (fillB t0 pre).2.1 (fillB t0 pre).2.2 :: cellsA (Rb + 1) [nI 0, nI 0, nI 0, nI 0, nI 0, nI 0, nI 0, nI 0, nI 0, nI 0, nI 0] :: cellsA Rb [Octs.rdV N] :: l) ++ R)) 2 (by simp) P.out
      exact P2.setCellAt 1 o (nI x) rfl (List.getElem?_eq_some_iff.1 hy).1
    case done =>
      intro D w6 O
      simp only [Exit.inBlock, Exit.then]
      refine hK1.out _ _ ?_
      clear hK1
      have hS := S0.out.fill (offs m 7)
      simp only [hI] at O
      rw [← hV.out] at O hS
      clear hI O3 hV S0
      replace O : Own W w6 (rawA D (.deferred (some [])) :: cellsA Pb [.pointer (some ⟨B, 0, none⟩)] :: cellsA B V.1.cs :: Octs.rdA N V.2.1 V.2.2 :: cellsA (Rb + 1) [nI 0, nI 0, nI 0, nI 0, nI 0, nI 0, nI 0, nI 0, nI 0, nI 0, nI 0] :: cellsA Rb [Octs.rdV N] :: l) := O
      have kS : Calls Tryz.prog 81 #[Octs.rdV N, V.1.v, nI 0] w6 (OwnTo W (snd true bdZ V.1 V.2.1 V.2.2).1.v (Octs.rdA N (snd true bdZ V.1 V.2.1 V.2.2).2.1 (snd true bdZ V.1 V.2.1 V.2.2).2.2 :: rawA D (.deferred (some [])) :: cellsA Pb [.pointer (some ⟨B, 0, none⟩)] :: cellsA B V.1.cs :: cellsA (Rb + 1) [nI 0, nI 0, nI 0, nI 0, nI 0, nI 0, nI 0, nI 0, nI 0, nI 0, nI 0] :: cellsA Rb [Octs.rdV N] :: l)) := soundB_any (O.pull 3 rfl) (Nat.le_trans hS.1 hs) hS.2.1 V.1 true
      generalize snd true bdZ V.1 V.2.1 V.2.2 = t at kS ⊢
      obtain ⟨⟨⟨u0, u1, u2⟩, u3, u4, u5, u6, u7, u8, u9, u10⟩, s7, b7⟩ := t
      replace kS := Lib.hid kS
      clear hS
      obtain ⟨lQ, qQ, fQx⟩ := O.cells 2 rfl
      have x0 := qQ 0 (by simp)
      have x1 := qQ 1 (by simp)
      have x2 := qQ 2 (by simp)
      have x3 := qQ 3 (by simp)
      have x4 := qQ 4 (by simp)
      have x5 := qQ 5 (by simp)
      have x6 := qQ 6 (by simp)
      have x7 := qQ 7 (by simp)
      have x8 := qQ 8 (by simp)
      have x9 := qQ 9 (by simp)
      have x10 := qQ 10 (by simp)
      simp only [List.getElem?_cons_succ, List.getElem?_cons_zero] at x0 x1 x2 x3 x4 x5 x6 x7 x8 x9 x10
      haveI : InW B w6 := ⟨lQ⟩
      clear qQ lQ
      clear fQx
      obtain ⟨lQ, qQ, _⟩ := O.cells 5 rfl
      have y0 := qQ 0 (by simp)
      simp only [List.getElem?_cons_zero] at y0
      haveI : InW Rb w6 := ⟨lQ⟩
      clear lQ qQ
      replace O := Lib.hid O
      go_wp2_with (go_at_call 81; (with_reducible refine kS.out.mono ?_); rintro e w7 ⟨rfl, O7⟩; clear kS O x0 x1 x2 x3 x4 x5 x6 x7 x8 x9 x10 y0; obtain ⟨lQ, qQ, fQr⟩ := O7.cells 4 rfl; have r0 := qQ 0 (by simp); have r1 := qQ 1 (by simp); have r2 := qQ 2 (by simp); have r3 := qQ 3 (by simp); have r4 := qQ 4 (by simp); have r5 := qQ 5 (by simp); have r6 := qQ 6 (by simp); have r7 := qQ 7 (by simp); have r8 := qQ 8 (by simp); have r9 := qQ 9 (by simp); have r10 := qQ 10 (by simp); simp only [List.getElem?_cons_succ, List.getElem?_cons_zero] at r0 r1 r2 r3 r4 r5 r6 r7 r8 r9 r10; haveI : InW (Rb + 1) w7 := ⟨lQ⟩; clear qQ lQ; replace O7 := Lib.hid O7)
      have OZ := (((((((((((O7.out.setCellAt 4 0 (nI u0) rfl (by simp)).setCellAt 4 1 (nI u1) rfl (by simp)).setCellAt 4 2 (nI u2) rfl (by simp)).setCellAt 4 3 (nI u3) rfl (by simp)).setCellAt 4 4 (nI u4) rfl (by simp)).setCellAt 4 5 (nI u5) rfl (by simp)).setCellAt 4 6 (nI u6) rfl (by simp)).setCellAt 4 7 (nI u7) rfl (by simp)).setCellAt 4 8 (nI u8) rfl (by simp)).setCellAt 4 9 (nI u9) rfl (by simp)).setCellAt 4 10 (nI u10) rfl (by simp))
      simp only [List.set_cons_succ, List.set_cons_zero] at OZ
      clear O7 fQr r0 r1 r2 r3 r4 r5 r6 r7 r8 r9 r10
      obtain ⟨wf, hwf⟩ : ∃ q, (((((((((((w7.setCell ⟨(Rb + 1), 0, none⟩ (nI u0)).setCell ⟨(Rb + 1), 1, none⟩ (nI u1)).setCell ⟨(Rb + 1), 2, none⟩ (nI u2)).setCell ⟨(Rb + 1), 3, none⟩ (nI u3)).setCell ⟨(Rb + 1), 4, none⟩ (nI u4)).setCell ⟨(Rb + 1), 5, none⟩ (nI u5)).setCell ⟨(Rb + 1), 6, none⟩ (nI u6)).setCell ⟨(Rb + 1), 7, none⟩ (nI u7)).setCell ⟨(Rb + 1), 8, none⟩ (nI u8)).setCell ⟨(Rb + 1), 9, none⟩ (nI u9)).setCell ⟨(Rb + 1), 10, none⟩ (nI u10)) = q := ⟨_, rfl⟩
      rw [hwf] at OZ
      refine Eq.mpr (congrArg (bodyPostM _ _ _ _ _ _ _) hwf) ?_
      clear hwf
      have OY := OZ.pull 1 rfl
      have hK := OY.raw
      have OX := OY.putRaw (.deferred none)
      refine ⟨by simp, .inl ⟨_, _, rfl, run_takeDeferred hK, ?_⟩⟩
      obtain ⟨-, q9, -⟩ := OX.cells 4 rfl
      have r0 := q9 0 (by simp)
      have r1 := q9 1 (by simp)
      have r2 := q9 2 (by simp)
      have r3 := q9 3 (by simp)
      have r4 := q9 4 (by simp)
      have r5 := q9 5 (by simp)
      have r6 := q9 6 (by simp)
      have r7 := q9 7 (by simp)
      have r8 := q9 8 (by simp)
      have r9 := q9 9 (by simp)
      have r10 := q9 10 (by simp)
      simp only [List.getElem?_cons_succ, List.getElem?_cons_zero] at r0 r1 r2 r3 r4 r5 r6 r7 r8 r9 r10
      clear q9
      exact ⟨.agg #[nI u0, nI u1, nI u2, nI u3, nI u4, nI u5, nI u6, nI u7, nI u8, nI u9, nI u10], (by simp [results, Tryz.results79, go_sem, *]), rfl, OX.drop.rot1.drop.rot1.drop.rot1.drop.rot1.drop⟩
end
end Go.Proofs.YtpdlgflbcgemnaaGreatDoor
