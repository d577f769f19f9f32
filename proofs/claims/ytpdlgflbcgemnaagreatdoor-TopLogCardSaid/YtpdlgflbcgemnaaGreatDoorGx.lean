/- Plain laws and walks: Cod4, Cod5. -/
import Derived.Test.YtpdlgflbcgemnaaGreatDoorGw
import Derived.Test.YtpdlgflbcgemnaaGreatDoorGe
import Derived.Sort.CutIn
import Derived.Stop.RegionWithIn
-- Cod4
/- codec: numbers, an iterator: walk. -/
set_option linter.unusedSimpArgs false
set_option linter.unusedVariables false
set_option maxRecDepth 100000
namespace Go.Proofs.YtpdlgflbcgemnaaGreatDoor
open Go.RowKit
attribute [local go_sem] Oper.semAt_some
/-- the components: their bits, and where they lie in an entity -/
def crows : List (Int × Nat) := [(1, 4), (1, 5), (2, 6), (2, 7), (4, 8), (8, 9), (16, 10)]
def offs (m : Int) (k : Nat) : List Nat := ((crows.take k).filter (fun r => bitB m r.1)).map (·.2)
theorem crow_at (i : Nat) (h : i < 7) : ∃ p o, crows[i]? = some (p, o) ∧ (p = 1 ∨ p = 2 ∨ p = 4 ∨ p = 8 ∨ p = 16) ∧ 4 ≤ o ∧ o ≤ 10 := by
  rcases (by omega : i = 0 ∨ i = 1 ∨ i = 2 ∨ i = 3 ∨ i = 4 ∨ i = 5 ∨ i = 6) with rfl | rfl | rfl | rfl | rfl | rfl | rfl <;> exact ⟨_, _, rfl, by simp, by omega, by omega⟩
theorem offs_succ (m : Int) (i : Nat) {p : Int} {o : Nat} (h : crows[i]? = some (p, o)) : offs m (i + 1) = offs m i ++ (if bitB m p then [o] else []) := by
  unfold offs
  rw [List.take_add_one, h, List.filter_append, List.map_append]
  congr 1
  cases hb : bitB m p <;> simp [hb]
theorem offs_post (m : Int) (i : Nat) : ∃ post, offs m 7 = offs m i ++ post := by
  unfold offs
  refine ⟨((crows.drop i).filter (fun r => bitB m r.1)).map (·.2), ?_⟩
  rw [← List.map_append, ← List.filter_append, List.take_append_drop, List.take_of_length_le (by decide)]
def crowCs (Xb : Nat) : List Value := crows.flatMap fun r => [nI r.1, .pointer (some ⟨Xb, r.2, none⟩)]
theorem crowCs_get (Xb i : Nat) {p : Int} {o : Nat} (h : crows[i]? = some (p, o)) : (crowCs Xb)[i * 2]? = some (nI p) ∧ (crowCs Xb)[i * 2 + 1]? = some (.pointer (some ⟨Xb, o, none⟩)) := by
  have hi : i < 7 := (List.getElem?_eq_some_iff.1 h).1
  rcases (by omega : i = 0 ∨ i = 1 ∨ i = 2 ∨ i = 3 ∨ i = 4 ∨ i = 5 ∨ i = 6) with rfl | rfl | rfl | rfl | rfl | rfl | rfl <;> (cases h; exact ⟨rfl, rfl⟩)
theorem and_ne (m : Int) {p : Int} (hp : p = 1 ∨ p = 2 ∨ p = 4 ∨ p = 8 ∨ p = 16) : (bits .and .i64 m p != 0) = bitB m p := by
  have h := and_bitZ m hp
  have key : ∀ j : Nat, j ≤ 4 → p = ((2 ^ j : Nat) : Int) → (bits .and .i64 m p != 0) = bitB m p := fun j hj he => by
    rw [and_two m p j he hj] at h ⊢
    split at h
    · rw [if_pos (by assumption), ← h]; simp; omega
    · rw [if_neg (by assumption), ← h]; simp; omega
  rcases hp with hp | hp | hp | hp | hp
  · exact key 0 (by omega) (by simpa using hp)
  · exact key 1 (by omega) (by simpa using hp)
  · exact key 2 (by omega) (by simpa using hp)
  · exact key 3 (by omega) (by simpa using hp)
  · exact key 4 (by omega) (by simpa using hp)
set_option maxRecDepth 100000 in
set_option maxHeartbeats 400000 in
theorem numbers_gives (n : Nat) (hn : 5 ≤ n) (W0 : World) (Pb Xb : Nat) (m : Int) (C : List Nat → List Value) (hC : ∀ pre, (C pre)[3]? = some (nI m)) :
    SeqB Fence.wide n Tryz.prog 125 #[.pointer (some ⟨Pb, 0, none⟩)] W0 (fun o : Nat => .pointer (some ⟨Xb, o, none⟩)) (offs m 7) (fun pre => [cellsA Pb [.pointer (some ⟨Xb, 0, none⟩)], cellsA Xb (C pre)]) := by
  intro l I W hY h0
  have hn1 : 1 ≤ n := by omega
  refine callsIn_of_wp Tryz.func125 rfl trivial ?_ rfl
  simp only [Tryz.ntmps125, List.size_toArray, List.length_cons, List.length_nil, Nat.reduceAdd, Nat.reduceSub, Array.replicate_succ, Array.replicate_zero, List.push_toArray, List.append_toArray, List.nil_append, List.cons_append]
  refine wpIn_wide.2 ?_
  obtain ⟨lP, qP, _⟩ := h0.cells 0 rfl
  have p0 := qP 0 (by simp)
  simp only [List.getElem?_cons_zero] at p0
  haveI : InW Pb W := ⟨lP⟩
  clear qP lP
  replace h0 := Lib.hid h0
  replace hY := Lib.hid hY
  replace hC := Lib.hid hC
  go_upto_region 0 with fail
  go_region_held3 (fun w' => w'.cell? ⟨Pb, 0, none⟩ = some (.pointer (some ⟨Xb, 0, none⟩))) (simp [go_sem, *]) (fail)
  have O1 : Own W0 (W.alloc (.cells (crowCs Xb).toArray 187)).drew (cellsA W.heap.size (crowCs Xb) :: ([cellsA Pb [.pointer (some ⟨Xb, 0, none⟩)], cellsA Xb (C (offs m 0))] ++ I (offs m 0))) := (h0.out.newCells (crowCs Xb) 187).drew
  obtain ⟨w1, hw1⟩ : ∃ w1, (W.alloc (.cells (crowCs Xb).toArray 187)).drew = w1 := ⟨_, rfl⟩
  rw [hw1] at O1
  go_upto_block 0 with fail
  change Code.wp _ _ _ _ (W.alloc (.cells (crowCs Xb).toArray 187)).drew
  rw [hw1]
  generalize W.heap.size = Ab at *
  clear hw1 p0 h0
  replace O1 := Lib.hid O1
  go_wp2_with fail
  go_loopw [35] (fun v wr => ∃ i : Nat, i ≤ 7 ∧ v = nI i ∧ Own W0 wr (cellsA Ab (crowCs Xb) :: ([cellsA Pb [.pointer (some ⟨Xb, 0, none⟩)], cellsA Xb (C (offs m i))] ++ I (offs m i)))) (fun v _ => 7 - (intOf v).toNat)
  case atStart => exact ⟨0, by omega, rfl, O1.out⟩
  case round =>
    clear O1
    obtain ⟨i, hi, rfl, O2⟩ := hrel
    by_cases hlt : i < 7
    · have hlti : (i : Int) < 7 := by omega
      obtain ⟨p, o, hr, hp, _⟩ := crow_at i hlt
      have hcs := crowCs_get Xb i hr
      have hoff := offs_succ m i hr
      obtain ⟨post, hpost⟩ := offs_post m (i + 1)
      rw [hoff] at hpost
      have hbit := and_ne m hp
      obtain ⟨lA, qA, _⟩ := O2.cells 0 rfl
      have a0 := (qA (i * 2) (List.getElem?_eq_some_iff.1 hcs.1).1).trans hcs.1
      have a1 := (qA (i * 2 + 1) (List.getElem?_eq_some_iff.1 hcs.2).1).trans hcs.2
      obtain ⟨lP, qP, _⟩ := O2.cells 1 rfl
      have p0 := qP 0 (by simp)
      obtain ⟨lX, qX, _⟩ := O2.cells 2 rfl
      have x3 := (qX 3 (List.getElem?_eq_some_iff.1 (hC.out (offs m i))).1).trans (hC.out (offs m i))
      simp only [List.getElem?_cons_zero] at p0
      haveI : InW Ab wr := ⟨lA⟩
      haveI : InW Pb wr := ⟨lP⟩
      haveI : InW Xb wr := ⟨lX⟩
      clear qA qP qX lA lP lX hcs hr
      replace O2 := Lib.hid O2
      replace hp := Lib.hid hp
      go_upto_region 3 with fail
      refine (wpIn_wide (n := n)).1 ?_
      refine wpIn_region_grow_tail 12 (by kernel_rfl) (by kernel_rfl) ?_
      simp only [List.take_succ_cons, List.take_zero, List.drop_succ_cons, List.drop_zero]
      cases hb : bitB m p with
      | true =>
        rw [hb] at hbit hoff hpost
        simp only [if_true] at hoff hpost
        replace hb := Lib.hid hb
        repeat (go_big_quiet_step (fail))
        refine wpQuiet_nil ?_
        intro ex
        have O3 := (O2.out.alloc (.cells #[nI p, .pointer (some ⟨Xb, o, none⟩)] 187)).plus ex
        have O4 := O3.snoc
        rw [List.append_assoc] at O4
        obtain ⟨fn, tmps, assign, body, hy, hR⟩ := hY.out (offs m i) o post _ [cellsA Ab (crowCs Xb)] (by rw [hpost, List.append_assoc]; rfl) O4
        rw [← hoff] at hR
        replace hoff := Lib.hid hoff
        replace hpost := Lib.hid hpost
        clear O3 O4
        gi_wp2
        refine hR.mono ?_
        rintro e W3 ⟨rfl, O5⟩
        have O6 : Own W0 W3 (cellsA Ab (crowCs Xb) :: ([cellsA Pb [.pointer (some ⟨Xb, 0, none⟩)], cellsA Xb (C (offs m (i + 1)))] ++ I (offs m (i + 1)))) := O5.perm (by
          rw [← List.append_assoc]
          exact List.perm_append_singleton _ _)
        replace O6 := Lib.hid O6
        clear hR hy O5 a0 a1 x3
        gi_wp2
        go_wp2_with fail
        go_roundw
        case rel => exact ⟨i + 1, hlt, by go_num, O6.out⟩
        case measure => simp [intOf]; omega
      | false =>
        rw [hb] at hbit hoff hpost
        simp only [Bool.false_eq_true, if_false, List.append_nil] at hoff hpost
        replace hb := Lib.hid hb
        replace hpost := Lib.hid hpost
        repeat (go_big_quiet_step (fail))
        refine wpQuiet_nil ?_
        intro ex
        have O3 := (O2.out.alloc (.cells #[nI p, .pointer (some ⟨Xb, o, none⟩)] 187)).plus ex
        rw [← hoff] at O3
        replace O3 := Lib.hid O3
        replace hoff := Lib.hid hoff
        gi_wp2_with (refine ⟨fun _ _ => trivial, ?_⟩)
        go_wp2_with fail
        go_roundw
        case rel => exact ⟨i + 1, hlt, by go_num, O3.out⟩
        case measure => simp [intOf]; omega
    · obtain rfl : i = 7 := by omega
      replace O2 := Lib.hid O2.drop
      go_wp2_with fail
      go_end0
      exact ⟨⟨_, rfl⟩, O2.out⟩
end Go.Proofs.YtpdlgflbcgemnaaGreatDoor
-- Cod5
/- codec: put: walk. -/
set_option linter.unusedSimpArgs false
set_option linter.unusedVariables false
set_option maxRecDepth 100000
namespace Go.Proofs.YtpdlgflbcgemnaaGreatDoor
open Go.RowKit
attribute [local go_sem] Oper.semAt_some
theorem Own.atP {W wx : World} {l : List Asn} (h : Own W wx l) : ∀ wz, wx.Plus wz → Own W wz l := by
  rintro _ ⟨e, rfl⟩
  exact h.plus e
def fieldB (b : BdR) : Nat → Int
  | 4 => b.x
  | 5 => b.y
  | 6 => b.vx
  | 7 => b.vy
  | 8 => b.hp
  | 9 => b.pw
  | _ => b.lf
theorem comps_offs (m : Int) (b : BdR) : comps m b = (offs m 7).map (fieldB b) := by
  unfold comps offs crows
  cases h1 : bitB m 1 <;> cases h2 : bitB m 2 <;> cases h4 : bitB m 4 <;> cases h8 : bitB m 8 <;> cases h16 : bitB m 16 <;> simp [List.filter, fieldB, h1, h2, h4, h8, h16]
theorem enters_numbers (args : Array Value) (w : World) : (callFunc 125 args).run Tryz.prog w = .ok (.enter 125 args) w := by rfl
theorem numbers_any (Xb : Nat) (w : World) : Calls Tryz.prog 106 #[.pointer (some ⟨Xb, 0, none⟩)] w fun e w' => e = .returned (.func (.func 125) #[] #[.pointer (some ⟨w.heap.size, 0, none⟩)]) ∧ w' = w.alloc (.cells #[.pointer (some ⟨Xb, 0, none⟩)] 162) := by
  go_enter Tryz.func106, Tryz.ntmps106
  go_wp2_with fail
  go_ret
  exact ⟨rfl, rfl⟩
set_option maxRecDepth 100000 in
set_option maxHeartbeats 400000 in
theorem put_any (b : BdR) (hb : BdI b) (hm : 0 ≤ b.mask ∧ b.mask ≤ 31) (w : World) : Calls Tryz.prog 70 #[b.v] w fun e w' => e = .returned (.string (Octs.txt (restB b))) ∧ w.Plus w' := by
  obtain ⟨_, i0, i1, i2, i3, i4, i5, i6, i7⟩ := hb
  have kI := Lib.hid (fun w b c [InW b w] x h0 (hx : Octs.In64 x) => int_at1 w b c x h0 hx)
  have O0 : Own w (w.alloc (.cells #[nI b.id.s, nI b.id.i, nI b.id.g, nI b.mask, nI b.x, nI b.y, nI b.vx, nI b.vy, nI b.hp, nI b.pw, nI b.lf] 75)) (cellsA w.heap.size b.cs :: []) := Own.newCells (Own.start w) b.cs 75
  refine (callsIn_wide (n := 20)).1 ?_
  refine callsIn_of_wp_marks Tryz.func70 rfl trivial ?_ rfl
  simp only [Tryz.ntmps70, List.size_toArray, List.length_cons, List.length_nil, Nat.reduceAdd, Nat.reduceSub, Array.replicate_succ, Array.replicate_zero, List.push_toArray, List.append_toArray, List.nil_append, List.cons_append]
  refine wpIn_wide.2 ?_
  go_upto_region 1 with fail
  generalize w.heap.size = Xb at *
  obtain ⟨w1, hw1⟩ : ∃ w1, w.alloc (.cells #[nI b.id.s, nI b.id.i, nI b.id.g, nI b.mask, nI b.x, nI b.y, nI b.vx, nI b.vy, nI b.hp, nI b.pw, nI b.lf] 75) = w1 := ⟨_, rfl⟩
  rw [hw1] at O0 ⊢
  clear hw1
  obtain ⟨hIn, q0, q1, q2, q3, q4, q5, q6, q7, q8, q9, q10⟩ := (by
    obtain ⟨lB, q, _⟩ := O0.cells 0 rfl
    exact ⟨⟨lB⟩, q 0 (by simp), q 1 (by simp), q 2 (by simp), q 3 (by simp), q 4 (by simp), q 5 (by simp), q 6 (by simp), q 7 (by simp), q 8 (by simp), q 9 (by simp), q 10 (by simp)⟩ : BoxAt w1 Xb b)
  go_upto_region 2 with (go_at_call 28; (with_reducible refine (kI.out _ _ _ b.mask (by simp [go_sem]) i0).mono ?_); rintro e w' ⟨rfl, e1, rfl⟩)
  obtain ⟨S0, hS0⟩ : ∃ s, s = Octs.txt (Octs.enc b.mask) := ⟨_, rfl⟩
  rw [← hS0]
  have O1 : Own w (((w1.alloc (.cells #[nI b.mask] 3)).plus e1).alloc (.cells #[.string S0] 9)) (cellsA (w1.heap.size + 1 + e1.objs.size) [.string S0] :: cellsA Xb b.cs :: []) := by
    have := ((O0.alloc (.cells #[nI b.mask] 3)).plus e1).newCells [.string S0] 9
    rw [World.size_plus_eq, World.size_alloc] at this
    exact this
  generalize w1.heap.size + 1 + e1.objs.size = Sb at *
  obtain ⟨w2, hw2⟩ : ∃ w2, (((w1.alloc (.cells #[nI b.mask] 3)).plus e1).alloc (.cells #[.string S0] 9)) = w2 := ⟨_, rfl⟩
  rw [hw2] at O1 ⊢
  clear hw2 O0 hIn q0 q1 q2 q3 q4 q5 q6 q7 q8 q9 q10
  have O2 := O1.newCells [.pointer (some ⟨Xb, 0, none⟩)] 162
  clear O1
  go_wp2_with (go_at_call 106; (with_reducible refine (numbers_any Xb _).mono ?_); rintro e w3 ⟨rfl, rfl⟩)
  generalize w2.heap.size = Pb at *
  obtain ⟨w3, hw3⟩ : ∃ w3, w2.alloc (.cells #[.pointer (some ⟨Xb, 0, none⟩)] 162) = w3 := ⟨_, rfl⟩
  replace O2 : Own w w3 (cellsA Pb [.pointer (some ⟨Xb, 0, none⟩)] :: cellsA Sb [.string S0] :: cellsA Xb b.cs :: []) := by rw [← hw3]; exact O2
  rw [hw3]
  clear hw3
  obtain ⟨V, hV⟩ : ∃ V : List Nat → ByteArray, V = fun pre => Octs.txt (Octs.encs (b.mask :: pre.map (fieldB b))) := ⟨_, rfl⟩
  have hV0 : V [] = S0 := by rw [hV, hS0]; simp [Octs.encs]
  have hVs : ∀ pre o, V (pre ++ [o]) = V pre ++ Octs.txt (Octs.enc (fieldB b o)) := fun pre o => by
    rw [hV]
    simp [Octs.txt_append, Octs.encs]
  have hVx : V (offs b.mask 7) = Octs.txt (restB b) := by rw [hV]; unfold restB; rw [comps_offs]
  have hVl : ∀ pre, (V pre).size ≤ 9 * (pre.length + 1) := fun pre => by
    rw [hV]
    simp only
    rw [Octs.txt_size]
    have := Octs.encs_le (b.mask :: pre.map (fieldB b))
    simpa using this
  have O3 : Own w w3 ([cellsA Pb [.pointer (some ⟨Xb, 0, none⟩)], cellsA Xb b.cs] ++ (cellsA Sb [.string (V [])] :: [])) := by
    rw [hV0]
    exact O2.perm (List.Perm.cons _ (List.Perm.swap _ _ _))
  clear O2 hV hV0
  rename_i K1 hK1
  replace hK1 := Lib.hid hK1
  refine (wpIn_wide (n := 20)).1 ?_
  refine wpIn_rangeB (F := Fence.wide) (n := 20) (W0 := w) (α := Nat) 4 rfl (by omega) (gf := 125) (lb := #[.pointer (some ⟨Pb, 0, none⟩)]) rfl trivial enters_numbers (numbers_gives 19 (by omega) w Pb Xb b.mask (fun _ => b.cs) (fun _ => rfl))
    (fun pre => cellsA Sb [.string (V pre)] :: []) O3 ?assign ?body ?done
  case assign =>
    intro l x W K hK
    gi_wp2
    exact hK
  case body =>
    intro l pre o post W R hpre O
    have hom : o ∈ offs b.mask 7 := by rw [← hpre]; simp
    have hob : 4 ≤ o ∧ o ≤ 10 := by
      unfold offs at hom
      obtain ⟨r, hr, rfl⟩ := List.mem_map.1 hom
      have := List.mem_of_mem_take (List.mem_filter.1 hr).1
      unfold crows at this
      simp only [List.mem_cons, List.not_mem_nil, or_false] at this
      rcases this with rfl | rfl | rfl | rfl | rfl | rfl | rfl <;> simp
    have hfx : b.cs[o]? = some (nI (fieldB b o)) ∧ Octs.In64 (fieldB b o) := by
      rcases (by omega : o = 4 ∨ o = 5 ∨ o = 6 ∨ o = 7 ∨ o = 8 ∨ o = 9 ∨ o = 10) with rfl | rfl | rfl | rfl | rfl | rfl | rfl <;> exact ⟨rfl, by assumption⟩
    have hpl : pre.length ≤ 7 := by
      have h1 := congrArg List.length hpre
      rw [List.length_append, List.length_cons] at h1
      have h2 : (offs b.mask 7).length ≤ 7 := by
        unfold offs
        rw [List.length_map]
        exact Nat.le_trans (List.length_filter_le _ _) (by decide)
      omega
    have hVb := hVl pre
    have hE9 := Octs.enc_le (fieldB b o)
    rw [← Octs.txt_size] at hE9
    have hVo := hVs pre o
    obtain ⟨x, hx⟩ : ∃ x, x = fieldB b o := ⟨_, rfl⟩
    rw [← hx] at hfx hE9 hVo
    obtain ⟨hfx, hxi⟩ := hfx
    have kI2 := Lib.hid (fun (w : World) (b c : Nat) [InW b w] h0 => kI.out w b c x h0 hxi)
    obtain ⟨lX, qX, _⟩ := O.cells 1 rfl
    have x0 := (qX o (List.getElem?_eq_some_iff.1 hfx).1).trans hfx
    obtain ⟨lS, qS, fS⟩ := O.cells 2 rfl
    have s0 := qS 0 (by simp)
    have f0 := fS 0
    simp only [List.getElem?_cons_zero] at s0
    haveI : InW Xb W := ⟨lX⟩
    haveI : InW Sb W := ⟨lS⟩
    have O4 := O.setCellAt 2 0 (.string (V (pre ++ [o]))) rfl (by simp)
    replace O4 := Lib.hid O4
    rw [hVo] at O4
    generalize Octs.txt (Octs.enc x) = E at *
    generalize hVp : V pre = Vp at *
    have hsz : ¬ 9223372036854775807 < Vp.size + E.size := by omega
    replace hVo := Lib.hid hVo
    clear qX qS fS lX lS O hom hob hfx hpl hVb hE9 hpre hVp hVs hVx hVl O3 hK1 hm hx hS0
    simp only [rangeN, List.setIfInBounds_toArray, List.set_cons_succ, List.set_cons_zero]
    gi_upto_region 4 with fail
    gi_region_with ((refine ⟨trivial, ?_⟩; gi_at_call 28; refine (callsIn_wide.2 (kI2.out _ _ _ (by simp [go_sem, *]))).mono ?_; rintro e w' ⟨rfl, e2, rfl⟩))
    all_goals
      show Own w _ ([cellsA Pb [.pointer (some ⟨Xb, 0, none⟩)], cellsA Xb b.cs] ++ ([cellsA Sb [.string (V (pre ++ [o]))]] ++ R))
      rw [hVo.out]
      exact Own.atP O4.out _ (by (repeat (first | exact Plus.refl _ | apply Plus.plus | apply Plus.alloc | apply Plus.drew)))
  case done =>
    intro D W O
    simp only [Exit.inBlock, Exit.then]
    refine hK1.out _ _ ?_
    clear hK1
    obtain ⟨lS, qS, _⟩ := O.cells 3 rfl
    have s0 := qS 0 (by simp)
    simp only [List.getElem?_cons_zero] at s0
    haveI : InW Sb W := ⟨lS⟩
    rw [hVx] at s0
    have hK := O.raw
    have O10 := O.putRaw (.deferred none)
    replace O := Lib.hid O
    replace hVl := Lib.hid hVl
    replace hVs := Lib.hid hVs
    replace hVx := Lib.hid hVx
    go_wp2_with fail
    refine ⟨by simp, .inl ⟨_, _, rfl, run_takeDeferred hK, ?_⟩⟩
    exact ⟨_, results_tmp rfl _ _ _, by rw [← hVx.out]; rfl, O10.p⟩
end Go.Proofs.YtpdlgflbcgemnaaGreatDoor
