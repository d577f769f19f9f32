/- arch: add: walk. -/
import Derived.Test.YtkdagljoiacaaaaAr4
import Derived.Deep.CutBlock
set_option linter.unusedSimpArgs false
set_option linter.unusedVariables false
namespace Go.Proofs.Ytkdagljoiacaaaa
open Go.RowKit
/-- the columns of a table, as add and cut ask for them: seven pointers in a row -/
def colPs (S m : Nat) : List Value := (List.range 7).map fun i => .pointer (some ⟨S, m * 8 + 1 + i, none⟩)
set_option maxRecDepth 100000 in
set_option maxHeartbeats 4000000 in
theorem columns_any (S m : Nat) (w : World) : Calls Try.prog 51 #[.pointer (some ⟨S, m * 8, none⟩)] w fun e w' => ∃ B, e = .returned (.slice (some ⟨B, 0, none⟩) 7 7) ∧ w.heap.size ≤ B ∧ B < w'.heap.size ∧ w.Plus w' ∧ (∀ i, w'.frozen? ⟨B, i, none⟩ = false) ∧ (∀ i, i < 7 → w'.cell? ⟨B, i, none⟩ = some (.pointer (some ⟨S, m * 8 + 1 + i, none⟩))) := by
  go_enter Try.func51, Try.ntmps51
  go_wp2_with fail
  go_region
  go_wp2_with fail
  refine bodyPost_ret (results_tmp rfl _ _ _) rfl ⟨w.heap.size, rfl, Nat.le_refl _, by simp, by (repeat (first | exact Plus.refl _ | apply Plus.plus | apply Plus.alloc | apply Plus.drew)), fun i => by simp [go_sem], fun i hi => ?_⟩
  match i, hi with
  | 0, _ => simp [go_sem]
  | 1, _ => simp [go_sem]
  | 2, _ => simp [go_sem]
  | 3, _ => simp [go_sem]
  | 4, _ => simp [go_sem]
  | 5, _ => simp [go_sem]
  | 6, _ => simp [go_sem]
theorem colPs_get (S m i : Nat) (h : i < 7) : (colPs S m)[i]? = some (.pointer (some ⟨S, m * 8 + 1 + i, none⟩)) := by simp [colPs, h]
theorem columns_O {W w : World} {l : List Asn} (O : Own W w l) (S m : Nat) : Calls Try.prog 51 #[.pointer (some ⟨S, m * 8, none⟩)] w fun e w' => ∃ B, e = .returned (.slice (some ⟨B, 0, none⟩) 7 7) ∧ Own W w' (cellsA B (colPs S m) :: l) := by
  refine (columns_any S m w).mono ?_
  rintro e w' ⟨B, rfl, h1, h2, h3, h4, h5⟩
  refine ⟨B, rfl, Own.add (A := fun k => k = B) O (Chg.of_Plus h3 _) ⟨fun k => Iff.rfl, h2, fun i hi => ?_, h4⟩ (fun k hk => by omega)⟩
  have hi7 : i < 7 := by simpa [colPs] using hi
  rw [h5 i hi7, colPs_get S m i hi7]
theorem numbers_any (b : BdR) (w : World) : Calls Try.prog 52 #[b.v] w fun e w' => ∃ B, e = .returned (.slice (some ⟨B, 0, none⟩) 7 7) ∧ w.heap.size ≤ B ∧ B < w'.heap.size ∧ w.Plus w' ∧ (∀ i, i < 7 → w'.cell? ⟨B, i, none⟩ = some (nI (num (i + 1) b))) := by
  go_enter Try.func52, Try.ntmps52
  go_wp2_with fail
  refine bodyPost_ret (results_tmp rfl _ _ _) rfl ⟨w.heap.size + 1, rfl, by omega, by simp, by (repeat (first | exact Plus.refl _ | apply Plus.plus | apply Plus.alloc | apply Plus.drew)), fun i hi => ?_⟩
  match i, hi with
  | 0, _ => simp [go_sem, num]
  | 1, _ => simp [go_sem, num]
  | 2, _ => simp [go_sem, num]
  | 3, _ => simp [go_sem, num]
  | 4, _ => simp [go_sem, num]
  | 5, _ => simp [go_sem, num]
  | 6, _ => simp [go_sem, num]
theorem underPlace : Try.prog.underlying 65 = some (.map 38 77) := by kernel_rfl
theorem underIDs : Try.prog.underlying 66 = some (.slice 38) := by kernel_rfl
theorem underInts : Try.prog.underlying 62 = some (.slice 3) := by kernel_rfl
theorem infoID : (Try.prog.info? 38).map (fun i => (i.zero, i.size, i.bytes)) = some (some (.agg #[nI 0, nI 0, nI 0]), 3, 24) := by kernel_rfl
theorem infoInt : (Try.prog.info? 3).map (fun i => (i.zero, i.size, i.bytes)) = some (some (nI 0), 1, 8) := by kernel_rfl
theorem src_int (w : World) (B : Nat) (x : Int) (h : w.cell? ⟨B, 0, none⟩ = some (nI x)) : Src Try.prog 1 62 (.slice (some ⟨B, 0, none⟩) 1 1) 1 [nI x] w := by
  refine Src.ofCells underInts _ _ rfl (fun j hj => ?_) (fun u hu => ?_) 1
  · match j, hj with
    | 0, _ => exact h
    | j + 1, hj => simp at hj
  · simp only [List.mem_cons, List.not_mem_nil, or_false] at hu
    rw [hu]; rfl
theorem src_id (w : World) (B : Nat) (a : IdR) (h0 : w.cell? ⟨B, 0, none⟩ = some (nI a.s)) (h1 : w.cell? ⟨B, 1, none⟩ = some (nI a.i)) (h2 : w.cell? ⟨B, 2, none⟩ = some (nI a.g)) : Src Try.prog 3 66 (.slice (some ⟨B, 0, none⟩) 1 1) 1 [nI a.s, nI a.i, nI a.g] w := by
  refine Src.ofCells underIDs _ _ rfl (fun j hj => ?_) (fun u hu => ?_) 1
  · match j, hj with
    | 0, _ => exact h0
    | 1, _ => exact h1
    | 2, _ => exact h2
    | j + 3, hj => simp at hj; omega
  · simp only [List.mem_cons, List.not_mem_nil, or_false] at hu
    rcases hu with rfl | rfl | rfl <;> rfl
/-- a column grows, and its slice is laid into the store -/
theorem col_push {W w : World} {S M : Nat} {c : Nat → Col} {n : Nat} {F : IdR → Option (Nat × Nat)} {l : List Asn} {j : Nat} {A : Option Addr} {k cp : Nat} {cs : List Value} (hj : j < 256)
    (h : Own W w (slA (szc j) (.slice A k cp) k cs :: bothA ((colsL c 256).eraseIdx j) :: cellsA S (cellsL c 256 (.map (some M))) :: mapA IdR.v plV IdW M n F :: l)) :
    Own W (w.setCell ⟨S, j, none⟩ (.slice A k cp)) (storeL S M (upd c j ⟨(A, cp), k, cs⟩) n F l) := by
  have h1 := cols_push (x := ⟨(A, cp), k, cs⟩) h hj
  have h2 := h1.setCellAt 1 j (.slice A k cp) rfl (by rw [cellsL_length]; omega)
  unfold storeL
  rw [cellsL_upd c 256 j _ _ hj]
  exact h2
/-- the tables' columns, as far as the i-th one of table m as T', the others as T -/
def Tab2 (T T' : Tabs) (m i : Nat) (c : Nat → Col) : Prop := ∀ j, j < 256 → if j / 8 = m ∧ j % 8 < i then (c j).n = (T' m).length ∧ (c j).cs = colCs (j % 8) (T' m) else (c j).n = (T (j / 8)).length ∧ (c j).cs = colCs (j % 8) (T (j / 8))
theorem Tab2.start {T T' : Tabs} {m : Nat} {c : Nat → Col} (h : Tab T c) : Tab2 T T' m 0 c := fun j hj => by rw [if_neg (by omega)]; exact h j hj
theorem Tab2.stop {T T' : Tabs} {m : Nat} {c : Nat → Col} (h : Tab2 T T' m 8 c) (hT : ∀ k, k ≠ m → T' k = T k) : Tab T' c := fun j hj => by
  have := h j hj
  by_cases e : j / 8 = m
  · rw [if_pos ⟨e, by omega⟩] at this
    rw [e]
    exact this
  · rw [if_neg (fun x => e x.1)] at this
    rw [hT _ e]
    exact this
theorem Tab2.at {T T' : Tabs} {m i : Nat} {c : Nat → Col} (h : Tab2 T T' m i c) (hm : m < 32) (hi : i < 8) : (c (m * 8 + i)).n = (T m).length ∧ (c (m * 8 + i)).cs = colCs i (T m) := by
  have := h (m * 8 + i) (by omega)
  rw [if_neg (by omega), show (m * 8 + i) / 8 = m by omega, show (m * 8 + i) % 8 = i by omega] at this
  exact this
theorem Tab2.next {T T' : Tabs} {m i : Nat} {c : Nat → Col} (h : Tab2 T T' m i c) (hm : m < 32) (hi : i < 8) (x : Col) (hx : x.n = (T' m).length ∧ x.cs = colCs i (T' m)) : Tab2 T T' m (i + 1) (upd c (m * 8 + i) x) := fun j hj => by
  have := h j hj
  by_cases e : j = m * 8 + i
  · subst e
    rw [if_pos (by omega), upd_at, show (m * 8 + i) % 8 = i by omega]
    exact hx
  · rw [upd_ne _ _ e]
    by_cases e2 : j / 8 = m ∧ j % 8 < i
    · rw [if_pos e2] at this
      rw [if_pos ⟨e2.1, by omega⟩]
      exact this
    · rw [if_neg e2] at this
      rw [if_neg (by omega)]
      exact this
theorem colCs_snoc (k : Nat) (l : List BdR) (b : BdR) : colCs k (l ++ [b]) = colCs k l ++ colOf k b := by simp [colCs]
theorem box_at {W wz : World} {l : List Asn} {X : Nat} {b : BdR} (i : Nat) (O : Own W wz l) (hi : l[i]? = some (cellsA X [nI b.id.s, nI b.id.i, nI b.id.g, nI b.mask, nI b.x, nI b.y, nI b.vx, nI b.vy, nI b.hp, nI b.pw, nI b.lf])) : BoxAt wz X b := by
  obtain ⟨lB, q, _⟩ := O.cells i hi
  exact ⟨⟨lB⟩, q 0 (by simp), q 1 (by simp), q 2 (by simp), q 3 (by simp), q 4 (by simp), q 5 (by simp), q 6 (by simp), q 7 (by simp), q 8 (by simp), q 9 (by simp), q 10 (by simp)⟩
set_option maxRecDepth 100000 in
set_option maxHeartbeats 4000000 in
theorem add_O {W wx : World} {S : Nat} {T : Tabs} {l : List Asn} (h : Own W wx (storeA S T :: l)) (hg : GoodT T) (b : BdR) (hb : okB b = true) (hn : findT T b.id = none) (ht : total T ≤ 100000) :
    Calls Try.prog 49 #[chP S, b.v] wx (OwnTo W (.tuple #[]) (storeA S (putT T b) :: l)) := by
  obtain ⟨i0, hi0, hz0, hz1, hz2⟩ := info_parts infoID
  obtain ⟨j0, hj0, hy0, hy1, hy2⟩ := info_parts infoInt
  replace hi0 := Lib.hid hi0
  replace hz0 := Lib.hid hz0
  replace hz1 := Lib.hid hz1
  replace hz2 := Lib.hid hz2
  replace hj0 := Lib.hid hj0
  replace hy0 := Lib.hid hy0
  replace hy1 := Lib.hid hy1
  replace hy2 := Lib.hid hy2
  obtain ⟨⟨M, c⟩, O⟩ := h.ex
  have hTab : Tab T c := Own.fact 3 O rfl
  have hlen : (T b.mask.toNat).length ≤ 100000 := Nat.le_trans (len_total T _ (okB_mk hb).1) ht
  have hput : ∀ k, k ≠ b.mask.toNat → putT T b k = T k := fun k hk => upd_ne _ _ hk
  have hat : putT T b b.mask.toNat = T b.mask.toNat ++ [b] := upd_at _ _ _
  have hfind : findT (putT T b) = fun c => if c = b.id then some (b.mask.toNat, (T b.mask.toNat).length) else findT T c := funext fun c => find_put hg hb hn c
  have htot : total (putT T b) = if (findT T b.id).isSome then total T else total T + 1 := by rw [hn]; exact total_put T b hb
  obtain ⟨hm32, hmask⟩ := okB_mk hb
  have hid := okB_id hb
  generalize putT T b = T' at *
  obtain ⟨m, hm⟩ : ∃ m, m = b.mask.toNat := ⟨_, rfl⟩
  rw [← hm] at hm32 hmask hlen hput hat hfind
  clear hm hn hb hg h
  obtain ⟨⟨is, ii, ig⟩, bm, bx, by', bvx, bvy, bhp, bpw, blf⟩ := b
  dsimp only at hmask hid hfind htot
  subst hmask
  have O1 := Own.newCells (O.pull 3 rfl).drop [nI is, nI ii, nI ig, nI (m : Int), nI bx, nI by', nI bvx, nI bvy, nI bhp, nI bpw, nI blf] 40
  clear O
  replace hTab := Lib.hid hTab
  replace hput := Lib.hid hput
  replace hat := Lib.hid hat
  replace hfind := Lib.hid hfind
  replace htot := Lib.hid htot
  have hm32i : (m : Int) < 32 := by omega
  have hN := Lib.hid (fun wz => numbers_any ⟨⟨is, ii, ig⟩, (m : Int), bx, by', bvx, bvy, bhp, bpw, blf⟩ wz)
  generalize hX : wx.heap.size = X at *
  generalize hwy : wx.alloc (.cells [nI is, nI ii, nI ig, nI (m : Int), nI bx, nI by', nI bvx, nI bvy, nI bhp, nI bpw, nI blf].toArray 40) = wy at *
  have B1 := box_at (b := ⟨⟨is, ii, ig⟩, (m : Int), bx, by', bvx, bvy, bhp, bpw, blf⟩) 0 O1 rfl
  obtain ⟨lS, qS, fS⟩ := O1.cells 2 rfl
  haveI : InW S wy := ⟨lS⟩
  have s0 := (qS (m * 8) (by rw [cellsL_length]; omega)).trans (cellsL_get c 256 (m * 8) _ (by omega))
  have sM := (qS 256 (by rw [cellsL_length]; omega)).trans (cellsL_last c 256 _)
  have O1' := Lib.hid O1
  replace O1 := Lib.hid O1
  clear qS fS lS
  obtain ⟨hIn, q0, q1, q2, q3, q4, q5, q6, q7, q8, q9, q10⟩ := B1
  dsimp only at q0 q1 q2 q3 q4 q5 q6 q7 q8 q9 q10
  go_enter Try.func49, Try.ntmps49
  go_upto_region 2 with fail
  go_region
  go_upto_region 2 with fail
  refine wp_region_grow_tail 14 (by kernel_rfl) (by kernel_rfl) ?_
  simp only [List.take_succ_cons, List.take_zero, List.drop_succ_cons, List.drop_zero]
  repeat (go_big_quiet_step (fail))
  refine wpQuiet_nil ?_
  intro ex
  have OM := Lib.hid ((O1.out.plus ex).pull 3 rfl)
  go_wp2_with (first | (at_mapUpdate; refine wpList_mapUpdate_O mapTy rfl _ _ _ rfl OM.out ⟨is, ii, ig⟩ (m, (c (m * 8)).n) hid rfl rfl rfl ?_; intro w4 O4))
  have O5 : Own W w4 (storeL S M c (total T') (findT T') (cellsA X [nI is, nI ii, nI ig, nI (m : Int), nI bx, nI by', nI bvx, nI bvy, nI bhp, nI bpw, nI blf] :: l)) := by
    have h8 := (hTab.out (m * 8) (by omega)).1
    rw [show m * 8 / 8 = m by omega] at h8
    rw [h8] at O4
    rw [htot.out, hfind.out]
    exact (O4.pull 3 rfl).pull 3 rfl
  clear O4 OM O1 O1' q0 q1 q2 q3 q4 q5 q6 q7 q8 q9 q10 s0 sM hIn hfind htot hwy hX
  have B1 := box_at (b := ⟨⟨is, ii, ig⟩, (m : Int), bx, by', bvx, bvy, bhp, bpw, blf⟩) 3 O5 rfl
  obtain ⟨hIn, q0, q1, q2, q3, q4, q5, q6, q7, q8, q9, q10⟩ := B1
  dsimp only at q0 q1 q2 q3 q4 q5 q6 q7 q8 q9 q10
  obtain ⟨lS, qS, fS⟩ := O5.cells 1 rfl
  haveI : InW S w4 := ⟨lS⟩
  have s0 := (qS (m * 8) (by rw [cellsL_length]; omega)).trans (cellsL_get c 256 (m * 8) _ (by omega))
  have f0 := fS (m * 8)
  clear qS fS lS
  have hT0 := (Tab2.start (T' := T') (m := m) hTab.out).at hm32 (by omega : 0 < 8)
  rw [Nat.add_zero] at hT0
  have OP := Lib.hid (fun (wz : World) (p : w4.Plus wz) => (by
    obtain ⟨e, rfl⟩ := p
    have := cols_pull (j := m * 8) (O5.plus e) (by omega)
    unfold colA at this
    rw [show szc (m * 8) = 3 by unfold szc; rw [if_pos (by omega)]] at this
    exact this : Own W wz (slA 3 (c (m * 8)).v (c (m * 8)).n (c (m * 8)).cs :: bothA ((colsL c 256).eraseIdx (m * 8)) :: cellsA S (cellsL c 256 (.map (some M))) :: mapA IdR.v plV IdW M (total T') (findT T') :: cellsA X [nI is, nI ii, nI ig, nI (m : Int), nI bx, nI by', nI bvx, nI bvy, nI bhp, nI bpw, nI blf] :: l)))
  have hn0 : (c (m * 8)).n ≤ 100000 := by rw [hT0.1]; exact hlen
  replace hT0 := Lib.hid hT0
  replace O5 := Lib.hid O5
  go_cut [] (fun wz => ∃ c', Tab2 T T' m 1 c' ∧ Own W wz (storeL S M c' (total T') (findT T') (cellsA X [nI is, nI ii, nI ig, nI (m : Int), nI bx, nI by', nI bvx, nI bvy, nI bhp, nI bpw, nI blf] :: l)))
  case first =>
    go_region_law ((go_loud (refine step_append_O (by rfl) _ _ 66 66 (by rfl) 38 i0 (.agg #[nI 0, nI 0, nI 0]) 3 24 underIDs hi0.out hz0.out hz1.out hz2.out rfl (by rfl) (OP.out _ (by (repeat (first | exact Plus.refl _ | apply Plus.plus | apply Plus.alloc | apply Plus.drew)))) (xv := .slice (some ⟨_, 0, none⟩) 1 1) (by rfl) (src_id _ _ ⟨is, ii, ig⟩ (by simp [go_sem]) (by simp [go_sem]) (by simp [go_sem])) (by unfold maxLen; first | omega | (simp only; omega)) (by first | omega | (simp only; omega)) ?_); intro A6 c6 w6 O6; obtain ⟨lB6, qB6, fB6⟩ := O6.cells 2 rfl; have b16 := (qB6 (m * 8) (by rw [cellsL_length]; omega)).trans (cellsL_get c 256 (m * 8) _ (by omega)); have fb16 := fB6 (m * 8); haveI : InW S w6 := ⟨lB6⟩; clear qB6 fB6))
    all_goals
      have O7 := col_push (by omega) (show Own W w6 (slA (szc (m * 8)) _ _ _ :: _) from by rw [show szc (m * 8) = 3 by unfold szc; rw [if_pos (by omega)]]; exact O6)
      have hT8 := (Tab2.start (T' := T') (m := m) hTab.out).next hm32 (by omega : 0 < 8) ⟨(A6, c6), (c (m * 8)).n + 1, (c (m * 8)).cs ++ [nI is, nI ii, nI ig]⟩ (by
        simp only
        rw [hT0.out.1, hT0.out.2, hat.out, colCs_snoc]
        exact ⟨by simp, rfl⟩)
      rw [Nat.add_zero] at hT8
      replace O7 := Lib.hid O7
      replace hT8 := Lib.hid hT8
      clear O6 b16 fb16 lB6
      go_wp2_with fail
      go_meet
      exact ⟨_, hT8.out, O7.out⟩
  clear OP O5 hT0 hn0 s0 f0 q0 q1 q2 q3 q4 q5 q6 q7 q8 q9 q10 hIn hTab
  obtain ⟨c', hT1, O1⟩ := hcut
  have kC := Lib.hid (columns_O O1 S m)
  replace O1 := Lib.hid O1
  replace hT1 := Lib.hid hT1
  go_wp2_with (go_at_call 51; (with_reducible refine kC.out.mono ?_); rintro e w5 ⟨B, rfl, O2⟩)
  have O3 : Own W w5 (storeL S M c' (total T') (findT T') (cellsA X [nI is, nI ii, nI ig, nI (m : Int), nI bx, nI by', nI bvx, nI bvy, nI bhp, nI bpw, nI blf] :: cellsA B (colPs S m) :: l)) := O2.perm (List.perm_middle (l₁ := [_, _, _, _])).symm
  clear O2 kC O1
  go_loopw [41] (fun v wr => ∃ (i : Nat) (c : Nat → Col), i ≤ 7 ∧ v = nI i ∧ Tab2 T T' m (1 + i) c ∧ Own W wr (storeL S M c (total T') (findT T') (cellsA X [nI is, nI ii, nI ig, nI (m : Int), nI bx, nI by', nI bvx, nI bvy, nI bhp, nI bpw, nI blf] :: cellsA B (colPs S m) :: l))) (fun v _ => 7 - (intOf v).toNat)
  case atStart => exact ⟨0, c', by omega, rfl, hT1.out, O3⟩
  case round =>
    clear O3 hT1
    obtain ⟨i, c, hi, rfl, hT2, OX⟩ := hrel
    by_cases hlt : i < 7
    · have hlti : (i : Int) < 7 := by omega
      obtain ⟨lB, qB, fB⟩ := OX.cells 4 rfl
      haveI : InW B wr := ⟨lB⟩
      have p0 := (qB i (by simp [colPs]; omega)).trans (colPs_get S m i hlt)
      have B1 := box_at (b := ⟨⟨is, ii, ig⟩, (m : Int), bx, by', bvx, bvy, bhp, bpw, blf⟩) 3 OX rfl
      obtain ⟨hIn, q0, q1, q2, q3, q4, q5, q6, q7, q8, q9, q10⟩ := B1
      dsimp only at q0 q1 q2 q3 q4 q5 q6 q7 q8 q9 q10
      obtain ⟨lS, qS, fS⟩ := OX.cells 1 rfl
      haveI : InW S wr := ⟨lS⟩
      have hj : m * 8 + 1 + i < 256 := by omega
      have s0 := (qS (m * 8 + 1 + i) (by rw [cellsL_length]; omega)).trans (cellsL_get c 256 (m * 8 + 1 + i) _ hj)
      have f0 := fS (m * 8 + 1 + i)
      clear qS fS lS qB fB lB
      have hTi := hT2.at hm32 (by omega : 1 + i < 8)
      rw [show m * 8 + (1 + i) = m * 8 + 1 + i by omega] at hTi
      have hsz : szc (m * 8 + 1 + i) = 1 := by unfold szc; rw [if_neg (by omega)]
      have hnum : colOf (1 + i) ⟨⟨is, ii, ig⟩, (m : Int), bx, by', bvx, bvy, bhp, bpw, blf⟩ = [nI (num (i + 1) ⟨⟨is, ii, ig⟩, (m : Int), bx, by', bvx, bvy, bhp, bpw, blf⟩)] := by unfold colOf; rw [if_neg (by omega), Nat.add_comm]
      have OP := Lib.hid (fun (wz : World) (p : wr.Plus wz) => (by
        obtain ⟨e, rfl⟩ := p
        have := cols_pull (j := m * 8 + 1 + i) (OX.plus e) hj
        unfold colA at this
        rw [hsz] at this
        exact this : Own W wz (slA 1 (c (m * 8 + 1 + i)).v (c (m * 8 + 1 + i)).n (c (m * 8 + 1 + i)).cs :: bothA ((colsL c 256).eraseIdx (m * 8 + 1 + i)) :: cellsA S (cellsL c 256 (.map (some M))) :: mapA IdR.v plV IdW M (total T') (findT T') :: cellsA X [nI is, nI ii, nI ig, nI (m : Int), nI bx, nI by', nI bvx, nI bvy, nI bhp, nI bpw, nI blf] :: cellsA B (colPs S m) :: l)))
      have hn0 : (c (m * 8 + 1 + i)).n ≤ 100000 := by rw [hTi.1]; exact hlen
      replace hTi := Lib.hid hTi
      replace hT2 := Lib.hid hT2
      replace OX := Lib.hid OX
      replace hnum := Lib.hid hnum
      replace hsz := Lib.hid hsz
      obtain ⟨y, hy⟩ : ∃ y, num (i + 1) ⟨⟨is, ii, ig⟩, (m : Int), bx, by', bvx, bvy, bhp, bpw, blf⟩ = y := ⟨_, rfl⟩
      rw [hy] at hnum
      replace hy := Lib.hid hy
      go_upto_region 7 with fail
      go_region_law (first | (go_simp; go_at_call 52; (with_reducible refine (hN.out _).mono ?_); rintro e w' ⟨BN, rfl, hBN, hBl, ⟨eN, rfl⟩, hcN⟩; haveI : InW BN (wr.plus eN) := ⟨hBl⟩; have nN : (wr.plus eN).cell? ⟨BN, i, none⟩ = some (nI y) := (by rw [← hy.out]; exact hcN i hlt); clear hcN hBl hBN) | (refine step_append_O (W := W) (l := bothA ((colsL c 256).eraseIdx (m * 8 + 1 + i)) :: cellsA S (cellsL c 256 (.map (some M))) :: mapA IdR.v plV IdW M (total T') (findT T') :: cellsA X [nI is, nI ii, nI ig, nI (m : Int), nI bx, nI by', nI bvx, nI bvy, nI bhp, nI bpw, nI blf] :: cellsA B (colPs S m) :: l) (v := (c (m * 8 + 1 + i)).v) (n := (c (m * 8 + 1 + i)).n) (cs := (c (m * 8 + 1 + i)).cs) (m := 1) (news := [nI y]) (xv := .slice (some ⟨wr.heap.size + eN.objs.size, 0, none⟩) 1 1) rfl (.tmp 49) (.tmp 55) 62 62 rfl 3 j0 (nI 0) 1 8 underInts hj0.out hy0.out hy1.out hy2.out rfl rfl (OP.out _ (by (repeat (first | exact Plus.refl _ | apply Plus.plus | apply Plus.alloc | apply Plus.drew)))) rfl (src_int _ _ _ (by simp [go_sem])) (by unfold maxLen; omega) (by omega) ?_; intro A6 c6 w6 O6; obtain ⟨lB6, qB6, fB6⟩ := O6.cells 2 rfl; have b16 := (qB6 (m * 8 + 1 + i) (by rw [cellsL_length]; omega)).trans (cellsL_get c 256 (m * 8 + 1 + i) _ hj); have fb16 := fB6 (m * 8 + 1 + i); haveI : InW S w6 := ⟨lB6⟩; clear qB6 fB6))
      all_goals
        have O7 := col_push hj (show Own W w6 (slA (szc (m * 8 + 1 + i)) _ _ _ :: _) from by rw [hsz.out]; exact O6)
        have hT8 := hT2.out.next hm32 (by omega : 1 + i < 8) ⟨(A6, c6), (c (m * 8 + 1 + i)).n + 1, (c (m * 8 + 1 + i)).cs ++ [nI y]⟩ (by
          simp only
          rw [hTi.out.1, hTi.out.2, hat.out, colCs_snoc, hnum.out]
          exact ⟨by simp, rfl⟩)
        rw [show m * 8 + (1 + i) = m * 8 + 1 + i by omega] at hT8
        replace O7 := Lib.hid O7
        replace hT8 := Lib.hid hT8
        clear O6 b16 fb16 lB6
        go_wp2_with fail
        go_roundw
        case rel => exact ⟨i + 1, _, hlt, by go_num, hT8.out, O7.out⟩
        case measure => simp [intOf]; omega
    · obtain rfl : i = 7 := by omega
      have O9 := store_mk ((OX.pull 3 rfl).drop.pull 3 rfl).drop (hT2.stop hput.out)
      replace O9 := Lib.hid O9
      replace OX := Lib.hid OX
      replace hT2 := Lib.hid hT2
      go_wp2_with fail
      go_end0
      exact ⟨rfl, O9.out⟩
end Go.Proofs.Ytkdagljoiacaaaa
