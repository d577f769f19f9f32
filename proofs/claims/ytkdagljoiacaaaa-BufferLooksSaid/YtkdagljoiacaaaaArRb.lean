/- arch: the reference's put and cut: walk. -/
import Derived.Test.YtkdagljoiacaaaaArRa
import Derived.Test.YtkdagljoiacaaaaAr6
set_option linter.unusedSimpArgs false
set_option linter.unusedVariables false
namespace Go.Proofs.Ytkdagljoiacaaaa
open Go.RowKit
theorem underBds : Try.prog.underlying 33 = some (.slice 40) := by kernel_rfl
theorem infoBd : (Try.prog.info? 40).map (fun i => (i.zero, i.size, i.bytes)) = some (some (.agg #[nI 0, nI 0, nI 0, nI 0, nI 0, nI 0, nI 0, nI 0, nI 0, nI 0, nI 0]), 11, 88) := by kernel_rfl
theorem bdsCs_one (l : List BdR) : ∀ u ∈ bdsCs l, u.oneCell' = true := fun u hu => by
  unfold bdsCs at hu
  obtain ⟨p, _, hp⟩ := List.mem_flatMap.1 hu
  simp only [BdR.cs, List.mem_cons, List.not_mem_nil, or_false] at hp
  rcases hp with rfl | rfl | rfl | rfl | rfl | rfl | rfl | rfl | rfl | rfl | rfl <;> rfl
theorem src_bds {w : World} {A : Option Addr} {n c : Nat} {ps : List BdR} (h : Sl w 11 (.slice A n c) n (bdsCs ps)) (hn : n = ps.length) : Src Try.prog 11 33 (.slice A n c) n (bdsCs ps) w := by
  rcases h.val with ⟨he, h0⟩ | ⟨g, off, cap, he, _, _, _, hc, _⟩
  · cases he
    obtain rfl : ps = [] := List.eq_nil_of_length_eq_zero (by omega)
    exact Src.ofNil w underBds 0
  · cases he
    exact Src.ofSlice w underBds ⟨g, off, none⟩ n c (bdsCs ps) (by rw [bdsCs_length, hn]) (fun j u hj => by
      rw [Addr.add_lit, hc j (by have := (List.getElem?_eq_some_iff.1 hj).1; rw [bdsCs_length, ← hn] at this; exact this)]
      exact hj) (bdsCs_one ps)
theorem src_bd (w : World) (B : Nat) (b : BdR) (h : ∀ j, j < 11 → w.cell? ⟨B, j, none⟩ = b.cs[j]?) : Src Try.prog 11 33 (.slice (some ⟨B, 0, none⟩) 1 1) 1 b.cs w := by
  refine Src.ofCells underBds _ _ rfl (fun j hj => h j hj) (fun u hu => ?_) 1
  have := bdsCs_one [b] u (by unfold bdsCs; simpa using hu)
  exact this
theorem src_bdNew (w : World) (b : BdR) (t : TypeId) : Src Try.prog 11 33 (.slice (some ⟨w.heap.size, 0, none⟩) 1 1) 1 b.cs (w.alloc (.cells b.cs.toArray t)) :=
  src_bd _ _ b fun j hj => by rw [World.cell?_alloc_new]; simp
theorem Own.nilSl {W w : World} {l : List Asn} (h : Own W w l) (size : Nat) : Own W w (slA size (.slice none 0 0) 0 [] :: l) :=
  Own.add h (Chg.refl _ _) (Q := slA size (.slice none 0 0) 0 []) (A := fun _ => False) ⟨fun k => by simp [Value.ownBlock], Sl.nil _ _⟩ (fun _ h => h.elim)
/-- cells from a place on, other ones -/
def setL (cs : List Value) (o : Nat) : List Value → List Value
  | [] => cs
  | v :: r => setL (cs.set o v) (o + 1) r
theorem setL_length (vs : List Value) : ∀ (cs : List Value) (o : Nat), (setL cs o vs).length = cs.length := by
  induction vs with
  | nil => intro cs o; rfl
  | cons v r ih => intro cs o; rw [setL, ih, List.length_set]
theorem setL_append (vs : List Value) (x : List Value) : ∀ (y : List Value) (k : Nat), setL (x ++ y) (x.length + k) vs = x ++ setL y k vs := by
  induction vs with
  | nil => intro y k; rfl
  | cons v r ih =>
    intro y k
    rw [setL, setL, List.set_append_right _ _ (by omega), show x.length + k - x.length = k by omega]
    have := ih (y.set k v) (k + 1)
    rw [← Nat.add_assoc] at this
    exact this
theorem bdsCs_setL (l : List BdR) (i : Nat) (b : BdR) (h : i < l.length) : setL (bdsCs l) (i * 11) b.cs = bdsCs (l.set i b) := by
  induction l generalizing i with
  | nil => simp at h
  | cons r t ih =>
    have e : ∀ (r : BdR) (t : List BdR), bdsCs (r :: t) = r.cs ++ bdsCs t := fun _ _ => rfl
    cases i with
    | zero => rw [List.set_cons_zero, e, e]; rfl
    | succ i =>
      rw [List.set_cons_succ, e, e, ← ih i (by simpa using h), ← setL_append]
      congr 1
      show (i + 1) * 11 = 11 + i * 11
      omega
theorem Own.setSlL {W : World} {l : List Asn} {size g o n cap : Nat} (vs : List Value) : ∀ {w : World} {cs : List Value} (h : Own W w (slA size (.slice (some ⟨g, o, none⟩) n cap) n cs :: l)) (j : Nat) (hj : j + vs.length ≤ n * size),
    Own W (w.setCells g (o + j) vs) (slA size (.slice (some ⟨g, o, none⟩) n cap) n (setL cs j vs) :: l) := by
  induction vs with
  | nil => intro w cs h j hj; exact h
  | cons v r ih =>
    intro w cs h j hj
    rw [List.length_cons] at hj
    exact ih (Own.setSl h j v (by omega)) (j + 1) (by omega)
theorem boxAt {W wz : World} {l : List Asn} {X : Nat} {b : BdR} (i : Nat) (O : Own W wz l) (hi : l[i]? = some (cellsA X [nI b.id.s, nI b.id.i, nI b.id.g, nI b.mask, nI b.x, nI b.y, nI b.vx, nI b.vy, nI b.hp, nI b.pw, nI b.lf])) : BoxAt wz X b := by
  obtain ⟨lB, q, _⟩ := O.cells i hi
  exact ⟨⟨lB⟩, q 0 (by simp), q 1 (by simp), q 2 (by simp), q 3 (by simp), q 4 (by simp), q 5 (by simp), q 6 (by simp), q 7 (by simp), q 8 (by simp), q 9 (by simp), q 10 (by simp)⟩
/-- a new table in the place of an old one -/
theorem ref_lay {W w : World} {R : Nat} {c : Nat → Ad} {T : Tabs} {l : List Asn} {A : Option Addr} {cp n m : Nat} {rows : List BdR} (h : Own W w (slA 11 (.slice A n cp) n (bdsCs rows) :: refL R c T l)) (hn : n = rows.length) (hm : m < 32) :
    Own W (w.setCell ⟨R, m, none⟩ (.slice A n cp)) (refL R (upd c m (A, cp)) (upd T m rows) l) :=
  ref_push (((ref_pull ((h.pull 2 rfl).pull 2 rfl) hm).drop).pull 2 rfl) hn hm
set_option maxRecDepth 100000 in
set_option maxHeartbeats 4000000 in
theorem refPut_O {W wx : World} {R : Nat} {T : Tabs} {l : List Asn} (h : Own W wx (refA R T :: l)) (b : BdR) (hb : okB b = true) (ht : total T ≤ 90000) :
    Calls Try.prog 56 #[chP R, b.v] wx (OwnTo W (.tuple #[]) (refA R (putT T b) :: l)) := by
  obtain ⟨i0, hi0, hz0, hz1, hz2⟩ := info_parts infoBd
  replace hi0 := Lib.hid hi0
  replace hz0 := Lib.hid hz0
  replace hz1 := Lib.hid hz1
  replace hz2 := Lib.hid hz2
  obtain ⟨c, O⟩ := ref_open h
  obtain ⟨hm32, hmask⟩ := okB_mk hb
  have hlen : (T b.mask.toNat).length ≤ 90000 := Nat.le_trans (len_total T _ hm32) ht
  have hputT : putT T b = upd T b.mask.toNat (T b.mask.toNat ++ [b]) := rfl
  rw [hputT]
  clear hputT
  obtain ⟨m, hm⟩ : ∃ m, m = b.mask.toNat := ⟨_, rfl⟩
  rw [← hm] at hm32 hmask hlen ⊢
  clear hm hb h
  obtain ⟨⟨is, ii, ig⟩, bm, bx, by', bvx, bvy, bhp, bpw, blf⟩ := b
  dsimp only at hmask
  subst hmask
  have O1 : Own W (wx.alloc (.cells #[nI is, nI ii, nI ig, nI (m : Int), nI bx, nI by', nI bvx, nI bvy, nI bhp, nI bpw, nI blf] 40)) (refL R c T (cellsA wx.heap.size [nI is, nI ii, nI ig, nI (m : Int), nI bx, nI by', nI bvx, nI bvy, nI bhp, nI bpw, nI blf] :: l)) := (Own.newCells O [nI is, nI ii, nI ig, nI (m : Int), nI bx, nI by', nI bvx, nI bvy, nI bhp, nI bpw, nI blf] 40).perm (List.perm_middle (l₁ := [_, _])).symm
  clear O
  generalize hX : wx.heap.size = X at *
  generalize hwy : wx.alloc (.cells #[nI is, nI ii, nI ig, nI (m : Int), nI bx, nI by', nI bvx, nI bvy, nI bhp, nI bpw, nI blf] 40) = wy at *
  have B1 := boxAt (b := ⟨⟨is, ii, ig⟩, (m : Int), bx, by', bvx, bvy, bhp, bpw, blf⟩) 2 O1 rfl
  obtain ⟨hIn, q0, q1, q2, q3, q4, q5, q6, q7, q8, q9, q10⟩ := B1
  dsimp only at q0 q1 q2 q3 q4 q5 q6 q7 q8 q9 q10
  obtain ⟨lR, sc, sf⟩ := ref_at O1
  have s0 := sc m hm32
  have hm32i : (m : Int) < 32 := by omega
  obtain ⟨n, hn⟩ : ∃ n, n = (T m).length := ⟨_, rfl⟩
  rw [← hn] at s0 hlen
  clear sc sf
  replace O1 := Lib.hid O1
  replace hn := Lib.hid hn
  go_enter Try.func56, Try.ntmps56
  go_upto_region 2 with fail
  refine wp_region_grow_tail 8 (by kernel_rfl) (by kernel_rfl) ?_
  simp only [List.take_succ_cons, List.take_zero, List.drop_succ_cons, List.drop_zero]
  repeat (go_big_quiet_step (fail))
  refine wpQuiet_nil ?_
  intro ex
  have O2 := Own.nilSl (O1.out.plus ex) 11
  have hS := Lib.hid (src_bds (ps := T m) (by have := (ref_pull (O1.out.plus ex) hm32).sl 0 rfl; rw [← hn.out] at this; exact this) hn.out)
  replace O2 := Lib.hid O2
  set_option maxHeartbeats 800000 in
  go_upto_region 3 with (at_builtin; refine wpList_append_O rfl _ _ 33 33 rfl 40 i0 _ 11 88 underBds hi0.out hz0.out hz1.out hz2.out rfl rfl O2.out rfl hS.out (by unfold maxLen; omega) (by omega) ?_; intro A2 cap2 w6 O6)
  rw [List.nil_append, Nat.zero_add] at O6
  clear O1 O2 hS q0 q1 q2 q3 q4 q5 q6 q7 q8 q9 q10 s0 lR hwy hX hIn
  have B1 := boxAt (b := ⟨⟨is, ii, ig⟩, (m : Int), bx, by', bvx, bvy, bhp, bpw, blf⟩) 3 O6 rfl
  obtain ⟨hIn, q0, q1, q2, q3, q4, q5, q6, q7, q8, q9, q10⟩ := B1
  dsimp only at q0 q1 q2 q3 q4 q5 q6 q7 q8 q9 q10
  have hS := Lib.hid (src_bdNew w6 ⟨⟨is, ii, ig⟩, (m : Int), bx, by', bvx, bvy, bhp, bpw, blf⟩ 40)
  have O7 := Lib.hid (O6.alloc (.cells #[nI is, nI ii, nI ig, nI (m : Int), nI bx, nI by', nI bvx, nI bvy, nI bhp, nI bpw, nI blf] 40))
  replace O6 := Lib.hid O6
  set_option maxHeartbeats 800000 in
  go_upto_region 4 with (at_builtin; refine wpList_append_O rfl _ _ 33 33 rfl 40 i0 _ 11 88 underBds hi0.out hz0.out hz1.out hz2.out rfl rfl O7.out rfl hS.out (by unfold maxLen; omega) (by omega) ?_; intro A3 cap3 w8 O8)
  have e1 : bdsCs (T m) ++ BdR.cs ⟨⟨is, ii, ig⟩, (m : Int), bx, by', bvx, bvy, bhp, bpw, blf⟩ = bdsCs (T m ++ [⟨⟨is, ii, ig⟩, (m : Int), bx, by', bvx, bvy, bhp, bpw, blf⟩]) := by
    rw [bdsCs_append]; rfl
  rw [e1] at O8
  clear e1 O6 O7 hS q0 q1 q2 q3 q4 q5 q6 q7 q8 q9 q10 hIn
  have B1 := boxAt (b := ⟨⟨is, ii, ig⟩, (m : Int), bx, by', bvx, bvy, bhp, bpw, blf⟩) 3 O8 rfl
  obtain ⟨hIn, q0, q1, q2, q3, q4, q5, q6, q7, q8, q9, q10⟩ := B1
  dsimp only at q0 q1 q2 q3 q4 q5 q6 q7 q8 q9 q10
  obtain ⟨lR, sc, sf⟩ := ref_at (((O8.pull 2 rfl).pull 2 rfl))
  have s0 := sc m hm32
  have f0 := sf m
  clear sc sf q0 q1 q2 q4 q5 q6 q7 q8 q9 q10
  have O9 := Lib.hid (ref_lay O8 (by rw [List.length_append, ← hn.out]; rfl) hm32)
  replace O8 := Lib.hid O8
  set_option maxHeartbeats 800000 in
  refine wp_region_grow_tail 7 (by kernel_rfl) (by kernel_rfl) ?_
  simp only [List.take_succ_cons, List.take_zero, List.drop_succ_cons, List.drop_zero]
  repeat (go_big_quiet_step (fail))
  refine wpQuiet_nil ?_
  intro ex
  go_wp2_with fail
  go_end0
  exact ⟨rfl, ref_shut (((O9.out.pull 2 rfl).drop).plus ex)⟩
set_option maxRecDepth 100000 in
set_option maxHeartbeats 4000000 in
theorem refCut_O {W wx : World} {R : Nat} {T : Tabs} {l : List Asn} (h : Own W wx (refA R T :: l)) (m i : Nat) (hm32 : m < 32) (hi : i < (T m).length) (ht : total T ≤ 90000) :
    Calls Try.prog 57 #[chP R, nI m, nI i] wx (OwnTo W (.tuple #[]) (refA R (cutT T m i) :: l)) := by
  obtain ⟨i0, hi0, hz0, hz1, hz2⟩ := info_parts infoBd
  replace hi0 := Lib.hid hi0
  replace hz0 := Lib.hid hz0
  replace hz1 := Lib.hid hz1
  replace hz2 := Lib.hid hz2
  obtain ⟨c, O1⟩ := ref_open h
  have hlen : (T m).length ≤ 90000 := Nat.le_trans (len_total T _ hm32) ht
  have hcutT : cutT T m i = upd T m (cutL (T m) i) := rfl
  rw [hcutT]
  clear hcutT h
  obtain ⟨lR, sc, sf⟩ := ref_at O1
  have s0 := sc m hm32
  have hm32i : (m : Int) < 32 := by omega
  obtain ⟨la, hla⟩ : ∃ la, la = (T m).length - 1 := ⟨_, rfl⟩
  have hn : la + 1 = (T m).length := by omega
  rw [← hn] at s0 hlen hi
  obtain ⟨b, hb⟩ : ∃ b, (T m)[la]? = some b := ⟨_, List.getElem?_eq_getElem (by omega)⟩
  have hcl : cutL (T m) i = ((T m).set i b).take la := by
    unfold cutL
    rw [← hla, List.getD_eq_getElem?_getD, hb]
    rfl
  rw [hcl]
  clear hla hcl sc sf
  have hS := Lib.hid (src_bds (ps := T m) (by have := (ref_pull O1 hm32).sl 0 rfl; rw [← hn] at this; exact this) hn)
  have O2 := Lib.hid (Own.nilSl O1 11)
  replace O1 := Lib.hid O1
  replace hn := Lib.hid hn
  replace hb := Lib.hid hb
  go_enter Try.func57, Try.ntmps57
  set_option maxHeartbeats 800000 in
  go_upto_region 2 with (at_builtin; refine wpList_append_O rfl _ _ 33 33 rfl 40 i0 _ 11 88 underBds hi0.out hz0.out hz1.out hz2.out rfl rfl O2.out rfl hS.out (by unfold maxLen; omega) (by omega) ?_; intro A2 cap2 w6 O6)
  rw [List.nil_append, Nat.zero_add] at O6
  clear O1 O2 hS s0 lR
  obtain ⟨g, o, cap, he, hg, hcap, hc, hf⟩ : ∃ g o cap, A2 = some ⟨g, o, none⟩ ∧ g < w6.heap.size ∧ la + 1 ≤ cap2 ∧ (∀ j, j < (la + 1) * 11 → w6.cell? ⟨g, o + j, none⟩ = (bdsCs (T m))[j]?) ∧ ∀ j, j < (la + 1) * 11 → w6.frozen? ⟨g, o + j, none⟩ = false := by
    rcases (O6.sl 0 rfl).val with ⟨_, h0⟩ | ⟨g, off, cap', he, hgl, h3, _, h5, h6⟩
    · omega
    · cases he
      exact ⟨g, off, 0, rfl, hgl, h3, h5, fun j hj => (h6 j (by omega)).2⟩
  subst he
  clear cap
  have c0 := (hc (la * 11) (by omega)).trans (bdsCs_get _ la b hb.out 0 (by omega))
  have c1 : w6.cell? ⟨g, o + la * 11 + 1, none⟩ = _ := (hc (la * 11 + 1) (by omega)).trans (bdsCs_get _ la b hb.out 1 (by omega))
  have c2 : w6.cell? ⟨g, o + la * 11 + 2, none⟩ = _ := (hc (la * 11 + 2) (by omega)).trans (bdsCs_get _ la b hb.out 2 (by omega))
  have c3 : w6.cell? ⟨g, o + la * 11 + 3, none⟩ = _ := (hc (la * 11 + 3) (by omega)).trans (bdsCs_get _ la b hb.out 3 (by omega))
  have c4 : w6.cell? ⟨g, o + la * 11 + 4, none⟩ = _ := (hc (la * 11 + 4) (by omega)).trans (bdsCs_get _ la b hb.out 4 (by omega))
  have c5 : w6.cell? ⟨g, o + la * 11 + 5, none⟩ = _ := (hc (la * 11 + 5) (by omega)).trans (bdsCs_get _ la b hb.out 5 (by omega))
  have c6 : w6.cell? ⟨g, o + la * 11 + 6, none⟩ = _ := (hc (la * 11 + 6) (by omega)).trans (bdsCs_get _ la b hb.out 6 (by omega))
  have c7 : w6.cell? ⟨g, o + la * 11 + 7, none⟩ = _ := (hc (la * 11 + 7) (by omega)).trans (bdsCs_get _ la b hb.out 7 (by omega))
  have c8 : w6.cell? ⟨g, o + la * 11 + 8, none⟩ = _ := (hc (la * 11 + 8) (by omega)).trans (bdsCs_get _ la b hb.out 8 (by omega))
  have c9 : w6.cell? ⟨g, o + la * 11 + 9, none⟩ = _ := (hc (la * 11 + 9) (by omega)).trans (bdsCs_get _ la b hb.out 9 (by omega))
  have c10 : w6.cell? ⟨g, o + la * 11 + 10, none⟩ = _ := (hc (la * 11 + 10) (by omega)).trans (bdsCs_get _ la b hb.out 10 (by omega))
  simp only [List.getElem?_cons_succ, List.getElem?_cons_zero] at c0 c1 c2 c3 c4 c5 c6 c7 c8 c9 c10
  obtain ⟨bi, hbi⟩ : ∃ bi, (T m)[i]? = some bi := ⟨_, List.getElem?_eq_getElem (by have := hn.out; omega)⟩
  have d0 := (hc (i * 11) (by omega)).trans (bdsCs_get _ i bi hbi 0 (by omega))
  have d1 : w6.cell? ⟨g, o + i * 11 + 1, none⟩ = _ := (hc (i * 11 + 1) (by omega)).trans (bdsCs_get _ i bi hbi 1 (by omega))
  have d2 : w6.cell? ⟨g, o + i * 11 + 2, none⟩ = _ := (hc (i * 11 + 2) (by omega)).trans (bdsCs_get _ i bi hbi 2 (by omega))
  have d3 : w6.cell? ⟨g, o + i * 11 + 3, none⟩ = _ := (hc (i * 11 + 3) (by omega)).trans (bdsCs_get _ i bi hbi 3 (by omega))
  have d4 : w6.cell? ⟨g, o + i * 11 + 4, none⟩ = _ := (hc (i * 11 + 4) (by omega)).trans (bdsCs_get _ i bi hbi 4 (by omega))
  have d5 : w6.cell? ⟨g, o + i * 11 + 5, none⟩ = _ := (hc (i * 11 + 5) (by omega)).trans (bdsCs_get _ i bi hbi 5 (by omega))
  have d6 : w6.cell? ⟨g, o + i * 11 + 6, none⟩ = _ := (hc (i * 11 + 6) (by omega)).trans (bdsCs_get _ i bi hbi 6 (by omega))
  have d7 : w6.cell? ⟨g, o + i * 11 + 7, none⟩ = _ := (hc (i * 11 + 7) (by omega)).trans (bdsCs_get _ i bi hbi 7 (by omega))
  have d8 : w6.cell? ⟨g, o + i * 11 + 8, none⟩ = _ := (hc (i * 11 + 8) (by omega)).trans (bdsCs_get _ i bi hbi 8 (by omega))
  have d9 : w6.cell? ⟨g, o + i * 11 + 9, none⟩ = _ := (hc (i * 11 + 9) (by omega)).trans (bdsCs_get _ i bi hbi 9 (by omega))
  have d10 : w6.cell? ⟨g, o + i * 11 + 10, none⟩ = _ := (hc (i * 11 + 10) (by omega)).trans (bdsCs_get _ i bi hbi 10 (by omega))
  simp only [List.getElem?_cons_succ, List.getElem?_cons_zero] at d0 d1 d2 d3 d4 d5 d6 d7 d8 d9 d10
  clear hbi
  have f0 := hf (i * 11) (by omega)
  have f1 : w6.frozen? ⟨g, o + i * 11 + 1, none⟩ = _ := hf (i * 11 + 1) (by omega)
  have f2 : w6.frozen? ⟨g, o + i * 11 + 2, none⟩ = _ := hf (i * 11 + 2) (by omega)
  have f3 : w6.frozen? ⟨g, o + i * 11 + 3, none⟩ = _ := hf (i * 11 + 3) (by omega)
  have f4 : w6.frozen? ⟨g, o + i * 11 + 4, none⟩ = _ := hf (i * 11 + 4) (by omega)
  have f5 : w6.frozen? ⟨g, o + i * 11 + 5, none⟩ = _ := hf (i * 11 + 5) (by omega)
  have f6 : w6.frozen? ⟨g, o + i * 11 + 6, none⟩ = _ := hf (i * 11 + 6) (by omega)
  have f7 : w6.frozen? ⟨g, o + i * 11 + 7, none⟩ = _ := hf (i * 11 + 7) (by omega)
  have f8 : w6.frozen? ⟨g, o + i * 11 + 8, none⟩ = _ := hf (i * 11 + 8) (by omega)
  have f9 : w6.frozen? ⟨g, o + i * 11 + 9, none⟩ = _ := hf (i * 11 + 9) (by omega)
  have f10 : w6.frozen? ⟨g, o + i * 11 + 10, none⟩ = _ := hf (i * 11 + 10) (by omega)
  haveI : InW g w6 := ⟨hg⟩
  have hii : (i : Int) < (la : Int) + 1 := by omega
  have hw6 : wrap64 ((la : Int) + 1 - 1) = la := by rw [w64_id (by omega) (by omega)]; omega
  have hla9 : la ≤ 90000 := by omega
  clear hc hf
  have O7 := Own.setSlL b.cs O6 (i * 11) (by have : b.cs.length = 11 := rfl; omega)
  rw [bdsCs_setL _ _ _ (by have := hn.out; omega)] at O7
  replace O6 := Lib.hid O6
  replace O7 := Lib.hid O7
  set_option maxHeartbeats 800000 in
  go_upto_region 3 with fail
  obtain ⟨w7, hw7⟩ : ∃ w7, w7 = w6.setCells g (o + i * 11) b.cs := ⟨_, rfl⟩
  rw [show (((((((((((w6.setCell ⟨g, o + i * 11, none⟩ (.int .i64 b.id.s)).setCell ⟨g, o + i * 11 + 1, none⟩ (.int .i64 b.id.i)).setCell ⟨g, o + i * 11 + 2, none⟩ (.int .i64 b.id.g)).setCell ⟨g, o + i * 11 + 3, none⟩ (.int .i64 b.mask)).setCell ⟨g, o + i * 11 + 4, none⟩ (.int .i64 b.x)).setCell ⟨g, o + i * 11 + 5, none⟩ (.int .i64 b.y)).setCell ⟨g, o + i * 11 + 6, none⟩ (.int .i64 b.vx)).setCell ⟨g, o + i * 11 + 7, none⟩ (.int .i64 b.vy)).setCell ⟨g, o + i * 11 + 8, none⟩ (.int .i64 b.hp)).setCell ⟨g, o + i * 11 + 9, none⟩ (.int .i64 b.pw)).setCell ⟨g, o + i * 11 + 10, none⟩ (.int .i64 b.lf)) = w7 from hw7.symm]
  rw [← hw7] at O7
  clear c0 c1 c2 c3 c4 c5 c6 c7 c8 c9 c10 d0 d1 d2 d3 d4 d5 d6 d7 d8 d9 d10 f0 f1 f2 f3 f4 f5 f6 f7 f8 f9 f10 hw7 O6 hg hi hii this
  have O8 := Own.takeSl O7.out la (by omega) (by omega)
  rw [bdsCs_take] at O8
  obtain ⟨lR, sc, sf⟩ := ref_at (((O8.pull 2 rfl).pull 2 rfl))
  have s0 := sc m hm32
  have f0 := sf m
  have hla1 : la ≤ cap2 := by omega
  have hla2 : (la : Int) ≤ cap2 := by omega
  clear sc sf
  have hl3 : la = (((T m).set i b).take la).length := by rw [List.length_take, List.length_set]; have := hn.out; omega
  have O9 := Lib.hid (ref_lay O8 hl3 hm32)
  clear hl3 O7
  replace O8 := Lib.hid O8
  set_option maxHeartbeats 800000 in
  refine wp_region_grow_tail 10 (by kernel_rfl) (by kernel_rfl) ?_
  simp only [List.take_succ_cons, List.take_zero, List.drop_succ_cons, List.drop_zero]
  repeat (go_big_quiet_step (fail))
  refine wpQuiet_nil ?_
  intro ex
  go_wp2_with fail
  go_end0
  exact ⟨rfl, ref_shut (O9.out.plus ex)⟩
end Go.Proofs.Ytkdagljoiacaaaa
