/- arch: cut: walk. -/
import Derived.Test.YtkdagljoiacaaaaAr5
set_option linter.unusedSimpArgs false
set_option linter.unusedVariables false
namespace Go.Proofs.Ytkdagljoiacaaaa
open Go.RowKit
/-- the first elements of a slice that is held -/
theorem Sl.take {w : World} {size : Nat} {A : Option Addr} {n cap : Nat} {cs : List Value} (h : Sl w size (.slice A n cap) n cs) (k : Nat) (hk : k ≤ n) (h0 : 0 < n) : Sl w size (.slice A k cap) k (cs.take (k * size)) := by
  have hm : k * size ≤ n * size := Nat.mul_le_mul_right _ hk
  refine ⟨by rw [List.length_take, h.len]; omega, ?_⟩
  rcases h.val with ⟨he, h1⟩ | ⟨g, off, cap', he, hg, hc, hcm, h1, h2⟩
  · omega
  · cases he
    refine .inr ⟨g, off, cap, rfl, hg, by omega, hcm, fun j hj => ?_, h2⟩
    rw [h1 j (by omega), List.getElem?_take, if_pos hj]
theorem Own.takeSl {W w : World} {l : List Asn} {size : Nat} {A : Option Addr} {n cap : Nat} {cs : List Value} (h : Own W w (slA size (.slice A n cap) n cs :: l)) (k : Nat) (hk : k ≤ n) (h0 : 0 < n) : Own W w (slA size (.slice A k cap) k (cs.take (k * size)) :: l) :=
  Own.step (A := fun _ => False) h fun B hB => ⟨B, Chg.refl _ _, ⟨fun q => (hB.1 q).trans (by cases A <;> exact Iff.rfl), Sl.take hB.2 k hk h0⟩, fun k hk => .inl hk⟩
/-- an element of a slice that is held, another one -/
theorem Own.setSl {W w : World} {l : List Asn} {size g o n cap : Nat} {cs : List Value} (h : Own W w (slA size (.slice (some ⟨g, o, none⟩) n cap) n cs :: l)) (j : Nat) (v : Value) (hj : j < n * size) : Own W (w.setCell ⟨g, o + j, none⟩ v) (slA size (.slice (some ⟨g, o, none⟩) n cap) n (cs.set j v) :: l) :=
  Own.step (A := fun _ => False) h fun B hB => by
    refine ⟨B, Chg.of_setCell w ⟨g, o + j, none⟩ v B ((hB.1 g).2 rfl), ⟨hB.1, by rw [List.length_set]; exact hB.2.len, ?_⟩, fun k hk => .inl hk⟩
    rcases hB.2.val with ⟨he, _⟩ | ⟨g', off, cap', he, hg, hc, hcm, h1, h2⟩
    · cases he
    · cases he
      refine .inr ⟨g, o, cap, rfl, by rw [World.size_setCell]; exact hg, hc, hcm, fun i hi => ?_, fun i hi => ?_⟩
      · rcases Nat.decEq i j with hij | hij
        · rw [World.cell?_setCell_other _ _ _ _ (by intro e; injection e with _ e2 _; omega), List.getElem?_set_ne (fun e => hij e.symm)]
          exact h1 i hi
        · subst hij
          rw [World.cell?_setCell_same' _ _ _ ((h2 i (by have := Nat.mul_le_mul_right size hc; omega)).1), List.getElem?_set_self (by rw [hB.2.len]; exact hj)]
      · refine ⟨?_, by rw [World.frozen?_setCell]; exact (h2 i hi).2⟩
        rcases Nat.decEq i j with hij | hij
        · rw [World.cell?_setCell_other _ _ _ _ (by intro e; injection e with _ e2 _; omega)]
          exact (h2 i hi).1
        · subst hij
          rw [World.cell?_setCell_same' _ _ _ ((h2 i hi).1)]
          rfl
theorem colCs_length (k : Nat) (l : List BdR) : (colCs k l).length = l.length * (if k = 0 then 3 else 1) := by
  unfold colCs
  induction l with
  | nil => simp
  | cons b r ih =>
    have hl : (colOf k b).length = if k = 0 then 3 else 1 := by unfold colOf; split <;> rfl
    rw [List.flatMap_cons, List.length_append, ih, hl, List.length_cons, Nat.add_mul, Nat.one_mul, Nat.add_comm]
theorem colCs_take (k n : Nat) (l : List BdR) : (colCs k l).take (n * (if k = 0 then 3 else 1)) = colCs k (l.take n) := by
  unfold colCs
  induction l generalizing n with
  | nil => simp
  | cons b r ih =>
    cases n with
    | zero => simp
    | succ n =>
      rw [List.take_succ_cons, List.flatMap_cons, List.flatMap_cons, ← ih n]
      have hl : (colOf k b).length = if k = 0 then 3 else 1 := by unfold colOf; split <;> rfl
      rw [List.take_append, List.take_of_length_le (by rw [hl]; split <;> omega), hl]
      congr 2
      split <;> omega
theorem colCs_get1 (k : Nat) (hk : k ≠ 0) (l : List BdR) (i : Nat) : (colCs k l)[i]? = (l[i]?).map fun b => nI (num k b) := by
  have : colCs k l = l.map fun b => nI (num k b) := by
    unfold colCs
    induction l with
    | nil => rfl
    | cons b r ih =>
      rw [List.flatMap_cons, List.map_cons, ← ih]
      unfold colOf
      rw [if_neg hk]
      rfl
  rw [this, List.getElem?_map]
theorem colCs_set1 (k : Nat) (hk : k ≠ 0) (l : List BdR) (i : Nat) (b : BdR) : (colCs k l).set i (nI (num k b)) = colCs k (l.set i b) := by
  have : ∀ l, colCs k l = l.map fun b => nI (num k b) := fun l => by
    unfold colCs
    induction l with
    | nil => rfl
    | cons b r ih =>
      rw [List.flatMap_cons, List.map_cons, ← ih]
      unfold colOf
      rw [if_neg hk]
      rfl
  rw [this, this, List.map_set]
theorem colCs_get0 (l : List BdR) (i : Nat) (b : BdR) (h : l[i]? = some b) : (colCs 0 l)[i * 3]? = some (nI b.id.s) ∧ (colCs 0 l)[i * 3 + 1]? = some (nI b.id.i) ∧ (colCs 0 l)[i * 3 + 2]? = some (nI b.id.g) := by
  induction l generalizing i with
  | nil => simp at h
  | cons r t ih =>
    have e : colCs 0 (r :: t) = [nI r.id.s, nI r.id.i, nI r.id.g] ++ colCs 0 t := rfl
    rw [e]
    cases i with
    | zero => simp at h; subst h; simp
    | succ i =>
      have := ih i (by simpa using h)
      refine ⟨?_, ?_, ?_⟩ <;> rw [List.getElem?_append_right (by simp only [List.length_cons, List.length_nil]; omega)] <;> simp only [List.length_cons, List.length_nil]
      · rw [show (i + 1) * 3 - (0 + 1 + 1 + 1) = i * 3 by omega]; exact this.1
      · rw [show (i + 1) * 3 + 1 - (0 + 1 + 1 + 1) = i * 3 + 1 by omega]; exact this.2.1
      · rw [show (i + 1) * 3 + 2 - (0 + 1 + 1 + 1) = i * 3 + 2 by omega]; exact this.2.2
theorem colCs_set0 (l : List BdR) (i : Nat) (b : BdR) (h : i < l.length) : (((colCs 0 l).set (i * 3) (nI b.id.s)).set (i * 3 + 1) (nI b.id.i)).set (i * 3 + 2) (nI b.id.g) = colCs 0 (l.set i b) := by
  induction l generalizing i with
  | nil => simp at h
  | cons r t ih =>
    have e : ∀ (r : BdR) (t : List BdR), colCs 0 (r :: t) = [nI r.id.s, nI r.id.i, nI r.id.g] ++ colCs 0 t := fun _ _ => rfl
    cases i with
    | zero => rw [List.set_cons_zero, e, e]; simp
    | succ i =>
      rw [List.set_cons_succ, e, e, ← ih i (by simpa using h)]
      rw [List.set_append_right _ _ (by simp only [List.length_cons, List.length_nil]; omega), List.set_append_right _ _ (by simp only [List.length_cons, List.length_nil]; omega), List.set_append_right _ _ (by simp only [List.length_cons, List.length_nil]; omega)]
      simp only [List.length_cons, List.length_nil]
      rw [show (i + 1) * 3 - (0 + 1 + 1 + 1) = i * 3 by omega, show (i + 1) * 3 + 1 - (0 + 1 + 1 + 1) = i * 3 + 1 by omega, show (i + 1) * 3 + 2 - (0 + 1 + 1 + 1) = i * 3 + 2 by omega]
/-- what a walk of a store asks of the world -/
theorem store_at {W wz : World} {S M : Nat} {c : Nat → Col} {n : Nat} {F : IdR → Option (Nat × Nat)} {l : List Asn} (O : Own W wz (storeL S M c n F l)) : InW S wz ∧ wz.cell? ⟨S, 256, none⟩ = some (.map (some M)) ∧ (∀ j, j < 256 → wz.cell? ⟨S, j, none⟩ = some (c j).v) ∧ (∀ j, wz.frozen? ⟨S, j, none⟩ = false) ∧ MapAt IdR.v plV IdW wz M n F := by
  obtain ⟨lS, qS, fS⟩ := O.cells 1 rfl
  exact ⟨⟨lS⟩, (qS 256 (by simp [cellsL_length])).trans (cellsL_last c 256 _), fun j hj => (qS j (by rw [cellsL_length]; omega)).trans (cellsL_get c 256 j _ hj), fS, O.map 2 rfl⟩
/-- a column's cells -/
theorem col_at {W wz : World} {S M : Nat} {c : Nat → Col} {n : Nat} {F : IdR → Option (Nat × Nat)} {l : List Asn} (O : Own W wz (storeL S M c n F l)) (j : Nat) (hj : j < 256) (h0 : 0 < (c j).n) :
    ∃ g o cap, (c j).ad = (some ⟨g, o, none⟩, cap) ∧ (c j).n ≤ cap ∧ InW g wz ∧ (∀ k, k < (c j).n * szc j → wz.cell? ⟨g, o + k, none⟩ = (c j).cs[k]?) ∧ ∀ k, k < (c j).n * szc j → wz.frozen? ⟨g, o + k, none⟩ = false := by
  have h1 := (cols_pull O hj).sl 0 rfl
  rcases h1.val with ⟨he, h2⟩ | ⟨g, off, cap, he, hg, hc, hcm, h3, h4⟩
  · omega
  · refine ⟨g, off, cap, ?_, hc, ⟨hg⟩, h3, fun k hk => (h4 k (by have := Nat.mul_le_mul_right (szc j) hc; omega)).2⟩
    have : (c j).ad = ((c j).ad.1, (c j).ad.2) := rfl
    simp only [Col.v, Value.slice.injEq] at he
    rw [this, he.1, he.2.2]
theorem upd_upd {α : Type} (f : Nat → α) (j : Nat) (x y : α) : upd (upd f j x) j y = upd f j y := by
  funext i
  unfold upd
  split <;> rfl
theorem cellsL_same (c : Nat → Col) (N j : Nat) (m : Value) (x : Col) (h : j < N) (hv : x.v = (c j).v) : cellsL (upd c j x) N m = cellsL c N m := by
  rw [cellsL_upd c N j m x h, hv]
  apply List.ext_getElem?
  intro i
  rw [List.getElem?_set]
  split
  · rename_i e
    subst e
    rw [cellsL_get c N j m h, if_pos (by rw [cellsL_length]; omega)]
  · rfl
/-- a column whose elements have changed, back in its place -/
theorem col_same {W w : World} {S M : Nat} {c : Nat → Col} {n : Nat} {F : IdR → Option (Nat × Nat)} {l : List Asn} {j : Nat} {cs : List Value} (hj : j < 256)
    (h : Own W w (slA (szc j) (c j).v (c j).n cs :: bothA ((colsL c 256).eraseIdx j) :: cellsA S (cellsL c 256 (.map (some M))) :: mapA IdR.v plV IdW M n F :: l)) :
    Own W w (storeL S M (upd c j ⟨(c j).ad, (c j).n, cs⟩) n F l) := by
  have h1 := cols_push (x := ⟨(c j).ad, (c j).n, cs⟩) h hj
  unfold storeL
  rw [cellsL_same c 256 j (.map (some M)) ⟨(c j).ad, (c j).n, cs⟩ hj rfl]
  exact h1
theorem look_at {W wz : World} {S M : Nat} {c : Nat → Col} {n : Nat} {F : IdR → Option (Nat × Nat)} {l : List Asn} (O : Own W wz (storeL S M c n F l)) (a : IdR) (ha : IdW a) (k : Bool) :
    (Instr.lookup 65 (.map (some M)) (.agg #[nI a.s, nI a.i, nI a.g]) k).run Try.prog wz = .ok (if k then .tuple #[(F a).elim (.agg #[nI 0, nI 0]) plV, .bool (F a).isSome] else (F a).elim (.agg #[nI 0, nI 0]) plV) wz :=
  MapAt.look mapTy (store_at O).2.2.2.2 a ha k
set_option maxRecDepth 100000 in
set_option maxHeartbeats 4000000 in
theorem cut_O {W wx : World} {S : Nat} {T : Tabs} {l : List Asn} (h : Own W wx (storeA S T :: l)) (hg : GoodT T) (id : IdR) (m i : Nat) (hf : findT T id = some (m, i)) (hid : IdW id) (ht : total T ≤ 100000) :
    Calls Try.prog 50 #[chP S, id.v] wx (OwnTo W (.tuple #[]) (storeA S (cutT T m i) :: l)) := by
  obtain ⟨⟨M, c⟩, O⟩ := h.ex
  have hTab : Tab T c := Own.fact 3 O rfl
  obtain ⟨hm32, b, hb, rfl⟩ := findT_some hf
  have hlen : (T m).length ≤ 100000 := Nat.le_trans (len_total T _ hm32) ht
  have hil := (List.getElem?_eq_some_iff.1 hb).1
  obtain ⟨la, hla⟩ : ∃ la, (T m).length = la + 1 := ⟨(T m).length - 1, by omega⟩
  obtain ⟨z, hz⟩ : ∃ z, (T m)[la]? = some z := ⟨_, List.getElem?_eq_getElem (by omega)⟩
  have hfind : findT (cutT T m i) = fun c => if c = b.id then none else if c = z.id then some (m, i) else findT T c := funext fun c => find_cut hg hm32 hb (by rw [hla]; exact hz) c
  have htot := cut_total hf
  have hput : ∀ k, k ≠ m → cutT T m i k = T k := fun k hk => upd_ne _ _ hk
  have hat : cutT T m i m = ((T m).set i z).take la := by
    show upd T m _ m = _
    rw [upd_at]
    unfold cutL
    rw [hla, List.getD_eq_getElem?_getD, show la + 1 - 1 = la by omega, hz]
    rfl
  have hzf : findT T z.id = some (m, la) := findT_of hg hm32 hz
  have hzid : IdW z.id := okB_id (hg.ok m hm32 z (List.mem_of_getElem? hz)).1
  generalize cutT T m i = T' at *
  have hfb : findT T b.id = some (m, i) := hf
  obtain ⟨⟨is, ii, ig⟩, bm, bx, by', bvx, bvy, bhp, bpw, blf⟩ := b
  dsimp only at hid hfind hf hfb
  have O1 : Own W (wx.alloc (.cells #[nI is, nI ii, nI ig] 38)) (storeL S M c (total T) (findT T) (cellsA wx.heap.size [nI is, nI ii, nI ig] :: l)) := (Own.newCells (O.pull 3 rfl).drop [nI is, nI ii, nI ig] 38).perm (List.perm_middle (l₁ := [_, _, _])).symm
  clear O h
  generalize hX : wx.heap.size = X at *
  generalize hwy : wx.alloc (.cells #[nI is, nI ii, nI ig] 38) = wy at *
  obtain ⟨lS, sM, sc, sf, _⟩ := store_at O1
  obtain ⟨lX, qX, fX⟩ := O1.cells 3 rfl
  have q0 := qX 0 (by simp)
  have q1 := qX 1 (by simp)
  have q2 := qX 2 (by simp)
  simp only [List.getElem?_cons_succ, List.getElem?_cons_zero] at q0 q1 q2
  haveI : InW X wy := ⟨lX⟩
  have l1 := look_at O1.drew ⟨is, ii, ig⟩ hid false
  have l2 := look_at ((O1.alloc (.cells #[nI 0, nI 0] 77)).drew) ⟨is, ii, ig⟩ hid false
  rw [hfb] at l1 l2
  simp only [Option.elim] at l1 l2
  have O2 := Lib.hid (((O1.newCells [nI m, nI i] 77).perm (List.perm_middle (l₁ := [_, _, _])).symm).drew)
  replace O1 := Lib.hid O1
  replace hTab := Lib.hid hTab
  replace hfind := Lib.hid hfind
  replace htot := Lib.hid htot
  replace hput := Lib.hid hput
  replace hat := Lib.hid hat
  replace hla := Lib.hid hla
  replace hz := Lib.hid hz
  replace hb := Lib.hid hb
  replace hzf := Lib.hid hzf
  replace hg := Lib.hid hg
  replace hf := Lib.hid hf
  replace hfb := Lib.hid hfb
  clear qX fX sc sf lX
  go_enter Try.func50, Try.ntmps50
  go_upto_region 1 with fail
  go_cut [4] (fun v wz => ∃ P, v = chP P ∧ Own W wz (storeL S M c (total T) (findT T) (cellsA P [nI m, nI i] :: cellsA X [nI is, nI ii, nI ig] :: l)))
  case first =>
    go_region
    all_goals
      go_wp2_with fail
      go_meet
      exact ⟨_, rfl, O2.out⟩
  clear O2 l1 l2 q0 q1 q2 sM lS O1 hwy hX
  obtain ⟨P, rfl, O1⟩ := hcut
  obtain ⟨lS, sM, sc, sf, _⟩ := store_at O1
  obtain ⟨lP, qP, fP⟩ := O1.cells 3 rfl
  have p0 := qP 0 (by simp)
  have p1 := qP 1 (by simp)
  simp only [List.getElem?_cons_succ, List.getElem?_cons_zero] at p0 p1
  haveI : InW P wc := ⟨lP⟩
  have hm32i : (m : Int) < 32 := by omega
  have hT0 := hTab.out (m * 8) (by omega)
  rw [show m * 8 / 8 = m by omega, show m * 8 % 8 = 0 by omega, hla.out] at hT0
  have s0 := sc (m * 8) (by omega)
  obtain ⟨g, o, cap, had, hcap, hgw, hgc, hgf⟩ := col_at O1 (m * 8) (by omega) (by rw [hT0.1]; omega)
  have hsz : szc (m * 8) = 3 := by unfold szc; rw [if_pos (by omega)]
  have hv0 : (c (m * 8)).v = .slice (some ⟨g, o, none⟩) (la + 1) cap := by unfold Col.v; rw [had, hT0.1]
  rw [hv0] at s0
  rw [hsz, hT0.1, hT0.2] at hgc
  rw [hsz, hT0.1] at hgf
  rw [hT0.1] at hcap
  replace hcap := Lib.hid hcap
  haveI := hgw
  have hil2 : i < la + 1 := by have := hla.out; omega
  obtain ⟨e0, e1, e2⟩ := colCs_get0 (T m) la z hz.out
  obtain ⟨d0, d1, d2⟩ := colCs_get0 (T m) i _ hb.out
  have z0 := (hgc (la * 3) (by omega)).trans e0
  have z1 : wc.cell? ⟨g, o + la * 3 + 1, none⟩ = _ := (hgc (la * 3 + 1) (by omega)).trans e1
  have z2 : wc.cell? ⟨g, o + la * 3 + 2, none⟩ = _ := (hgc (la * 3 + 2) (by omega)).trans e2
  have x0 := (hgc (i * 3) (by omega)).trans d0
  have x1 : wc.cell? ⟨g, o + i * 3 + 1, none⟩ = _ := (hgc (i * 3 + 1) (by omega)).trans d1
  have x2 : wc.cell? ⟨g, o + i * 3 + 2, none⟩ = _ := (hgc (i * 3 + 2) (by omega)).trans d2
  have y0 := hgf (i * 3) (by omega)
  have y1 : wc.frozen? ⟨g, o + i * 3 + 1, none⟩ = _ := hgf (i * 3 + 1) (by omega)
  have y2 : wc.frozen? ⟨g, o + i * 3 + 2, none⟩ = _ := hgf (i * 3 + 2) (by omega)
  have hilI : (i : Int) < (la : Int) + 1 := by omega
  have hla9 : la ≤ 100000 := by have := hla.out; omega
  have hw6 : wrap64 ((la : Int) + 1 - 1) = la := by rw [w64_id (by omega) (by omega)]; omega
  clear qP fP lP sc sf hgc hgf e0 e1 e2 d0 d1 d2
  replace hT0 := Lib.hid hT0
  replace hv0 := Lib.hid hv0
  replace had := Lib.hid had
  replace hsz := Lib.hid hsz
  replace O1 := Lib.hid O1
  go_upto_region 2 with fail
  go_region
  go_upto_region 4 with fail
  go_region
  have O2 := cols_pull O1.out (j := m * 8) (by omega)
  unfold colA at O2
  rw [hsz.out, hT0.out.1, hT0.out.2, hv0.out] at O2
  have O3 := (Own.setSl (Own.setSl (Own.setSl O2 (i * 3) (nI z.id.s) (by omega)) (i * 3 + 1) (nI z.id.i) (by omega)) (i * 3 + 2) (nI z.id.g) (by omega)).drew.drew
  rw [colCs_set0 (T m) i z (by have := hla.out; omega)] at O3
  have O4 := col_same (j := m * 8) (c := c) (cs := colCs 0 ((T m).set i z)) (by omega) (by rw [hsz.out, hT0.out.1, hv0.out]; exact O3)
  rw [hT0.out.1, had.out] at O4
  clear O1 O2 O3 z0 z1 z2 x0 x1 x2 y0 y1 y2 s0 hgw p0 p1 sM
  obtain ⟨w6, hw6'⟩ : ∃ w6, w6 = (((wc.setCell ⟨g, o + i * 3, none⟩ (nI z.id.s)).setCell ⟨g, o + (i * 3 + 1), none⟩ (nI z.id.i)).setCell ⟨g, o + (i * 3 + 2), none⟩ (nI z.id.g)).drew.drew := ⟨_, rfl⟩
  have O5 := O4
  rw [← hw6'] at O5
  rw [show (((wc.setCell ⟨g, o + i * 3, none⟩ (.int .i64 z.id.s)).setCell ⟨g, o + i * 3 + 1, none⟩ (.int .i64 z.id.i)).setCell ⟨g, o + i * 3 + 2, none⟩ (.int .i64 z.id.g)).drew.drew = w6 from hw6'.symm]
  clear hw6' O4 lS
  obtain ⟨lS, sM, sc, sf, _⟩ := store_at O5
  obtain ⟨lP, qP, fP⟩ := O5.cells 3 rfl
  have p0 := qP 0 (by simp)
  have p1 := qP 1 (by simp)
  simp only [List.getElem?_cons_succ, List.getElem?_cons_zero] at p0 p1
  haveI : InW P w6 := ⟨lP⟩
  have s0 := sc (m * 8) (by omega)
  rw [upd_at] at s0
  dsimp only [Col.v] at s0
  have hC := fun (j : Nat) (hj : j < 256) (hne : j ≠ m * 8) => upd_ne c ⟨(some ⟨g, o, none⟩, cap), la + 1, colCs 0 ((T m).set i z)⟩ hne
  obtain ⟨g', o', cap', had', _, hgw, hgc, hgf⟩ := col_at O5 (m * 8) (by omega) (by rw [upd_at]; simp only; omega)
  rw [upd_at] at had' hgc hgf
  simp only [Prod.mk.injEq, Option.some.injEq, Addr.mk.injEq, and_true] at had'
  obtain ⟨⟨rfl, rfl⟩, rfl⟩ := had'
  rw [hsz.out] at hgc
  simp only at hgc
  haveI := hgw
  obtain ⟨d0, d1, d2⟩ := colCs_get0 ((T m).set i z) i z (by rw [List.getElem?_set_self (by have := hla.out; omega)])
  have x0 := (hgc (i * 3) (by omega)).trans d0
  have x1 : w6.cell? ⟨g, o + i * 3 + 1, none⟩ = _ := (hgc (i * 3 + 1) (by omega)).trans d1
  have x2 : w6.cell? ⟨g, o + i * 3 + 2, none⟩ = _ := (hgc (i * 3 + 2) (by omega)).trans d2
  clear qP fP lP sc sf hgc hgf d0 d1 d2 hC
  replace O5 := Lib.hid O5
  go_upto_region 5 with fail
  refine wp_region_grow_tail 13 (by kernel_rfl) (by kernel_rfl) ?_
  simp only [List.take_succ_cons, List.take_zero, List.drop_succ_cons, List.drop_zero]
  repeat (go_big_quiet_step (fail))
  refine wpQuiet_nil ?_
  intro ex
  have OM := Lib.hid ((O5.out.plus ex).pull 2 rfl)
  go_upto_region 6 with (first | (at_mapUpdate; refine wpList_mapUpdate_O mapTy rfl _ _ _ rfl OM.out z.id (m, i) hzid rfl rfl rfl ?_; intro w7 O7))
  rw [hzf.out] at O7
  simp only [Option.isSome_some, if_true] at O7
  have O8 : Own W w7 (storeL S M (upd c (m * 8) ⟨(some ⟨g, o, none⟩, cap), la + 1, colCs 0 ((T m).set i z)⟩) (total T) (fun c => if c = z.id then some (m, i) else findT T c) (cellsA P [nI m, nI i] :: cellsA X [nI is, nI ii, nI ig] :: l)) := (O7.pull 2 rfl).pull 2 rfl
  clear O5 OM O7 x0 x1 x2 s0 p0 p1 sM lS hgw
  obtain ⟨lS, sM, sc, sf, _⟩ := store_at O8
  have s0 := sc (m * 8) (by omega)
  rw [upd_at] at s0
  dsimp only [Col.v] at s0
  have f0 := sf (m * 8)
  clear sc sf
  have hla1 : la ≤ cap := by have := hcap.out; omega
  have hla2 : (la : Int) ≤ cap := by omega
  have O9 := cols_pull O8 (j := m * 8) (by omega)
  unfold colA at O9
  rw [upd_at] at O9
  dsimp only [Col.v] at O9
  have O10 := Own.takeSl O9 la (by omega) (by omega)
  have hcs : (colCs 0 ((T m).set i z)).take (la * szc (m * 8)) = colCs 0 (T' m) := by
    rw [hsz.out, hat.out, ← colCs_take]
    rfl
  rw [hcs] at O10
  have O11 := col_push (j := m * 8) (by omega) O10
  rw [upd_upd] at O11
  have hlen' : (T' m).length = la := by rw [hat.out, List.length_take, List.length_set, hla.out]; omega
  have hT1 := (Tab2.start (T' := T') (m := m) hTab.out).next hm32 (by omega : 0 < 8) ⟨(some ⟨g, o, none⟩, cap), la, colCs 0 (T' m)⟩ ⟨hlen'.symm, rfl⟩
  simp only [Nat.add_zero] at hT1
  clear O8 O9 O10 hcs
  replace O11 := Lib.hid O11
  replace hT1 := Lib.hid hT1
  replace hlen' := Lib.hid hlen'
  go_upto_region 7 with fail
  clear s0 f0 sM lS hlen hil
  obtain ⟨c2, hc2⟩ : ∃ c2, c2 = upd c (m * 8) ⟨(some ⟨g, o, none⟩, cap), la, colCs 0 (T' m)⟩ := ⟨_, rfl⟩
  rw [← hc2] at O11 hT1
  rw [Nat.zero_add] at hT1
  clear hc2 had hT0 hv0 hcap hla1 hla2
  generalize w7.setCell ⟨S, m * 8, none⟩ (.slice (some ⟨g, o, none⟩) la cap) = w8 at *
  have kC := Lib.hid (columns_O O11.out S m)
  go_wp2_with (go_at_call 51; (with_reducible refine kC.out.mono ?_); rintro e w5 ⟨B, rfl, O2⟩)
  have O3 : Own W w5 (storeL S M c2 (total T) (fun c => if c = z.id then some (m, i) else findT T c) (cellsA P [nI m, nI i] :: cellsA X [nI is, nI ii, nI ig] :: cellsA B (colPs S m) :: l)) := O2.perm (List.perm_middle (l₁ := [_, _, _, _, _])).symm
  clear O2 kC O11
  go_loopw [66] (fun v wr => ∃ (q : Nat) (c : Nat → Col), q ≤ 7 ∧ v = nI q ∧ Tab2 T T' m (1 + q) c ∧ Own W wr (storeL S M c (total T) (fun c => if c = z.id then some (m, i) else findT T c) (cellsA P [nI m, nI i] :: cellsA X [nI is, nI ii, nI ig] :: cellsA B (colPs S m) :: l))) (fun v _ => 7 - (intOf v).toNat)
  case atStart => exact ⟨0, c2, by omega, rfl, hT1.out, O3⟩
  case round =>
    clear O3 hT1
    obtain ⟨q, c, hq, rfl, hT2, OX⟩ := hrel
    by_cases hlt : q < 7
    · have hlti : (q : Int) < 7 := by omega
      obtain ⟨lB, qB, fB⟩ := OX.cells 5 rfl
      haveI : InW B wr := ⟨lB⟩
      have b0 := (qB q (by simp [colPs]; omega)).trans (colPs_get S m q hlt)
      obtain ⟨lP, qP, fP⟩ := OX.cells 3 rfl
      have p1 := qP 1 (by simp)
      simp only [List.getElem?_cons_succ, List.getElem?_cons_zero] at p1
      haveI : InW P wr := ⟨lP⟩
      obtain ⟨lS, sM, sc, sf, _⟩ := store_at OX
      have hj : m * 8 + 1 + q < 256 := by omega
      have s0 := sc (m * 8 + 1 + q) hj
      have hTi := hT2.at hm32 (by omega : 1 + q < 8)
      rw [show m * 8 + (1 + q) = m * 8 + 1 + q by omega, hla.out] at hTi
      obtain ⟨g, o, cap, had, hcap, hgw, hgc, hgf⟩ := col_at OX (m * 8 + 1 + q) hj (by rw [hTi.1]; omega)
      have hsz : szc (m * 8 + 1 + q) = 1 := by unfold szc; rw [if_neg (by omega)]
      have hv0 : (c (m * 8 + 1 + q)).v = .slice (some ⟨g, o, none⟩) (la + 1) cap := by unfold Col.v; rw [had, hTi.1]
      rw [hv0] at s0
      rw [hsz, hTi.1, hTi.2, Nat.mul_one] at hgc
      rw [hsz, hTi.1, Nat.mul_one] at hgf
      rw [hTi.1] at hcap
      haveI := hgw
      have z0 : wr.cell? ⟨g, o + la, none⟩ = some (nI (num (1 + q) z)) := (hgc la (by omega)).trans (by rw [colCs_get1 (1 + q) (by omega), hz.out]; rfl)
      obtain ⟨x, x0⟩ : ∃ x, wr.cell? ⟨g, o + i, none⟩ = some (nI x) := ⟨_, (hgc i (by omega)).trans (by rw [colCs_get1 (1 + q) (by omega), hb.out]; rfl)⟩
      have y0 := hgf i (by omega)
      clear qB fB lB qP fP lP sc sf hgc hgf
      replace hTi := Lib.hid hTi
      replace hT2 := Lib.hid hT2
      replace hv0 := Lib.hid hv0
      replace had := Lib.hid had
      replace hcap := Lib.hid hcap
      replace hsz := Lib.hid hsz
      replace OX := Lib.hid OX
      obtain ⟨y, hy⟩ : ∃ y, y = num (1 + q) z := ⟨_, rfl⟩
      rw [← hy] at z0
      replace hy := Lib.hid hy
      go_upto_region 10 with fail
      go_region
      have O2 := cols_pull OX.out (j := m * 8 + 1 + q) hj
      unfold colA at O2
      rw [hsz.out, hTi.out.1, hTi.out.2, hv0.out] at O2
      have O3 := (Own.setSl O2 i (nI y) (by omega)).drew
      rw [hy.out, colCs_set1 (1 + q) (by omega), ← hy.out] at O3
      have O4 := col_same (j := m * 8 + 1 + q) (c := c) (cs := colCs (1 + q) ((T m).set i z)) hj (by rw [hsz.out, hTi.out.1, hv0.out]; exact O3)
      rw [hTi.out.1, had.out] at O4
      clear O2 O3 z0 x0 y0 s0 lS hgw sM p1 b0 OX
      obtain ⟨w6, hw6'⟩ : ∃ w6, w6 = (wr.setCell ⟨g, o + i, none⟩ (nI y)).drew := ⟨_, rfl⟩
      have O5 := O4
      rw [← hw6'] at O5
      rw [show (wr.setCell ⟨g, o + i, none⟩ (.int .i64 y)).drew = w6 from hw6'.symm]
      clear hw6' O4
      obtain ⟨lS, sM, sc, sf, _⟩ := store_at O5
      have s0 := sc (m * 8 + 1 + q) hj
      rw [upd_at] at s0
      dsimp only [Col.v] at s0
      have f0 := sf (m * 8 + 1 + q)
      clear sc sf sM
      have hla1 : la ≤ cap := by have := hcap.out; omega
      have hla2 : (la : Int) ≤ cap := by omega
      have O9 := cols_pull O5 (j := m * 8 + 1 + q) hj
      unfold colA at O9
      rw [upd_at] at O9
      dsimp only [Col.v] at O9
      have O10 := Own.takeSl O9 la (by omega) (by omega)
      have hcs : (colCs (1 + q) ((T m).set i z)).take (la * szc (m * 8 + 1 + q)) = colCs (1 + q) (T' m) := by
        rw [hsz.out, hat.out, ← colCs_take, if_neg (by omega)]
      rw [hcs] at O10
      have O11 := col_push (j := m * 8 + 1 + q) hj O10
      rw [upd_upd] at O11
      have hT8 := hT2.out.next hm32 (by omega : 1 + q < 8) ⟨(some ⟨g, o, none⟩, cap), la, colCs (1 + q) (T' m)⟩ ⟨hlen'.out.symm, rfl⟩
      rw [show m * 8 + (1 + q) = m * 8 + 1 + q by omega] at hT8
      clear O5 O9 O10 hcs
      replace O11 := Lib.hid O11
      replace hT8 := Lib.hid hT8
      go_wp2_with fail
      go_roundw
      case rel => exact ⟨q + 1, _, hlt, by go_num, hT8.out, O11.out⟩
      case measure => simp [intOf]; omega
    · obtain rfl : q = 7 := by omega
      obtain ⟨lS, sM, sc, sf, _⟩ := store_at OX
      obtain ⟨lX, qX, fX⟩ := OX.cells 4 rfl
      have q0 := qX 0 (by simp)
      have q1 := qX 1 (by simp)
      have q2 := qX 2 (by simp)
      simp only [List.getElem?_cons_succ, List.getElem?_cons_zero] at q0 q1 q2
      haveI : InW X wr := ⟨lX⟩
      clear sc sf qX fX lX
      replace hT2 := Lib.hid hT2
      replace OX := Lib.hid OX
      go_upto_region 13 with fail
      refine wp_region_grow_tail 5 (by kernel_rfl) (by kernel_rfl) ?_
      simp only [List.take_succ_cons, List.take_zero, List.drop_succ_cons, List.drop_zero]
      repeat (go_big_quiet_step (fail))
      refine wpQuiet_nil ?_
      intro ex
      have OM := Lib.hid ((OX.out.plus ex).pull 2 rfl)
      go_wp2_with (first | (at_delete; refine wpList_delete_O mapTy rfl _ _ rfl OM.out ⟨is, ii, ig⟩ hid rfl rfl ?_; intro w7 O7))
      have O8 : Own W w7 (storeL S M c (total T') (findT T') (cellsA P [nI m, nI i] :: cellsA X [nI is, nI ii, nI ig] :: cellsA B (colPs S m) :: l)) := by
        rw [hfind.out, htot.out.1]
        have hs : (if (⟨is, ii, ig⟩ : IdR) = z.id then some (m, i) else findT T ⟨is, ii, ig⟩).isSome = true := by
          split
          · rfl
          · rw [hfb.out]; rfl
        simp only [hs, if_true] at O7
        exact (O7.pull 2 rfl).pull 2 rfl
      have O9 := Lib.hid (store_mk ((((O8.pull 3 rfl).drop.pull 3 rfl).drop.pull 3 rfl).drop) (hT2.out.stop hput.out))
      clear O7 O8 OM
      go_end0
      exact ⟨rfl, O9.out⟩
end Go.Proofs.Ytkdagljoiacaaaa
