/- buffer: rows of deeds; the buffer as an assertion; New, Add, Len, List: walks. -/
import Derived.Test.YtkdagljoiacaaaaBuf2r
import Derived.Test.YtkdagljoiacaaaaArRc
set_option linter.unusedSimpArgs false
set_option linter.unusedVariables false
namespace Go
theorem Src.ofRows {P : Program} {w : World} {size : Nat} {tx e' : TypeId} (hk : P.underlying tx = some (.slice e')) (hs0 : 0 < size) {A : Option Addr} {n : Nat} {f : Nat → Nat → Value} (hr : RowsAt w A size n f) (c : Nat) (news : List Value) (hl : news.length = n * size)
    (hf : ∀ i j, i < n → j < size → news[i * size + j]? = some (f i j)) (h1 : ∀ u ∈ news, u.oneCell' = true) : Src P size tx (.slice A n c) n news w := by
  by_cases hn : 0 < n
  · obtain ⟨b, off, rfl, hb, hc⟩ := hr hn
    refine Src.ofSlice (P := P) w hk ⟨b, off, none⟩ n c news hl (fun j u hu => ?_) h1
    have hj : j < n * size := by rw [← hl]; exact (List.getElem?_eq_some_iff.1 hu).1
    have hi : j / size < n := Nat.div_lt_of_lt_mul (by rw [Nat.mul_comm]; exact hj)
    have e1 : j / size * size + j % size = j := by rw [Nat.mul_comm]; exact Nat.div_add_mod j size
    have h2 := hc (j / size) (j % size) hi (Nat.mod_lt _ hs0)
    have h3 := hf (j / size) (j % size) hi (Nat.mod_lt _ hs0)
    rw [e1] at h2 h3
    rw [Addr.add_lit, h2, ← h3, hu]
  · obtain rfl : n = 0 := by omega
    obtain rfl : news = [] := List.eq_nil_of_length_eq_zero (by simpa using hl)
    cases A with
    | none => exact Src.ofNil (P := P) w hk c
    | some a => exact Src.ofSlice (P := P) w hk a 0 c [] (by simp) (fun j u h => by simp at h) h1
end Go
namespace Go.Proofs.Ytkdagljoiacaaaa
open Go.RowKit
def ddsCs (l : List DdR) : List Value := l.flatMap DdR.cs
abbrev dd0 : DdR := ⟨0, bd0, 0⟩
def ddRow (ds : List DdR) (i j : Nat) : Value := (ds.getD i dd0).cs.getD j (.bool false)
theorem ddsCs_append (l m : List DdR) : ddsCs (l ++ m) = ddsCs l ++ ddsCs m := by simp [ddsCs]
theorem ddsCs_length (l : List DdR) : (ddsCs l).length = l.length * 13 := by
  induction l with
  | nil => rfl
  | cons d r ih =>
    show (d.cs ++ ddsCs r).length = _
    rw [List.length_append, ih]
    show 13 + r.length * 13 = (r.length + 1) * 13
    omega
theorem ddsCs_get (l : List DdR) (i : Nat) (d : DdR) (hi : l[i]? = some d) (j : Nat) (hj : j < 13) : (ddsCs l)[i * 13 + j]? = d.cs[j]? := by
  induction l generalizing i with
  | nil => simp at hi
  | cons c r ih =>
    show (c.cs ++ ddsCs r)[i * 13 + j]? = _
    have hd : c.cs.length = 13 := rfl
    cases i with
    | zero =>
      simp only [List.getElem?_cons_zero, Option.some.injEq] at hi
      subst hi
      rw [List.getElem?_append_left (by rw [hd]; omega)]
      simp
    | succ i =>
      rw [List.getElem?_append_right (by rw [hd]; omega), hd, show (i + 1) * 13 + j - 13 = i * 13 + j by omega]
      exact ih i (by simpa using hi)
theorem ddsCs_one (l : List DdR) : ∀ u ∈ ddsCs l, u.oneCell' = true := fun u hu => by
  unfold ddsCs at hu
  obtain ⟨p, _, hp⟩ := List.mem_flatMap.1 hu
  simp only [DdR.cs, List.mem_cons, List.not_mem_nil, or_false] at hp
  rcases hp with rfl | rfl | rfl | rfl | rfl | rfl | rfl | rfl | rfl | rfl | rfl | rfl | rfl <;> rfl
theorem infoDd : (Try.prog.info? 45).map (fun i => (i.zero, i.size, i.bytes)) = some (some (.agg #[nI 0, nI 0, nI 0, nI 0, nI 0, nI 0, nI 0, nI 0, nI 0, nI 0, nI 0, nI 0, nI 0]), 13, 104) := by kernel_rfl
theorem underDds : Try.prog.underlying 22 = some (.slice 45) := by kernel_rfl
/-- a deed's cells, from a place on -/
structure Dd13 (w : World) (g p : Nat) (d : DdR) : Prop where
  c0 : w.cell? ⟨g, p, none⟩ = some (nI d.kind)
  c1 : w.cell? ⟨g, p + 1, none⟩ = some (nI d.b.id.s)
  c2 : w.cell? ⟨g, p + 2, none⟩ = some (nI d.b.id.i)
  c3 : w.cell? ⟨g, p + 3, none⟩ = some (nI d.b.id.g)
  c4 : w.cell? ⟨g, p + 4, none⟩ = some (nI d.b.mask)
  c5 : w.cell? ⟨g, p + 5, none⟩ = some (nI d.b.x)
  c6 : w.cell? ⟨g, p + 6, none⟩ = some (nI d.b.y)
  c7 : w.cell? ⟨g, p + 7, none⟩ = some (nI d.b.vx)
  c8 : w.cell? ⟨g, p + 8, none⟩ = some (nI d.b.vy)
  c9 : w.cell? ⟨g, p + 9, none⟩ = some (nI d.b.hp)
  c10 : w.cell? ⟨g, p + 10, none⟩ = some (nI d.b.pw)
  c11 : w.cell? ⟨g, p + 11, none⟩ = some (nI d.b.lf)
  c12 : w.cell? ⟨g, p + 12, none⟩ = some (nI d.mask)
theorem sl_dd {w : World} {A : Option Addr} {n c : Nat} {xs : List DdR} (h : Sl w 13 (.slice A n c) n (ddsCs xs)) (i : Nat) (b : DdR) (hb : xs[i]? = some b) (hi : i < n) : ∃ g o, A = some ⟨g, o, none⟩ ∧ InW g w ∧ Dd13 w g (o + i * 13) b := by
  obtain ⟨g, o, hA, hg, hc⟩ := h.cellsOf (by omega)
  have key : ∀ k, k < 13 → w.cell? ⟨g, o + i * 13 + k, none⟩ = b.cs[k]? := fun k hk => by
    rw [Nat.add_assoc, hc (i * 13 + k) (by omega), ddsCs_get _ i b hb k hk]
  exact ⟨g, o, hA, ⟨hg⟩, key 0 (by omega), key 1 (by omega), key 2 (by omega), key 3 (by omega), key 4 (by omega), key 5 (by omega), key 6 (by omega), key 7 (by omega), key 8 (by omega), key 9 (by omega), key 10 (by omega), key 11 (by omega), key 12 (by omega)⟩
theorem row_dd {w : World} {A : Option Addr} {n : Nat} {ds : List DdR} (h : RowsAt w A 13 n (ddRow ds)) (i : Nat) (b : DdR) (hb : ds[i]? = some b) (hi : i < n) : ∃ g o, A = some ⟨g, o, none⟩ ∧ InW g w ∧ Dd13 w g (o + i * 13) b := by
  obtain ⟨g, o, rfl, hl, hc⟩ := h (by omega)
  have e : ds.getD i dd0 = b := by rw [List.getD_eq_getElem?_getD, hb]; rfl
  have key : ∀ k, k < 13 → w.cell? ⟨g, o + i * 13 + k, none⟩ = some (b.cs.getD k (.bool false)) := fun k hk => by
    have := hc i k hi hk
    unfold ddRow at this
    rw [e] at this
    rw [Nat.add_assoc]
    exact this
  exact ⟨g, o, rfl, ⟨hl⟩, key 0 (by omega), key 1 (by omega), key 2 (by omega), key 3 (by omega), key 4 (by omega), key 5 (by omega), key 6 (by omega), key 7 (by omega), key 8 (by omega), key 9 (by omega), key 10 (by omega), key 11 (by omega), key 12 (by omega)⟩
theorem src_dds {w : World} {A : Option Addr} {n c : Nat} {ps : List DdR} (h : Sl w 13 (.slice A n c) n (ddsCs ps)) (hn : n = ps.length) : Src Try.prog 13 22 (.slice A n c) n (ddsCs ps) w := by
  rcases h.val with ⟨he, h0⟩ | ⟨g, off, cap, he, _, _, _, hc, _⟩
  · cases he
    obtain rfl : ps = [] := List.eq_nil_of_length_eq_zero (by omega)
    exact Src.ofNil w underDds 0
  · cases he
    exact Src.ofSlice w underDds ⟨g, off, none⟩ n c (ddsCs ps) (by rw [ddsCs_length, hn]) (fun j u hj => by
      rw [Addr.add_lit, hc j (by have := (List.getElem?_eq_some_iff.1 hj).1; rw [ddsCs_length, ← hn] at this; exact this)]
      exact hj) (ddsCs_one ps)
theorem src_ddr {w : World} {A : Option Addr} {n : Nat} {ds : List DdR} (h : RowsAt w A 13 n (ddRow ds)) (hn : n = ds.length) (c : Nat) : Src Try.prog 13 22 (.slice A n c) n (ddsCs ds) w := by
  refine Src.ofRows underDds (by omega) h c (ddsCs ds) (by rw [ddsCs_length, hn]) (fun i j hi hj => ?_) (ddsCs_one ds)
  obtain ⟨b, hb⟩ : ∃ b, ds[i]? = some b := ⟨_, List.getElem?_eq_getElem (by omega)⟩
  have e : ds.getD i dd0 = b := by rw [List.getD_eq_getElem?_getD, hb]; rfl
  rw [ddsCs_get _ i b hb j hj]
  unfold ddRow
  rw [e, List.getD_eq_getElem?_getD, List.getElem?_eq_getElem (show j < b.cs.length from hj)]
  rfl
theorem src_dd (w : World) (B : Nat) (b : DdR) (h : ∀ j, j < 13 → w.cell? ⟨B, j, none⟩ = b.cs[j]?) : Src Try.prog 13 22 (.slice (some ⟨B, 0, none⟩) 1 1) 1 b.cs w := by
  refine Src.ofCells underDds _ _ rfl (fun j hj => h j hj) (fun u hu => ?_) 1
  have := ddsCs_one [b] u (by unfold ddsCs; simpa using hu)
  exact this
theorem src_ddNew (w : World) (b : DdR) (t : TypeId) : Src Try.prog 13 22 (.slice (some ⟨w.heap.size, 0, none⟩) 1 1) 1 b.cs (w.alloc (.cells b.cs.toArray t)) :=
  src_dd _ _ b fun j hj => by rw [World.cell?_alloc_new]; simp
/-- the buffer -/
def bufL (B : Nat) (p : Option Addr × Nat) (ds : List DdR) : List Asn := [cellsA B [.slice p.1 ds.length p.2], slA 13 (.slice p.1 ds.length p.2) ds.length (ddsCs ds)]
def bufA (B : Nat) (ds : List DdR) : Asn := exA fun p : Option Addr × Nat => bufL B p ds
theorem buf_open {W wx : World} {B : Nat} {ds : List DdR} {l : List Asn} (h : Own W wx (bufA B ds :: l)) : ∃ A c, Own W wx (cellsA B [.slice A ds.length c] :: slA 13 (.slice A ds.length c) ds.length (ddsCs ds) :: l) := by
  obtain ⟨⟨A, c⟩, h⟩ := h.ex
  exact ⟨A, c, h⟩
theorem buf_mk {W wx : World} {B : Nat} {ds : List DdR} {l : List Asn} {A : Option Addr} {c : Nat} (h : Own W wx (cellsA B [.slice A ds.length c] :: slA 13 (.slice A ds.length c) ds.length (ddsCs ds) :: l)) : Own W wx (bufA B ds :: l) :=
  Own.mk (fun p : Option Addr × Nat => bufL B p ds) (A, c) h
set_option maxHeartbeats 400000
theorem bnew_O {W wx : World} {l : List Asn} (h : Own W wx l) : Calls Try.prog 12 #[] wx fun e w' => ∃ B, e = .returned (chP B) ∧ Own W w' (bufA B [] :: l) := by
  have O1 := Lib.hid ((Own.nilSl h 13).newCells [.slice none 0 0] 73)
  clear h
  go_enter Try.func12, Try.ntmps12
  go_wp2_with fail
  go_ret
  exact ⟨_, rfl, buf_mk (ds := []) O1.out⟩
theorem blen_O {W wx : World} {B : Nat} {ds : List DdR} {l : List Asn} (h : Own W wx (bufA B ds :: l)) : Calls Try.prog 19 #[chP B] wx fun e w' => e = .returned (nI ds.length) ∧ wx.Plus w' := by
  obtain ⟨A, c, O⟩ := buf_open h
  obtain ⟨lB, qB, _⟩ := O.cells 0 rfl
  have b0 := qB 0 (by simp)
  simp only [List.getElem?_cons_zero] at b0
  haveI : InW B wx := ⟨lB⟩
  clear qB lB O h
  go_enter Try.func19, Try.ntmps19
  go_wp2_with fail
  go_ret
  exact ⟨rfl, by (repeat (first | exact Plus.refl _ | apply Plus.plus | apply Plus.alloc | apply Plus.drew))⟩
set_option maxRecDepth 100000 in
theorem badd_O {W wx : World} {B : Nat} {ds : List DdR} {l : List Asn} (h : Own W wx (bufA B ds :: l)) (A1 : Option Addr) (c1 : Nat) (es : List DdR) (n1 : Nat) (hn1 : n1 = es.length) (hS : Src Try.prog 13 22 (.slice A1 n1 c1) n1 (ddsCs es) wx) (hl : ds.length + es.length ≤ 100000) :
    Calls Try.prog 13 #[chP B, .slice A1 n1 c1] wx (OwnTo W (nI 0) (bufA B (ds ++ es) :: l)) := by
  obtain ⟨i0, hi0, hz0, hz1, hz2⟩ := info_parts infoDd
  replace hi0 := Lib.hid hi0
  replace hz0 := Lib.hid hz0
  replace hz1 := Lib.hid hz1
  replace hz2 := Lib.hid hz2
  obtain ⟨A, c, O⟩ := buf_open h
  obtain ⟨lB, qB, fB⟩ := O.cells 0 rfl
  have b0 := qB 0 (by simp)
  simp only [List.getElem?_cons_zero] at b0
  haveI : InW B wx := ⟨lB⟩
  clear qB fB lB h
  obtain ⟨n, hn⟩ : ∃ n, n = ds.length := ⟨_, rfl⟩
  rw [← hn] at b0
  have O1 := O.rot1
  rw [← hn] at O1
  have hb : n + n1 ≤ 100000 := by omega
  have OP := Lib.hid (Own.atP O1)
  replace hS := Lib.hid hS
  replace hn := Lib.hid hn
  replace hn1 := Lib.hid hn1
  clear O hl O1
  go_enter Try.func13, Try.ntmps13
  go_upto_region 4 with (at_builtin; refine wpList_append_O rfl _ _ 22 22 rfl 45 i0 _ 13 104 underDds hi0.out hz0.out hz1.out hz2.out rfl rfl (OP.out _ (Plus.refl _)) rfl hS.out (by unfold maxLen; omega) (by omega) ?_; intro A2 cap2 w6 O6; obtain ⟨lB, qB, fB⟩ := O6.cells 1 rfl; haveI : InW B w6 := ⟨lB⟩; have b1 := qB 0 (by simp); have f1 := fB 0; simp only [List.getElem?_cons_zero] at b1; clear qB fB)
  all_goals
    have O7 := O6.setCellAt 1 0 (.slice A2 (n + n1) cap2) rfl (by simp)
    have O8 := O7.rot1
    have e1 : n + n1 = (ds ++ es).length := by rw [List.length_append, hn.out, hn1.out]
    have O9 : Own W (w6.setCell ⟨B, 0, none⟩ (.slice A2 (n + n1) cap2)) (bufA B (ds ++ es) :: l) := by
      rw [e1, ← ddsCs_append] at O8
      rw [e1]
      exact buf_mk O8
    replace O9 := Lib.hid O9
    replace e1 := Lib.hid e1
    clear O6 O7 O8 OP
    go_wp2_with fail
    go_ret
    exact ⟨rfl, O9.out⟩
end Go.Proofs.Ytkdagljoiacaaaa
