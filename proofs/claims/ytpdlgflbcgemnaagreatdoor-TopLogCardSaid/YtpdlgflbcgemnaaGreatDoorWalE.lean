/- wal: Open of a log of one segment at the most: walk. -/
import Derived.Test.YtpdlgflbcgemnaaGreatDoorWalD
import Derived.Test.YtpdlgflbcgemnaaGreatDoorTake
set_option linter.unusedSimpArgs false
set_option linter.unusedVariables false
set_option maxRecDepth 100000
namespace Go.Proofs.YtpdlgflbcgemnaaGreatDoor
open Go.RowKit
theorem _root_.Go.Own.toSl1 {W w : World} {l : List Asn} {B : Nat} {v : Value} (h : Own W w (cellsA B [v] :: l)) : Own W w (slA 1 (.slice (some ⟨B, 0, none⟩) 1 1) 1 [v] :: l) :=
  Own.step (A := fun _ => False) h fun A ⟨h1, h2, h3, h4⟩ => ⟨A, Chg.refl _ _, ⟨fun k => by rw [h1]; simp [Value.ownBlock]; exact eq_comm, ⟨rfl, .inr ⟨B, 0, 1, rfl, h2, Nat.le_refl _, by unfold maxLen; omega, fun j hj => by rw [Nat.zero_add]; exact h3 j (by simpa using hj), fun j hj => ⟨by
    rw [Nat.zero_add, h3 j (by simpa using hj)]
    obtain rfl : j = 0 := by omega
    rfl, h4 _⟩⟩⟩⟩, fun k a => .inl a⟩
theorem _root_.Go.Sl.toSrc {P : Program} {w : World} {size n : Nat} {tx e' : TypeId} {A : Option Addr} {c : Nat} {cs : List Value} (hk : P.underlying tx = some (.slice e')) (h : Sl w size (.slice A n c) n cs) (h1 : ∀ u ∈ cs, u.oneCell' = true) : Src P size tx (.slice A n c) n cs w := by
  have hl := h.len
  rcases h.val with ⟨he, h0⟩ | ⟨g, off, cap, he, hg, _, _, hc, _⟩
  · cases he
    obtain rfl : cs = [] := List.eq_nil_of_length_eq_zero (by rw [hl, h0]; simp)
    exact Src.ofNil (P := P) w hk 0
  · cases he
    exact Src.ofSlice (P := P) w hk ⟨g, off, none⟩ n c cs hl (fun j u hj => by
      have hjl := (List.getElem?_eq_some_iff.1 hj).1
      rw [Addr.add_lit, hc j (by omega)]
      exact hj) h1
section
variable {W wx : World} {l : List Asn} {G D : Nat} {d : Dk}
/-- what Open leaves -/
structure Opened (f : Fl) (at' : Nat) (d d' : Dk) : Prop where
  n : d'.n = 1
  f : d'.F nm = some ⟨f.s.extract 0 at', (f.s.extract 0 at').size⟩
  room : d'.room = d.room
  dead : d'.dead = false
def OpenO (W : World) (D : Nat) (d : Dk) (f : Fl) (T : List ByteArray) (at' : Nat) (l : List Asn) (e : Ending) (w' : World) : Prop :=
  ∃ G A c d', e = .returned (.tuple #[ptV G, .slice A T.length c, .int .i64 0]) ∧ Opened f at' d d' ∧ Own W w' (logA G D T.length :: slA 1 (.slice A T.length c) T.length (T.map Value.string) :: diskA D d' :: l)
theorem segmentsB {v x : Value} (h : Own W wx (cellsA G [ptV D, .string tLog, v, x] :: diskA D d :: l)) (f : Fl) (hcase : (d.n = 0 ∧ d.F nm = none ∧ f = fl0) ∨ (d.n = 1 ∧ d.F nm = some f)) :
    Calls Tryz.prog 16 #[ptV G] wx fun e w' => ∃ A m c, ((m = 0 ∧ d.n = 0 ∧ d.F nm = none ∧ f = fl0) ∨ (m = 1 ∧ d.n = 1 ∧ d.F nm = some f)) ∧ e = .returned (.slice A m c) ∧ Own W w' (slA 1 (.slice A m c) m (List.replicate m (.int .i64 0)) :: cellsA G [ptV D, .string tLog, v, x] :: diskA D d :: l) := by
  rcases hcase with ⟨h1, h2, h3⟩ | ⟨h1, h2⟩
  · refine (segments0 h h1).mono ?_
    rintro e w' ⟨rfl, O⟩
    exact ⟨none, 0, 0, .inl ⟨rfl, h1, h2, h3⟩, rfl, Own.nilSl O 1⟩
  · refine (segments1 h h1 f h2).mono ?_
    rintro e w' ⟨A, c, rfl, O⟩
    exact ⟨A, 1, c, .inr ⟨rfl, h1, h2⟩, rfl, O⟩
theorem str_one (T : List ByteArray) : ∀ u ∈ T.map Value.string, u.oneCell' = true := fun u hu => by
  obtain ⟨s, -, rfl⟩ := List.mem_map.1 hu
  rfl
theorem allOwn (hT : Frm.Nib W) (h : Own W wx l) (s : ByteArray) (hs : s.size ≤ 1000000) (T : List ByteArray) (at' : Nat) (hall : Frm.allOf s 0 = (T, at')) :
    Calls Tryz.prog 20 #[.string s] wx fun e w' => ∃ A c, e = .returned (.tuple #[.slice A T.length c, .int .i64 (at' : Int)]) ∧ Own W w' (slA 1 (.slice A T.length c) T.length (T.map Value.string) :: l) := by
  refine (Frm.all_any s wx (hT.plus h.p) hs).mono ?_
  rw [hall]
  rintro e w' ⟨v, rfl, hr, hp⟩
  obtain ⟨h1, h2⟩ := hr.toSl
  obtain ⟨A, c, rfl⟩ := h1.shape
  exact ⟨A, c, rfl, Own.add h (Chg.of_Plus hp _) (Q := slA 1 _ T.length (T.map Value.string)) (A := fun k => (Value.slice A T.length c).ownBlock = some k) ⟨fun k => Iff.rfl, h1⟩ h2⟩
theorem wp_blind {P : Program} {c : Code} {K : Act → World → Prop} {Q : Exit → Act → World → Prop} {a : Act} {w : World} (h : c.wp P (Exit.then K (fun _ _ _ => False)) a w) : c.wp P (Exit.then K Q) a w :=
  Code.wp_mono (fun e a w q => by cases e <;> first | exact q | exact q.elim) h

set_option maxHeartbeats 8000000 in
theorem walOpen_O (h : Own W wx (diskA D d :: l)) (hT : Frm.Nib W) (hd : d.dead = false) (hr : d.room ≤ 4611686018427387904) (f : Fl) (hcase : (d.n = 0 ∧ d.F nm = none ∧ f = fl0) ∨ (d.n = 1 ∧ d.F nm = some f)) (hs : f.s.size ≤ 100000) (T : List ByteArray) (at' : Nat) (hall : Frm.allOf f.s 0 = (T, at')) (hat : at' ≤ f.s.size) (hTl : T.length ≤ 1000) :
    Calls Tryz.prog 5 #[ptV D, .string tLog] wx (OpenO W D d f T at' l) := by
  have kR := Lib.hid (fun w => walRight w)
  replace h := Lib.hid h
  refine (callsIn_wide (n := 20)).1 ?_
  refine callsIn_of_wp_marks Tryz.func5 rfl trivial ?_ rfl
  simp only [Tryz.ntmps5, List.size_toArray, List.length_cons, List.length_nil, Nat.reduceAdd, Nat.reduceSub, Array.replicate_succ, Array.replicate_zero, List.push_toArray, List.append_toArray, List.nil_append, List.cons_append]
  refine wpIn_wide.2 ?_
  go_upto_region 4 with (go_at_call 15; (with_reducible refine (kR.out _).mono ?_); rintro e w1 ⟨rfl, e0, rfl⟩)
  have O1 := (((h.out.newCells [ptV D] 23).plus e0).newCells [ptV D, .string tLog, .slice none 0 0, .int .i64 0] 52).newCells [ptV (wx.heap.size + 1 + e0.objs.size)] 25
  simp only [World.size_alloc, World.size_plus_eq] at O1
  generalize hBl : wx.heap.size + 1 + e0.objs.size + 1 = Bl at *
  generalize hG : wx.heap.size + 1 + e0.objs.size = G at *
  generalize hBd : wx.heap.size = Bd at *
  generalize hw2 : ((((wx.alloc (.cells #[ptV D] 23)).plus e0).alloc _).alloc _) = w2 at *
  clear hBl hG hBd hw2 kR h
  have kS := Lib.hid (segmentsB ((O1.pull 3 rfl).pull 2 rfl) f hcase)
  obtain ⟨lL, qL, -⟩ := O1.cells 0 rfl
  have l0 := qL 0 (by simp)
  simp only [List.getElem?_cons_zero] at l0
  haveI : InW Bl w2 := ⟨lL⟩
  clear O1 qL lL hcase
  go_upto_if 35 with (go_at_call 16; (with_reducible refine kS.out.mono ?_); rintro e w3 ⟨A, m, c, hm, rfl, O3⟩)
  dsimp only [List.eraseIdx] at O3
  clear kS l0
  go_cut [8, 9] from 36 to 43 (fun v _ wz => ∃ A c d1, v = .slice A 1 c ∧ d1.n = 1 ∧ d1.F nm = some f ∧ d1.room = d.room ∧ d1.dead = false ∧ Own W wz (slA 1 (.slice A 1 c) 1 [.int .i64 0] :: cellsA G [ptV D, .string tLog, .slice none 0 0, .int .i64 0] :: diskA D d1 :: cellsA Bl [ptV G] :: cellsA Bd [ptV D] :: l))
  case first =>
    rcases hm with ⟨rfl, h1, h2, rfl⟩ | ⟨rfl, h1, h2⟩
    · obtain ⟨lG, qG, -⟩ := O3.cells 1 rfl
      obtain ⟨lL, qL, -⟩ := O3.cells 3 rfl
      obtain ⟨lB, qB, -⟩ := O3.cells 4 rfl
      have g1 := qG 1 (by simp)
      have l0 := qL 0 (by simp)
      have b0 := qB 0 (by simp)
      simp only [List.getElem?_cons_succ, List.getElem?_cons_zero] at g1 l0 b0
      haveI : InW Bl w3 := ⟨lL⟩
      haveI : InW Bd w3 := ⟨lB⟩
      have kF := Lib.hid (fun (wz : World) (p : w3.Plus wz) => file0 (G := G) wz (Nat.lt_of_lt_of_le lG (Chg.of_Plus p (fun _ => False)).size) (((Chg.of_Plus p (fun _ => False)).cell lG (fun h => h)).trans g1))
      have kA := fun (wz : World) (p : w3.Plus wz) => diskAppend_O ((O3.grown p).pull 2 rfl) hd nm ⟨#[]⟩ ⟨by decide, by decide⟩ hr (.inr (by omega)) (by rw [h2]; decide)
      have hz : ¬ d.room < (⟨#[]⟩ : ByteArray).size := by simp [ByteArray.size]
      simp only [if_neg hz] at kA
      have e1 : (apD d nm ⟨#[]⟩).n = 1 := by simp [apD, h2, h1]
      have e2 : (apD d nm ⟨#[]⟩).F nm = some fl0 := by
        simp [apD, putF, apF, h2]
        rfl
      have e3 : (apD d nm ⟨#[]⟩).room = d.room := by simp [apD, ByteArray.size]
      have e4 : (apD d nm ⟨#[]⟩).dead = false := by simp [apD, ByteArray.size]
      generalize apD d nm ⟨#[]⟩ = d1 at *
      replace kA := Lib.hid kA
      clear O3 qG qL qB lG lL lB g1 hz h1 h2
      go_upto_region 6 with fail
      refine wp_region_grow_tail 3 (by kernel_rfl) (by kernel_rfl) ?_
      simp only [List.take_succ_cons, List.take_zero, List.drop_succ_cons, List.drop_zero]
      repeat (go_big_quiet_step ((go_at_call 18; exact Calls.plus_of (kF.out _ (by (repeat (first | exact Plus.refl _ | apply Plus.plus | apply Plus.alloc | apply Plus.drew)))))))
      refine wpQuiet_nil ?_
      intro ex
      go_wp2_with (go_at_call 17; (with_reducible refine (kA.out _ (by (repeat (first | exact Plus.refl _ | apply Plus.plus | apply Plus.alloc | apply Plus.drew)))).mono ?_); rintro e w4 ⟨rfl, O4⟩)
      go_meet
      have O5 := (O4.newCells [.int .i64 0] 3).toSl1
      have O6 := (((O5.pull 3 rfl).rot1).pull 3 rfl).drop
      dsimp only [List.eraseIdx] at O6
      refine ⟨_, _, d1, rfl, e1, e2, e3, e4, ?_⟩
      exact ((O5.pull 2 rfl).drop.pull 2 rfl).rot1
    · have O4 := Lib.hid O3
      clear O3
      go_wp2_with fail
      go_meet
      exact ⟨A, c, d, rfl, h1, h2, rfl, hd, O4.out⟩
  clear hm O3
  obtain ⟨A2, c2, d1, rfl, hn1, hf1, hr1, hd1, O⟩ := hcut
  obtain ⟨g, o, rfl, hg, hc⟩ := (O.sl 0 rfl).cellsOf (by omega)
  have t0 : wc.cell? ⟨g, o, none⟩ = some (.int .i64 0) := hc 0 (by omega)
  obtain ⟨lG, qG, fG⟩ := O.cells 1 rfl
  obtain ⟨lL, qL, -⟩ := O.cells 3 rfl
  have g3 := qG 3 (by simp)
  have fg3 := fG 3
  have l0 := qL 0 (by simp)
  simp only [List.getElem?_cons_succ, List.getElem?_cons_zero] at g3 l0
  haveI : InW g wc := ⟨hg⟩
  haveI : InW G wc := ⟨lG⟩
  haveI : InW Bl wc := ⟨lL⟩
  clear hc qG fG qL hg lG lL
  replace O := Lib.hid O
  go_upto_region 11 with fail
  refine wp_region_grow_tail 6 (by kernel_rfl) (by kernel_rfl) ?_
  simp only [List.take_succ_cons, List.take_zero, List.drop_succ_cons, List.drop_zero]
  repeat (go_big_quiet_step (fail))
  refine wpQuiet_nil ?_
  intro ex
  go_upto_region 14 with fail
  replace O := (O.out.setCellAt 1 3 (.int .i64 0) rfl (by simp)).plus ex
  simp only [List.set_cons_succ, List.set_cons_zero] at O
  clear t0 g3 fg3 l0
  generalize World.plus _ ex = w5 at *
  replace O := Lib.hid O
  go_loopw [10, 11, 52] (fun s b i wr => (s = .slice none 0 0 ∧ b = .bool true ∧ i = .int .i64 0 ∧ wr = w5) ∨ ∃ A c d2 wb v, s = .slice A T.length c ∧ b = .bool wb ∧ i = .int .i64 1 ∧ d2.n = 1 ∧ d2.F nm = some ⟨f.s.extract 0 at', min f.sure at'⟩ ∧ d2.room = d.room ∧ d2.dead = false ∧ Own W wr (slA 1 (.slice A T.length c) T.length (T.map Value.string) :: cellsA G [ptV D, .string tLog, v, .int .i64 (T.length : Int)] :: slA 1 v 1 [.int .i64 0] :: diskA D d2 :: cellsA Bl [ptV G] :: cellsA Bd [ptV D] :: l)) (fun _ _ i _ => 1 - (intOf i).toNat)
  case atStart => exact .inl ⟨rfl, rfl, rfl, rfl⟩
  case round =>
    rcases hrel with ⟨rfl, rfl, rfl, rfl⟩ | ⟨A, c, d2, wb, v, rfl, rfl, rfl, hn2, hf2, hr2, hd2, O2⟩
    · obtain ⟨g', o', hgo, hg, hc⟩ := (O.out.sl 0 rfl).cellsOf (by omega)
      cases hgo
      have t0 : wr.cell? ⟨g, o, none⟩ = some (.int .i64 0) := hc 0 (by omega)
      obtain ⟨lG, qG, -⟩ := O.out.cells 1 rfl
      obtain ⟨lL, qL, -⟩ := O.out.cells 3 rfl
      obtain ⟨lB, qB, -⟩ := O.out.cells 4 rfl
      have g1 := qG 1 (by simp)
      have g3 := qG 3 (by simp)
      have l0 := qL 0 (by simp)
      have b0 := qB 0 (by simp)
      simp only [List.getElem?_cons_succ, List.getElem?_cons_zero] at g1 g3 l0 b0
      haveI : InW g wr := ⟨hg⟩
      haveI : InW G wr := ⟨lG⟩
      haveI : InW Bl wr := ⟨lL⟩
      haveI : InW Bd wr := ⟨lB⟩
      have kF := Lib.hid (fun (wz : World) (p : wr.Plus wz) => file0 (G := G) wz (Nat.lt_of_lt_of_le lG (Chg.of_Plus p (fun _ => False)).size) (((Chg.of_Plus p (fun _ => False)).cell lG (fun h => h)).trans g1))
      have kR := fun (wz : World) (p : wr.Plus wz) => diskRead_O ((O.out.grown p).pull 2 rfl) nm ⟨by decide, by decide⟩
      rw [hf1] at kR
      simp only [Option.getD_some, Option.isSome_some, if_true] at kR
      replace kR := Lib.hid kR
      have kL := fun (wz : World) (O' : Own W wz (slA 1 (.slice (some ⟨g, o, none⟩) 1 c2) 1 [.int .i64 0] :: cellsA G [ptV D, .string tLog, .slice none 0 0, .int .i64 0] :: diskA D d1 :: cellsA Bl [ptV G] :: cellsA Bd [ptV D] :: l)) => allOwn hT O' f.s (by omega) T at' hall
      replace kL := Lib.hid kL
      clear hc qG qL qB hg lG lL lB g1
      go_upto_region 18 with fail
      refine wp_region_grow (by kernel_rfl) (by kernel_rfl) ?_
      repeat (go_big_quiet_step ((first | (go_at_call 18; exact Calls.plus_of (kF.out _ (by (repeat (first | exact Plus.refl _ | apply Plus.plus | apply Plus.alloc | apply Plus.drew))))) | (go_at_call 19; exact Calls.plus_of (kR.out _ (by (repeat (first | exact Plus.refl _ | apply Plus.plus | apply Plus.alloc | apply Plus.drew))))))))
      refine wpQuiet_nil ?_
      intro ex
      replace O := Lib.hid (O.out.plus ex)
      go_upto_region 20 with (go_at_call 20; (with_reducible refine (kL.out _ O.out).mono ?_); rintro e w6 ⟨Ar, cr, rfl, O6⟩)
      replace O6 := (O6.pull 1 rfl).drop
      dsimp only [List.eraseIdx] at O6
      obtain ⟨lG, qG, -⟩ := O6.cells 1 rfl
      obtain ⟨lL, qL, -⟩ := O6.cells 3 rfl
      have g2 := qG 2 (by simp)
      have g3' := qG 3 (by simp)
      have l0' := qL 0 (by simp)
      simp only [List.getElem?_cons_succ, List.getElem?_cons_zero] at g2 g3' l0'
      haveI : InW G w6 := ⟨lG⟩
      haveI : InW Bl w6 := ⟨lL⟩
      have OP := Lib.hid (fun (wz : World) (p : w6.Plus wz) => Own.nilSl (O6.grown p) 1)
      clear O6 O qG qL lG lL t0 g3 l0 b0 kF kR kL
      go_cut [10] from 79 to 101 (fun s wz => ∃ As cs Ai ci, s = .slice As T.length cs ∧ Own W wz (slA 1 (.slice As T.length cs) T.length (T.map Value.string) :: slA 1 (.slice Ai 1 ci) 1 [.int .i64 0] :: slA 1 (.slice Ar T.length cr) T.length (T.map Value.string) :: cellsA G [ptV D, .string tLog, .slice Ai 1 ci, .int .i64 (T.length : Int)] :: diskA D d1 :: cellsA Bl [ptV G] :: cellsA Bd [ptV D] :: l))
      case first =>
        rename_i J K' hJ hK'
        refine wp_blind ?_
        refine wp_region_any (by kernel_rfl) ?_
        refine (wpAnyC.toAny (m := 21) (D := fun w => w.cell? ⟨G, 2, none⟩ = some (.slice none 0 0) ∧ w.cell? ⟨G, 3, none⟩ = some (.int .i64 0)) (E := fun w => w.cell? ⟨Bl, 0, none⟩ = some (ptV G)) ?_)
        refine wpAnyC_takeE (i := 0) (v := ?_) rfl (by decide) (by kernel_rfl) (fun _ _ _ h => h) _ _ _ _ (by kernel_rfl) (by kernel_rfl) ⟨by rfl, ?_⟩ ?_
        rotate_left
        · rintro wz e1
          first | (go_simp; done) | (go_simp; with_reducible rfl)
        try simp only [Act.put, List.setIfInBounds_toArray, List.set_cons_succ, List.set_cons_zero]
        refine wpAnyC_takeE (i := 1) (v := ?_) rfl (by decide) (by kernel_rfl) (fun _ _ _ h => h) _ _ _ _ (by kernel_rfl) (by kernel_rfl) ⟨by rfl, ?_⟩ ?_
        rotate_left
        · rintro wz e1
          first | (go_simp; done) | (go_simp; with_reducible rfl)
        try simp only [Act.put, List.setIfInBounds_toArray, List.set_cons_succ, List.set_cons_zero]
        refine wpAnyC_takeE (i := 2) (v := ?_) rfl (by decide) (by kernel_rfl) (fun _ _ _ h => h) _ _ _ _ (by kernel_rfl) (by kernel_rfl) ⟨by rfl, ?_⟩ ?_
        rotate_left
        · rintro wz e1
          first | (go_simp; done) | (go_simp; with_reducible rfl)
        try simp only [Act.put, List.setIfInBounds_toArray, List.set_cons_succ, List.set_cons_zero]
        refine wpAnyC_takeE (i := 3) (v := ?_) rfl (by decide) (by kernel_rfl) (fun _ _ _ h => h) _ _ _ _ (by kernel_rfl) (by kernel_rfl) ⟨by rfl, ?_⟩ ?_
        rotate_left
        · rintro wz e1
          first | (go_simp; done) | (go_simp; with_reducible rfl)
        try simp only [Act.put, List.setIfInBounds_toArray, List.set_cons_succ, List.set_cons_zero]
        refine wpAnyC_takeE (i := 4) (v := ?_) rfl (by decide) (by kernel_rfl) (fun _ _ _ h => h) _ _ _ _ (by kernel_rfl) (by kernel_rfl) ⟨by rfl, ?_⟩ ?_
        rotate_left
        · rintro wz e1
          first | (go_simp; done) | (go_simp; with_reducible rfl)
        try simp only [Act.put, List.setIfInBounds_toArray, List.set_cons_succ, List.set_cons_zero]
        refine wpAnyC_takeD (i := 5) (v := ?_) rfl rfl (by decide) (by kernel_rfl) (by kernel_rfl) (fun _ _ _ h => h) _ _ _ _ (by kernel_rfl) (by kernel_rfl) (by kernel_rfl) ⟨by rfl, ?_⟩ ?_
        rotate_left
        · rintro wz ⟨e1, e2⟩
          first | (go_simp; done) | (go_simp; with_reducible rfl)
        try simp only [Act.put, List.setIfInBounds_toArray, List.set_cons_succ, List.set_cons_zero]
        refine wpAnyC_takeE (i := 6) (v := ?_) rfl (by decide) (by kernel_rfl) (fun _ _ _ h => h) _ _ _ _ (by kernel_rfl) (by kernel_rfl) ⟨by rfl, ?_⟩ ?_
        rotate_left
        · rintro wz e1
          first | (go_simp; done) | (go_simp; with_reducible rfl)
        try simp only [Act.put, List.setIfInBounds_toArray, List.set_cons_succ, List.set_cons_zero]
        refine wpAnyC_takeE (i := 9) (v := ?_) rfl (by decide) (by kernel_rfl) (fun _ _ _ h => h) _ _ _ _ (by kernel_rfl) (by kernel_rfl) ⟨by rfl, ?_⟩ ?_
        rotate_left
        · rintro wz e1
          first | (go_simp; done) | (go_simp; with_reducible rfl)
        try simp only [Act.put, List.setIfInBounds_toArray, List.set_cons_succ, List.set_cons_zero]
        refine wpAnyC_takeE (i := 10) (v := ?_) rfl (by decide) (by kernel_rfl) (fun _ _ _ h => h) _ _ _ _ (by kernel_rfl) (by kernel_rfl) ⟨by rfl, ?_⟩ ?_
        rotate_left
        · rintro wz e1
          first | (go_simp; done) | (go_simp; with_reducible rfl)
        try simp only [Act.put, List.setIfInBounds_toArray, List.set_cons_succ, List.set_cons_zero]
        refine wpAnyC_takeE (i := 11) (v := ?_) rfl (by decide) (by kernel_rfl) (fun _ _ _ h => h) _ _ _ _ (by kernel_rfl) (by kernel_rfl) ⟨by rfl, ?_⟩ ?_
        rotate_left
        · rintro wz e1
          first | (go_simp; done) | (go_simp; with_reducible rfl)
        try simp only [Act.put, List.setIfInBounds_toArray, List.set_cons_succ, List.set_cons_zero]
        refine wpAnyC_takeD (i := 12) (v := ?_) rfl rfl (by decide) (by kernel_rfl) (by kernel_rfl) (fun _ _ _ h => h) _ _ _ _ (by kernel_rfl) (by kernel_rfl) (by kernel_rfl) ⟨by rfl, ?_⟩ ?_
        rotate_left
        · rintro wz ⟨e1, e2⟩
          first | (go_simp; done) | (go_simp; with_reducible rfl)
        try simp only [Act.put, List.setIfInBounds_toArray, List.set_cons_succ, List.set_cons_zero]
        refine wpAnyC_takeE (i := 13) (v := ?_) rfl (by decide) (by kernel_rfl) (fun _ _ _ h => h) _ _ _ _ (by kernel_rfl) (by kernel_rfl) ⟨by rfl, ?_⟩ ?_
        rotate_left
        · rintro wz e1
          first | (go_simp; done) | (go_simp; with_reducible rfl)
        try simp only [Act.put, List.setIfInBounds_toArray, List.set_cons_succ, List.set_cons_zero]
        refine wpAnyC_takeE (i := 14) (v := ?_) rfl (by decide) (by kernel_rfl) (fun _ _ _ h => h) _ _ _ _ (by kernel_rfl) (by kernel_rfl) ⟨by rfl, ?_⟩ ?_
        rotate_left
        · rintro wz e1
          first | (go_simp; done) | (go_simp; with_reducible rfl)
        try simp only [Act.put, List.setIfInBounds_toArray, List.set_cons_succ, List.set_cons_zero]
        refine wpAnyC_takeE (i := 15) (v := ?_) rfl (by decide) (by kernel_rfl) (fun _ _ _ h => h) _ _ _ _ (by kernel_rfl) (by kernel_rfl) ⟨by rfl, ?_⟩ ?_
        rotate_left
        · rintro wz e1
          first | (go_simp; done) | (go_simp; with_reducible rfl)
        try simp only [Act.put, List.setIfInBounds_toArray, List.set_cons_succ, List.set_cons_zero]
        refine wpAnyC_takeE (i := 16) (v := ?_) rfl (by decide) (by kernel_rfl) (fun _ _ _ h => h) _ _ _ _ (by kernel_rfl) (by kernel_rfl) ⟨by rfl, ?_⟩ ?_
        rotate_left
        · rintro wz e1
          first | (go_simp; done) | (go_simp; with_reducible rfl)
        try simp only [Act.put, List.setIfInBounds_toArray, List.set_cons_succ, List.set_cons_zero]
        refine wpAnyC_takeE (i := 17) (v := ?_) rfl (by decide) (by kernel_rfl) (fun _ _ _ h => h) _ _ _ _ (by kernel_rfl) (by kernel_rfl) ⟨by rfl, ?_⟩ ?_
        rotate_left
        · rintro wz e1
          first | (go_simp; done) | (go_simp; with_reducible rfl)
        try simp only [Act.put, List.setIfInBounds_toArray, List.set_cons_succ, List.set_cons_zero]
        refine wpAnyC_one 7 _ (by kernel_rfl) rfl ⟨.inr ⟨g2, g3'⟩, l0'⟩ (fun K hK => ?_)
        go_simp
        refine hK _ _ ?_
        clear hK K
        refine wpAnyC_one 8 _ (by kernel_rfl) rfl ⟨.inr ⟨?_, ?_⟩, ?_⟩ (fun K hK => ?_)
        · first | (go_simp; done) | (simp [go_sem, *]; done)
        · first | (go_simp; done) | (simp [go_sem, *]; done)
        · first | (go_simp; done) | (simp [go_sem, *]; done)
        refine step_append_O (by rfl) (.tmp 84) (.tmp 86) 50 50 (by rfl) 3 Tryz.t3 (.int .i64 0) 1 8 (by kernel_rfl) (by kernel_rfl) (by kernel_rfl) (by kernel_rfl) (by kernel_rfl) rfl (by rfl) (OP.out _ (by (repeat (first | exact Plus.refl _ | apply Plus.plus | apply Plus.alloc | apply Plus.drew)))) (xv := .slice (some ⟨_, 0, none⟩) 1 1) (by rfl) (isrc _ _ 0 (by simp [go_sem])) (by unfold maxLen; first | omega | (simp only; omega)) (by first | omega | (simp only; omega)) ?_
        intro Ai ci w8 O8
        obtain ⟨lGx, qGx, fGx⟩ := O8.cells 2 rfl
        obtain ⟨lLx, qLx, -⟩ := O8.cells 4 rfl
        have x2 := qGx 2 (by simp)
        have x3 := qGx 3 (by simp)
        have y0 := qLx 0 (by simp)
        simp only [List.getElem?_cons_succ, List.getElem?_cons_zero] at x2 x3 y0
        have z2 := fGx 2
        have z3 := fGx 3
        haveI : InW G w8 := ⟨lGx⟩
        haveI : InW Bl w8 := ⟨lLx⟩
        clear qGx fGx qLx lGx lLx
        have OI := Lib.hid (fun (wz : World) (p : w8.Plus wz) => Own.nilSl (O8.grown p) 1)
        clear OP O8
        refine hK _ _ ?_
        clear hK K
        try simp only [Act.put, List.setIfInBounds_toArray, List.set_cons_succ, List.set_cons_zero]
        refine wpAnyC_one 18 _ (by kernel_rfl) rfl ⟨.inr ⟨x2, x3⟩, y0⟩ (fun K hK => ?_)
        refine step_append_O (by rfl) (.tmp 95) (.tmp 96) 26 26 (by rfl) 9 Tryz.t9 (.string ⟨#[]⟩) 1 16 (by kernel_rfl) (by kernel_rfl) (by kernel_rfl) (by kernel_rfl) (by kernel_rfl) rfl (by rfl) (OI.out _ (by first | exact Plus.refl _ | (repeat (first | exact Plus.refl _ | apply Plus.plus | apply Plus.alloc | apply Plus.drew)))) (xv := .slice Ar T.length cr) (by rfl) (((OI.out _ (by first | exact Plus.refl _ | (repeat (first | exact Plus.refl _ | apply Plus.plus | apply Plus.alloc | apply Plus.drew)))).sl 2 rfl).toSrc (P := Tryz.prog) (tx := 26) (e' := 9) (by kernel_rfl) (str_one T)) (by unfold maxLen; first | omega | (simp only; omega)) (by first | omega | (simp only; omega)) ?_
        intro As cs w9 O9
        obtain ⟨lGx, qGx, fGx⟩ := O9.cells 3 rfl
        obtain ⟨lLx, qLx, -⟩ := O9.cells 5 rfl
        have x2 := qGx 2 (by simp)
        have x3 := qGx 3 (by simp)
        have y0 := qLx 0 (by simp)
        simp only [List.getElem?_cons_succ, List.getElem?_cons_zero] at x2 x3 y0
        have z2 := fGx 2
        have z3 := fGx 3
        haveI : InW G w9 := ⟨lGx⟩
        haveI : InW Bl w9 := ⟨lLx⟩
        clear qGx fGx qLx lGx lLx
        have OE := Lib.hid (O9.grown (Plus.refl w9))
        clear OI O9
        refine hK _ _ ?_
        clear hK K
        try simp only [Act.put, List.setIfInBounds_toArray, List.set_cons_succ, List.set_cons_zero]
        refine wpAnyC_one 19 _ (by kernel_rfl) rfl ⟨.inr ⟨x2, x3⟩, y0⟩ (fun K hK => ?_)
        go_simp
        refine hK _ _ ?_
        clear hK K
        refine wpAnyC_one 20 _ (by kernel_rfl) rfl ⟨.inr ⟨x2, x3⟩, y0⟩ (fun K hK => ?_)
        go_simp
        refine hK _ _ ?_
        clear hK K
        refine wpAnyC_one 21 _ (by kernel_rfl) rfl ⟨.inr ⟨x2, x3⟩, y0⟩ (fun K hK => ?_)
        go_simp
        refine hK _ _ ?_
        clear hK K
        refine wpAnyC_one 22 _ (by kernel_rfl) rfl ⟨.inl (by kernel_rfl), ?_⟩ (fun K hK => ?_)
        · first | (go_simp; done) | (simp [go_sem, *]; done)
        go_simp
        refine hK _ _ ?_
        clear hK K
        refine wpAnyC_one 23 _ (by kernel_rfl) rfl ⟨.inl (by kernel_rfl), ?_⟩ (fun K hK => ?_)
        · first | (go_simp; done) | (simp [go_sem, *]; done)
        go_simp
        refine hK _ _ ?_
        clear hK K
        refine wpAnyC_one 24 _ (by kernel_rfl) rfl ⟨.inl (by kernel_rfl), ?_⟩ (fun K hK => ?_)
        · first | (go_simp; done) | (simp [go_sem, *]; done)
        go_simp
        refine hK _ _ ?_
        clear hK K
        refine wpAnyC_one 25 _ (by kernel_rfl) rfl ⟨.inl (by kernel_rfl), ?_⟩ (fun K hK => ?_)
        · first | (go_simp; done) | (simp [go_sem, *]; done)
        go_simp
        refine hK _ _ ?_
        clear hK K
        refine ⟨⟨.inl (by kernel_rfl), ?_⟩, by kernel_rfl, ?_⟩
        · first | (go_simp; done) | (simp [go_sem, *]; done)
        have O10 := (OE.out.setCellAt 3 2 (.slice Ai 1 ci) rfl (by simp)).setCellAt 3 3 (.int .i64 (T.length : Int)) rfl (by simp)
        simp only [List.set_cons_succ, List.set_cons_zero, List.nil_append, Nat.zero_add] at O10
        refine hK' _ _ (hJ _ _ ?_)
        (repeat apply Exists.intro)
        refine ⟨⟨As, cs, Ai, ci, rfl, ?_⟩, rfl⟩
        have hwr : IntKind.i64.wrap (T.length : Int) = (T.length : Int) := by first | exact Octs.wrap_id (by omega) (by omega) | exact wrap_id (by omega) (by omega)
        rw [hwr]
        exact O10
      clear OP g2 g3' l0'
      obtain ⟨As, cs, Ai, ci, rfl, O⟩ := hcut
      obtain ⟨lG, qG, -⟩ := O.cells 3 rfl
      obtain ⟨lL, qL, -⟩ := O.cells 5 rfl
      obtain ⟨lB, qB, -⟩ := O.cells 6 rfl
      have g1 := qG 1 (by simp)
      have l0 := qL 0 (by simp)
      have b0 := qB 0 (by simp)
      simp only [List.getElem?_cons_succ, List.getElem?_cons_zero] at g1 l0 b0
      haveI : InW Bl wc := ⟨lL⟩
      haveI : InW Bd wc := ⟨lB⟩
      have kF := Lib.hid (fun (wz : World) (p : wc.Plus wz) => file0 (G := G) wz (Nat.lt_of_lt_of_le lG (Chg.of_Plus p (fun _ => False)).size) (((Chg.of_Plus p (fun _ => False)).cell lG (fun h => h)).trans g1))
      have kT := Lib.hid (fun (wz : World) (p : wc.Plus wz) => diskTruncate_O ((O.grown p).pull 4 rfl) hd1 nm ⟨by decide, by decide⟩ f hf1 at' hat)
      clear O qG qL qB lG lL lB g1
      go_upto_region 22 with fail
      refine wp_region_grow_tail 5 (by kernel_rfl) (by kernel_rfl) ?_
      simp only [List.take_succ_cons, List.take_zero, List.drop_succ_cons, List.drop_zero]
      repeat (go_big_quiet_step ((go_at_call 18; exact Calls.plus_of (kF.out _ (by (repeat (first | exact Plus.refl _ | apply Plus.plus | apply Plus.alloc | apply Plus.drew)))))))
      refine wpQuiet_nil ?_
      intro ex
      go_wp2_with (go_at_call 21; (with_reducible refine (kT.out _ (by (repeat (first | exact Plus.refl _ | apply Plus.plus | apply Plus.alloc | apply Plus.drew)))).mono ?_); rintro e w7 ⟨rfl, O7⟩; dsimp only [List.eraseIdx] at O7; have O8 := ((((O7.pull 3 rfl).drop).pull 2 rfl).pull 3 rfl).pull 3 rfl; dsimp only [List.eraseIdx] at O8; clear O7; replace O8 := Lib.hid O8)
      exact ⟨.inr ⟨As, cs, { d1 with F := putF d1.F nm ⟨f.s.extract 0 at', min f.sure at'⟩ }, _, .slice Ai 1 ci, rfl, rfl, rfl, hn1, by simp [putF], hr1, hd1, O8.out⟩, by simp [intOf]⟩
    · obtain ⟨Av, cv, rfl⟩ := (O2.sl 2 rfl).shape
      obtain ⟨lG, qG, -⟩ := O2.cells 1 rfl
      obtain ⟨lL, qL, -⟩ := O2.cells 4 rfl
      obtain ⟨lB, qB, -⟩ := O2.cells 5 rfl
      have g2 := qG 2 (by simp)
      have l0 := qL 0 (by simp)
      have b0 := qB 0 (by simp)
      simp only [List.getElem?_cons_succ, List.getElem?_cons_zero] at g2 l0 b0
      haveI : InW G wr := ⟨lG⟩
      haveI : InW Bl wr := ⟨lL⟩
      haveI : InW Bd wr := ⟨lB⟩
      clear qG qL qB lG lL lB O
      replace O2 := Lib.hid O2
      go_wp2_with (go_at_call 22; (with_reducible refine (backward0 _ _ _).mono ?_); rintro e w8 ⟨rfl, rfl⟩)
      all_goals
        rename_i K hK
        refine (wpIn_wide (n := 20)).1 ?_
        refine wpIn_range0 rfl (by omega) rfl trivial enters_back (fun k R Wz hz => back_gives 19 (by omega) _ _ _ _ _ k R Wz hz) (O2.out.newCells [_] 50) ?_
        intro Dm w9 O9
        clear O2 g2 l0 b0
        simp only [Exit.inBlock, Exit.then]
        refine hK _ _ ?_
        obtain ⟨lG, qG, -⟩ := O9.cells 3 rfl
        obtain ⟨lL, qL, -⟩ := O9.cells 6 rfl
        obtain ⟨lB, qB, -⟩ := O9.cells 7 rfl
        have l0 := qL 0 (by simp)
        have b0 := qB 0 (by simp)
        simp only [List.getElem?_cons_zero] at l0 b0
        haveI : InW G w9 := ⟨lG⟩
        haveI : InW Bl w9 := ⟨lL⟩
        haveI : InW Bd w9 := ⟨lB⟩
        clear qG qL qB lG lL lB
        replace O9 := (O9.pull 4 rfl).pull 4 rfl
        dsimp only [List.eraseIdx] at O9
        have O10 : Own W w9 (logA G D T.length :: _) := Own.mk (fun v => logL G D v T.length) _ O9
        clear O9
        have kL := Lib.hid (fun (wz : World) (p : w9.Plus wz) => last_O (O10.grown p))
        have kS := Lib.hid (fun (wz : World) (p : w9.Plus wz) => diskSync_O ((O10.grown p).pull 4 rfl) hd2 nm ⟨by decide, by decide⟩ _ hf2)
        clear O10
        go_upto_region 27 with fail
        refine wp_region_grow_tail 3 (by kernel_rfl) (by kernel_rfl) ?_
        simp only [List.take_succ_cons, List.take_zero, List.drop_succ_cons, List.drop_zero]
        repeat (go_big_quiet_step ((go_at_call 25; exact Calls.plus_of (kL.out _ (by (repeat (first | exact Plus.refl _ | apply Plus.plus | apply Plus.alloc | apply Plus.drew)))))))
        refine wpQuiet_nil ?_
        intro ex
        go_wp2_with (go_at_call 24; (with_reducible refine (kS.out _ (by (repeat (first | exact Plus.refl _ | apply Plus.plus | apply Plus.alloc | apply Plus.drew)))).mono ?_); rintro e w10 ⟨rfl, O11⟩; dsimp only [List.eraseIdx] at O11; obtain ⟨lLx, qLx, -⟩ := O11.cells 5 rfl; have y0 := qLx 0 (by simp); simp only [List.getElem?_cons_zero] at y0; haveI : InW Bl w10 := ⟨lLx⟩; clear qLx lLx; replace O11 := Lib.hid O11)
        have O12 := O11.out.pull 2 rfl
        dsimp only [List.eraseIdx] at O12
        have hR := O12.raw
        have O13 := (O12.putRaw (.deferred none)).drop
        have O14 := (((O13.pull 5 rfl).drop.pull 4 rfl).drop.pull 2 rfl).drop
        have O15 := (O14.pull 2 rfl).pull 2 rfl
        dsimp only [List.eraseIdx] at O15
        refine ⟨by simp, .inl ⟨_, _, rfl, run_takeDeferred hR, ?_⟩⟩
        exact ⟨_, results_tmp3 rfl _ _ _, G, A, c, { d2 with F := putF d2.F nm ⟨f.s.extract 0 at', (f.s.extract 0 at').size⟩ }, rfl, ⟨hn2, by simp [putF], hr2, hd2⟩, O15⟩
end
end Go.Proofs.YtpdlgflbcgemnaaGreatDoor
