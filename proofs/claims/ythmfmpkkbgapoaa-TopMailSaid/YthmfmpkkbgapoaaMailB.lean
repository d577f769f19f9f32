/- top: a packet comes: walk. -/
import Derived.Test.YthmfmpkkbgapoaaMailA
import Derived.Test.YthmfmpkkbgapoaaGE
set_option linter.unusedSimpArgs false
set_option linter.unusedVariables false
namespace Go.Proofs.Ythmfmpkkbgapoaa
open Go.RowKit Octs
theorem src_ms (w : World) (B : Nat) (m : MsgR) (a : MAt) (h0 : w.cell? ⟨B, 0, none⟩ = some (.int .i64 m.kind)) (h1 : w.cell? ⟨B, 1, none⟩ = some (.int .i64 m.t)) (h2 : w.cell? ⟨B, 2, none⟩ = some (.int .i64 m.n))
    (h3 : w.cell? ⟨B, 3, none⟩ = some (.slice a.Ac m.cs.length a.cc)) (h4 : w.cell? ⟨B, 4, none⟩ = some (.slice a.Ab m.bs.length a.cb)) (h5 : w.cell? ⟨B, 5, none⟩ = some (.slice a.Ai m.is.length a.ci)) : Src Try.prog 6 22 (.slice (some ⟨B, 0, none⟩) 1 1) 1 (msC m a) w :=
  Src.ofCells (e := 35) (by kernel_rfl) w (msC m a) rfl (fun j hj => by
    match j, hj with
    | 0, _ => exact h0
    | 1, _ => exact h1
    | 2, _ => exact h2
    | 3, _ => exact h3
    | 4, _ => exact h4
    | 5, _ => exact h5) (fun u hu => by simp [msC] at hu; rcases hu with rfl | rfl | rfl | rfl | rfl | rfl <;> rfl) 1
theorem heard_snoc {W w : World} {ms : List MsgR} {m : MsgR} {a : MAt} {ys : List MAt} {v : Value} {l : List Asn} (O : Own W w (slA 6 v (ms.length + 1) (hrC (ms.zip ys) ++ msC m a) :: factA (ys.length = ms.length) :: bothA (hrL (ms.zip ys)) :: bothA (msgA m a) :: l)) : Own W w (heardA v (ms ++ [m]) :: l) := by
  have hl : ys.length = ms.length := by obtain ⟨A, ⟨_, h⟩, _⟩ := O.at (i := 1) rfl; exact h
  have e1 : (ms ++ [m]).zip (ys ++ [a]) = ms.zip ys ++ [(m, a)] := by rw [List.zip_append hl.symm]; rfl
  have e2 : hrC ((ms ++ [m]).zip (ys ++ [a])) = hrC (ms.zip ys) ++ msC m a := by rw [e1, hrC, List.flatMap_append]; simp [hrC]
  have e3 : hrL ((ms ++ [m]).zip (ys ++ [a])) = hrL (ms.zip ys) ++ msgA m a := by rw [e1, hrL, List.flatMap_append]; simp [hrL]
  have O1 := Own.both ((O.pull 1 rfl).drop.pull 1 rfl)
  have O2 := (O1.perm (l' := bothA (msgA m a) :: (hrL (ms.zip ys) ++ slA 6 v (ms.length + 1) (hrC (ms.zip ys) ++ msC m a) :: l)) (by
    dsimp only [List.eraseIdx]
    exact (List.Perm.append_left _ (List.Perm.swap _ _ _)).trans List.perm_middle)).both
  have O3 := (O2.perm (l' := (hrL (ms.zip ys) ++ msgA m a) ++ slA 6 v (ms.length + 1) (hrC (ms.zip ys) ++ msC m a) :: l) (by
    rw [← List.append_assoc]
    exact List.Perm.append_right _ List.perm_append_comm)).join
  refine Own.mk (fun ys : List MAt => [factA (ys.length = (ms ++ [m]).length), slA 6 v (ms ++ [m]).length (hrC ((ms ++ [m]).zip ys)), bothA (hrL ((ms ++ [m]).zip ys))]) (ys ++ [a]) ?_
  rw [e2, e3]
  exact Own.add (O3.rot1.perm (by rw [List.length_append]; exact List.Perm.refl _)) (Chg.refl _ _) (Q := factA _) (A := fun _ => False) ⟨fun k h => h, by simp [hl]⟩ (fun k h => h.elim)
section
variable {W wx : World} {l : List Asn} {P N0 N1 : Nat} {s : Pr}
set_option maxRecDepth 100000 in
set_option maxHeartbeats 2000000 in
theorem comes_0 (h : Own W wx (pairA P N0 N1 s :: l)) (hb : s.bad = false) (k : Nat) (q : Ses.Post) (hx : s.net[k]? = some (pkOf (false, q))) (hl : s.net.length ≤ 100000) (hc : CmOk s.c0 q) (hh : s.h0.length ≤ 1000) :
    Calls Try.prog 10 #[ptV P, .int .i64 (k : Int)] wx (OwnTo W (.tuple #[]) (pairA P N0 N1 { s with c0 := (Ses.hear s.c0 q).2.2, net := s.net.eraseIdx k, h0 := s.h0 ++ hmsg s.c0 q } :: l)) := by
  obtain ⟨⟨X, v0, v1⟩, O⟩ := h.ex
  simp only [pairL, List.cons_append, List.nil_append, hb] at O
  obtain ⟨hok, hle, ⟨hf, hla, hw⟩, his⟩ := hc
  obtain ⟨he0, -⟩ := Ses.hear_facts s.c0 q hok hle
  have hsz : (Ses.encP q).size ≤ 281474976710656 := by have := (pkOf_ok false q hok).s; simp only [pkOf] at this; omega
  have hde := Ses.dec_enc q hok
  have kT := netTake_O (O.pull 3 rfl) k (pkOf (false, q)) hx hl
  rw [show (pkOf (false, q)).v = .agg #[.int .i64 1, .int .i64 0, .string (Ses.encP q)] from rfl] at kT
  have kD := fun (wz : World) => Ses.decode_any wz (Ses.encP q) hsz
  rw [hde] at kD
  dsimp only [List.eraseIdx, Ses.Post.v] at kT kD
  generalize Ses.encP q = sq at *
  generalize s.net.eraseIdx k = nt at *
  have htx : ∀ t, (Ses.hear s.c0 q).1.text = t → t.size ≤ 65472 ∨ (Ses.hear s.c0 q).1.is = false := fun t ht => by
    subst ht
    obtain ⟨-, -, -, -, -, h6⟩ := Ses.hear_facts s.c0 q hok hle
    rcases h6 with ⟨-, -, -, -, h6, -⟩ | ⟨h6, -⟩
    · rw [h6]; exact .inl (Ses.okPost_text hok)
    · exact .inr h6
  obtain ⟨lP, qP, fP⟩ := O.cells 0 rfl
  have p2 := qP 2 (by simp)
  simp only [List.getElem?_cons_succ, List.getElem?_cons_zero] at p2
  haveI : InW P wx := ⟨lP⟩
  clear qP fP h hsz hde hok hle hx hl
  replace kT := Lib.hid kT
  replace kD := Lib.hid kD
  replace O := Lib.hid O
  replace his := Lib.hid his
  replace htx := Lib.hid htx
  replace he0 := Lib.hid he0
  go_enter Try.func10, Try.ntmps10
  go_upto_region 1 with (go_at_call 11; (with_reducible refine kT.out.mono ?_); rintro e w1 ⟨rfl, O1⟩)
  clear kT O p2 lP
  have O2 := O1.newCells [.int .i64 1, .int .i64 0, .string sq] 48
  clear O1
  generalize w1.heap.size = Qb at *
  generalize hw2 : w1.alloc _ = w2 at *
  clear hw2
  obtain ⟨lQ, qQ, fQ⟩ := O2.cells 0 rfl
  have x2 := qQ 2 (by simp)
  simp only [List.getElem?_cons_succ, List.getElem?_cons_zero] at x2
  haveI : InW Qb w2 := ⟨lQ⟩
  clear qQ fQ
  replace O2 := Lib.hid O2
  go_upto_region 3 with (go_at_call 32; (with_reducible refine (kD.out _).mono ?_); rintro e w' ⟨rfl, e0, rfl⟩)
  have O3 := (O2.out.plus e0).newCells [.int .i64 q.mine, .int .i64 q.yours, .int .i64 q.ack, .int .i64 q.seq, .string q.text] 90
  clear O2 kD x2 lQ
  rw [World.size_plus_eq] at O3
  generalize w2.heap.size + e0.objs.size = Y at *
  generalize hw3 : (w2.plus e0).alloc _ = w3 at *
  clear hw3
  obtain ⟨lY, qY, fY⟩ := O3.cells 0 rfl
  obtain ⟨lQ, qQ, fQ⟩ := O3.cells 1 rfl
  obtain ⟨lP, qP, fP⟩ := O3.cells 3 rfl
  have y0 := qY 0 (by simp)
  have y1 := qY 1 (by simp)
  have y2 := qY 2 (by simp)
  have y3 := qY 3 (by simp)
  have y4 := qY 4 (by simp)
  have x1 := qQ 1 (by simp)
  have p0 := qP 0 (by simp)
  simp only [List.getElem?_cons_succ, List.getElem?_cons_zero] at y0 y1 y2 y3 y4 x1 p0
  haveI : InW Y w3 := ⟨lY⟩
  haveI : InW Qb w3 := ⟨lQ⟩
  haveI : InW P w3 := ⟨lP⟩
  clear qY fY qQ fQ qP fP
  have kH := fun (wz : World) (l' : List Asn) (O' : Own W wz (Ses.chanA N0 s.c0 :: l')) => Ses.hear_O O' q ⟨hf.1, by have := hf.2; omega⟩ ⟨hla.1, by have := hla.2; omega⟩ (by omega)
  have kX : ∀ (wz : World) (l1 l' : List Asn) (c' : Ses.Ch), Own W wz (Ses.chanA N0 c' :: (l1 ++ (cellsA Y [.int .i64 q.mine, .int .i64 q.yours, .int .i64 q.ack, .int .i64 q.seq, .string q.text] :: cellsA Qb [.int .i64 1, .int .i64 0, .string sq] :: netA X nt :: cellsA P [Ses.chV N0, Ses.chV N1, ptV X, v0, v1, .bool false] :: l'))) →
      Y < wz.heap.size ∧ Qb < wz.heap.size ∧ P < wz.heap.size ∧ wz.cell? ⟨P, 0, none⟩ = some (Ses.chV N0) ∧ wz.cell? ⟨Qb, 1, none⟩ = some (.int .i64 0) ∧ wz.cell? ⟨Y, 0, none⟩ = some (.int .i64 q.mine) ∧ wz.cell? ⟨Y, 1, none⟩ = some (.int .i64 q.yours) ∧ wz.cell? ⟨Y, 2, none⟩ = some (.int .i64 q.ack) ∧ wz.cell? ⟨Y, 3, none⟩ = some (.int .i64 q.seq) ∧ wz.cell? ⟨Y, 4, none⟩ = some (.string q.text) := fun wz l1 l' c' O' => by
    have Oa := O'.drop.perm (List.perm_append_comm)
    simp only [List.cons_append] at Oa
    obtain ⟨lY, qY, fY⟩ := Oa.cells 0 rfl
    obtain ⟨lQ, qQ, fQ⟩ := Oa.cells 1 rfl
    obtain ⟨lP, qP, fP⟩ := Oa.cells 3 rfl
    exact ⟨lY, lQ, lP, qP 0 (by simp), qQ 1 (by simp), qY 0 (by simp), qY 1 (by simp), qY 2 (by simp), qY 3 (by simp), qY 4 (by simp)⟩
  generalize hr : Ses.hear s.c0 q = r at *
  obtain ⟨⟨rt, ris, ranew⟩, rerr, rc⟩ := r
  replace he0 := he0.out
  dsimp only at he0
  subst he0
  replace kX := Lib.hid kX
  have OB := Lib.hid ((O3.newCells [.string ⟨#[]⟩, .bool false, .bool false] 96).pull 5 rfl).drew
  have OA := Lib.hid (O3.pull 4 rfl).drew
  dsimp only [List.eraseIdx] at OA OB
  clear O3
  have kHA := Lib.hid (kH _ _ OA.out)
  have kHB := Lib.hid (kH _ _ OB.out)
  dsimp only [Ses.Hd.v, Ses.Post.v] at kHA kHB
  clear kH OA OB
  replace hr := Lib.hid hr
  go_cut [8, 9] (fun v e wz => ∃ Z, v = .pointer (some ⟨Z, 0, none⟩) ∧ e = .int .i64 0 ∧ Own W wz (Ses.hdA Z ⟨rt, ris, ranew⟩ :: Ses.chanA N0 rc :: cellsA Y [.int .i64 q.mine, .int .i64 q.yours, .int .i64 q.ack, .int .i64 q.seq, .string q.text] :: cellsA Qb [.int .i64 1, .int .i64 0, .string sq] :: netA X nt :: cellsA P [Ses.chV N0, Ses.chV N1, ptV X, v0, v1, .bool false] :: (Ses.chanA N1 s.c1) :: heardA v0 s.h0 :: heardA v1 s.h1 :: l))
  case first =>
    go_region_held3 (fun w' => w'.cell? ⟨P, 0, none⟩ = some (Ses.chV N0) ∧ w'.cell? ⟨Qb, 1, none⟩ = some (.int .i64 0) ∧ w'.cell? ⟨Y, 0, none⟩ = some (.int .i64 q.mine) ∧ w'.cell? ⟨Y, 1, none⟩ = some (.int .i64 q.yours) ∧ w'.cell? ⟨Y, 2, none⟩ = some (.int .i64 q.ack) ∧ w'.cell? ⟨Y, 3, none⟩ = some (.int .i64 q.seq) ∧ w'.cell? ⟨Y, 4, none⟩ = some (.string q.text)) (simp [go_sem, *]) (first | (go_at_call 33; (with_reducible refine kHA.out.mono ?_); rintro e w4 ⟨rfl, O4⟩; obtain ⟨lY4, lQ4, lP4, p04, x14, y04, y14, y24, y34, y44⟩ := kX.out _ [] _ _ O4; haveI : InW Y w4 := ⟨lY4⟩; haveI : InW Qb w4 := ⟨lQ4⟩; haveI : InW P w4 := ⟨lP4⟩) | (go_at_call 33; (with_reducible refine kHB.out.mono ?_); rintro e w4 ⟨rfl, O4⟩; obtain ⟨lY4, lQ4, lP4, p04, x14, y04, y14, y24, y34, y44⟩ := kX.out _ [_] _ _ O4; haveI : InW Y w4 := ⟨lY4⟩; haveI : InW Qb w4 := ⟨lQ4⟩; haveI : InW P w4 := ⟨lP4⟩; obtain ⟨lZ4, qZ4, fZ4⟩ := O4.cells 1 rfl; haveI : InW w3.heap.size w4 := ⟨lZ4⟩; have z04 := qZ4 0 (by simp); have z14 := qZ4 1 (by simp); have z24 := qZ4 2 (by simp); simp only [List.getElem?_cons_succ, List.getElem?_cons_zero] at z04 z14 z24; have g04 := fZ4 0; have g14 := fZ4 1; have g24 := fZ4 2; have hYZ : ¬ Y = w3.heap.size := fun h => Own.ne 1 (O4.pull 2 rfl) rfl h; have hQZ : ¬ Qb = w3.heap.size := fun h => Own.ne 1 (O4.pull 3 rfl) rfl h; have hPZ : ¬ P = w3.heap.size := fun h => Own.ne 1 (O4.pull 5 rfl) rfl h; have hZY : ¬ w3.heap.size = Y := fun h => hYZ h.symm; have hZQ : ¬ w3.heap.size = Qb := fun h => hQZ h.symm; have hZP : ¬ w3.heap.size = P := fun h => hPZ h.symm; clear qZ4 fZ4))
    · go_wp2_with fail
      go_meet
      exact ⟨w4.heap.size, rfl, rfl, Ses.Own.newHd O4 ⟨rt, ris, ranew⟩⟩
    · go_wp2_with fail
      go_meet
      exact ⟨w3.heap.size, rfl, rfl, (((O4.setCellAt 1 0 (.string rt) rfl (by simp)).setCellAt 1 1 (.bool ris) rfl (by simp)).setCellAt 1 2 (.bool ranew) rfl (by simp)).rot1⟩
  clear kX y0 y1 y2 y3 y4 x1 p0 lY lQ lP kHA kHB
  obtain ⟨Z, rfl, rfl, O⟩ := hcut
  obtain ⟨lP, qP, fP⟩ := O.cells 5 rfl
  have p5 := qP 5 (by simp)
  have f5 := fP 5
  simp only [List.getElem?_cons_succ, List.getElem?_cons_zero] at p5
  haveI : InW P wc := ⟨lP⟩
  clear qP fP
  replace O := Lib.hid O
  go_upto_region 5 with fail
  replace O := O.out.setCellAt 5 5 (.bool false) rfl (by simp)
  simp only [List.set_cons_succ, List.set_cons_zero] at O
  clear p5 f5 lP
  generalize wc.setCell _ _ = w5 at *
  obtain ⟨lZ, z0, z1, -, -⟩ := Ses.Own.hd 0 O rfl
  dsimp only at z0 z1
  haveI : InW Z w5 := ⟨lZ⟩
  replace htx := htx.out rt rfl
  replace his := his.out
  dsimp only at htx his
  cases ris with
  | false =>
    have hm0 : hmsg s.c0 q = [] := by unfold hmsg; rw [hr.out]; rfl
    replace hm0 := Lib.hid hm0
    clear htx his
    replace O := Lib.hid O
    go_wp2_with fail
    go_end0
    refine ⟨rfl, ?_⟩
    have O6 := ((O.out.drop.pull 1 rfl).drop.pull 1 rfl).drop
    dsimp only [List.eraseIdx] at O6
    replace O6 := (((O6.pull 1 rfl).pull 3 rfl).pull 2 rfl).pull 3 rfl
    refine Own.mk (fun x => pairL P N0 N1 _ x) ⟨X, v0, v1⟩ ?_
    rw [hm0.out, List.append_nil]
    simp only [pairL, hb, List.cons_append, List.nil_append]
    exact O6
  | true =>
    obtain ⟨m, hm, rfl, hm1⟩ := his rfl
    have hsz : (mT m).size ≤ 281474976710656 := by rcases htx with h | h <;> first | omega | cases h
    have kC : Calls Try.prog 34 #[.string (mT m)] w5 (fun e w' => ∃ a : MAt, e = .returned (.tuple #[.agg #[.int .i64 m.kind, .int .i64 m.t, .int .i64 m.n, .slice a.Ac m.cs.length a.cc, .slice a.Ab m.bs.length a.cb, .slice a.Ai m.is.length a.ci], .int .i64 0]) ∧ Own W w' (msgA m a ++ (Ses.hdA Z ⟨mT m, true, ranew⟩ :: Ses.chanA N0 rc :: cellsA Y [.int .i64 q.mine, .int .i64 q.yours, .int .i64 q.ack, .int .i64 q.seq, .string q.text] :: cellsA Qb [.int .i64 1, .int .i64 0, .string sq] :: netA X nt :: cellsA P [Ses.chV N0, Ses.chV N1, ptV X, v0, v1, .bool false] :: (Ses.chanA N1 s.c1) :: heardA v0 s.h0 :: heardA v1 s.h1 :: l))) := by
      have k0 := decode_any O (mT m) hsz
      rw [show decM (mT m) = (m, 0) from decM_back m hm] at k0
      exact k0
    clear htx his hsz
    replace hm1 := Lib.hid hm1
    replace kC := Lib.hid kC
    replace O := Lib.hid O
    generalize hmt : mT m = sm at *
    replace hmt := Lib.hid hmt
    go_upto_region 7 with (go_at_call 34; go_loud (with_reducible refine kC.out.mono ?_); rintro e w6 ⟨a, rfl, O6⟩)
    clear kC O z0 z1 lZ
    have O7 := O6.join.newCells [.int .i64 m.kind, .int .i64 m.t, .int .i64 m.n, .slice a.Ac m.cs.length a.cc, .slice a.Ab m.bs.length a.cb, .slice a.Ai m.is.length a.ci] 35
    clear O6
    generalize w6.heap.size = M at *
    generalize hw7 : w6.alloc _ = w7 at *
    clear hw7
    obtain ⟨lP, qP, fP⟩ := O7.cells 7 rfl
    have p5 := qP 5 (by simp)
    have f5 := fP 5
    simp only [List.getElem?_cons_succ, List.getElem?_cons_zero] at p5
    haveI : InW P w7 := ⟨lP⟩
    clear qP fP
    replace O7 := Lib.hid O7
    go_upto_region 8 with fail
    replace O7 := O7.out.setCellAt 7 5 (.bool false) rfl (by simp)
    simp only [List.set_cons_succ, List.set_cons_zero] at O7
    clear p5 f5 lP
    generalize w7.setCell _ _ = w8 at *
    obtain ⟨ys, O8⟩ := (O7.pull 9 rfl).ex
    dsimp only [List.eraseIdx, List.cons_append, List.nil_append] at O8
    replace O8 := O8.rot1
    clear O7
    obtain ⟨A, c, hAc⟩ := (O8.sl 0 rfl).shape
    subst hAc
    obtain ⟨lM, qM, -⟩ := O8.cells 3 rfl
    obtain ⟨lQ, qQ, -⟩ := O8.cells 8 rfl
    obtain ⟨lP, qP, -⟩ := O8.cells 10 rfl
    have m0 := qM 0 (by simp)
    have m1 := qM 1 (by simp)
    have m2 := qM 2 (by simp)
    have m3 := qM 3 (by simp)
    have m4 := qM 4 (by simp)
    have m5 := qM 5 (by simp)
    have x1 := qQ 1 (by simp)
    have p3 := qP 3 (by simp)
    simp only [List.getElem?_cons_succ, List.getElem?_cons_zero] at m0 m1 m2 m3 m4 m5 x1 p3
    haveI : InW M w8 := ⟨lM⟩
    haveI : InW Qb w8 := ⟨lQ⟩
    haveI : InW P w8 := ⟨lP⟩
    clear qM qQ qP
    have OP := Lib.hid (fun (wz : World) (p : w8.Plus wz) => (by
      obtain ⟨e, rfl⟩ := p
      exact O8.plus e : Own W wz _))
    clear O8
    go_region_law ((go_loud (refine step_append_O (by rfl) _ _ 22 22 (by rfl) 35 Try.t35 (.agg #[.int .i64 0, .int .i64 0, .int .i64 0, .slice none 0 0, .slice none 0 0, .slice none 0 0]) 6 96 (by kernel_rfl) (by kernel_rfl) (by kernel_rfl) (by kernel_rfl) (by kernel_rfl) rfl (by rfl) (OP.out _ (by (repeat (first | exact Plus.refl _ | apply Plus.plus | apply Plus.alloc | apply Plus.drew)))) (xv := .slice (some ⟨_, 0, none⟩) 1 1) (by rfl) (src_ms _ _ m a (by simp [go_sem]) (by simp [go_sem]) (by simp [go_sem]) (by simp [go_sem]) (by simp [go_sem]) (by simp [go_sem])) (by unfold maxLen; first | omega | (simp only; omega)) (by first | omega | (simp only; omega)) ?_); intro A6 c6 w9 O9; obtain ⟨lP9, qP9, fP9⟩ := O9.cells 10 rfl; obtain ⟨lQ9, qQ9, -⟩ := O9.cells 8 rfl; have p39 := qP9 3 (by simp); have f39 := fP9 3; have x19 := qQ9 1 (by simp); simp only [List.getElem?_cons_succ, List.getElem?_cons_zero] at p39 x19; haveI : InW P w9 := ⟨lP9⟩; haveI : InW Qb w9 := ⟨lQ9⟩; clear qP9 fP9 qQ9))
    all_goals
      have O10 := (O9.setCellAt 10 3 (.slice A6 (s.h0.length + 1) c6) rfl (by simp))
      simp only [List.set_cons_succ, List.set_cons_zero] at O10
      replace O10 := heard_snoc (O10.pull 3 rfl).drop
      replace O10 := ((((O10.pull 1 rfl).drop.pull 2 rfl).drop.pull 2 rfl).drop)
      dsimp only [List.eraseIdx] at O10
      replace O10 := (((O10.pull 2 rfl).pull 4 rfl).pull 3 rfl).pull 4 rfl
      dsimp only [List.eraseIdx] at O10
      replace O10 := Lib.hid O10
      clear O9
      go_wp2_with fail
      go_end0
      refine ⟨rfl, ?_⟩
      refine Own.mk (fun x => pairL P N0 N1 _ x) ⟨X, (.slice A6 (s.h0.length + 1) c6), v1⟩ ?_
      rw [hm1.out]
      simp only [pairL, hb, List.cons_append, List.nil_append]
      exact O10.out

end
end Go.Proofs.Ythmfmpkkbgapoaa
