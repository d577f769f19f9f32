/- top: a node posts: walk. -/
import Derived.Test.YthmfmpkkbgapoaaGE
set_option linter.unusedSimpArgs false
set_option linter.unusedVariables false
namespace Go.Proofs.Ythmfmpkkbgapoaa
open Go.RowKit Octs
theorem pkOf_ok (b : Bool) (q : Ses.Post) (h : Ses.okPost q = true) : (pkOf (b, q)).Ok := by
  have ht := Ses.okPost_text h
  refine ⟨by cases b <;> simp [pkOf], by cases b <;> simp [pkOf], by cases b <;> simp [pkOf], ?_⟩
  have a1 := Octs.enc_le q.mine
  have a2 := Octs.enc_le q.yours
  have a3 := Octs.enc_le q.ack
  have a4 := Octs.enc_le q.seq
  have a5 := Octs.enc_le (q.text.size : Int)
  show (Ses.encP q).size ≤ 65536
  unfold Ses.encP
  rw [ByteArray.size_append, Octs.txt_size, Octs.txt_size]
  simp only [List.length_append, Octs.encT]
  have : (Octs.bytes q.text).length = q.text.size := by unfold Octs.bytes; rw [Array.length_toList]; rfl
  omega
section
variable {W wx : World} {l : List Asn} {P N0 N1 : Nat} {s : Pr}
set_option maxHeartbeats 1000000 in
theorem post_0 (h : Own W wx (pairA P N0 N1 s :: l)) (hb : s.bad = false) (hf : 0 ≤ s.c0.first ∧ s.c0.first ≤ 1000000000000000) (hw : s.c0.wait.length ≤ 1000000) (hok : ∀ q ∈ Ses.postsL s.c0, Ses.okPost q = true) (hn : s.net.length + 8 ≤ 4096) :
    Calls Try.prog 9 #[ptV P, .int .i64 0] wx (OwnTo W (.tuple #[]) (pairA P N0 N1 { s with c0 := { s.c0 with owes := false }, net := s.net ++ (Ses.postsL s.c0).map fun q => pkOf (true, q) } :: l)) := by
  obtain ⟨⟨X, v0, v1⟩, O⟩ := h.ex
  simp only [pairL, List.cons_append, List.nil_append, hb] at O
  obtain ⟨lP, qP, fP⟩ := O.cells 0 rfl
  have p0 := qP 0 (by simp)
  simp only [List.getElem?_cons_succ, List.getElem?_cons_zero] at p0
  haveI : InW P wx := ⟨lP⟩
  clear qP fP h
  have kP := Ses.posts_O (O.pull 1 rfl) hf hw
  obtain ⟨ps, hps⟩ : ∃ ps, ps = Ses.postsL s.c0 := ⟨_, rfl⟩
  have h8 := postsL_le s.c0
  have kE : ∀ (q : Ses.Post) (wz : World), q ∈ ps → Calls Try.prog 30 #[.agg #[.int .i64 q.mine, .int .i64 q.yours, .int .i64 q.ack, .int .i64 q.seq, .string q.text]] wz (fun e w' => e = .returned (.tuple #[.string (Ses.encP q), .int .i64 0]) ∧ wz.Plus w') := fun q wz hq => Ses.encode_good wz q (hok q (by rw [← hps]; exact hq))
  have hpk : ∀ q ∈ ps, (pkOf (true, q)).Ok := fun q hq => pkOf_ok true q (hok q (by rw [← hps]; exact hq))
  rw [← hps] at kP h8 ⊢
  clear hok hf hw hps
  replace kP := Lib.hid kP
  replace kE := Lib.hid kE
  replace hpk := Lib.hid hpk
  replace O := Lib.hid O
  go_enter Try.func9, Try.ntmps9
  go_upto_region 1 with (go_at_call 29; (with_reducible refine kP.out.mono ?_); rintro e w1 ⟨A, cap, rfl, O1⟩)
  clear kP O p0 lP
  dsimp only [List.eraseIdx] at O1
  replace O1 := O1.pull 4 rfl
  dsimp only [List.eraseIdx] at O1
  replace O1 := Lib.hid O1
  obtain ⟨n, hnl⟩ : ∃ n, n = ps.length := ⟨_, rfl⟩
  rw [← hnl] at O1 h8 ⊢
  go_wp2_with fail
  go_loopw [5] (fun i wr => ∃ k : Nat, k ≤ n ∧ i = .int .i64 (k : Int) ∧ Own W wr (netA X (s.net ++ (ps.take k).map fun q => pkOf (true, q)) :: Ses.chanA N0 { s.c0 with owes := false } :: slA 5 (.slice A n cap) n (Ses.postCs ps) :: cellsA P [Ses.chV N0, Ses.chV N1, ptV X, v0, v1, .bool false] :: (Ses.chanA N1 s.c1) :: heardA v0 s.h0 :: heardA v1 s.h1 :: l)) (fun i _ => n - (intOf i).toNat)
  case atStart => exact ⟨0, Nat.zero_le _, rfl, by rw [List.take_zero, List.map_nil, List.append_nil]; exact O1.out⟩
  case round =>
    clear O1
    obtain ⟨k, hk, rfl, OX⟩ := hrel
    by_cases hlt : k < n
    · have hlti : (k : Int) < (n : Int) := by omega
      obtain ⟨g, o, rfl, hg, hrow⟩ := Ses.Own.posts 2 OX rfl hnl (by omega)
      obtain ⟨q, hq⟩ : ∃ q, ps[k]? = some q := ⟨_, List.getElem?_eq_getElem (by omega)⟩
      obtain ⟨d0, d1, d2, d3, d4⟩ := hrow k q hq
      have hqm := List.mem_of_getElem? hq
      have kQ := Lib.hid (fun wz => kE.out q wz hqm)
      have hpq := hpk.out q hqm
      obtain ⟨lP, qP, fP⟩ := OX.cells 3 rfl
      have p2 := qP 2 (by simp)
      simp only [List.getElem?_cons_succ, List.getElem?_cons_zero] at p2
      haveI : InW P wr := ⟨lP⟩
      haveI : InW g wr := ⟨hg⟩
      clear qP fP hrow
      have hnl2 : (s.net ++ (ps.take k).map fun q => pkOf (true, q)).length < 4096 := by
        rw [List.length_append, List.length_map, List.length_take]; omega
      have hst : (s.net ++ (ps.take k).map fun q => pkOf (true, q)) ++ [pkOf (true, q)] = s.net ++ (ps.take (k + 1)).map fun q => pkOf (true, q) := by
        rw [List.append_assoc, List.take_add_one, hq, List.map_append]; rfl
      obtain ⟨L, hL⟩ : ∃ L, L = (s.net ++ (ps.take k).map fun q => pkOf (true, q)) := ⟨_, rfl⟩
      rw [← hL] at OX hnl2 hst
      replace hL := Lib.hid trivial
      have kS := fun (e : Ext) => (by
        have O3 := ((OX.plus e).newCells [.int .i64 0, .int .i64 1, .string (Ses.encP q)] 48).rot1
        obtain ⟨lB, qB, fB⟩ := O3.cells 1 rfl
        have k0 := netSend_O O3 (pkOf (true, q)) hpq hnl2 _ lB (qB 0 (by simp)) (qB 1 (by simp)) (qB 2 (by simp))
        rw [World.size_plus_eq] at k0
        exact k0 : Calls Try.prog 31 #[ptV X, .slice (some ⟨wr.heap.size + e.objs.size, 0, none⟩) 1 1] ((wr.plus e).alloc (.cells #[.int .i64 0, .int .i64 1, .string (Ses.encP q)] 48)) (fun e' w' => e' = .returned (.tuple #[.int .i64 0, .int .i64 0]) ∧ Own W w' (netA X (L ++ [pkOf (true, q)]) :: cellsA (wr.heap.size + e.objs.size) [.int .i64 0, .int .i64 1, .string (Ses.encP q)] :: Ses.chanA N0 { s.c0 with owes := false } :: slA 5 (.slice (some ⟨g, o, none⟩) n cap) n (Ses.postCs ps) :: cellsA P [Ses.chV N0, Ses.chV N1, ptV X, v0, v1, .bool false] :: (Ses.chanA N1 s.c1) :: heardA v0 s.h0 :: heardA v1 s.h1 :: l)))
      rw [hst] at kS
      replace kS := Lib.hid kS
      replace hst := Lib.hid hst
      replace OX := Lib.hid OX
      clear hpq hq hqm hn hnl2
      replace hnl := Lib.hid hnl
      generalize Ses.encP q = sq at *
      go_upto_region 5 with (go_at_call 30; (with_reducible refine (kQ.out _).mono ?_); rintro e w' ⟨rfl, e0, rfl⟩)
      go_upto_region 6 with (go_at_call 31; go_loud (with_reducible refine (kS.out _).mono ?_); rintro e w4 ⟨rfl, O4⟩; obtain ⟨lP4, qP4, fP4⟩ := O4.cells 4 rfl; have p54 := qP4 5 (by simp); have f54 := fP4 5; simp only [List.getElem?_cons_succ, List.getElem?_cons_zero] at p54; haveI : InW P w4 := ⟨lP4⟩; clear qP4 fP4)
      clear kS kQ OX d0 d1 d2 d3 d4 p2 hg lP
      have O5 := (O4.setCellAt 4 5 (.bool false) rfl (by simp)).rot1.drop
      simp only [List.set_cons_succ, List.set_cons_zero] at O5
      replace O5 := Lib.hid O5
      clear O4
      go_wp2_with fail
      go_roundw
      case rel => exact ⟨k + 1, hlt, by go_num, O5.out⟩
      case measure => simp [intOf]; omega
    · obtain rfl : k = n := by omega
      rw [hnl, List.take_length] at OX
      replace OX := Lib.hid OX
      go_wp2_with fail
      go_end0
      refine ⟨rfl, ?_⟩
      have O6 := (((OX.out.rot2.drop.pull 3 rfl).pull 2 rfl).pull 3 rfl)
      refine Own.mk (fun x => pairL P N0 N1 _ x) ⟨X, v0, v1⟩ ?_
      simp only [pairL, hb, List.cons_append, List.nil_append]
      exact O6

set_option maxHeartbeats 1000000 in
theorem post_1 (h : Own W wx (pairA P N0 N1 s :: l)) (hb : s.bad = false) (hf : 0 ≤ s.c1.first ∧ s.c1.first ≤ 1000000000000000) (hw : s.c1.wait.length ≤ 1000000) (hok : ∀ q ∈ Ses.postsL s.c1, Ses.okPost q = true) (hn : s.net.length + 8 ≤ 4096) :
    Calls Try.prog 9 #[ptV P, .int .i64 1] wx (OwnTo W (.tuple #[]) (pairA P N0 N1 { s with c1 := { s.c1 with owes := false }, net := s.net ++ (Ses.postsL s.c1).map fun q => pkOf (false, q) } :: l)) := by
  obtain ⟨⟨X, v0, v1⟩, O⟩ := h.ex
  simp only [pairL, List.cons_append, List.nil_append, hb] at O
  obtain ⟨lP, qP, fP⟩ := O.cells 0 rfl
  have p0 := qP 1 (by simp)
  simp only [List.getElem?_cons_succ, List.getElem?_cons_zero] at p0
  haveI : InW P wx := ⟨lP⟩
  clear qP fP h
  have kP := Ses.posts_O (O.pull 2 rfl) hf hw
  obtain ⟨ps, hps⟩ : ∃ ps, ps = Ses.postsL s.c1 := ⟨_, rfl⟩
  have h8 := postsL_le s.c1
  have kE : ∀ (q : Ses.Post) (wz : World), q ∈ ps → Calls Try.prog 30 #[.agg #[.int .i64 q.mine, .int .i64 q.yours, .int .i64 q.ack, .int .i64 q.seq, .string q.text]] wz (fun e w' => e = .returned (.tuple #[.string (Ses.encP q), .int .i64 0]) ∧ wz.Plus w') := fun q wz hq => Ses.encode_good wz q (hok q (by rw [← hps]; exact hq))
  have hpk : ∀ q ∈ ps, (pkOf (false, q)).Ok := fun q hq => pkOf_ok false q (hok q (by rw [← hps]; exact hq))
  rw [← hps] at kP h8 ⊢
  clear hok hf hw hps
  replace kP := Lib.hid kP
  replace kE := Lib.hid kE
  replace hpk := Lib.hid hpk
  replace O := Lib.hid O
  go_enter Try.func9, Try.ntmps9
  go_upto_region 1 with (go_at_call 29; (with_reducible refine kP.out.mono ?_); rintro e w1 ⟨A, cap, rfl, O1⟩)
  clear kP O p0 lP
  dsimp only [List.eraseIdx] at O1
  replace O1 := O1.pull 4 rfl
  dsimp only [List.eraseIdx] at O1
  replace O1 := Lib.hid O1
  obtain ⟨n, hnl⟩ : ∃ n, n = ps.length := ⟨_, rfl⟩
  rw [← hnl] at O1 h8 ⊢
  go_wp2_with fail
  go_loopw [5] (fun i wr => ∃ k : Nat, k ≤ n ∧ i = .int .i64 (k : Int) ∧ Own W wr (netA X (s.net ++ (ps.take k).map fun q => pkOf (false, q)) :: Ses.chanA N1 { s.c1 with owes := false } :: slA 5 (.slice A n cap) n (Ses.postCs ps) :: cellsA P [Ses.chV N0, Ses.chV N1, ptV X, v0, v1, .bool false] :: (Ses.chanA N0 s.c0) :: heardA v0 s.h0 :: heardA v1 s.h1 :: l)) (fun i _ => n - (intOf i).toNat)
  case atStart => exact ⟨0, Nat.zero_le _, rfl, by rw [List.take_zero, List.map_nil, List.append_nil]; exact O1.out⟩
  case round =>
    clear O1
    obtain ⟨k, hk, rfl, OX⟩ := hrel
    by_cases hlt : k < n
    · have hlti : (k : Int) < (n : Int) := by omega
      obtain ⟨g, o, rfl, hg, hrow⟩ := Ses.Own.posts 2 OX rfl hnl (by omega)
      obtain ⟨q, hq⟩ : ∃ q, ps[k]? = some q := ⟨_, List.getElem?_eq_getElem (by omega)⟩
      obtain ⟨d0, d1, d2, d3, d4⟩ := hrow k q hq
      have hqm := List.mem_of_getElem? hq
      have kQ := Lib.hid (fun wz => kE.out q wz hqm)
      have hpq := hpk.out q hqm
      obtain ⟨lP, qP, fP⟩ := OX.cells 3 rfl
      have p2 := qP 2 (by simp)
      simp only [List.getElem?_cons_succ, List.getElem?_cons_zero] at p2
      haveI : InW P wr := ⟨lP⟩
      haveI : InW g wr := ⟨hg⟩
      clear qP fP hrow
      have hnl2 : (s.net ++ (ps.take k).map fun q => pkOf (false, q)).length < 4096 := by
        rw [List.length_append, List.length_map, List.length_take]; omega
      have hst : (s.net ++ (ps.take k).map fun q => pkOf (false, q)) ++ [pkOf (false, q)] = s.net ++ (ps.take (k + 1)).map fun q => pkOf (false, q) := by
        rw [List.append_assoc, List.take_add_one, hq, List.map_append]; rfl
      obtain ⟨L, hL⟩ : ∃ L, L = (s.net ++ (ps.take k).map fun q => pkOf (false, q)) := ⟨_, rfl⟩
      rw [← hL] at OX hnl2 hst
      replace hL := Lib.hid trivial
      have kS := fun (e : Ext) => (by
        have O3 := ((OX.plus e).newCells [.int .i64 1, .int .i64 0, .string (Ses.encP q)] 48).rot1
        obtain ⟨lB, qB, fB⟩ := O3.cells 1 rfl
        have k0 := netSend_O O3 (pkOf (false, q)) hpq hnl2 _ lB (qB 0 (by simp)) (qB 1 (by simp)) (qB 2 (by simp))
        rw [World.size_plus_eq] at k0
        exact k0 : Calls Try.prog 31 #[ptV X, .slice (some ⟨wr.heap.size + e.objs.size, 0, none⟩) 1 1] ((wr.plus e).alloc (.cells #[.int .i64 1, .int .i64 0, .string (Ses.encP q)] 48)) (fun e' w' => e' = .returned (.tuple #[.int .i64 0, .int .i64 0]) ∧ Own W w' (netA X (L ++ [pkOf (false, q)]) :: cellsA (wr.heap.size + e.objs.size) [.int .i64 1, .int .i64 0, .string (Ses.encP q)] :: Ses.chanA N1 { s.c1 with owes := false } :: slA 5 (.slice (some ⟨g, o, none⟩) n cap) n (Ses.postCs ps) :: cellsA P [Ses.chV N0, Ses.chV N1, ptV X, v0, v1, .bool false] :: (Ses.chanA N0 s.c0) :: heardA v0 s.h0 :: heardA v1 s.h1 :: l)))
      rw [hst] at kS
      replace kS := Lib.hid kS
      replace hst := Lib.hid hst
      replace OX := Lib.hid OX
      clear hpq hq hqm hn hnl2
      replace hnl := Lib.hid hnl
      generalize Ses.encP q = sq at *
      go_upto_region 5 with (go_at_call 30; (with_reducible refine (kQ.out _).mono ?_); rintro e w' ⟨rfl, e0, rfl⟩)
      go_upto_region 6 with (go_at_call 31; go_loud (with_reducible refine (kS.out _).mono ?_); rintro e w4 ⟨rfl, O4⟩; obtain ⟨lP4, qP4, fP4⟩ := O4.cells 4 rfl; have p54 := qP4 5 (by simp); have f54 := fP4 5; simp only [List.getElem?_cons_succ, List.getElem?_cons_zero] at p54; haveI : InW P w4 := ⟨lP4⟩; clear qP4 fP4)
      clear kS kQ OX d0 d1 d2 d3 d4 p2 hg lP
      have O5 := (O4.setCellAt 4 5 (.bool false) rfl (by simp)).rot1.drop
      simp only [List.set_cons_succ, List.set_cons_zero] at O5
      replace O5 := Lib.hid O5
      clear O4
      go_wp2_with fail
      go_roundw
      case rel => exact ⟨k + 1, hlt, by go_num, O5.out⟩
      case measure => simp [intOf]; omega
    · obtain rfl : k = n := by omega
      rw [hnl, List.take_length] at OX
      replace OX := Lib.hid OX
      go_wp2_with fail
      go_end0
      refine ⟨rfl, ?_⟩
      have O6 := (((OX.out.rot2.drop.pull 1 rfl).pull 3 rfl).pull 3 rfl)
      refine Own.mk (fun x => pairL P N0 N1 _ x) ⟨X, v0, v1⟩ ?_
      simp only [pairL, hb, List.cons_append, List.nil_append]
      exact O6

end
end Go.Proofs.Ythmfmpkkbgapoaa
