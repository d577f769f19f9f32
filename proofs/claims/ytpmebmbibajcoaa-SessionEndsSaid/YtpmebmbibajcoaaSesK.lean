/- SessionPlays: few: walk. -/
import Derived.Test.YtpmebmbibajcoaaSesJ
import Derived.Deep.CutBlock
set_option linter.unusedSimpArgs false
set_option linter.unusedVariables false
namespace Go.Proofs.Ytpmebmbibajcoaa
open Go.RowKit
/-- a deed, as it lies in memory -/
structure Deed where
  kind : Int
  la : Option Addr
  ln : Nat
  lc : Nat
  post : Post
def Deed.cs (d : Deed) : List Value := [.int .i64 d.kind, .slice d.la d.ln d.lc, .int .i64 d.post.mine, .int .i64 d.post.yours, .int .i64 d.post.ack, .int .i64 d.post.seq, .string d.post.text]
def deedsCs (l : List Deed) : List Value := l.flatMap Deed.cs
abbrev de0 : Deed := ⟨0, none, 0, 0, po0⟩
def deedRow (ds : List Deed) (i j : Nat) : Value := (ds.getD i de0).cs.getD j (.bool false)
def trunc (d : Deed) : Deed := { d with ln := min d.ln 20 }
def fewD (ds : List Deed) : List Deed := (ds.take 60).map trunc
theorem deedsCs_append (l m : List Deed) : deedsCs (l ++ m) = deedsCs l ++ deedsCs m := by simp [deedsCs]
theorem deedsCs_length (l : List Deed) : (deedsCs l).length = l.length * 7 := by
  induction l with
  | nil => rfl
  | cons d r ih =>
    show (d.cs ++ deedsCs r).length = _
    rw [List.length_append, ih, List.length_cons]
    show 7 + r.length * 7 = _
    omega
theorem deedsCs_get (l : List Deed) (i j : Nat) (hi : i < l.length) (hj : j < 7) : (deedsCs l)[i * 7 + j]? = (l.getD i de0).cs[j]? := by
  induction l generalizing i with
  | nil => simp at hi
  | cons d r ih =>
    show (d.cs ++ deedsCs r)[i * 7 + j]? = _
    have hd : d.cs.length = 7 := rfl
    cases i with
    | zero => rw [List.getElem?_append_left (by rw [hd]; omega)]; simp
    | succ i =>
      rw [List.getElem?_append_right (by rw [hd]; omega), hd, show (i + 1) * 7 + j - 7 = i * 7 + j by omega]
      exact ih i (by simp at hi; omega)
theorem infoDeed : (Try.prog.info? 50).map (fun i => (i.zero, i.size, i.bytes)) = some (some (.agg #[.int .i64 0, .slice none 0 0, .int .i64 0, .int .i64 0, .int .i64 0, .int .i64 0, .string ⟨#[]⟩]), 7, 80) := by kernel_rfl
theorem underDeeds : Try.prog.underlying 43 = some (.slice 50) := by kernel_rfl
/-- the cells of a deed in its list -/
structure DeedAt (w : World) (g o : Nat) (d : Deed) : Prop where
  c0 : w.cell? ⟨g, o, none⟩ = some (.int .i64 d.kind)
  c1 : w.cell? ⟨g, o + 1, none⟩ = some (.slice d.la d.ln d.lc)
  c2 : w.cell? ⟨g, o + 2, none⟩ = some (.int .i64 d.post.mine)
  c3 : w.cell? ⟨g, o + 3, none⟩ = some (.int .i64 d.post.yours)
  c4 : w.cell? ⟨g, o + 4, none⟩ = some (.int .i64 d.post.ack)
  c5 : w.cell? ⟨g, o + 5, none⟩ = some (.int .i64 d.post.seq)
  c6 : w.cell? ⟨g, o + 6, none⟩ = some (.string d.post.text)
theorem deed_row {w : World} {A : Option Addr} {n : Nat} {ds : List Deed} (h : RowsAt w A 7 n (deedRow ds)) (k : Nat) (hk : k < n) : ∃ g o, A = some ⟨g, o, none⟩ ∧ g < w.heap.size ∧ DeedAt w g (o + k * 7) (ds.getD k de0) := by
  obtain ⟨g, o, rfl, hl, hc⟩ := h (by omega)
  exact ⟨g, o, rfl, hl, hc k 0 hk (by omega), hc k 1 hk (by omega), hc k 2 hk (by omega), hc k 3 hk (by omega), hc k 4 hk (by omega), hc k 5 hk (by omega), hc k 6 hk (by omega)⟩
theorem src_deed (wx : World) (k : Int) (A : Option Addr) (n c : Nat) (m y a s : Int) (t : ByteArray) {b : Nat} (hb : b = wx.heap.size) :
    Src Try.prog 7 43 (.slice (some ⟨b, 0, none⟩) 1 1) 1 [.int .i64 k, .slice A n c, .int .i64 m, .int .i64 y, .int .i64 a, .int .i64 s, .string t] (wx.alloc (.cells #[.int .i64 k, .slice A n c, .int .i64 m, .int .i64 y, .int .i64 a, .int .i64 s, .string t] 50)) := by
  subst hb
  refine Src.ofCells underDeeds _ _ rfl (fun j hj => ?_) (fun u hu => ?_) 1
  · rw [World.cell?_alloc_new]
    simp
  · simp only [List.mem_cons, List.not_mem_nil, or_false] at hu
    rcases hu with rfl | rfl | rfl | rfl | rfl | rfl | rfl <;> rfl
theorem fewD_step (ds : List Deed) (k : Nat) (h : k < ds.length) (h2 : k < 60) : fewD (ds.take (k + 1)) = fewD (ds.take k) ++ [trunc (ds.getD k de0)] := by
  unfold fewD
  have e : ds.take (k + 1) = ds.take k ++ [ds.getD k de0] := by
    rw [List.take_succ_eq_append_getElem h, List.getD_eq_getElem?_getD, List.getElem?_eq_getElem h]
    rfl
  have e1 : (ds.take (k + 1)).take 60 = ds.take (k + 1) := List.take_of_length_le (by rw [List.length_take]; omega)
  have e2 : (ds.take k).take 60 = ds.take k := List.take_of_length_le (by rw [List.length_take]; omega)
  rw [e1, e2, e, List.map_append]
  rfl
theorem fewD_len (ds : List Deed) : (fewD ds).length = min ds.length 60 := by simp [fewD, Nat.min_comm]
def FewO (W : World) (l : List Asn) (ds : List Deed) (e : Ending) (w' : World) : Prop := ∃ A cap, e = .returned (.slice A (fewD ds).length cap) ∧ Own W w' (slA 7 (.slice A (fewD ds).length cap) (fewD ds).length (deedsCs (fewD ds)) :: l)
set_option maxRecDepth 100000 in
set_option maxHeartbeats 2000000 in
theorem few_any {W wx : World} {l : List Asn} (h : Own W wx l) (ds : List Deed) (A : Option Addr) (cp : Nat) (hn : ds.length ≤ 140737488351232) (hcp : ds.length ≤ cp ∧ cp ≤ 140737488351232) (hr : RowsAt W A 7 ds.length (deedRow ds)) (hd : ∀ d ∈ ds, d.ln ≤ d.lc ∧ d.lc ≤ 140737488351232 ∧ (0 < d.ln → ∃ g o, d.la = some ⟨g, o, none⟩)) :
    Calls Try.prog 18 #[.slice A ds.length cp] wx (FewO W l ds) := by
  obtain ⟨i0, hi0, hz0, hz1, hz2⟩ := info_parts infoDeed
  replace hi0 := Lib.hid hi0
  replace hz0 := Lib.hid hz0
  replace hz1 := Lib.hid hz1
  replace hz2 := Lib.hid hz2
  have O0 := (Own.add h (Chg.refl _ _) (Q := slA 7 (.slice none 0 0) 0 []) (A := fun _ => False) ⟨fun k => by simp [Value.ownBlock], Sl.nil _ _⟩ (fun _ h => h.elim))
  replace h := Lib.hid trivial
  replace hr := Lib.hid hr
  replace hd := Lib.hid hd
  obtain ⟨m, hm⟩ : ∃ m, m = min ds.length 60 := ⟨_, rfl⟩
  have hmb : m ≤ 60 ∧ m ≤ ds.length := by omega
  replace hm := Lib.hid hm
  go_enter Try.func18, Try.ntmps18
  go_upto_if 8 with (fail)
  go_cut [0] (fun s wz => s = .slice A m cp ∧ wz = wx)
  case first =>
    have hro := hr.out
    by_cases h60 : 60 < ds.length
    · have h60i : (60 : Int) < ds.length := by omega
      have hm6 : m = 60 := by rw [hm.out]; omega
      subst hm6
      obtain ⟨g, o, rfl, _, _⟩ := hro (by omega)
      go_wp2_with fail
      go_meet
      exact ⟨rfl, rfl⟩
    · have h60i : ¬ (60 : Int) < ds.length := by omega
      have hm6 : m = ds.length := by rw [hm.out]; omega
      subst hm6
      go_wp2_with fail
      go_meet
      exact ⟨rfl, rfl⟩
  obtain ⟨rfl, rfl⟩ := hcut
  go_upto_region 4 with fail
  go_wp2_with fail
  go_loopw [3, 4] (fun v i wr => ∃ (k : Nat) (B : Option Addr) (cap : Nat), k ≤ m ∧ i = .int .i64 k ∧ v = .slice B k cap ∧ Own W wr (slA 7 (.slice B k cap) k (deedsCs (fewD (ds.take k))) :: l)) (fun _ i _ => m - (intOf i).toNat)
  case atStart => exact ⟨0, none, 0, Nat.zero_le _, rfl, rfl, O0⟩
  case round =>
    clear O0
    obtain ⟨k, B, cap, hk, rfl, rfl, OX⟩ := hrel
    by_cases hlt : k < m
    · obtain ⟨g, o, rfl, hg, hD⟩ := deed_row (hr.out.plus OX.p) k (by omega)
      haveI : InW g wr := ⟨hg⟩
      have hst := fewD_step ds k (by omega) (by omega)
      have hmem : ds.getD k de0 ∈ ds := by
        rw [List.getD_eq_getElem?_getD, List.getElem?_eq_getElem (by omega)]
        exact List.getElem_mem _
      obtain ⟨hl1, hl2, hl3⟩ := hd.out _ hmem
      clear hmem
      generalize ds.getD k de0 = d at *
      obtain ⟨dk, dA, dn, dc, dp⟩ := d
      obtain ⟨pm, py, pa, ps, pt⟩ := dp
      obtain ⟨c0, c1, c2, c3, c4, c5, c6⟩ := hD
      dsimp only at c0 c1 c2 c3 c4 c5 c6 hl1 hl2 hl3
      unfold trunc at hst
      dsimp only at hst
      by_cases h20 : 20 < dn
      · have h20i : (20 : Int) < dn := by omega
        rw [show min dn 20 = 20 by omega] at hst
        replace hst := Lib.hid hst
        obtain ⟨ga, oa, rfl⟩ := hl3 (by omega)
        clear hl3
        have O1 := OX.alloc (.cells #[.int .i64 dk, .slice (some ⟨ga, oa, none⟩) 20 dc, .int .i64 pm, .int .i64 py, .int .i64 pa, .int .i64 ps, .string pt] 50)
        have OA := Lib.hid (O1.alloc (.cells #[.int .i64 dk, .slice (some ⟨ga, oa, none⟩) 20 dc, .int .i64 pm, .int .i64 py, .int .i64 pa, .int .i64 ps, .string pt] 50))
        clear O1
        replace OX := Lib.hid OX
        go_wp2_with (at_builtin; refine wpList_append_O rfl _ _ 43 43 rfl 50 i0 _ 7 80 underDeeds hi0.out hz0.out hz1.out hz2.out rfl rfl OA.out rfl (src_deed _ _ _ _ _ _ _ _ _ _ (by simp [go_sem])) (by unfold maxLen; omega) (by omega) ?_; intro A2 cap2 w6 O6)
        go_roundw
        case rel =>
          refine ⟨k + 1, A2, cap2, hlt, by go_num, rfl, ?_⟩
          rw [hst.out, deedsCs_append]
          exact O6
        case measure => simp [intOf]; omega
      · have h20i : ¬ (20 : Int) < dn := by omega
        rw [show min dn 20 = dn by omega] at hst
        replace hst := Lib.hid hst
        clear hl3
        have O1 := OX.alloc (.cells #[.int .i64 dk, .slice dA dn dc, .int .i64 pm, .int .i64 py, .int .i64 pa, .int .i64 ps, .string pt] 50)
        have OA := Lib.hid (O1.alloc (.cells #[.int .i64 dk, .slice dA dn dc, .int .i64 pm, .int .i64 py, .int .i64 pa, .int .i64 ps, .string pt] 50))
        clear O1
        replace OX := Lib.hid OX
        go_wp2_with (at_builtin; refine wpList_append_O rfl _ _ 43 43 rfl 50 i0 _ 7 80 underDeeds hi0.out hz0.out hz1.out hz2.out rfl rfl OA.out rfl (src_deed _ _ _ _ _ _ _ _ _ _ (by simp [go_sem])) (by unfold maxLen; omega) (by omega) ?_; intro A2 cap2 w6 O6)
        go_roundw
        case rel =>
          refine ⟨k + 1, A2, cap2, hlt, by go_num, rfl, ?_⟩
          rw [hst.out, deedsCs_append]
          exact O6
        case measure => simp [intOf]; omega
    · obtain rfl : k = m := by omega
      have hfin : fewD (ds.take k) = fewD ds := by
        unfold fewD
        rw [List.take_take, show min 60 k = k by omega, show ds.take 60 = ds.take k from by
          by_cases h : ds.length ≤ 60
          · rw [List.take_of_length_le h, List.take_of_length_le (by have := hm.out; omega)]
          · rw [show k = 60 by have := hm.out; omega]]
      have hlen : (fewD ds).length = k := by rw [fewD_len]; exact hm.out.symm
      rw [hfin, ← hlen] at OX
      replace hfin := Lib.hid hfin
      replace hlen := Lib.hid hlen
      replace OX := Lib.hid OX
      go_wp2_with fail
      go_ret
      exact ⟨B, cap, by rw [hlen.out]; rfl, OX.out⟩
end Go.Proofs.Ytpmebmbibajcoaa
