/- session: the reference's end, as an assertion; its Say: walk. -/
import Derived.Test.YtpmebmbibajcoaaSesD
import Derived.Deep.CutBlock
set_option linter.unusedSimpArgs false
set_option linter.unusedVariables false
namespace Go.Proofs.Ytpmebmbibajcoaa
open Go.RowKit
/-- the cells of the texts that wait, each with its number -/
def numCs : Int → List ByteArray → List Value
  | _, [] => []
  | f, s :: r => .int .i64 f :: .string s :: numCs (f + 1) r
theorem numCs_length (f : Int) (ws : List ByteArray) : (numCs f ws).length = ws.length * 2 := by
  induction ws generalizing f with
  | nil => rfl
  | cons s r ih => simp only [numCs, List.length_cons, ih]; omega
theorem numCs_append (f : Int) (a b : List ByteArray) : numCs f (a ++ b) = numCs f a ++ numCs (f + a.length) b := by
  induction a generalizing f with
  | nil => simp [numCs]
  | cons s r ih =>
    have e : f + (((s :: r).length : Nat) : Int) = f + 1 + r.length := by simp only [List.length_cons]; omega
    rw [e]
    simp only [List.cons_append, numCs, ih]
theorem numCs_get (f : Int) (ws : List ByteArray) (i : Nat) (h : i < ws.length) : (numCs f ws)[i * 2]? = some (.int .i64 (f + i)) ∧ (numCs f ws)[i * 2 + 1]? = some (.string (ws.getD i ⟨#[]⟩)) := by
  induction ws generalizing f i with
  | nil => simp at h
  | cons s r ih =>
    cases i with
    | zero => simp [numCs]
    | succ i =>
      have := ih (f + 1) i (by simp at h; omega)
      rw [show (i + 1) * 2 = i * 2 + 1 + 1 by omega]
      simp only [numCs, List.getElem?_cons_succ, List.getD_cons_succ]
      rw [this.1, this.2]
      exact ⟨by rw [show f + 1 + (i : Int) = f + ((i + 1 : Nat) : Int) by omega], rfl⟩
theorem numCs_one (f : Int) (ws : List ByteArray) (h : ∀ u ∈ numCs f ws, u.oneCell' = true) : True := trivial
/-- the reference's end, its slice told -/
def refF (M : Nat) (c : Ch) (x : Option Addr × Nat) : List Asn :=
  [cellsA M [.int .i64 c.mine, .int .i64 c.yours, .slice x.1 c.wait.length x.2, .int .i64 (c.first - 1 + c.wait.length), .int .i64 c.last, .bool c.met, .bool c.owes], slA 2 (.slice x.1 c.wait.length x.2) c.wait.length (numCs c.first c.wait)]
def refA (M : Nat) (c : Ch) : Asn := exA (refF M c)
/-- what a walk wants of the end's block -/
structure RefAt (w : World) (M : Nat) (c : Ch) (A : Option Addr) (cap : Nat) : Prop where
  lt : M < w.heap.size
  c0 : w.cell? ⟨M, 0, none⟩ = some (.int .i64 c.mine)
  c1 : w.cell? ⟨M, 1, none⟩ = some (.int .i64 c.yours)
  c2 : w.cell? ⟨M, 2, none⟩ = some (.slice A c.wait.length cap)
  c3 : w.cell? ⟨M, 3, none⟩ = some (.int .i64 (c.first - 1 + c.wait.length))
  c4 : w.cell? ⟨M, 4, none⟩ = some (.int .i64 c.last)
  c5 : w.cell? ⟨M, 5, none⟩ = some (.bool c.met)
  c6 : w.cell? ⟨M, 6, none⟩ = some (.bool c.owes)
  hf : ∀ i, w.frozen? ⟨M, i, none⟩ = false
theorem Own.refAt {W wx : World} {l : List Asn} {M : Nat} {c : Ch} {A : Option Addr} {cap : Nat} (h : Own W wx (refF M c (A, cap) ++ l)) : RefAt wx M c A cap := by
  obtain ⟨h1, h2, h3⟩ := Own.cells 0 h rfl
  exact ⟨h1, h2 0 (by simp), h2 1 (by simp), h2 2 (by simp), h2 3 (by simp), h2 4 (by simp), h2 5 (by simp), h2 6 (by simp), h3⟩
theorem infoNum : (Try.prog.info? 86).map (fun i => (i.zero, i.size, i.bytes)) = some (some (.agg #[.int .i64 0, .string ⟨#[]⟩]), 2, 24) := by kernel_rfl
theorem underNums : Try.prog.underlying 45 = some (.slice 86) := by kernel_rfl
theorem src_num (wx : World) (f : Int) (s : ByteArray) {n : Nat} (hn : n = wx.heap.size) : Src Try.prog 2 45 (.slice (some ⟨n, 0, none⟩) 1 1) 1 [.int .i64 f, .string s] (wx.alloc (.cells #[.int .i64 f, .string s] 86)) := by
  subst hn
  refine Src.ofCells underNums _ _ rfl (fun j hj => ?_) (fun u hu => ?_) 1
  · rw [World.cell?_alloc_new]
    simp
  · simp only [List.mem_cons, List.not_mem_nil, or_false] at hu
    rcases hu with rfl | rfl <;> rfl
theorem src_numAt (w : World) (n : Nat) (f : Int) (s : ByteArray) (h0 : w.cell? ⟨n, 0, none⟩ = some (.int .i64 f)) (h1 : w.cell? ⟨n, 1, none⟩ = some (.string s)) : Src Try.prog 2 45 (.slice (some ⟨n, 0, none⟩) 1 1) 1 [.int .i64 f, .string s] w := by
  refine Src.ofCells underNums _ _ rfl (fun j hj => ?_) (fun u hu => ?_) 1
  · match j, hj with
    | 0, _ => exact h0
    | 1, _ => exact h1
    | j + 2, hj => simp at hj; omega
  · simp only [List.mem_cons, List.not_mem_nil, or_false] at hu
    rcases hu with rfl | rfl <;> rfl
theorem any_take (xs : List ByteArray) (k : Nat) (h : k < xs.length) (hk : (xs.take k).any longB = false) (hb : longB (xs.getD k ⟨#[]⟩) = false) : (xs.take (k + 1)).any longB = false := by
  have e : xs.take (k + 1) = xs.take k ++ [xs.getD k ⟨#[]⟩] := by
    rw [List.take_succ_eq_append_getElem h, List.getD_eq_getElem?_getD, List.getElem?_eq_getElem h]
    rfl
  rw [e, List.any_append, hk]
  simp only [List.any_cons, List.any_nil, hb, Bool.or_self]
theorem any_at (xs : List ByteArray) (k : Nat) (h : k < xs.length) (hb : longB (xs.getD k ⟨#[]⟩) = true) : xs.any longB = true := by
  rw [List.any_eq_true]
  refine ⟨_, ?_, hb⟩
  rw [List.getD_eq_getElem?_getD, List.getElem?_eq_getElem h]
  exact List.getElem_mem h
set_option maxRecDepth 100000 in
set_option maxHeartbeats 1000000 in
theorem refSay_O {W wx : World} {l : List Asn} {M : Nat} {c : Ch} (h : Own W wx (refA M c :: l)) (A : Option Addr) (cp : Nat) (xs : List ByteArray) (hn : xs.length ≤ 1000) (hw : c.wait.length ≤ 1024) (hr : RowsAt W A 1 xs.length (strAt xs))
    (hf : 1 ≤ c.first ∧ c.first ≤ 1000000000000000) :
    Calls Try.prog 19 #[chV M, .slice A xs.length cp] wx (OwnTo W (.int .i64 (sayE c xs)) (refA M (sayC c xs) :: l)) := by
  obtain ⟨i0, hi0, hz0, hz1, hz2⟩ := info_parts infoNum
  replace hi0 := Lib.hid hi0
  replace hz0 := Lib.hid hz0
  replace hz1 := Lib.hid hz1
  replace hz2 := Lib.hid hz2
  have hrow : ∀ wx k, W.Plus wx → k < xs.length → ∃ b o, A = some ⟨b, o, none⟩ ∧ b < W.heap.size ∧ b < wx.heap.size ∧ wx.cell? ⟨b, o + k, none⟩ = some (.string (xs.getD k ⟨#[]⟩)) := fun wx k p hk => by
    obtain ⟨bb, oo, rfl, hbl, hc⟩ := hr (by omega)
    have d1 := hc k 0 hk (by omega)
    simp only [Nat.mul_one, Nat.add_zero] at d1
    obtain ⟨e, rfl⟩ := p
    haveI : InW bb W := ⟨hbl⟩
    exact ⟨bb, oo, rfl, hbl, by rw [World.size_plus_eq]; omega, by rw [World.cell?_plus]; exact d1⟩
  clear hr
  have hsE : sayE c xs = if xs.any longB then 1 else if 1024 < (c.wait.length + xs.length : Nat) then 8 else 0 := rfl
  have hsC : sayC c xs = if sayE c xs = 0 then { c with wait := c.wait ++ xs } else c := rfl
  replace hrow := Lib.hid hrow
  replace hsE := Lib.hid hsE
  replace hsC := Lib.hid hsC
  replace h := Lib.hid h
  go_enter Try.func19, Try.ntmps19
  have hp0 := h.out.p
  go_wp2_with fail
  go_loop [5] (fun i => ∃ k : Nat, k ≤ xs.length ∧ i = .int .i64 k ∧ (xs.take k).any longB = false) (fun i => xs.length - (intOf i).toNat)
  case atStart => exact ⟨0, Nat.zero_le _, rfl, rfl⟩
  case round =>
    obtain ⟨k, hk, rfl, ha⟩ := hrel
    by_cases hlt : k < xs.length
    · obtain ⟨bb, oo, rfl, _, hbl, d1⟩ := hrow.out wx k hp0 hlt
      haveI : InW bb wx := ⟨hbl⟩
      have hnext := any_take xs k hlt ha
      have hat := any_at xs k hlt
      generalize xs.getD k ⟨#[]⟩ = x at *
      replace ha := Lib.hid ha
      cases hx : longB x with
      | true =>
        have hE : sayE c xs = 1 := by rw [hsE.out, if_pos (hat hx)]
        have hC : sayC c xs = c := by rw [hsC.out, hE, if_neg (by decide)]
        have h5 : 65472 < x.size := by unfold longB at hx; simpa using hx
        have h5i : (65472 : Int) < x.size := by omega
        clear hat hnext hx
        replace hE := Lib.hid hE
        replace hC := Lib.hid hC
        replace h5 := Lib.hid h5
        go_wp2_with fail
        go_ret
        exact ⟨by rw [hE.out]; rfl, by rw [hC.out]; exact h.out⟩
      | false =>
        have hn2 := hnext hx
        have h5 : ¬ 65472 < x.size := by unfold longB at hx; simpa using hx
        have h5i : ¬ (65472 : Int) < x.size := by omega
        clear hat hnext hx
        replace h5 := Lib.hid h5
        replace hn2 := Lib.hid hn2
        go_wp2_with fail
        go_round
        case rel => exact ⟨k + 1, by omega, by go_num, hn2.out⟩
        case measure => simp [intOf]; omega
    · have hke : k = xs.length := by omega
      subst hke
      rw [List.take_length] at ha
      rw [ha, if_neg (by simp)] at hsE
      clear ha
      obtain ⟨⟨B, cb⟩, O⟩ := Own.ex h.out
      have R := Own.refAt O
      obtain ⟨lM, c0, c1, c2, c3, c4, c5, c6, fM⟩ := R
      haveI : InW M wx := ⟨lM⟩
      replace fM := Lib.hid fM
      by_cases hbig : 1024 < xs.length + c.wait.length
      · have hE : sayE c xs = 8 := by rw [hsE.out, if_pos (by omega)]
        have hC : sayC c xs = c := by rw [hsC.out, hE, if_neg (by decide)]
        have hbi : (1024 : Int) < (xs.length : Int) + (c.wait.length : Int) := by omega
        replace hE := Lib.hid hE
        replace hC := Lib.hid hC
        go_wp2_with fail
        go_ret
        exact ⟨by rw [hE.out]; rfl, by rw [hC.out]; exact h.out⟩
      · have hE : sayE c xs = 0 := by rw [hsE.out, if_neg (by omega)]
        have hC : sayC c xs = { c with wait := c.wait ++ xs } := by rw [hsC.out, if_pos hE]
        have hbi : ¬ (1024 : Int) < (xs.length : Int) + (c.wait.length : Int) := by omega
        replace hE := Lib.hid hE
        replace hC := Lib.hid hC
        go_wp2_with fail
        clear c0 c1 c2 c3 c4 c5 c6 fM lM O
        go_loopw [6] (fun i wr => ∃ k : Nat, k ≤ xs.length ∧ i = .int .i64 k ∧ Own W wr (refA M { c with wait := c.wait ++ xs.take k } :: l)) (fun i _ => xs.length - (intOf i).toNat)
        case atStart => exact ⟨0, Nat.zero_le _, rfl, by simpa using h.out⟩
        case round =>
          obtain ⟨k, hk, rfl, O'⟩ := hrel
          obtain ⟨⟨B, cb⟩, O⟩ := O'.ex
          by_cases hlt : k < xs.length
          · obtain ⟨bb, oo, rfl, hbW, hbl, d1⟩ := hrow.out wr k O.p hlt
            have htk : xs.take (k + 1) = xs.take k ++ [xs.getD k ⟨#[]⟩] := by
              rw [List.take_succ_eq_append_getElem hlt, List.getD_eq_getElem?_getD, List.getElem?_eq_getElem hlt]
              rfl
            haveI : InW bb wr := ⟨hbl⟩
            have hx : ∀ wx, W.Plus wx → wx.cell? ⟨bb, oo + k, none⟩ = some (.string (xs.getD k ⟨#[]⟩)) := fun wx p => by
              obtain ⟨b', o', he, _, _, h⟩ := hrow.out wx k p hlt
              cases he
              exact h
            generalize xs.getD k ⟨#[]⟩ = x at *
            replace hx := Lib.hid hx
            have hwl : (c.wait ++ xs.take k).length = c.wait.length + k := by rw [List.length_append, List.length_take]; omega
            simp only [refF, List.cons_append, List.nil_append] at O
            rw [hwl] at O
            obtain ⟨n, hnn⟩ : ∃ n, n = c.wait.length + k := ⟨_, rfl⟩
            rw [← hnn] at O
            have hn2 : n ≤ 2048 := by omega
            replace hnn := Lib.hid hnn
            replace htk := Lib.hid htk
            replace hwl := Lib.hid hwl
            replace O' := Lib.hid O'
            obtain ⟨lM, qM, fM⟩ := O.cells 0 rfl
            have c2 := qM 2 (by simp)
            have c3 := qM 3 (by simp)
            have f2 := fM 2
            have f3 := fM 3
            simp only [List.getElem?_cons_succ, List.getElem?_cons_zero] at c2 c3
            haveI : InW M wr := ⟨lM⟩
            clear qM fM
            have hbM : bb ≠ M := by have := O.cells_ge 0 rfl; omega
            have hMb : M ≠ bb := fun h => hbM h.symm
            go_upto_region 12 with fail
            have O2 := O.setCell (i := 3) (v := .int .i64 (c.first - 1 + n + 1)) (by simp)
            simp only [List.set_cons_succ, List.set_cons_zero] at O2
            have d2 : (wr.setCell ⟨M, 3, none⟩ (.int .i64 (c.first - 1 + n + 1))).cell? ⟨bb, oo + k, none⟩ = some (.string x) := by
              rw [World.cell?_setCell_other _ _ _ _ (fun h => hMb (congrArg Addr.block h))]
              exact d1
            generalize wr.setCell ⟨M, 3, none⟩ (.int .i64 (c.first - 1 + n + 1)) = wb at O2 d2 ⊢
            clear O c2 c3 f2 f3 d1 hbl
            obtain ⟨lM, qM, fM⟩ := O2.cells 0 rfl
            have c2 := qM 2 (by simp)
            have c3 := qM 3 (by simp)
            simp only [List.getElem?_cons_succ, List.getElem?_cons_zero] at c2 c3
            haveI : InW M wb := ⟨lM⟩
            haveI : InW bb wb := ⟨by have := (Plus.below O2.p).size; omega⟩
            clear qM fM
            replace O2 := Lib.hid O2.rot1
            go_region_law ((go_loud (refine step_append_O (by rfl) _ _ 45 45 (by rfl) 86 i0 _ 2 24 underNums hi0.out hz0.out hz1.out hz2.out rfl (by rfl) ((O2.out.alloc _).drew) (xv := .slice (some ⟨wb.heap.size, 0, none⟩) 1 1) (by rfl) (src_numAt _ wb.heap.size (c.first - 1 + n + 1) x (by simp [go_sem]) (by simp [go_sem])) (by unfold maxLen; omega) (by omega) ?_); intro A3 cb3 w6 O6; obtain ⟨lM6, qM6, fM6⟩ := O6.cells 1 rfl; have c26 := qM6 2 (by simp); simp only [List.getElem?_cons_succ, List.getElem?_cons_zero] at c26; have f26 := fM6 2; haveI : InW M w6 := ⟨lM6⟩; have c36 := qM6 3 (by simp); simp only [List.getElem?_cons_succ, List.getElem?_cons_zero] at c36; have d6 := hx.out w6 O6.p; clear qM6 fM6))
            all_goals
              have O7 := (O6.rot1.setCell (i := 2) (v := .slice A3 (n + 1) cb3) (by simp))
              simp only [List.set_cons_succ, List.set_cons_zero] at O7
              have O8 : Own W _ (refA M { c with wait := c.wait ++ xs.take (k + 1) } :: l) := Own.mk (refF M { c with wait := c.wait ++ xs.take (k + 1) }) (A3, cb3) (by
                have e1 : (c.wait ++ xs.take (k + 1)).length = n + 1 := by rw [htk.out, ← List.append_assoc, List.length_append, hwl.out, hnn.out]; rfl
                have e2 : numCs c.first (c.wait ++ xs.take (k + 1)) = numCs c.first (c.wait ++ xs.take k) ++ [.int .i64 (c.first - 1 + n + 1), .string x] := by
                  rw [htk.out, ← List.append_assoc, numCs_append, hwl.out, ← hnn.out]
                  simp only [numCs]
                  rw [show c.first + (n : Int) = c.first - 1 + n + 1 by omega]
                have e3 : c.first - 1 + ((n + 1 : Nat) : Int) = c.first - 1 + n + 1 := by omega
                simp only [refF, List.cons_append, List.nil_append]
                rw [e1, e2, e3]
                exact O7)
              go_wp2_with fail
              go_roundw
              case rel => exact ⟨k + 1, by omega, by go_num, O8⟩
              case measure => simp [intOf]; omega
          · have hke : k = xs.length := by omega
            subst hke
            rw [List.take_length] at O'
            go_wp2_with fail
            go_ret
            exact ⟨by rw [hE.out]; rfl, by rw [hC.out]; exact O'⟩
end Go.Proofs.Ytpmebmbibajcoaa
