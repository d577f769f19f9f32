/- arch: the law's all: walk. -/
import Derived.Test.YtkdagljoiacaaaaArG
import Derived.Test.YtkdagljoiacaaaaAppIn
import Derived.Sort.CutIn
set_option linter.unusedSimpArgs false
set_option linter.unusedVariables false
namespace Go.Proofs.Ytkdagljoiacaaaa
open Go.RowKit Go.Shelf
attribute [local go_sem] Oper.semAt_some
def Same2 {α : Type} (a b : α) : Prop := a = b
/-- a slice of entities in a box -/
def boxL (Lb : Nat) (pre : List BdR) (a : Ad) : List Asn := [cellsA Lb [.slice a.1 pre.length a.2], slA 11 (.slice a.1 pre.length a.2) pre.length (bdsCs pre)]
def allI (Mb Lb k : Nat) (l : List Asn) (pre : List BdR) : List Asn := [cellsA Mb [nI k], factA (pre.length ≤ k), exA (boxL Lb pre)] ++ l
def allX (Mb Lb k : Nat) (l : List Asn) (c : Code) (pre : List BdR) : List Asn := match c with
  | .exit id => [cellsA Mb [nI k], factA (id = 0 ∧ pre.dropLast.length = k), exA (boxL Lb pre.dropLast)] ++ l
  | _ => [factA False]
theorem seq_some (f : Nat) (c : Array Value) (w : World) : (binOp .eql 35 (.func (.func f) #[] c) Value.nilFunc).run Try.prog w = .ok (.bool false) w := by kernel_rfl
set_option maxRecDepth 100000 in
set_option maxHeartbeats 1000000 in
theorem lall_O {W wx : World} {S : Nat} {T : Tabs} {l : List Asn} (h : Own W wx (storeA S T :: l)) (hg : GoodT T) (ht : total T ≤ 80000) (k : Nat) (hk : k ≤ 100000) :
    Calls Try.prog 41 #[chP S, nI k] wx fun e w' => ∃ A c q, Same2 q ((allT T).take k) ∧ e = .returned (.slice A q.length c) ∧ Own W w' (slA 11 (.slice A q.length c) q.length (bdsCs q) :: storeA S T :: l) := by
  obtain ⟨i0, hi0, hz0, hz1, hz2⟩ := info_parts infoBd
  replace hi0 := Lib.hid hi0
  replace hz0 := Lib.hid hz0
  replace hz1 := Lib.hid hz1
  replace hz2 := Lib.hid hz2
  refine (callsIn_wide (n := 20)).1 ?_
  refine callsIn_of_wp_marks Try.func41 rfl trivial ?_ rfl
  simp only [Try.ntmps41, List.size_toArray, List.length_cons, List.length_nil, Nat.reduceAdd, Nat.reduceSub, Array.replicate_succ, Array.replicate_zero, List.push_toArray, List.append_toArray, List.nil_append, List.cons_append]
  have O2 : Own W (((wx.alloc (.cells #[nI k] 3)).alloc (.cells #[.slice none 0 0] 33)).alloc (.cells #[chP S] 25)) (cellsA (wx.heap.size + 2) [chP S] :: cellsA (wx.heap.size + 1) [.slice none 0 0] :: cellsA wx.heap.size [nI k] :: storeA S T :: l) := by
    have := ((h.newCells [nI k] 3).newCells [.slice none 0 0] 33).newCells [chP S] 25
    rw [World.size_alloc, World.size_alloc] at this
    exact this
  have hsq := seq_some 28
  gi_wp2_with ((refine ⟨trivial, ?_⟩; gi_at_call 15; refine (callsIn_wide.2 (all_any S _)).mono ?_; rintro e w2 ⟨rfl, rfl⟩))
  have O3 : Own W (((wx.alloc (.cells #[nI k] 3)).alloc (.cells #[.slice none 0 0] 33)).alloc (.cells #[chP S] 25)) ([storeA S T, cellsA (wx.heap.size + 2) [chP S]] ++ allI wx.heap.size (wx.heap.size + 1) k l []) := by
    have O4 := (Own.nilSl (O2.pull 1 rfl) 11).rot1
    have O5 := Own.mk (boxL (wx.heap.size + 1) []) (none, 0) O4
    have O6 := Own.addFact O5 (p := ([] : List BdR).length ≤ k) (Nat.zero_le k)
    exact ((O6.pull 3 rfl).pull 3 rfl).pull 4 rfl
  obtain ⟨w3, hw3⟩ : ∃ w3, (((wx.alloc (.cells #[nI k] 3)).alloc (.cells #[.slice none 0 0] 33)).alloc (.cells #[chP S] 25)) = w3 := ⟨_, rfl⟩
  rw [hw3] at O3 ⊢
  generalize wx.heap.size = Mb at *
  clear hw3 O2 h
  refine wpIn_rangeO (F := Fence.wide) (n := 20) (W0 := W) rfl (by omega) (gf := 28) (lb := #[.pointer (some ⟨Mb + 2, 0, none⟩)]) rfl trivial enters_all1 (all1_gives 19 (by omega) W S (Mb + 2) T hg (by omega)) rfl
    (allI Mb (Mb + 1) k l) (allX Mb (Mb + 1) k l) O3
    (fun Bx x => { tmps := #[chP S, nI k, undef, .pointer (some ⟨Mb, 0, none⟩), .slice none 0 0, .pointer (some ⟨Mb + 1, 0, none⟩), .func (.func 28) #[] #[.pointer (some ⟨Mb + 2, 0, none⟩)], .pointer (some ⟨Bx, 0, none⟩), chP S, .func (.func 28) #[] #[.pointer (some ⟨Mb + 2, 0, none⟩)], .func (.func 28) #[] #[.pointer (some ⟨Mb + 2, 0, none⟩)], .bool false, .func (.func 28) #[] #[.pointer (some ⟨Mb + 2, 0, none⟩)], x.v, undef, undef, undef, undef, undef, undef, undef, undef, undef], defers := [] })
    BdR.cs 40 ?assign ?body ?done ?stop
  case assign =>
    intro l x W K hK
    gi_wp2
    exact hK
  case body =>
    intro lr Bx pre x post Wr R hpre O
    have hlen : pre.length < 80000 := by
      have := congrArg List.length hpre
      rw [allT_length, List.length_append, List.length_cons] at this
      omega
    have hle := Own.fact 4 O rfl
    obtain ⟨⟨A, cp⟩, O1⟩ := (O.pull 5 rfl).ex
    have O2 : Own W Wr (cellsA (Mb + 1) [.slice A pre.length cp] :: slA 11 (.slice A pre.length cp) pre.length (bdsCs pre) :: cellsA Bx x.cs :: storeA S T :: cellsA (Mb + 2) [chP S] :: cellsA Mb [nI k] :: factA (pre.length ≤ k) :: (l ++ R)) := O1
    obtain ⟨lL, qL, fL⟩ := O2.cells 0 rfl
    have l0 := qL 0 (by simp)
    have lf0 := fL 0
    obtain ⟨lM, qM, _⟩ := O2.cells 5 rfl
    have m0 := qM 0 (by simp)
    simp only [List.getElem?_cons_zero] at l0 m0
    haveI : InW (Mb + 1) Wr := ⟨lL⟩
    haveI : InW Mb Wr := ⟨lM⟩
    have B1 := boxAt (b := x) 2 O2 rfl
    obtain ⟨hIn, q0, q1, q2, q3, q4, q5, q6, q7, q8, q9, q10⟩ := B1
    clear qL fL qM lL lM O1
    by_cases he : pre.length = k
    · have hx : Own W Wr ([storeA S T, cellsA (Mb + 2) [chP S]] ++ (allX Mb (Mb + 1) k l (.exit 0) (pre ++ [x]) ++ R)) := by
        have O3 := Own.addFact ((O.drop.pull 3 rfl).drop) (p := (0 : Nat) = 0 ∧ (pre ++ [x]).dropLast.length = k) ⟨rfl, by rw [List.dropLast_concat]; exact he⟩
        unfold allX
        rw [List.dropLast_concat] at O3 ⊢
        exact O3.perm (List.perm_middle (l₁ := [_, _, _])).symm
      have hb : ((pre.length : Int) == (k : Int)) = true := by simp; omega
      replace hx := Lib.hid hx
      replace he := Lib.hid he
      clear O O2 hpre
      gi_wp2
      exact hx.out
    · have hb : ((pre.length : Int) == (k : Int)) = false := by simp; omega
      have hS0 : Src Try.prog 11 33 (.slice (some ⟨Wr.heap.size, 0, none⟩) 1 1) 1 x.cs (Wr.alloc (.cells #[nI x.id.s, nI x.id.i, nI x.id.g, nI x.mask, nI x.x, nI x.y, nI x.vx, nI x.vy, nI x.hp, nI x.pw, nI x.lf] 40)) := src_bdNew Wr x 40
      have hS := Lib.hid hS0
      clear hS0
      have OA := Lib.hid ((O2.rot1).alloc (.cells #[nI x.id.s, nI x.id.i, nI x.id.g, nI x.mask, nI x.x, nI x.y, nI x.vx, nI x.vy, nI x.hp, nI x.pw, nI x.lf] 40))
      have hlk : (pre ++ [x]).length ≤ k := by rw [List.length_append, List.length_singleton]; omega
      obtain ⟨n, hn⟩ : ∃ n, n = pre.length := ⟨_, rfl⟩
      rw [← hn] at l0 hlen OA hb
      replace hn := Lib.hid hn
      replace hlk := Lib.hid hlk
      replace he := Lib.hid he
      clear O O2 hpre hle
      gi_upto_if 17 with fail
      set_option maxHeartbeats 400000 in
      gi_wp2_with (gi_at_builtin; refine wpListIn_append_O rfl _ _ 33 33 rfl 40 i0 _ 11 88 underBds hi0.out hz0.out hz1.out hz2.out rfl rfl OA.out rfl hS.out (by unfold maxLen; omega) (by omega) ?_; intro A2 c2 w6 O6; obtain ⟨lL6, qL6, fL6⟩ := O6.cells 1 rfl; have l6 := qL6 0 (by simp); have f6 := fL6 0; simp only [List.getElem?_cons_zero] at l6; haveI : InW (Mb + 1) w6 := ⟨lL6⟩; clear qL6 fL6 lL6)
      have O7 := O6.rot1.setCell (i := 0) (v := .slice A2 (n + 1) c2) (by simp)
      have e : boxL (Mb + 1) (pre ++ [x]) (A2, c2) = [cellsA (Mb + 1) [.slice A2 (n + 1) c2], slA 11 (.slice A2 (n + 1) c2) (n + 1) (bdsCs pre ++ x.cs)] := by
        unfold boxL
        rw [List.length_append, List.length_singleton, ← hn.out, bdsCs_append]
        rfl
      have O8 := Own.mk (boxL (Mb + 1) (pre ++ [x])) (A2, c2) (by rw [e]; exact O7)
      exact (((Own.addFact ((O8.pull 1 rfl).drop.pull 4 rfl).drop hlk.out).pull 4 rfl).pull 4 rfl).pull 4 rfl
  case done =>
    intro D Wd O
    have hle := Own.fact 4 O rfl
    obtain ⟨⟨A, cp⟩, O1⟩ := (O.pull 5 rfl).ex
    have O2 : Own W Wd (cellsA (Mb + 1) [.slice A (allT T).length cp] :: slA 11 (.slice A (allT T).length cp) (allT T).length (bdsCs (allT T)) :: rawA D (.deferred (some [])) :: storeA S T :: cellsA (Mb + 2) [chP S] :: cellsA Mb [nI k] :: factA ((allT T).length ≤ k) :: l) := O1
    obtain ⟨lL, qL, _⟩ := O2.cells 0 rfl
    have l0 := qL 0 (by simp)
    simp only [List.getElem?_cons_zero] at l0
    haveI : InW (Mb + 1) Wd := ⟨lL⟩
    have hK := O.raw
    have O9 := ((((((O2.pull 2 rfl).putRaw (.deferred none)).drop.pull 1 rfl).pull 1 rfl).drop.pull 2 rfl).drop.pull 2 rfl).drop.pull 2 rfl
    have O10 := Lib.hid O9.drop
    have htk := Lib.hid (List.take_of_length_le hle)
    clear hle
    clear qL lL O O1 O2 O9 O3
    gi_wp2
    refine ⟨by simp, .inl ⟨_, _, rfl, run_takeDeferred hK, ?_⟩⟩
    exact ⟨_, results_tmp rfl _ _ _, A, cp, _, htk.out.symm, rfl, O10.out⟩
  case stop =>
    intro D c pre post Wd hpre hne O
    cases c with
    | exit id =>
      have hf := Own.fact 4 O rfl
      obtain ⟨rfl, hlen⟩ := hf
      have htk : (allT T).take k = pre.dropLast := by
        rw [← hpre, ← hlen, List.take_append_of_le_length (by rw [List.length_dropLast]; omega), List.dropLast_eq_take]
        congr 1
        rw [List.length_take]
        omega
      obtain ⟨⟨A, cp⟩, O1⟩ := (O.pull 5 rfl).ex
      have O2 : Own W Wd (cellsA (Mb + 1) [.slice A pre.dropLast.length cp] :: slA 11 (.slice A pre.dropLast.length cp) pre.dropLast.length (bdsCs pre.dropLast) :: rawA D (.deferred (some [])) :: storeA S T :: cellsA (Mb + 2) [chP S] :: cellsA Mb [nI k] :: factA ((0 : Nat) = 0 ∧ pre.dropLast.length = k) :: l) := O1
      obtain ⟨lL, qL, _⟩ := O2.cells 0 rfl
      have l0 := qL 0 (by simp)
      simp only [List.getElem?_cons_zero] at l0
      haveI : InW (Mb + 1) Wd := ⟨lL⟩
      have hK := O.raw
      have O9 := ((((((O2.pull 2 rfl).putRaw (.deferred none)).drop.pull 1 rfl).pull 1 rfl).drop.pull 2 rfl).drop.pull 2 rfl).drop.pull 2 rfl
      have O10 := Lib.hid O9.drop
      clear qL lL O O1 O2 O9 O3 hpre hne
      generalize pre.dropLast = q at *
      replace htk := Lib.hid htk
      clear hlen
      gi_wp2
      refine ⟨by simp, .inl ⟨_, _, rfl, run_takeDeferred hK, ?_⟩⟩
      exact ⟨_, results_tmp rfl _ _ _, A, cp, q, htk.out.symm, rfl, O10.out⟩
    | _ => exact (Own.fact 3 O rfl).elim
end Go.Proofs.Ytkdagljoiacaaaa
