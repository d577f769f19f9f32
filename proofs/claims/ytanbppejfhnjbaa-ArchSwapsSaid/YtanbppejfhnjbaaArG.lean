/- arch: Copy; the law's all: walk. -/
import Derived.Test.YtanbppejfhnjbaaArG0
import Derived.Test.YtanbppejfhnjbaaArRb
set_option linter.unusedSimpArgs false
set_option linter.unusedVariables false
namespace Go.Proofs.Ytanbppejfhnjbaa
open Go.RowKit Go.Shelf
attribute [local go_sem] Oper.semAt_some
theorem enters_all1 (args : Array Value) (w : World) : (callFunc 57 args).run Try.prog w = .ok (.enter 57 args) w := enters_of Try.func57 (by kernel_rfl) rfl args w
set_option maxRecDepth 100000 in
set_option maxHeartbeats 1000000 in
theorem copy_O {W wx : World} {S : Nat} {T : Tabs} {l : List Asn} (h : Own W wx (storeA S T :: l)) (hg : GoodT T) (hc : Cln T) (ht : total T ≤ 80000) :
    Calls Try.prog 29 #[chP S] wx fun e w' => ∃ C, e = .returned (chP C) ∧ Own W w' (storeA C T :: storeA S T :: l) := by
  refine (callsIn_wide (n := 20)).1 ?_
  have kN := Lib.hid (fun wz (O : Own W wz (storeA S T :: l)) => new_store O)
  refine callsIn_of_wp_marks Try.func29 rfl trivial ?_ rfl
  simp only [Try.ntmps29, List.size_toArray, List.length_cons, List.length_nil, Nat.reduceAdd, Nat.reduceSub, Array.replicate_succ, Array.replicate_zero, List.push_toArray, List.append_toArray, List.nil_append, List.cons_append]
  replace h := Lib.hid h
  gi_wp2_with (first
    | ((refine ⟨trivial, ?_⟩; gi_at_call 18; refine (callsIn_wide.2 (kN.out _ h.out)).mono ?_; rintro e w1 ⟨C, rfl, O1⟩))
    | ((refine ⟨trivial, ?_⟩; gi_at_call 46; refine (callsIn_wide.2 (all_any S _)).mono ?_; rintro e w2 ⟨rfl, rfl⟩)))
  have O2 : Own W ((w1.alloc (.cells #[chP C] 23)).alloc (.cells #[chP S] 23)) ([storeA S T, cellsA (w1.heap.size + 1) [chP S]] ++ ([cellsA w1.heap.size [chP C], storeA C (addAll [])] ++ l)) := by
    have := (O1.newCells [chP C] 23).newCells [chP S] 23
    rw [World.size_alloc] at this
    exact this.pull 3 rfl
  have hfine := all_fine hg
  obtain ⟨w3, hw3⟩ : ∃ w3, (w1.alloc (.cells #[chP C] 23)).alloc (.cells #[chP S] 23) = w3 := ⟨_, rfl⟩
  rw [hw3] at O2 ⊢
  generalize w1.heap.size = Pb at *
  clear hw3 O1 kN h
  refine wpIn_rangeO (W0 := W) rfl (by omega) (gf := 57) (lb := #[.pointer (some ⟨Pb + 1, 0, none⟩)]) rfl trivial enters_all1 (all1_gives 19 (by omega) W S (Pb + 1) T hg (by omega)) rfl
    (fun pre => [cellsA Pb [chP C], storeA C (addAll pre)] ++ l) (fun _ _ => [factA False]) O2
    (fun Bx x => { tmps := #[chP S, undef, .pointer none, .pointer (some ⟨Pb, 0, none⟩), .pointer (some ⟨Bx, 0, none⟩), chP C, chP S, .func (.func 57) #[] #[.pointer (some ⟨Pb + 1, 0, none⟩)], x.v, undef, undef, undef, undef], defers := [] })
    BdR.cs 33 ?assign ?body ?done ?stop
  case assign =>
    intro l x W K hK
    gi_wp2
    exact hK
  case body =>
    intro lr Bx pre x post Wr R hpre O
    have hfx : Fine (pre ++ [x]) := by
      have : Fine ((pre ++ [x]) ++ post) := by rw [List.append_assoc]; show Fine (pre ++ x :: post); rw [hpre]; exact hfine
      exact this.left
    have hgood := addAll_good pre hfx.left
    have htx : total (addAll pre) ≤ 100000 := by
      rw [hgood.2]
      have := congrArg List.length hpre
      rw [allT_length, List.length_append] at this
      omega
    have kA := Lib.hid (add_O (O.pull 4 rfl) hgood.1 x (hfx.ok x (by simp)) (fine_new hfx) htx)
    have B1 := boxAt (b := x) 0 O rfl
    obtain ⟨hIn, q0, q1, q2, q3, q4, q5, q6, q7, q8, q9, q10⟩ := B1
    obtain ⟨lP, qP, _⟩ := O.cells 3 rfl
    have p0 := qP 0 (by simp)
    simp only [List.getElem?_cons_zero] at p0
    haveI : InW Pb Wr := ⟨lP⟩
    rw [← addAll_snoc] at kA
    clear qP lP htx hgood hfx hfine hpre O O2
    gi_wp2_with ((refine ⟨trivial, ?_⟩; gi_at_call 39; refine (callsIn_wide.2 kA.out).mono ?_; rintro e w5 ⟨rfl, O5⟩))
    exact (O5.pull 1 rfl).drop.perm (List.perm_middle (l₁ := [_, _, _])).symm
  case done =>
    intro D Wd O
    obtain ⟨lP, qP, _⟩ := O.cells 3 rfl
    have p0 := qP 0 (by simp)
    simp only [List.getElem?_cons_zero] at p0
    haveI : InW Pb Wd := ⟨lP⟩
    have hK := O.raw
    have O9 := Lib.hid ((O.putRaw (.deferred none)).drop)
    rw [addAll_all hg hc] at O9
    clear qP lP O O2
    gi_wp2
    refine ⟨by simp, .inl ⟨_, _, rfl, run_takeDeferred hK, ?_⟩⟩
    exact ⟨_, results_tmp rfl _ _ _, C, rfl, (((O9.out.pull 1 rfl).drop.pull 1 rfl).drop.pull 1 rfl)⟩
  case stop =>
    intro D c pre post Wd _ _ O
    exact (Own.fact 3 O rfl).elim
end Go.Proofs.Ytanbppejfhnjbaa
