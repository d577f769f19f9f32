/- wal: Open of a log of one segment at the most: walk. -/
import Derived.Test.YtpdlgflbcgemnaaGreatDoorGK
import Derived.Test.YtpdlgflbcgemnaaGreatDoorRange0
import Derived.Shelf.Abstract
import Derived.OwnWalkIn
import Derived.TacticsInMore
import Derived.LoopNIn
import Derived.LoopIn
set_option linter.unusedSimpArgs false
set_option linter.unusedVariables false
set_option maxRecDepth 100000
namespace Go.Proofs.YtpdlgflbcgemnaaGreatDoor
open Go.RowKit
theorem backward0 (w : World) (A : Option Addr) (c : Nat) : Calls Tryz.prog 22 #[.slice A 0 c] w fun e w' => e = .returned (.func (.func 59) #[] #[.pointer (some ⟨w.heap.size, 0, none⟩)]) ∧ w' = w.alloc (.cells #[.slice A 0 c] 50) := by
  go_enter Tryz.func22, Tryz.ntmps22
  go_wp2_with fail
  go_ret
  exact ⟨rfl, rfl⟩
theorem enters_back (args : Array Value) (w : World) : (callFunc 59 args).run Tryz.prog w = .ok (.enter 59 args) w := by
  exact enters_of Tryz.func59 (by kernel_rfl) rfl args w
theorem back_gives (n : Nat) (hn : 5 ≤ n) (W0 : World) (Bx : Nat) (A : Option Addr) (c : Nat) (L : List Asn) (k : Nat) (R : List Asn) (W : World) (h : Own W0 W (R ++ (cellsA Bx [.slice A 0 c] :: L))) :
    CallsIn Fence.wide n Tryz.prog 59 (#[.func (.yield k) #[] #[]] ++ #[.pointer (some ⟨Bx, 0, none⟩)]) W fun e W' => (∃ v, e = .returned v) ∧ Own W0 W' (R ++ (cellsA Bx [.slice A 0 c] :: L)) := by
  have h1 : 1 ≤ n := by omega
  obtain ⟨lB, qB, -⟩ := h.cells (n := Bx) (cs := [.slice A 0 c]) R.length (by rw [List.getElem?_append_right (Nat.le_refl _)]; simp)
  have b0 := qB 0 (by simp)
  simp only [List.getElem?_cons_zero] at b0
  haveI : InW Bx W := ⟨lB⟩
  clear qB lB
  replace h := Lib.hid h
  refine callsIn_of_wp Tryz.func59 rfl trivial ?_ rfl
  simp only [Tryz.ntmps59, List.size_toArray, List.length_cons, List.length_nil, Nat.reduceAdd, Nat.reduceSub, Array.replicate_succ, Array.replicate_zero, List.push_toArray, List.append_toArray, List.nil_append, List.cons_append]
  gi_wp2
  gi_loopw [3] (fun v wr => v = .int .i64 (-1) ∧ wr = W) (fun _ _ => 0)
  case atStart => exact ⟨rfl, rfl⟩
  case round =>
    obtain ⟨rfl, rfl⟩ := hrel
    gi_wp2
    go_end0
    exact ⟨⟨_, rfl⟩, h.out⟩
end Go.Proofs.YtpdlgflbcgemnaaGreatDoor
