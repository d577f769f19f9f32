/- codec: CodecTakes: walk. -/
import Derived.Test.YtpdlgflbcgemnaaGreatDoorGA
import Derived.Test.YtpdlgflbcgemnaaGreatDoorGD
import Derived.Test.YtpdlgflbcgemnaaGreatDoorGh
set_option linter.unusedSimpArgs false
set_option linter.unusedVariables false
namespace Go.Proofs.YtpdlgflbcgemnaaGreatDoor
open Go.RowKit
theorem Own.newRd {W wx : World} {l : List Asn} (h : Own W wx l) (s : ByteArray) (t : TypeId) : Own W (wx.alloc (.cells #[.string s, .bool false] t)) (Octs.rdA wx.heap.size s false :: l) :=
  Own.add (Q := Octs.rdA wx.heap.size s false) (A := fun k => k = wx.heap.size) h (Chg.of_alloc _ (.cells #[.string s, .bool false] t) _) ⟨fun k => Iff.rfl, by simp, by simp [go_sem], by simp [go_sem], by simp [go_sem], by simp [go_sem]⟩ (fun k hk => by omega)
set_option maxHeartbeats 1000000
set_option maxRecDepth 100000
end Go.Proofs.YtpdlgflbcgemnaaGreatDoor
