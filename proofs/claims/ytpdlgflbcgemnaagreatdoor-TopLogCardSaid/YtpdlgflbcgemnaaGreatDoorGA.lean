/- Plain laws and walks: CodRC1, CodRC2, CodRC3, CodTD. -/
import Derived.Test.YtpdlgflbcgemnaaGreatDoorGi
import Derived.Test.YtpdlgflbcgemnaaGreatDoorGa
import Derived.Test.YtpdlgflbcgemnaaGreatDoorCodTC1
import Derived.Test.YtpdlgflbcgemnaaGreatDoorCodTC2
import Derived.Test.YtpdlgflbcgemnaaGreatDoorCodTC3
-- CodRC1
/- codec: the reference's TakeCmd by kinds: walk. -/
set_option linter.unusedSimpArgs false
set_option linter.unusedVariables false
namespace Go.Proofs.YtpdlgflbcgemnaaGreatDoor
open Go.RowKit
set_option maxRecDepth 100000
set_option maxHeartbeats 2000000
section
variable {W wx : World} {N : Nat} {s : ByteArray} {b : Bool} {l : List Asn}
end
end Go.Proofs.YtpdlgflbcgemnaaGreatDoor
-- CodRC2
/- codec: the reference's TakeCmd by kinds: walk. -/
set_option linter.unusedSimpArgs false
set_option linter.unusedVariables false
namespace Go.Proofs.YtpdlgflbcgemnaaGreatDoor
open Go.RowKit
set_option maxRecDepth 100000
set_option maxHeartbeats 2000000
section
variable {W wx : World} {N : Nat} {s : ByteArray} {b : Bool} {l : List Asn}
end
end Go.Proofs.YtpdlgflbcgemnaaGreatDoor
-- CodRC3
/- codec: the reference's TakeCmd by kinds: walk. -/
set_option linter.unusedSimpArgs false
set_option linter.unusedVariables false
namespace Go.Proofs.YtpdlgflbcgemnaaGreatDoor
open Go.RowKit
set_option maxRecDepth 100000
set_option maxHeartbeats 2000000
section
variable {W wx : World} {N : Nat} {s : ByteArray} {b : Bool} {l : List Asn}
end
end Go.Proofs.YtpdlgflbcgemnaaGreatDoor
-- CodTD
/- codec: TakeCmd and the reference's: contracts. -/
set_option linter.unusedSimpArgs false
set_option linter.unusedVariables false
set_option maxRecDepth 100000
namespace Go.Proofs.YtpdlgflbcgemnaaGreatDoor
open Go.RowKit
section
variable {W wx : World} {N : Nat} {s : ByteArray} {b : Bool} {l : List Asn}
theorem takeCmd_O (h : Own W wx (Octs.rdA N s b :: l)) (hs : s.size ≤ 281474976710656) (hb : inv (s, b)) : Calls Tryz.prog 42 #[Octs.rdV N] wx (OwnTo W (tkC s b).1.v (Octs.rdA N (tkC s b).2.1 (tkC s b).2.2 :: l)) := by
  unfold tkC
  simp only
  rcases h1 : Octs.rInt s b with ⟨k, s1, e1⟩
  simp only
  by_cases c1 : k = 1
  · subst c1
    rw [if_pos rfl]
    rcases h2 : tkB s1 e1 with ⟨⟨⟨b0, b1, b2⟩, b3, b4, b5, b6, b7, b8, b9, b10⟩, s2, e2⟩
    exact takeCmd_1 h hs hb _ _ _ _ _ _ _ _ _ _ _ _ _ _ _ h1 h2
  rw [if_neg c1]
  by_cases c2 : k = 2
  · subst c2
    rw [if_pos rfl]
    rcases h2 : tkI s1 e1 with ⟨⟨i0, i1, i2⟩, s2, e2⟩
    exact takeCmd_2 h hs hb _ _ _ _ _ _ _ h1 h2
  rw [if_neg c2]
  by_cases c3 : k = 3
  · subst c3
    rw [if_pos rfl]
    rcases h2 : tkI s1 e1 with ⟨⟨i0, i1, i2⟩, s2, e2⟩
    simp only
    rcases h3 : tkR s2 e2 with ⟨⟨⟨b0, b1, b2⟩, b3, b4, b5, b6, b7, b8, b9, b10⟩, s3, e3⟩
    exact takeCmd_3 h hs hb _ _ _ _ _ _ _ _ _ _ _ _ _ _ _ _ _ _ _ _ h1 h2 h3
  rw [if_neg c3]
  by_cases c4 : k = 4
  · subst c4
    rw [if_pos rfl]
    rcases h2 : tkI s1 e1 with ⟨⟨i0, i1, i2⟩, s2, e2⟩
    simp only
    rcases h3 : Octs.rInt s2 e2 with ⟨mk, s3, e3⟩
    exact takeCmd_4 h hs hb _ _ _ _ _ _ _ _ _ _ h1 h2 h3
  rw [if_neg c4]
  exact takeCmd_o h hs hb k c1 c2 c3 c4 _ _ h1
end
end Go.Proofs.YtpdlgflbcgemnaaGreatDoor
