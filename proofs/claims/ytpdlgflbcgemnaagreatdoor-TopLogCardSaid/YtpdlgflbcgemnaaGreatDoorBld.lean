/- strings.Builder in growing worlds: the library's contracts at this program. -/
import Derived.Shelf.Strings.Builder1
import Derived.Test.YtpdlgflbcgemnaaGreatDoorChecked
import Derived.Test.YtpdlgflbcgemnaaGreatDoorGa
set_option linter.unusedSimpArgs false
set_option linter.unusedVariables false
namespace Go.Proofs.YtpdlgflbcgemnaaGreatDoor
open Go.RowKit Go.Shelf
def bldRen : Go.Shelf.Ren := ⟨fun | 166 => 68 | 169 => 69 | 240 => 105 | 276 => 124 | n => n, fun | 0 => 0 | 3 => 3 | 4 => 4 | 5 => 5 | 9 => 9 | 20 => 20 | 37 => 99 | 70 => 121 | 72 => 123 | 75 => 104 | 80 => 64 | 127 => 159 | 164 => 184 | n => n, fun | n => n⟩
theorem bldLays166 : Go.Proofs.Lays.n166 Tryz.prog bldRen := {
  mixed := by kernel_rfl
  f166 := Tryz.func68.trans (congrArg some (by kernel_rfl))
  f240 := Tryz.func105.trans (congrArg some (by kernel_rfl))
  f276 := Tryz.func124.trans (congrArg some (by kernel_rfl))
  t0 := Tryz.underlying0
  a0 := Tryz.isAgg0
  z0 := Tryz.sizeOf0
  v0 := Tryz.zeroValue0
  t3 := Tryz.underlying3
  a3 := Tryz.isAgg3
  z3 := Tryz.sizeOf3
  v3 := Tryz.zeroValue3
  t4 := Tryz.underlying4
  a4 := Tryz.isAgg4
  z4 := Tryz.sizeOf4
  v4 := Tryz.zeroValue4
  t9 := Tryz.underlying9
  a9 := Tryz.isAgg9
  z9 := Tryz.sizeOf9
  v9 := Tryz.zeroValue9
  t20 := Tryz.underlying20
  a20 := Tryz.isAgg20
  z20 := Tryz.sizeOf20
  v20 := Tryz.zeroValue20
  t37 := Tryz.underlying99
  a37 := Tryz.isAgg99
  z37 := Tryz.sizeOf99
  v37 := Tryz.zeroValue99
  t70 := Tryz.underlying121
  a70 := Tryz.isAgg121
  z70 := Tryz.sizeOf121
  v70 := Tryz.zeroValue121
  t72 := Tryz.underlying123
  a72 := Tryz.isAgg123
  z72 := Tryz.sizeOf123
  v72 := Tryz.zeroValue123
  t75 := Tryz.underlying104
  a75 := Tryz.isAgg104
  z75 := Tryz.sizeOf104
  v75 := Tryz.zeroValue104
  t164 := Tryz.underlying184
  a164 := Tryz.isAgg184
  z164 := Tryz.sizeOf184
  v164 := Tryz.zeroValue184 }
theorem bldLays169 : Go.Proofs.Lays.n169 Tryz.prog bldRen := {
  mixed := by kernel_rfl
  f169 := Tryz.func69.trans (congrArg some (by kernel_rfl))
  t0 := Tryz.underlying0
  a0 := Tryz.isAgg0
  z0 := Tryz.sizeOf0
  v0 := Tryz.zeroValue0
  t3 := Tryz.underlying3
  a3 := Tryz.isAgg3
  z3 := Tryz.sizeOf3
  v3 := Tryz.zeroValue3
  t9 := Tryz.underlying9
  a9 := Tryz.isAgg9
  z9 := Tryz.sizeOf9
  v9 := Tryz.zeroValue9
  t37 := Tryz.underlying99
  a37 := Tryz.isAgg99
  z37 := Tryz.sizeOf99
  v37 := Tryz.zeroValue99
  t70 := Tryz.underlying121
  a70 := Tryz.isAgg121
  z70 := Tryz.sizeOf121
  v70 := Tryz.zeroValue121
  t72 := Tryz.underlying123
  a72 := Tryz.isAgg123
  z72 := Tryz.sizeOf123
  v72 := Tryz.zeroValue123
  t127 := Tryz.underlying159
  a127 := Tryz.isAgg159
  z127 := Tryz.sizeOf159
  v127 := Tryz.zeroValue159 }
theorem bldExtra : Go.Proofs.Builder.Extra Tryz.prog bldRen := {
  sizeBuilder := by kernel_rfl
  liesBuilder := by kernel_rfl
  t5 := Tryz.underlying5
  a5 := Tryz.isAgg5
  z5 := Tryz.sizeOf5
  v5 := Tryz.zeroValue5
  infoByte := by kernel_rfl
  cellsByte := by kernel_rfl
  sizeByte := by kernel_rfl
  neB5 := by decide }
/-- a builder of the call's own, made where the world W ended -/
def Bld (W w : World) (l : List UInt8) : Prop := W.Plus w ∧ Lib.IsBuilder 123 5 W.heap.size W.heap.size (Lib.byteCells l) w
abbrev bldV (W : World) : Value := .pointer (some ⟨W.heap.size, 0, none⟩)
theorem Bld.fresh (W : World) : Bld W (W.alloc (.cells #[.pointer none, .slice none 0 0] 123)) [] := ⟨Plus.alloc (Plus.refl W) _, Lib.fresh_isBuilder _ _ W⟩
theorem bldAt_plus {T e : TypeId} {B b : Nat} {p : Value} {bs : List Value} {w : World} (h : Lib.BuilderAt T e B b p bs w) (x : Ext) : Lib.BuilderAt T e B b p bs (w.plus x) := by
  have hl := Lib.BuilderAt.lt h
  obtain ⟨h1, v, h2, h3, h4⟩ := h
  exact ⟨h1, v, (w.plus_block x hl).trans h2, h3.plus x, h4⟩
theorem Bld.atP {W w w' : World} {l : List UInt8} (h : Bld W w l) (p : w.Plus w') : Bld W w' l := by
  obtain ⟨e, rfl⟩ := p
  exact ⟨Plus.plus h.1 e, h.2.elim (fun a => .inl (bldAt_plus a e)) (fun a => .inr (bldAt_plus a e))⟩
theorem bld_write {W w : World} {l m : List UInt8} (h : Bld W w l) (hl : l.length + m.length ≤ 140737488355328) : Calls Tryz.prog 68 #[bldV W, .string ⟨m.toArray⟩] w fun e w' => e = .returned (.tuple #[.int .i64 m.length, .nilIface]) ∧ Bld W w' (l ++ m) := by
  have hb := Plus.below h.1
  have hs : (⟨m.toArray⟩ : ByteArray).size = m.length := by simp [ByteArray.size]
  refine (Any.Builder_WriteString bldLays166 bldExtra W.heap.size W.heap.size (Lib.byteCells l) ⟨m.toArray⟩ w h.2 (by rw [Lib.byteCells_length, hs]; exact hl) hb.size).mono fun e w' ⟨h1, h2, h3⟩ => ?_
  rw [hs] at h1
  refine ⟨h1, plus_of_below (hb.trans h3), .inr ?_⟩
  rw [Lib.strCells_eq, ← Lib.byteCells_append] at h2
  exact h2
theorem bld_string {W w : World} {l : List UInt8} (h : Bld W w l) : Calls Tryz.prog 69 #[bldV W] w fun e w' => e = .returned (.string ⟨l.toArray⟩) ∧ W.Plus w' := by
  have hb := Plus.below h.1
  refine (Any.Builder_String_any bldLays169 bldExtra W.heap.size W.heap.size l w h.2 hb.size).mono fun e w' ⟨h1, h2⟩ => ⟨h1, plus_of_below (hb.trans h2)⟩
end Go.Proofs.YtpdlgflbcgemnaaGreatDoor
