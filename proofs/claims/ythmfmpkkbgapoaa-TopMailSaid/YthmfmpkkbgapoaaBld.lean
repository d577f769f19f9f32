/- strings.Builder in growing worlds: the library's contracts at this program. -/
import Derived.Shelf.Strings.Builder1
import Derived.Test.YthmfmpkkbgapoaaChecked
import Derived.Test.YthmfmpkkbgapoaaGa
set_option linter.unusedSimpArgs false
set_option linter.unusedVariables false
namespace Go.Proofs.Ythmfmpkkbgapoaa
open Go.RowKit Go.Shelf
def bldRen : Go.Shelf.Ren := ⟨fun | 166 => 48 | 169 => 49 | 240 => 71 | 276 => 84 | n => n, fun | 0 => 0 | 3 => 3 | 4 => 4 | 5 => 5 | 9 => 9 | 20 => 20 | 37 => 114 | 70 => 116 | 72 => 118 | 75 => 120 | 80 => 123 | 127 => 143 | 164 => 161 | n => n, fun | n => n⟩
theorem bldLays166 : Go.Proofs.Lays.n166 Try.prog bldRen := {
  mixed := by kernel_rfl
  f166 := Try.func48.trans (congrArg some (by kernel_rfl))
  f240 := Try.func71.trans (congrArg some (by kernel_rfl))
  f276 := Try.func84.trans (congrArg some (by kernel_rfl))
  t0 := Try.underlying0
  a0 := Try.isAgg0
  z0 := Try.sizeOf0
  v0 := Try.zeroValue0
  t3 := Try.underlying3
  a3 := Try.isAgg3
  z3 := Try.sizeOf3
  v3 := Try.zeroValue3
  t4 := Try.underlying4
  a4 := Try.isAgg4
  z4 := Try.sizeOf4
  v4 := Try.zeroValue4
  t9 := Try.underlying9
  a9 := Try.isAgg9
  z9 := Try.sizeOf9
  v9 := Try.zeroValue9
  t20 := Try.underlying20
  a20 := Try.isAgg20
  z20 := Try.sizeOf20
  v20 := Try.zeroValue20
  t37 := Try.underlying114
  a37 := Try.isAgg114
  z37 := Try.sizeOf114
  v37 := Try.zeroValue114
  t70 := Try.underlying116
  a70 := Try.isAgg116
  z70 := Try.sizeOf116
  v70 := Try.zeroValue116
  t72 := Try.underlying118
  a72 := Try.isAgg118
  z72 := Try.sizeOf118
  v72 := Try.zeroValue118
  t75 := Try.underlying120
  a75 := Try.isAgg120
  z75 := Try.sizeOf120
  v75 := Try.zeroValue120
  t164 := Try.underlying161
  a164 := Try.isAgg161
  z164 := Try.sizeOf161
  v164 := Try.zeroValue161 }
theorem bldLays169 : Go.Proofs.Lays.n169 Try.prog bldRen := {
  mixed := by kernel_rfl
  f169 := Try.func49.trans (congrArg some (by kernel_rfl))
  t0 := Try.underlying0
  a0 := Try.isAgg0
  z0 := Try.sizeOf0
  v0 := Try.zeroValue0
  t3 := Try.underlying3
  a3 := Try.isAgg3
  z3 := Try.sizeOf3
  v3 := Try.zeroValue3
  t9 := Try.underlying9
  a9 := Try.isAgg9
  z9 := Try.sizeOf9
  v9 := Try.zeroValue9
  t37 := Try.underlying114
  a37 := Try.isAgg114
  z37 := Try.sizeOf114
  v37 := Try.zeroValue114
  t70 := Try.underlying116
  a70 := Try.isAgg116
  z70 := Try.sizeOf116
  v70 := Try.zeroValue116
  t72 := Try.underlying118
  a72 := Try.isAgg118
  z72 := Try.sizeOf118
  v72 := Try.zeroValue118
  t127 := Try.underlying143
  a127 := Try.isAgg143
  z127 := Try.sizeOf143
  v127 := Try.zeroValue143 }
theorem bldExtra : Go.Proofs.Builder.Extra Try.prog bldRen := {
  sizeBuilder := by kernel_rfl
  liesBuilder := by kernel_rfl
  t5 := Try.underlying5
  a5 := Try.isAgg5
  z5 := Try.sizeOf5
  v5 := Try.zeroValue5
  infoByte := by kernel_rfl
  cellsByte := by kernel_rfl
  sizeByte := by kernel_rfl
  neB5 := by decide }
/-- a builder of the call's own, made where the world W ended -/
def Bld (W w : World) (l : List UInt8) : Prop := W.Plus w ∧ Lib.IsBuilder 118 5 W.heap.size W.heap.size (Lib.byteCells l) w
abbrev bldV (W : World) : Value := .pointer (some ⟨W.heap.size, 0, none⟩)
theorem Bld.fresh (W : World) : Bld W (W.alloc (.cells #[.pointer none, .slice none 0 0] 118)) [] := ⟨Plus.alloc (Plus.refl W) _, Lib.fresh_isBuilder _ _ W⟩
theorem bldAt_plus {T e : TypeId} {B b : Nat} {p : Value} {bs : List Value} {w : World} (h : Lib.BuilderAt T e B b p bs w) (x : Ext) : Lib.BuilderAt T e B b p bs (w.plus x) := by
  have hl := Lib.BuilderAt.lt h
  obtain ⟨h1, v, h2, h3, h4⟩ := h
  exact ⟨h1, v, (w.plus_block x hl).trans h2, h3.plus x, h4⟩
theorem Bld.atP {W w w' : World} {l : List UInt8} (h : Bld W w l) (p : w.Plus w') : Bld W w' l := by
  obtain ⟨e, rfl⟩ := p
  exact ⟨Plus.plus h.1 e, h.2.elim (fun a => .inl (bldAt_plus a e)) (fun a => .inr (bldAt_plus a e))⟩
theorem bld_write {W w : World} {l m : List UInt8} (h : Bld W w l) (hl : l.length + m.length ≤ 140737488355328) : Calls Try.prog 48 #[bldV W, .string ⟨m.toArray⟩] w fun e w' => e = .returned (.tuple #[.int .i64 m.length, .nilIface]) ∧ Bld W w' (l ++ m) := by
  have hb := Plus.below h.1
  have hs : (⟨m.toArray⟩ : ByteArray).size = m.length := by simp [ByteArray.size]
  refine (Any.Builder_WriteString bldLays166 bldExtra W.heap.size W.heap.size (Lib.byteCells l) ⟨m.toArray⟩ w h.2 (by rw [Lib.byteCells_length, hs]; exact hl) hb.size).mono fun e w' ⟨h1, h2, h3⟩ => ?_
  rw [hs] at h1
  refine ⟨h1, plus_of_below (hb.trans h3), .inr ?_⟩
  rw [Lib.strCells_eq, ← Lib.byteCells_append] at h2
  exact h2
theorem bld_string {W w : World} {l : List UInt8} (h : Bld W w l) : Calls Try.prog 49 #[bldV W] w fun e w' => e = .returned (.string ⟨l.toArray⟩) ∧ W.Plus w' := by
  have hb := Plus.below h.1
  refine (Any.Builder_String_any bldLays169 bldExtra W.heap.size W.heap.size l w h.2 hb.size).mono fun e w' ⟨h1, h2⟩ => ⟨h1, plus_of_below (hb.trans h2)⟩
end Go.Proofs.Ythmfmpkkbgapoaa
