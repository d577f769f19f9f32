/- buffer: what a deed does: plain laws. -/
import Derived.Test.YtkdagljoiacaaaaBufP
import Derived.Test.YtkdagljoiacaaaaArG0
import Derived.Test.YtkdagljoiacaaaaAr8
set_option linter.unusedSimpArgs false
set_option linter.unusedVariables false
namespace Go.Proofs.Ytkdagljoiacaaaa
open Go.RowKit
/-- a deed that waits -/
structure DdR where
  kind : Int
  b : BdR
  mask : Int
abbrev DdR.cs (d : DdR) : List Value := [nI d.kind, nI d.b.id.s, nI d.b.id.i, nI d.b.id.g, nI d.b.mask, nI d.b.x, nI d.b.y, nI d.b.vx, nI d.b.vy, nI d.b.hp, nI d.b.pw, nI d.b.lf, nI d.mask]
abbrev DdR.v (d : DdR) : Value := .agg #[nI d.kind, nI d.b.id.s, nI d.b.id.i, nI d.b.id.g, nI d.b.mask, nI d.b.x, nI d.b.y, nI d.b.vx, nI d.b.vy, nI d.b.hp, nI d.b.pw, nI d.b.lf, nI d.mask]
def pick (m p x y : Int) : Int := if bitB m p then x else y
def withB (b c : BdR) : BdR := ⟨b.id, bits .or .i64 b.mask c.mask, pick c.mask 1 c.x b.x, pick c.mask 1 c.y b.y, pick c.mask 2 c.vx b.vx, pick c.mask 2 c.vy b.vy, pick c.mask 4 c.hp b.hp, pick c.mask 8 c.pw b.pw, pick c.mask 16 c.lf b.lf⟩
def withoutB (b : BdR) (m : Int) : BdR := ⟨b.id, b.mask - bits .and .i64 b.mask m, pick m 1 0 b.x, pick m 1 0 b.y, pick m 2 0 b.vx, pick m 2 0 b.vy, pick m 4 0 b.hp, pick m 8 0 b.pw, pick m 16 0 b.lf⟩
/-- a deed, done -/
def doT (T : Tabs) (d : DdR) : Tabs × Int :=
  if d.kind < 1 ∨ 4 < d.kind then (T, 1)
  else if d.kind = 1 then putS T d.b
  else if (findT T d.b.id).isSome then
    (if d.kind = 2 then ((removeS T d.b.id).1, 0)
     else if d.kind = 3 then writeS T (withB (getS T d.b.id) d.b)
     else writeS T (withoutB (getS T d.b.id) d.mask))
  else (T, 6)
theorem good_doT {T : Tabs} (h : GoodT T) (d : DdR) : GoodT (doT T d).1 := by
  unfold doT
  split
  · exact h
  · split
    · exact good_putS h _
    · split
      · split
        · exact good_removeS h _
        · split <;> exact good_writeS h _
      · exact h
theorem cln_doT {T : Tabs} (h : Cln T) (d : DdR) : Cln (doT T d).1 := by
  unfold doT
  split
  · exact h
  · split
    · exact cln_putS h _
    · split
      · split
        · exact cln_removeS h _
        · split <;> exact cln_writeS h _
      · exact h
theorem total_doT (T : Tabs) (d : DdR) : total (doT T d).1 ≤ total T + 1 := by
  unfold doT
  split
  · exact Nat.le_succ _
  · split
    · exact total_putS T _
    · split
      · split
        · exact Nat.le_succ_of_le (total_removeS T d.b.id)
        · split
          · exact Nat.le_succ_of_le (Nat.le_of_eq (total_writeS T _))
          · exact Nat.le_succ_of_le (Nat.le_of_eq (total_writeS T _))
      · exact Nat.le_succ _
/-- deeds, one behind the other -/
def doAll (T : Tabs) (ds : List DdR) : Tabs := ds.foldl (fun T d => (doT T d).1) T
theorem doAll_nil (T : Tabs) : doAll T [] = T := rfl
theorem doAll_snoc (T : Tabs) (ds : List DdR) (d : DdR) : doAll T (ds ++ [d]) = (doT (doAll T ds) d).1 := by unfold doAll; rw [List.foldl_append]; rfl
theorem doAll_append (T : Tabs) (ds es : List DdR) : doAll T (ds ++ es) = doAll (doAll T ds) es := by unfold doAll; rw [List.foldl_append]
def errs (T : Tabs) : List DdR → List Int
  | [] => []
  | d :: r => (doT T d).2 :: errs (doT T d).1 r
theorem errs_append (T : Tabs) (ds es : List DdR) : errs T (ds ++ es) = errs T ds ++ errs (doAll T ds) es := by
  induction ds generalizing T with
  | nil => rfl
  | cons d r ih => show _ :: errs _ (r ++ es) = _ :: (errs _ r ++ _); rw [ih]; rfl
theorem errs_snoc (T : Tabs) (ds : List DdR) (d : DdR) : errs T (ds ++ [d]) = errs T ds ++ [(doT (doAll T ds) d).2] := errs_append T ds [d]
theorem errs_length (T : Tabs) (ds : List DdR) : (errs T ds).length = ds.length := by
  induction ds generalizing T with
  | nil => rfl
  | cons d r ih => show (errs _ r).length + 1 = r.length + 1; rw [ih]
theorem doAll_good {T : Tabs} (h : GoodT T) (hc : Cln T) (ds : List DdR) : GoodT (doAll T ds) ∧ Cln (doAll T ds) ∧ total (doAll T ds) ≤ total T + ds.length := by
  refine snoc_ind (p := fun ds => GoodT (doAll T ds) ∧ Cln (doAll T ds) ∧ total (doAll T ds) ≤ total T + ds.length) ?_ (fun l x ih => ?_) ds
  · rw [doAll_nil, List.length_nil, Nat.add_zero]
    exact ⟨h, hc, Nat.le_refl (total T)⟩
  rw [doAll_snoc, List.length_append, List.length_singleton]
  have := total_doT (doAll T l) x
  exact ⟨good_doT ih.1 x, cln_doT ih.2.1 x, by omega⟩
end Go.Proofs.Ytkdagljoiacaaaa
