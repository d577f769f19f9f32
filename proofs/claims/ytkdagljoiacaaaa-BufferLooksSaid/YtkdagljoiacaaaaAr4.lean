/- arch: a store in memory, as an assertion; its columns: walk. -/
import Derived.Test.YtkdagljoiacaaaaArT
import Derived.Test.YtkdagljoiacaaaaAr3
import Derived.DeepKeys4
set_option linter.unusedSimpArgs false
set_option linter.unusedVariables false
namespace Go.Proofs.Ytkdagljoiacaaaa
open Go.RowKit
def num (k : Nat) (b : BdR) : Int := match k with
  | 1 => b.x
  | 2 => b.y
  | 3 => b.vx
  | 4 => b.vy
  | 5 => b.hp
  | 6 => b.pw
  | _ => b.lf
def colOf (k : Nat) (b : BdR) : List Value := if k = 0 then b.id.cs else [nI (num k b)]
def colCs (k : Nat) (rows : List BdR) : List Value := rows.flatMap (colOf k)
/-- the columns are those of the tables -/
def Tab (T : Tabs) (c : Nat → Col) : Prop := ∀ j, j < 256 → (c j).n = (T (j / 8)).length ∧ (c j).cs = colCs (j % 8) (T (j / 8))
abbrev plV (p : Nat × Nat) : Value := .agg #[nI p.1, nI p.2]
/-- a name that may be in memory -/
def IdW (a : IdR) : Prop := (-9223372036854775808 ≤ a.s ∧ a.s ≤ 9223372036854775807) ∧ (-9223372036854775808 ≤ a.i ∧ a.i ≤ 9223372036854775807) ∧ (-9223372036854775808 ≤ a.g ∧ a.g ≤ 9223372036854775807)
theorem okB_id {b : BdR} (h : okB b = true) : IdW b.id := by
  unfold okB idB withinB at h
  simp only [Bool.and_eq_true, if_true, decide_eq_true_eq] at h
  unfold IdW
  omega
/-- a store's blocks -/
def storeL (S M : Nat) (c : Nat → Col) (n : Nat) (F : IdR → Option (Nat × Nat)) (l : List Asn) : List Asn := bothA (colsL c 256) :: cellsA S (cellsL c 256 (.map (some M))) :: mapA IdR.v plV IdW M n F :: l
def storeF (S : Nat) (T : Tabs) (x : Nat × (Nat → Col)) : List Asn := storeL S x.1 x.2 (total T) (findT T) [factA (Tab T x.2)]
/-- a store -/
def storeA (S : Nat) (T : Tabs) : Asn := exA (storeF S T)
theorem Own.addFact {W w : World} {l : List Asn} {p : Prop} (h : Own W w l) (hp : p) : Own W w (factA p :: l) :=
  Own.add h (Chg.refl _ _) (Q := factA p) (A := fun _ => False) ⟨fun k h => h, hp⟩ (fun _ h => h.elim)
theorem store_mk {W w : World} {S M : Nat} {c : Nat → Col} {T : Tabs} {l : List Asn} (h : Own W w (storeL S M c (total T) (findT T) l)) (hT : Tab T c) : Own W w (storeA S T :: l) :=
  Own.mk (storeF S T) (M, c) ((Own.addFact h hT).perm (List.perm_middle (l₁ := [_, _, _])).symm)
theorem laidOutP : laidOutB Try.prog = true := by kernel_rfl
theorem keyedId : Go.Maps.Keyed Try.prog 38 := Go.Maps.Keyed.of_law (deep_law_laid laidOutP (m := 2) (by omega) (of_decide_eq_true (by kernel_rfl)) (by kernel_rfl) (by kernel_rfl))
theorem id_struct : (Try.prog.underlying 38).map (fun d => match d with | .struct fs => some (fs.toList.map (fun f => (f.type, f.offset)), fs.all (·.name != "_")) | _ => none) = some (some ([(3, 0), (3, 1), (3, 2)], true)) := by kernel_rfl
theorem keyLits_id (a : IdR) (h : IdW a) (d : Nat) : ∃ ls, Try.prog.keyLits (d + 2) 38 [nI a.s, nI a.i, nI a.g] = some ls := by
  have hw : ∀ n : Int, (-9223372036854775808 ≤ n ∧ n ≤ 9223372036854775807) → (Lit.int .i64 n).wf = true := fun n hn => by
    simp [Lit.wf, IntKind.min, IntKind.max, IntKind.signed, IntKind.bits]; exact hn
  have e3 : Try.prog.underlying 3 = some (.int .i64) := by kernel_rfl
  have c3 : Try.prog.cellsOf 3 = 1 := by kernel_rfl
  have c31 : Try.prog.cellsOf 38 = 3 := by kernel_rfl
  have hs := id_struct
  obtain ⟨u, hu⟩ : ∃ u, u = Try.prog.underlying 38 := ⟨_, rfl⟩
  rw [← hu] at hs
  cases u with
  | none => cases hs
  | some ty =>
    cases ty with
    | struct fs =>
      simp only [Option.map_some, Option.some.injEq, Prod.mk.injEq] at hs
      obtain ⟨h1, h2⟩ := hs
      unfold Program.keyLits
      rw [← hu]
      simp only
      rw [if_pos ⟨by rw [c31]; rfl, h2⟩]
      have e : (fs.toList.mapM fun f => Try.prog.keyLits (d + 1) f.type (([nI a.s, nI a.i, nI a.g].drop f.offset).take (Try.prog.cellsOf f.type))) = ((fs.toList.map fun f => (f.type, f.offset)).mapM fun p => Try.prog.keyLits (d + 1) p.1 (([nI a.s, nI a.i, nI a.g].drop p.2).take (Try.prog.cellsOf p.1))) := by
        generalize fs.toList = L
        induction L with
        | nil => rfl
        | cons f r ih => simp only [List.map_cons, List.mapM_cons, ih]
      rw [e, h1]
      simp [Program.keyLits, e3, c3, hw _ h.1, hw _ h.2.1, hw _ h.2.2]
    | _ => simp at hs
theorem mapTy : MapTy Try.prog 38 77 65 IdW IdR.v plV (.agg #[nI 0, nI 0]) where
  K := keyedId
  ht := by kernel_rfl
  hz w := by kernel_rfl
  hkey a ha := by
    have hk : Try.prog.keyType 38 = true := by kernel_rfl
    have c31 : Try.prog.cellsOf 38 = 3 := by kernel_rfl
    have hN : Try.prog.types.size + 1 = (Try.prog.types.size - 1) + 2 := by
      have : 1 ≤ Try.prog.types.size := of_decide_eq_true (by kernel_rfl)
      omega
    obtain ⟨ls, hls⟩ := keyLits_id a ha (Try.prog.types.size - 1)
    rw [← hN] at hls
    have hs := id_struct
    unfold keyOf
    have hf : (IdR.v a).formed Try.prog 38 = true := by
      unfold Value.formed
      simp only
      cases hu : Try.prog.underlying 38 with
      | none => rw [hu] at hs; cases hs
      | some ty => cases ty <;> simp [hu] at hs <;> simp [c31]
    cases hu : Try.prog.underlying 38 with
    | none => rw [hu] at hs; cases hs
    | some ty =>
      cases ty <;> simp [hu] at hs
      simp only
      rw [hk, hf]
      refine ⟨.string (keyBytes ls), ?_⟩
      simp only [Bool.and_self, if_true, Value.cells]
      rw [hls]
      rfl
  inj a b h := by
    cases a; cases b
    simpa using h
end Go.Proofs.Ytkdagljoiacaaaa
