/- A range over a function whose ground changes from round to round; the variable lies in a slot. Plain laws. -/
import Derived.Test.YtjfjecjigakdnaaRangeO
set_option linter.unusedSimpArgs false
set_option linter.unusedVariables false
namespace Go
open Go.RowKit
variable {F : Fence} {n : Nat} {P : Program}
/-- an iterator that gives xs; before it gives the next one it leans on what base tells of those that it gave -/
def SeqB {α : Type} (F : Fence) (n : Nat) (P : Program) (gf : Nat) (lb : Array Value) (W0 : World) (enc : α → Value) (xs : List α) (base : List α → List Asn) : Prop :=
  ∀ (l : Nat) (I : List α → List Asn) (W : World),
    (∀ pre x post W1 (R : List Asn), pre ++ x :: post = xs → Own W0 W1 (base pre ++ (I pre ++ R)) → YieldAt F (n - 1) P l #[enc x] W1 fun e W' => e = .returned (.bool true) ∧ Own W0 W' (base (pre ++ [x]) ++ (I (pre ++ [x]) ++ R))) →
    Own W0 W (base [] ++ I []) →
    CallsIn F n P gf (#[.func (.yield l) #[] #[]] ++ lb) W fun e W' => (∃ v, e = .returned v) ∧ Own W0 W' (base xs ++ I xs)
theorem permB (base Ip R : List Asn) (L D : Asn) : (base ++ ((Ip ++ [L, D]) ++ R)).Perm (L :: D :: (base ++ (Ip ++ R))) := by
  have e : base ++ ((Ip ++ [L, D]) ++ R) = (base ++ Ip) ++ L :: (D :: R) := by simp
  have e2 : L :: D :: (base ++ (Ip ++ R)) = L :: D :: ((base ++ Ip) ++ R) := by simp
  rw [e, e2]
  exact List.perm_middle.trans (List.Perm.cons _ List.perm_middle)
def roundB {α : Type} (W0 : World) (base I : List α → List Asn) (pre : List α) (R : List Asn) : Exit → Act → World → Prop
  | .normal, _, W' => Own W0 W' (base pre ++ (I pre ++ R))
  | _, _, _ => False
def rangeN (a : Act) (p q : Nat) (v : Value) : Act := { tmps := (a.tmps.setIfInBounds p v).setIfInBounds q v, defers := [] }
theorem wpIn_rangeB {α : Type} {g : Operand} {p : Tmp} (q : Nat) {assign body : Code} {Q : Exit → Act → World → Prop} {a : Act} {w : World}
    (hro : F.round = none) (h1 : 1 ≤ n) {gf : Nat} {lb : Array Value} (hg : a.eval g = .func (.func gf) #[] lb) (hFg : F.fn gf) (eg : ∀ args w, (callFunc gf args).run P w = .ok (.enter gf args) w)
    {enc : α → Value} {W0 : World} {xs : List α} {base : List α → List Asn} (hseq : SeqB F (n - 1) P gf lb W0 enc xs base)
    (I : List α → List Asn) (h0 : Own W0 w (base [] ++ I []))
    (hassign : ∀ (l : Nat) (x : α) (W : World) (K : Act → World → Prop), K (rangeN a p q (enc x)) W →
      assign.wpIn (F.inRound l) (n - 1 - 1) P (Exit.then K (fun _ _ _ => False)) { tmps := a.tmps.setIfInBounds p (enc x), defers := [] } W)
    (hbody : ∀ (l : Nat) (pre : List α) (x : α) (post : List α) (W : World) (R : List Asn), pre ++ x :: post = xs → Own W0 W (base pre ++ (I pre ++ R)) →
      body.wpIn (F.inRound l) (n - 1 - 1) P (roundB W0 base I (pre ++ [x]) R) (rangeN a p q (enc x)) W)
    (hdone : ∀ (D : Nat) (W : World), Own W0 W (rawA D (.deferred (some [])) :: (base xs ++ I xs)) → Q .normal { a with defers := { target := .collected D, args := #[] } :: a.defers } W) :
    (Code.rangeFunc g #[p] assign body).wpIn F n P Q a w := by
  refine wpIn_rangeFunc fun fn hfn => ?_
  rw [hro]
  obtain ⟨mk, hmk⟩ : ∃ mk : LoopState → Option Code → Obj, mk = fun st pe => .loop { state := st, pending := pe, fn, tmps := a.tmps, params := #[p], assign, body, defers := w.heap.size } := ⟨_, rfl⟩
  have O1 : Own W0 ((w.alloc (.deferred (some []))).alloc (mk .ready none)) (rawA (w.heap.size + 1) (mk .ready none) :: rawA w.heap.size (.deferred (some [])) :: (base [] ++ I [])) := by
    have := (h0.newRaw (.deferred (some []))).newRaw (mk .ready none)
    rw [World.size_alloc] at this
    exact this
  obtain ⟨W1, hW1⟩ : ∃ W1, W1 = (w.alloc (.deferred (some []))).alloc (mk .ready none) := ⟨_, rfl⟩
  have hent : (Instr.enterLoop fn a.tmps #[p] assign body none).run P w = .ok (w.heap.size + 1, [{ target := .collected w.heap.size, args := #[] }]) W1 := by
    rw [hW1, hmk]
    exact run_enterLoop_outer (P := P) (w := w) fn a.tmps #[p] assign body
  rw [← hW1] at O1
  clear hW1
  refine ⟨w.heap.size + 1, [{ target := .collected w.heap.size, args := #[] }], W1, { target := .fn (.func gf) lb, args := #[.func (.yield (w.heap.size + 1)) #[] #[]] }, W1, gf, #[.func (.yield (w.heap.size + 1)) #[] #[]] ++ lb, W1, hent, ?_, ?_, ?_, fun _ => h1, ?_⟩
  · simp only [resolve, hg]
    simp [go_sem]
  · intro f' hf'
    simp [Target.leads] at hf'
    subst hf'
    exact hFg
  · simp [invoke, go_sem, eg]
  have hmkr : ∀ st pe, mk st pe = .loop { state := st, pending := pe, fn, tmps := a.tmps, params := #[p], assign, body, defers := w.heap.size } := fun st pe => by rw [hmk]
  clear hent hmk
  generalize hL : w.heap.size + 1 = L at *
  generalize hD : w.heap.size = D at *
  refine (hseq L (fun pre => I pre ++ [rawA L (mk .ready none), rawA D (.deferred (some []))]) W1 ?_ (O1.perm (permR (base []) (I []) [_, _]).symm)).mono ?_
  · intro pre x post W R hpre hO
    have O2 : Own W0 W (rawA L (mk .ready none) :: rawA D (.deferred (some [])) :: (base pre ++ (I pre ++ R))) := hO.perm (permB (base pre) (I pre) R _ _)
    have hl := O2.raw
    rw [hmkr] at hl
    have hA : ∀ K : Act → World → Prop, K (rangeN a p q (enc x)) W → assign.wpIn (F.inRound L) (n - 1 - 1) P (Exit.then K (fun _ _ _ => False)) { tmps := ((#[p] : Array Tmp).zip #[enc x]).foldl (fun t (p, v) => t.setIfInBounds p v) a.tmps, defers := [] } W := fun K hK => by simpa using hassign L x W K hK
    refine ⟨fn, _, assign, body, run_yield (P := P) (args := #[enc x]) hl rfl, roundIn_of_wpIn hfn (hA _ ?_)⟩
    refine ⟨_, run_beginRound hl rfl, ?_⟩
    have O4 := O2.putRaw (mk .busy none)
    rw [hmkr .busy none] at O4
    rw [← hmkr .busy none] at O4 ⊢
    have O5 : Own W0 (W.putObj L (mk .busy none)) (base pre ++ (I pre ++ ([rawA L (mk .busy none), rawA D (.deferred (some []))] ++ R))) := by
      have := O4.perm (permB (base pre) (I pre) R _ _).symm
      rw [List.append_assoc] at this
      exact this
    refine wpIn_mono (hbody L pre x post _ _ hpre O5) ?_
    rintro e a3 W3 hp
    cases e with
    | normal =>
      have hp2 : Own W0 W3 (base (pre ++ [x]) ++ (I (pre ++ [x]) ++ ([rawA L (mk .busy none), rawA D (.deferred (some []))] ++ R))) := hp
      rw [← List.append_assoc (I (pre ++ [x]))] at hp2
      have h4 : Own W0 W3 (rawA L (mk .busy none) :: rawA D (.deferred (some [])) :: (base (pre ++ [x]) ++ (I (pre ++ [x]) ++ R))) := hp2.perm (permB (base (pre ++ [x])) (I (pre ++ [x])) R _ _)
      have hl4 := h4.raw
      rw [hmkr] at hl4
      have := run_endRound (P := P) none hl4
      refine ⟨_, _, this, rfl, ?_⟩
      rw [← hmkr]
      exact (h4.putRaw (mk .ready none)).perm (permB (base (pre ++ [x])) (I (pre ++ [x])) R _ _).symm
    | ret => exact hp.elim
    | exit id => exact hp.elim
    | goto t => exact hp.elim
    | panic ch => exact hp.elim
    | outgrown => exact hp.elim
  · rintro e W2 ⟨⟨v, rfl⟩, h2⟩
    have h3 : Own W0 W2 (rawA L (mk .ready none) :: rawA D (.deferred (some [])) :: (base xs ++ I xs)) := h2.perm (permR (base xs) (I xs) [_, _])
    have hl := h3.raw
    rw [hmkr] at hl
    exact ⟨none, _, run_endLoop (P := P) hl (by simp), hdone D _ (h3.putRaw _).drop⟩
end Go
