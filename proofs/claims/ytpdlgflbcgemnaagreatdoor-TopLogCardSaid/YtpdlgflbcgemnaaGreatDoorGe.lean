/- Plain laws and walks: RangeO, RangeB, GrowIn. -/
import Derived.RangeFuncSeq
import Derived.Test.YtpdlgflbcgemnaaGreatDoorGa
import Derived.Sort.QuietThIn
import Derived.TacticsIn
-- RangeO
/- A range over a function, with assertions side by side: the law of the walk. Plain laws. -/
set_option linter.unusedSimpArgs false
set_option linter.unusedVariables false
set_option maxRecDepth 100000
namespace Go
open Go.RowKit
theorem Chg.of_putObj (w : World) (k : Nat) (o : Obj) (S : Nat → Prop) (h : S k) : Chg w (w.putObj k o) S :=
  ⟨rfl, rfl, rfl, by rw [World.putObj_size]; exact Nat.le_refl _, fun j hj hn => World.putObj_heap_other (fun e => hn (by rw [e]; exact h))⟩
/-- a block that holds an object -/
def rawA (k : Nat) (o : Obj) : Asn where
  holds w S := (∀ j, S j ↔ j = k) ∧ w.heap[k]? = some o
  keep w w' S h hs hk := ⟨h.1, (hk k ((h.1 k).2 rfl)).trans h.2⟩
  inb w S h j hj := by rw [(h.1 j).1 hj]; exact (Array.getElem?_eq_some_iff.1 h.2).1
section
variable {W w : World} {l : List Asn} {k : Nat} {o : Obj}
theorem Own.newRaw (h : Own W w l) (o : Obj) : Own W (w.alloc o) (rawA w.heap.size o :: l) :=
  h.add (Chg.of_alloc w o _) (Q := rawA w.heap.size o) (A := fun k => k = w.heap.size) ⟨fun k => Iff.rfl, World.alloc_heap_new w o⟩ (fun k hk => by omega)
theorem Own.putRaw (h : Own W w (rawA k o :: l)) (o' : Obj) : Own W (w.putObj k o') (rawA k o' :: l) :=
  Own.step (A := fun _ => False) h fun A ⟨h1, h2⟩ => ⟨A, Chg.of_putObj w k o' A ((h1 k).2 rfl), ⟨h1, World.putObj_heap_same (Array.getElem?_eq_some_iff.1 h2).1⟩, fun k a => .inl a⟩
theorem Own.raw (h : Own W w (rawA k o :: l)) : w.heap[k]? = some o := by
  obtain ⟨A, ⟨_, h1⟩, _⟩ := h.get
  exact h1
end
theorem permR (base Ip R : List Asn) : (base ++ (Ip ++ R)).Perm (R ++ (base ++ Ip)) := by rw [← List.append_assoc]; exact List.perm_append_comm
variable {F : Fence} {n : Nat} {P : Program}
/-- an iterator that gives xs, and leans on base -/
def SeqO {α : Type} (F : Fence) (n : Nat) (P : Program) (gf : Nat) (lb : Array Value) (W0 : World) (enc : α → Value) (xs : List α) (base : List Asn) : Prop :=
  ∀ (l : Nat) (I X : List α → List Asn) (W : World),
    (∀ pre x post W1, pre ++ x :: post = xs → Own W0 W1 (base ++ I pre) → YieldAt F (n - 1) P l #[enc x] W1 fun e W' =>
      (e = .returned (.bool true) ∧ Own W0 W' (base ++ I (pre ++ [x]))) ∨ (e = .returned (.bool false) ∧ Own W0 W' (base ++ X (pre ++ [x])))) →
    Own W0 W (base ++ I []) →
    CallsIn F n P gf (#[.func (.yield l) #[] #[]] ++ lb) W fun e W' => (∃ v, e = .returned v) ∧ (Own W0 W' (base ++ I xs) ∨ ∃ pre post, pre ++ post = xs ∧ pre ≠ [] ∧ Own W0 W' (base ++ X pre))
/-- how a round's body may be left -/
def roundO {α : Type} (W0 : World) (base : List Asn) (I : List α → List Asn) (X : Code → List α → List Asn) (pre : List α) (R : List Asn) : Exit → Act → World → Prop
  | .normal, _, W' => Own W0 W' (base ++ (I pre ++ R))
  | .ret, _, W' => Own W0 W' (base ++ (X .ret pre ++ R))
  | .exit id, _, W' => Own W0 W' (base ++ (X (.exit id) pre ++ R))
  | .goto t, _, W' => Own W0 W' (base ++ (X (.goto t) pre ++ R))
  | .panic _, _, _ => False
  | .outgrown, _, _ => False
/-- 'for x := range g { .. }', x in a box -/
theorem wpIn_rangeO {α : Type} {g : Operand} {ps : Array Tmp} {assign body : Code} {Q : Exit → Act → World → Prop} {a : Act} {w : World}
    (hro : F.round = none) (h1 : 1 ≤ n) {gf : Nat} {lb : Array Value} (hg : a.eval g = .func (.func gf) #[] lb) (hFg : F.fn gf) (eg : ∀ args w, (callFunc gf args).run P w = .ok (.enter gf args) w)
    {enc : α → Value} {W0 : World} {xs : List α} {base : List Asn} (hseq : SeqO F (n - 1) P gf lb W0 enc xs base) (hps : 1 = ps.size)
    (I : List α → List Asn) (X : Code → List α → List Asn) (h0 : Own W0 w (base ++ I [])) (M : Nat → α → Act) (cs : α → List Value) (t : TypeId)
    (hassign : ∀ (l : Nat) (x : α) (W : World) (K : Act → World → Prop), K (M W.heap.size x) (W.alloc (.cells (cs x).toArray t)) →
      assign.wpIn (F.inRound l) (n - 1 - 1) P (Exit.then K (fun _ _ _ => False)) { tmps := (ps.zip #[enc x]).foldl (fun t (p, v) => t.setIfInBounds p v) a.tmps, defers := [] } W)
    (hbody : ∀ (l Bx : Nat) (pre : List α) (x : α) (post : List α) (W : World) (R : List Asn), pre ++ x :: post = xs → Own W0 W (cellsA Bx (cs x) :: (base ++ (I pre ++ R))) →
      body.wpIn (F.inRound l) (n - 1 - 1) P (roundO W0 base I X (pre ++ [x]) R) (M Bx x) W)
    (hdone : ∀ (D : Nat) (W : World), Own W0 W (rawA D (.deferred (some [])) :: (base ++ I xs)) → Q .normal { a with defers := { target := .collected D, args := #[] } :: a.defers } W)
    (hstop : ∀ (D : Nat) (c : Code) (pre post : List α) (W : World), pre ++ post = xs → pre ≠ [] → Own W0 W (rawA D (.deferred (some [])) :: (base ++ X c pre)) → c.wpIn F n P Q { a with defers := { target := .collected D, args := #[] } :: a.defers } W) :
    (Code.rangeFunc g ps assign body).wpIn F n P Q a w := by
  refine wpIn_rangeFunc fun fn hfn => ?_
  rw [hro]
  obtain ⟨mk, hmk⟩ : ∃ mk : LoopState → Option Code → Obj, mk = fun st pe => .loop { state := st, pending := pe, fn, tmps := a.tmps, params := ps, assign, body, defers := w.heap.size } := ⟨_, rfl⟩
  have O1 : Own W0 ((w.alloc (.deferred (some []))).alloc (mk .ready none)) (rawA (w.heap.size + 1) (mk .ready none) :: rawA w.heap.size (.deferred (some [])) :: (base ++ I [])) := by
    have := (h0.newRaw (.deferred (some []))).newRaw (mk .ready none)
    rw [World.size_alloc] at this
    exact this
  obtain ⟨W1, hW1⟩ : ∃ W1, W1 = (w.alloc (.deferred (some []))).alloc (mk .ready none) := ⟨_, rfl⟩
  have hent : (Instr.enterLoop fn a.tmps ps assign body none).run P w = .ok (w.heap.size + 1, [{ target := .collected w.heap.size, args := #[] }]) W1 := by
    rw [hW1, hmk]
    exact run_enterLoop_outer (P := P) (w := w) fn a.tmps ps assign body
  rw [← hW1] at O1
  clear hW1
  refine ⟨w.heap.size + 1, [{ target := .collected w.heap.size, args := #[] }], W1, { target := .fn (.func gf) lb, args := #[.func (.yield (w.heap.size + 1)) #[] #[]] }, W1, gf, #[.func (.yield (w.heap.size + 1)) #[] #[]] ++ lb, W1, hent, ?_, ?_, ?_, fun _ => h1, ?_⟩
  · simp only [resolve, hg]
    simp [go_sem]
  · intro f' hf'
    simp [Target.leads] at hf'
    subst hf'
    exact hFg
  · simp [invoke, go_sem, eg]
  have hmkr : ∀ st pe, mk st pe = .loop { state := st, pending := pe, fn, tmps := a.tmps, params := ps, assign, body, defers := w.heap.size } := fun st pe => by rw [hmk]
  clear hent hmk
  generalize hL : w.heap.size + 1 = L at *
  generalize hD : w.heap.size = D at *
  refine (hseq L (fun pre => I pre ++ [rawA L (mk .ready none), rawA D (.deferred (some []))]) (fun pre => [exA fun c : Code => X c pre ++ [rawA L (mk .done (some c)), rawA D (.deferred (some []))]]) W1 ?_ (O1.perm (permR base (I []) [_, _]).symm)).mono ?_
  · intro pre x post W hpre hO
    have O2 : Own W0 W (rawA L (mk .ready none) :: rawA D (.deferred (some [])) :: (base ++ I pre)) := hO.perm (permR base (I pre) [_, _])
    have hl := O2.raw
    rw [hmkr] at hl
    refine ⟨fn, _, assign, body, run_yield (P := P) (args := #[enc x]) hl hps, roundIn_of_wpIn hfn (hassign L x W _ ?_)⟩
    have O3 := (O2.newCells (cs x) t).rot1
    have hl3 := O3.raw
    rw [hmkr] at hl3
    refine ⟨_, run_beginRound hl3 rfl, ?_⟩
    have O4 := O3.putRaw (mk .busy none)
    rw [hmkr .busy none] at O4
    rw [← hmkr .busy none] at O4 ⊢
    have O5 : Own W0 ((W.alloc (.cells (cs x).toArray t)).putObj L (mk .busy none)) (cellsA W.heap.size (cs x) :: (base ++ (I pre ++ [rawA L (mk .busy none), rawA D (.deferred (some []))]))) :=
      O4.rot1.perm (List.Perm.cons _ (permR base (I pre) [_, _]).symm)
    refine wpIn_mono (hbody L W.heap.size pre x post _ _ hpre O5) ?_
    have fin : ∀ (Y : List Asn) (jump : Option Code) (W3 : World), Own W0 W3 (base ++ (Y ++ [rawA L (mk .busy none), rawA D (.deferred (some []))])) →
        ∃ w4, (Instr.endRound L jump).run P W3 = .ok (.bool jump.isNone) w4 ∧ Own W0 w4 (base ++ (Y ++ [rawA L (mk (if jump.isNone then .ready else .done) jump), rawA D (.deferred (some []))])) := by
      intro Y jump W3 h3
      have h4 : Own W0 W3 (rawA L (mk .busy none) :: rawA D (.deferred (some [])) :: (base ++ Y)) := h3.perm (permR base Y [_, _])
      have hl4 := h4.raw
      rw [hmkr] at hl4
      have := run_endRound (P := P) jump hl4
      refine ⟨_, this, ?_⟩
      rw [← hmkr]
      exact (h4.putRaw (mk (if jump.isNone then .ready else .done) jump)).perm (permR base Y [_, _]).symm
    rintro e a3 W3 hp
    have mkX : ∀ (c : Code) (w4 : World), Own W0 w4 (base ++ (X c (pre ++ [x]) ++ [rawA L (mk .done (some c)), rawA D (.deferred (some []))])) → Own W0 w4 (base ++ [exA fun c : Code => X c (pre ++ [x]) ++ [rawA L (mk .done (some c)), rawA D (.deferred (some []))]]) := by
      intro c w4 h4
      have h5 : Own W0 w4 ((X c (pre ++ [x]) ++ [rawA L (mk .done (some c)), rawA D (.deferred (some []))]) ++ base) := h4.perm List.perm_append_comm
      exact (Own.mk (fun c : Code => X c (pre ++ [x]) ++ [rawA L (mk .done (some c)), rawA D (.deferred (some []))]) c h5).perm (List.perm_append_singleton _ _).symm
    cases e with
    | normal =>
      obtain ⟨w4, hr, h4⟩ := fin _ none W3 hp
      exact ⟨_, _, hr, .inl ⟨rfl, h4⟩⟩
    | ret =>
      obtain ⟨w4, hr, h4⟩ := fin _ (some .ret) W3 hp
      exact ⟨_, _, hr, .inr ⟨rfl, mkX _ _ h4⟩⟩
    | exit id =>
      obtain ⟨w4, hr, h4⟩ := fin _ (some (.exit id)) W3 hp
      exact ⟨_, _, hr, .inr ⟨rfl, mkX _ _ h4⟩⟩
    | goto q =>
      obtain ⟨w4, hr, h4⟩ := fin _ (some (.goto q)) W3 hp
      exact ⟨_, _, hr, .inr ⟨rfl, mkX _ _ h4⟩⟩
    | panic ch => exact hp.elim
    | outgrown => exact hp.elim
  · rintro e W2 ⟨⟨v, rfl⟩, (h2 | ⟨pre, post, hpre, hne, h2⟩)⟩
    · have h3 : Own W0 W2 (rawA L (mk .ready none) :: rawA D (.deferred (some [])) :: (base ++ I xs)) := h2.perm (permR base (I xs) [_, _])
      have hl := h3.raw
      rw [hmkr] at hl
      exact ⟨none, _, run_endLoop (P := P) hl (by simp), hdone D _ (h3.putRaw _).drop⟩
    · obtain ⟨c, h3⟩ := (h2.perm (List.perm_append_singleton _ _)).ex
      have h4 : Own W0 W2 (rawA L (mk .done (some c)) :: rawA D (.deferred (some [])) :: (base ++ X c pre)) := (h3.perm List.perm_append_comm).perm (permR base (X c pre) [_, _])
      have hl := h4.raw
      rw [hmkr] at hl
      exact ⟨some c, _, run_endLoop (P := P) hl (by simp), hstop D c pre post _ hpre hne (h4.putRaw _).drop⟩
end Go
-- RangeB
/- A range over a function whose ground changes from round to round; the variable lies in a slot. Plain laws. -/
set_option linter.unusedSimpArgs false
set_option linter.unusedVariables false
namespace Go
open Go.RowKit
variable {F : Fence} {n : Nat} {P : Program}
/-- an iterator that gives xs; before it gives the next one it leans on what base tells of those that it gave -/
def SeqB {α : Type} (F : Fence) (n : Nat) (P : Program) (gf : Nat) (lb : Array Value) (W0 : World) (enc : α → Value) (xs : List α) (base : List α → List Asn) : Prop :=
  ∀ (l : Nat) (I : List α → List Asn) (W : World),
    (∀ pre x post W1 (R : List Asn), pre ++ x :: post = xs → Own W0 W1 (base pre ++ (I pre ++ R)) → YieldAt F (n - 1) P l #[enc x] W1 fun e W' => e = .returned (.bool true) ∧ Own W0 W' (base (pre ++ [x]) ++ (I (pre ++ [x]) ++ R))) →
    Own W0 W (base [] ++ I []) →
    CallsIn F n P gf (#[.func (.yield l) #[] #[]] ++ lb) W fun e W' => (∃ v, e = .returned v) ∧ Own W0 W' (base xs ++ I xs)
theorem permB (base Ip R : List Asn) (L D : Asn) : (base ++ ((Ip ++ [L, D]) ++ R)).Perm (L :: D :: (base ++ (Ip ++ R))) := by
  have e : base ++ ((Ip ++ [L, D]) ++ R) = (base ++ Ip) ++ L :: (D :: R) := by simp
  have e2 : L :: D :: (base ++ (Ip ++ R)) = L :: D :: ((base ++ Ip) ++ R) := by simp
  rw [e, e2]
  exact List.perm_middle.trans (List.Perm.cons _ List.perm_middle)
def roundB {α : Type} (W0 : World) (base I : List α → List Asn) (pre : List α) (R : List Asn) : Exit → Act → World → Prop
  | .normal, _, W' => Own W0 W' (base pre ++ (I pre ++ R))
  | _, _, _ => False
def rangeN (a : Act) (p q : Nat) (v : Value) : Act := { tmps := (a.tmps.setIfInBounds p v).setIfInBounds q v, defers := [] }
theorem wpIn_rangeB {α : Type} {g : Operand} {p : Tmp} (q : Nat) {assign body : Code} {Q : Exit → Act → World → Prop} {a : Act} {w : World}
    (hro : F.round = none) (h1 : 1 ≤ n) {gf : Nat} {lb : Array Value} (hg : a.eval g = .func (.func gf) #[] lb) (hFg : F.fn gf) (eg : ∀ args w, (callFunc gf args).run P w = .ok (.enter gf args) w)
    {enc : α → Value} {W0 : World} {xs : List α} {base : List α → List Asn} (hseq : SeqB F (n - 1) P gf lb W0 enc xs base)
    (I : List α → List Asn) (h0 : Own W0 w (base [] ++ I []))
    (hassign : ∀ (l : Nat) (x : α) (W : World) (K : Act → World → Prop), K (rangeN a p q (enc x)) W →
      assign.wpIn (F.inRound l) (n - 1 - 1) P (Exit.then K (fun _ _ _ => False)) { tmps := a.tmps.setIfInBounds p (enc x), defers := [] } W)
    (hbody : ∀ (l : Nat) (pre : List α) (x : α) (post : List α) (W : World) (R : List Asn), pre ++ x :: post = xs → Own W0 W (base pre ++ (I pre ++ R)) →
      body.wpIn (F.inRound l) (n - 1 - 1) P (roundB W0 base I (pre ++ [x]) R) (rangeN a p q (enc x)) W)
    (hdone : ∀ (D : Nat) (W : World), Own W0 W (rawA D (.deferred (some [])) :: (base xs ++ I xs)) → Q .normal { a with defers := { target := .collected D, args := #[] } :: a.defers } W) :
    (Code.rangeFunc g #[p] assign body).wpIn F n P Q a w := by
  refine wpIn_rangeFunc fun fn hfn => ?_
  rw [hro]
  obtain ⟨mk, hmk⟩ : ∃ mk : LoopState → Option Code → Obj, mk = fun st pe => .loop { state := st, pending := pe, fn, tmps := a.tmps, params := #[p], assign, body, defers := w.heap.size } := ⟨_, rfl⟩
  have O1 : Own W0 ((w.alloc (.deferred (some []))).alloc (mk .ready none)) (rawA (w.heap.size + 1) (mk .ready none) :: rawA w.heap.size (.deferred (some [])) :: (base [] ++ I [])) := by
    have := (h0.newRaw (.deferred (some []))).newRaw (mk .ready none)
    rw [World.size_alloc] at this
    exact this
  obtain ⟨W1, hW1⟩ : ∃ W1, W1 = (w.alloc (.deferred (some []))).alloc (mk .ready none) := ⟨_, rfl⟩
  have hent : (Instr.enterLoop fn a.tmps #[p] assign body none).run P w = .ok (w.heap.size + 1, [{ target := .collected w.heap.size, args := #[] }]) W1 := by
    rw [hW1, hmk]
    exact run_enterLoop_outer (P := P) (w := w) fn a.tmps #[p] assign body
  rw [← hW1] at O1
  clear hW1
  refine ⟨w.heap.size + 1, [{ target := .collected w.heap.size, args := #[] }], W1, { target := .fn (.func gf) lb, args := #[.func (.yield (w.heap.size + 1)) #[] #[]] }, W1, gf, #[.func (.yield (w.heap.size + 1)) #[] #[]] ++ lb, W1, hent, ?_, ?_, ?_, fun _ => h1, ?_⟩
  · simp only [resolve, hg]
    simp [go_sem]
  · intro f' hf'
    simp [Target.leads] at hf'
    subst hf'
    exact hFg
  · simp [invoke, go_sem, eg]
  have hmkr : ∀ st pe, mk st pe = .loop { state := st, pending := pe, fn, tmps := a.tmps, params := #[p], assign, body, defers := w.heap.size } := fun st pe => by rw [hmk]
  clear hent hmk
  generalize hL : w.heap.size + 1 = L at *
  generalize hD : w.heap.size = D at *
  refine (hseq L (fun pre => I pre ++ [rawA L (mk .ready none), rawA D (.deferred (some []))]) W1 ?_ (O1.perm (permR (base []) (I []) [_, _]).symm)).mono ?_
  · intro pre x post W R hpre hO
    have O2 : Own W0 W (rawA L (mk .ready none) :: rawA D (.deferred (some [])) :: (base pre ++ (I pre ++ R))) := hO.perm (permB (base pre) (I pre) R _ _)
    have hl := O2.raw
    rw [hmkr] at hl
    have hA : ∀ K : Act → World → Prop, K (rangeN a p q (enc x)) W → assign.wpIn (F.inRound L) (n - 1 - 1) P (Exit.then K (fun _ _ _ => False)) { tmps := ((#[p] : Array Tmp).zip #[enc x]).foldl (fun t (p, v) => t.setIfInBounds p v) a.tmps, defers := [] } W := fun K hK => by simpa using hassign L x W K hK
    refine ⟨fn, _, assign, body, run_yield (P := P) (args := #[enc x]) hl rfl, roundIn_of_wpIn hfn (hA _ ?_)⟩
    refine ⟨_, run_beginRound hl rfl, ?_⟩
    have O4 := O2.putRaw (mk .busy none)
    rw [hmkr .busy none] at O4
    rw [← hmkr .busy none] at O4 ⊢
    have O5 : Own W0 (W.putObj L (mk .busy none)) (base pre ++ (I pre ++ ([rawA L (mk .busy none), rawA D (.deferred (some []))] ++ R))) := by
      have := O4.perm (permB (base pre) (I pre) R _ _).symm
      rw [List.append_assoc] at this
      exact this
    refine wpIn_mono (hbody L pre x post _ _ hpre O5) ?_
    rintro e a3 W3 hp
    cases e with
    | normal =>
      have hp2 : Own W0 W3 (base (pre ++ [x]) ++ (I (pre ++ [x]) ++ ([rawA L (mk .busy none), rawA D (.deferred (some []))] ++ R))) := hp
      rw [← List.append_assoc (I (pre ++ [x]))] at hp2
      have h4 : Own W0 W3 (rawA L (mk .busy none) :: rawA D (.deferred (some [])) :: (base (pre ++ [x]) ++ (I (pre ++ [x]) ++ R))) := hp2.perm (permB (base (pre ++ [x])) (I (pre ++ [x])) R _ _)
      have hl4 := h4.raw
      rw [hmkr] at hl4
      have := run_endRound (P := P) none hl4
      refine ⟨_, _, this, rfl, ?_⟩
      rw [← hmkr]
      exact (h4.putRaw (mk .ready none)).perm (permB (base (pre ++ [x])) (I (pre ++ [x])) R _ _).symm
    | ret => exact hp.elim
    | exit id => exact hp.elim
    | goto t => exact hp.elim
    | panic ch => exact hp.elim
    | outgrown => exact hp.elim
  · rintro e W2 ⟨⟨v, rfl⟩, h2⟩
    have h3 : Own W0 W2 (rawA L (mk .ready none) :: rawA D (.deferred (some [])) :: (base xs ++ I xs)) := h2.perm (permR (base xs) (I xs) [_, _])
    have hl := h3.raw
    rw [hmkr] at hl
    exact ⟨none, _, run_endLoop (P := P) hl (by simp), hdone D _ (h3.putRaw _).drop⟩
end Go
-- GrowIn
/- A region that draws its order, inside the wide fence: a quiet head, walked plainly, and a forced tail (a yield may stand there). Plain laws. -/
set_option linter.unusedSimpArgs false
set_option linter.unusedVariables false
namespace Go
section
variable {n : Nat} {P : Program} {ops : Array Oper} {md : Region.Mode} {C : World → Prop}
theorem quietUpon_wide {w : World} {v : Value} {r : Result Next} (h : Oper.quietUpon P C w v r) : Oper.quietUponIn Fence.wide n P C w v r := by
  cases r with
  | ok x w' =>
    cases x <;> simp only [Oper.quietUpon] at h <;> simp only [Oper.quietUponIn]
    case value u => exact h
    case skip => exact h
    case enter f args => exact ⟨h.1, ⟨fun k => absurd k (by simp [Fence.wide]), callsIn_wide.2 h.2⟩⟩
  | halt x w' => cases x <;> exact h.elim
theorem wpOpIn_of_qOp {i : Nat} {a : Act} {K : Act → Prop} {K' : Act → World → Prop} {Q' : Exit → Act → World → Prop} {w : World} (hC : C w) (h : ∀ a w', C w' → K a → K' a w') (hh : qOp P ops C i K a) : wpOpIn Fence.wide n P ops Q' i K' a w := by
  unfold qOp at hh
  unfold wpOpIn
  split
  · rename_i ho; simp only [ho] at hh; exact h _ _ hC hh
  · rename_i o ho
    simp only [ho] at hh
    split
    · rename_i hw
      simp only [hw, if_true] at hh
      obtain ⟨v, h1, h2⟩ := hh
      exact Oper.wpIn_of_quiet (F := Fence.wide) rfl hC h (fun _ _ _ _ => trivial) ⟨v, fun w hw => quietUpon_wide (h1 w hw), h2⟩
    · rename_i hw; simp only [hw] at hh; exact ⟨fun _ _ => trivial, h _ _ hC hh⟩
theorem wpAnyIn_of_wpHead {m g : Nat} {L : Array Bool → Act → Prop} {Q' : Exit → Act → World → Prop} (hL : ∀ listed a w, C w → L listed a → wpAnyIn Fence.wide n P md ops Q' g listed a w) (f : Nat) :
    ∀ (listed : Array Bool) (a : Act) (w : World), C w → wpHead P md ops C m L f listed a → wpAnyIn Fence.wide n P md ops Q' (f + g) listed a w := by
  induction f with
  | zero => intro listed a w hw h; rw [Nat.zero_add]; exact hL _ _ _ hw h
  | succ f ih =>
    intro listed a w hw h
    rw [show f + 1 + g = (f + g) + 1 by omega]
    exact ⟨fun h0 => absurd h0 h.1, fun i hi => wpOpIn_of_qOp hw (fun a' w' hw' h' => ih _ a' w' hw' h') (h.2 i hi).2⟩
theorem wpAnyIn_of_seq {Q' : Exit → Act → World → Prop} : ∀ (l : List Oper) (k : Nat) (listed : Array Bool) (a : Act) (w : World), (∀ j, l[j]? = ops[k + j]?) →
    Region.seqB md ops l.length k listed = true → wpListIn Fence.wide n P ops Q' l a w → wpAnyIn Fence.wide n P md ops Q' l.length listed a w
  | [], _, _, _, _, _, hB, h => ⟨by simpa [Region.seqB] using hB, h⟩
  | o :: l, k, listed, a, w, hl, hB, h => by
    have h0 : ops[k]? = some o := by simpa using (hl 0).symm
    simp only [List.length_cons, Region.seqB, Bool.and_eq_true, decide_eq_true_eq] at hB
    refine ⟨fun h1 => (by rw [hB.1] at h1; cases h1), fun i hi => ?_⟩
    rw [hB.1] at hi
    have hik : i = k := by simpa using hi
    subst hik
    have hw : wpOpIn Fence.wide n P ops Q' i (wpListIn Fence.wide n P ops Q' l) a w := by unfold wpOpIn; simp only [h0]; exact h
    exact wpOpIn_mono (fun a' w' h' => wpAnyIn_of_seq l (i + 1) _ a' w' (fun j => by have := hl (j + 1); simpa [Nat.add_assoc, Nat.add_comm 1 j] using this) hB.2 h') hw
theorem wpIn_region_grow_tail {id : Nat} {Q : Exit → Act → World → Prop} {a : Act} {w : World} {l : List Oper} (k : Nat) (hm : P.follows .mixedOrders = true) (hB : Region.lexTailB .any l.toArray k = true)
    (h : wpQuiet P l.toArray w.Plus (fun a' => ∀ e, wpListIn Fence.wide n P l.toArray Q (l.drop k) a' (w.plus e)) (l.take k) a) : (Code.region id l.toArray true).wpIn Fence.wide n P Q a w := by
  simp only [Region.lexTailB, Bool.and_eq_true, decide_eq_true_eq] at hB
  obtain ⟨⟨⟨⟨hsel, hn⟩, hs⟩, hc⟩, hlex⟩ := hB
  have hn' : k < l.length := by simpa using hn
  have htl : (l.take k).length = k := by simp; omega
  have hdl : (l.drop k).length = l.toArray.size - k := by simp
  have inv0 : HeadInv .any l.toArray k (Array.replicate l.toArray.size false) :=
    ⟨by simp, fun j oj _ hl => absurd hl (by rw [getD_replicate_false]; exact Bool.false_ne_true), fun t _ ht => getD_in (by simpa using ht) (getD_replicate_false _ _)⟩
  have H := wpHead_lex (md := .any) (C := w.Plus) (g := l.toArray.size - k) hsel hs hc hn (l.take k) 0 _ a (fun j hj => by
    have hj' : j < k := by rw [htl] at hj; exact hj
    simp [hj']) (by simpa using htl) inv0 (by rw [htl]; exact hlex) h
  refine wpIn_region_any hm ?_
  have := wpAnyIn_of_wpHead (n := n) (Q' := Q) (C := w.Plus) (g := l.toArray.size - k) (fun listed a' w' hw' hL => by
    obtain ⟨e, rfl⟩ := hw'
    have := wpAnyIn_of_seq (n := n) (md := .any) (Q' := Q) (l.drop k) k listed a' (w.plus e) (fun j => by simp [List.getElem?_drop]) (by rw [hdl]; exact hL.1) (hL.2 e)
    rwa [hdl] at this) _ _ _ _ w.drew_Plus H
  rw [htl, show k + (l.toArray.size - k) = l.toArray.size by omega] at this
  exact this
end
end Go
