/- A region that draws its order, whose first operations have one forced order and may change the world, and whose others are quiet in the worlds grown out of the one that those leave. Plain theorems. -/
import Derived.Test.YtpmebmbibajcoaaGrow
set_option linter.unusedSimpArgs false
set_option linter.unusedVariables false
namespace Go
open Go.RowKit
theorem Oper.wp_post {P : Program} {o : Oper} {a : Act} {w : World} {K : Act → World → Prop} {Q Q' : Exit → Act → World → Prop} (h : ∀ e a w, e ≠ .normal → Q e a w → Q' e a w) (H : o.wp P a w K Q) : o.wp P a w K Q' := by
  have hout : LetsOut Q → LetsOut Q' := fun ⟨a, w, hq⟩ => ⟨a, w, h _ _ _ (by simp) hq⟩
  unfold Oper.wp at *
  generalize (execOp a.eval o).run P w = r at *
  cases r with
  | ok n w' =>
    cases n with
    | enter f args =>
      refine Calls.mono H fun e w'' he => ?_
      cases e with
      | returned v => exact he
      | panicked c => exact h _ _ _ (by simp) he
      | outgrown => exact hout he
    | _ => exact H
  | halt x w' =>
    cases x with
    | panic v => exact h _ _ _ (by simp) H
    | _ => exact H
/-- behind the head: the others, quiet -/
def HeadPost (P : Program) (ops : Array Oper) (lr : List Oper) (Q : Exit → Act → World → Prop) : Exit → Act → World → Prop
  | .normal, a, w => wpQuiet P ops w.Plus (fun a' => ∀ e, Q .normal a' (w.plus e)) lr a
  | e, a, w => Q e a w
theorem HeadPost.imp {P : Program} {ops : Array Oper} {lr : List Oper} {Q : Exit → Act → World → Prop} : ∀ e a w, e ≠ .normal → HeadPost P ops lr Q e a w → Q e a w := fun e a w he h => by
  cases e <;> first | exact h | exact absurd rfl he
theorem HeadPost.mk {P : Program} {ops : Array Oper} {lr : List Oper} {Q : Exit → Act → World → Prop} {a : Act} {w : World} (h : wpQuiet P ops w.Plus (fun a' => ∀ e, Q .normal a' (w.plus e)) lr a) : HeadPost P ops lr Q .normal a w := h
def Region.headB (md : Region.Mode) (ops : Array Oper) (r : Nat) : Nat → Nat → Array Bool → Bool
  | 0, k, listed => Region.lexFrom md ops r k listed
  | h + 1, k, listed => decide (Region.ready md ops listed = [k]) && Region.headB md ops r h (k + 1) (listed.setIfInBounds k true)
theorem wpAny_head {P : Program} {md : Region.Mode} {ops : Array Oper} {Q : Exit → Act → World → Prop} (hs : Region.noSelect ops = true) (lr : List Oper) : ∀ (lh : List Oper) (k : Nat) (listed : Array Bool) (a : Act) (w : World), (∀ j, (lh ++ lr)[j]? = ops[k + j]?) →
    Region.headB md ops lr.length lh.length k listed = true → wpList P ops (HeadPost P ops lr Q) lh a w → wpAny P md ops Q (lh.length + lr.length) listed a w
  | [], k, listed, a, w, hl, hB, h => by
    rw [List.length_nil, Nat.zero_add]
    refine wpAny_of_quiet (C := w.Plus) (Q := fun a' => ∀ e, Q .normal a' (w.plus e)) (fun a' w' hw' hq => ?_) _ _ _ _ (Plus.refl w) (wpAnyQ_lex hs lr k listed a (fun j => by simpa using hl j) hB h)
    obtain ⟨e, rfl⟩ := hw'
    exact hq e
  | o :: lh, k, listed, a, w, hl, hB, h => by
    have h0 : ops[k]? = some o := by simpa using (hl 0).symm
    simp only [List.length_cons, Region.headB, Bool.and_eq_true, decide_eq_true_eq] at hB
    have ih := fun a' w' => wpAny_head (P := P) (Q := Q) hs lr lh (k + 1) (listed.setIfInBounds k true) a' w' (fun j => by have := hl (j + 1); simpa [Nat.add_assoc, Nat.add_comm 1 j] using this) hB.2
    rw [List.length_cons, show lh.length + 1 + lr.length = (lh.length + lr.length) + 1 by omega]
    refine ⟨fun h1 => (by rw [hB.1] at h1; cases h1), fun i hi => ?_⟩
    rw [hB.1] at hi
    have hik : i = k := by simpa using hi
    subst hik
    unfold wpOp
    simp only [h0]
    unfold wpList at h
    by_cases hw : Region.wanted o (yielded ops a.tmps) = true
    · rw [if_pos hw] at h ⊢
      rcases h with h | ⟨h1, h2⟩
      · exact .inl (Oper.wp_mono ih (Oper.wp_post HeadPost.imp h))
      · obtain ⟨a2, w2, hq⟩ := h2
        exact .inr ⟨h1, a2, w2, HeadPost.imp _ _ _ (by simp) hq⟩
    · rw [if_neg hw] at h ⊢
      exact ih _ _ h
/-- The region. -/
theorem wp_region_head {P : Program} {id : Nat} {Q : Exit → Act → World → Prop} {a : Act} {w : World} {l : List Oper} (h : Nat) (hm : P.follows .mixedOrders = true) (hs : Region.noSelect l.toArray = true) (hh : decide (h ≤ l.length) = true)
    (hB : Region.headB .any l.toArray (l.length - h) h 0 (Array.replicate l.length false) = true) (H : wpList P l.toArray (HeadPost P l.toArray (l.drop h) Q) (l.take h) a w.drew) : (Code.region id l.toArray true).wp P Q a w := by
  have hh' : h ≤ l.length := of_decide_eq_true hh
  have h1 : (l.take h).length = h := by rw [List.length_take]; omega
  have h2 : (l.drop h).length = l.length - h := List.length_drop
  refine wp_region_any hm ?_
  have := wpAny_head (md := .any) (Q := Q) hs (l.drop h) (l.take h) 0 (Array.replicate l.length false) a w.drew (fun j => by rw [List.take_append_drop, Nat.zero_add]; simp) (by rw [h1, h2]; exact hB) H
  rw [h1, h2, show h + (l.length - h) = l.length by omega] at this
  simpa using this
end Go
