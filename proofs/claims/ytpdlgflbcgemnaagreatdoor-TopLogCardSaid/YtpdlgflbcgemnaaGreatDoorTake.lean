/- regions that draw their order: an operation that yields the same in all worlds of a class is taken first: own law. -/
import Derived.Test.YtpdlgflbcgemnaaGreatDoorWalD
set_option linter.unusedSimpArgs false
set_option linter.unusedVariables false
set_option maxRecDepth 100000
namespace Go
section
variable {P : Program} {ops : Array Oper} {Q : Exit → Act → World → Prop} {md : Region.Mode}
/-- the walk in any order; before operation m every world is in the class D, and always in the class E -/
def wpAnyC (P : Program) (md : Region.Mode) (ops : Array Oper) (Q : Exit → Act → World → Prop) (m : Nat) (D E : World → Prop) : Nat → Array Bool → Act → World → Prop
  | 0, listed, a, w => ((listed.getD m false = true ∨ D w) ∧ E w) ∧ Region.ready md ops listed = [] ∧ Q .normal a w
  | fuel + 1, listed, a, w => ((listed.getD m false = true ∨ D w) ∧ E w) ∧ (Region.ready md ops listed = [] → Q .normal a w) ∧
      ∀ i ∈ Region.ready md ops listed, wpOp P ops Q i (wpAnyC P md ops Q m D E fuel (listed.setIfInBounds i true)) a w
theorem wpAnyC.cls {m : Nat} {D E : World → Prop} {fuel : Nat} {listed : Array Bool} {a : Act} {w : World} (h : wpAnyC P md ops Q m D E fuel listed a w) : (listed.getD m false = true ∨ D w) ∧ E w := by
  cases fuel <;> exact h.1
theorem wpAnyC.toAny {m : Nat} {D E : World → Prop} : ∀ {fuel : Nat} {listed : Array Bool} {a : Act} {w : World}, wpAnyC P md ops Q m D E fuel listed a w → wpAny P md ops Q fuel listed a w
  | 0, _, _, _, h => h.2
  | _ + 1, _, _, _, h => ⟨h.2.1, fun i hi => wpOp_mono (fun _ _ q => q.toAny) (h.2.2 i hi)⟩
theorem wpAnyC_one {m : Nat} {D E : World → Prop} {fuel : Nat} {listed : Array Bool} {a : Act} {w : World} (j : Nat) (o : Oper) (hr : Region.ready md ops listed = [j]) (ho : ops[j]? = some o) (hD : (listed.getD m false = true ∨ D w) ∧ E w)
    (h : ∀ K' : Act → World → Prop, (∀ a w, wpAnyC P md ops Q m D E fuel (listed.setIfInBounds j true) a w → K' a w) → if Region.wanted o (yielded ops a.tmps) = true then Oper.wp P o a w K' Q else K' (a.put o.dst undef) w) :
    wpAnyC P md ops Q m D E (fuel + 1) listed a w :=
  ⟨hD, fun h0 => absurd (hr ▸ h0) (by simp), fun i hi => by
    rw [hr] at hi
    obtain rfl : i = j := by simpa using hi
    exact wpOp_step ho h⟩
theorem wpOp_keep {j : Nat} {oj : Oper} (hj : ops[j]? = some oj) {I : Act → Prop} (hput : ∀ a u, I a → I (a.put oj.dst u)) (hdef : ∀ (a : Act) d, I a → I { a with defers := d :: a.defers }) {K : Act → World → Prop} {a : Act} {w : World}
    (hI : I a) (h : wpOp P ops Q j K a w) : wpOp P ops Q j (fun a' w' => I a' ∧ K a' w') a w := by
  unfold wpOp at *
  simp only [hj] at *
  split
  · rename_i hw
    simp only [hw, if_true] at h
    refine h.imp (fun h => ?_) id
    unfold Oper.wp at *
    generalize (execOp a.eval oj).run P w = r at *
    rcases r with ⟨n, w'⟩ | ⟨x, w'⟩
    · cases n <;> simp only [Oper.upon] at h ⊢
      case value u => exact ⟨hput _ _ hI, h⟩
      case skip => exact ⟨hput _ _ hI, h⟩
      case defer d => exact ⟨hput _ _ (hdef _ _ hI), h⟩
      case enter f args =>
        refine Calls.mono h fun e w'' he => ?_
        cases e with
        | returned u => exact ⟨hput _ _ hI, he⟩
        | panicked c => exact he
        | outgrown => exact he
      case row row args => exact Rows.mono h fun u w'' he => ⟨hput _ _ hI, he⟩
    · cases x <;> simp only [Oper.upon] at h ⊢
      case panic u => exact h
  · rename_i hw
    simp only [hw] at h
    exact ⟨hput _ _ hI, h⟩
def YieldsC (P : Program) (ops : Array Oper) (D : World → Prop) (o : Oper) (v : Value) (a : Act) : Prop :=
  Region.wanted o (yielded ops a.tmps) = true ∧ ∀ w, D w → (execOp a.eval o).run P w = .ok (.value v) w
theorem YieldsC.wpOp {D : World → Prop} {i : Nat} {o : Oper} {v : Value} {a : Act} (hi : ops[i]? = some o) (hy : YieldsC P ops D o v a) {K : Act → World → Prop} {w : World} (hD : D w) (h : K (a.put o.dst v) w) : wpOp P ops Q i K a w := by
  unfold Go.wpOp
  simp only [hi, hy.1, if_true, Oper.wp, hy.2 w hD, Oper.upon]
  exact .inl h
/-- the operation that hands v on -/
def hands (o : Oper) (v : Value) : Oper := { o with op := .move (.const v), guard := none }
theorem hands_apart {o oj : Oper} {v : Value} (h : o.apart ops oj = true) : (hands o v).apart ops oj = true := by
  simp only [Oper.apart, Bool.and_eq_true] at h ⊢
  refine ⟨h.1, ?_⟩
  cases oj.dst <;> simp [Oper.looksAt, hands, Op.operands]
theorem hands_yields {o : Oper} {v : Value} {a : Act} : Yields P ops (hands o v) v a :=
  .inl ⟨by simp [Region.wanted, hands], fun w => by simp [hands, execOp, Act.eval, go_sem]⟩
theorem wpAnyC_takeX {m i : Nat} {oi : Oper} {v : Value} {D E C : World → Prop} (hi : ops[i]? = some oi) (B : Array Bool → Prop) (hB : ∀ listed j, B listed → listed.getD i false = false → j ≠ i → j ∈ Region.ready md ops listed → B (listed.setIfInBounds j true)) (hC : ∀ listed w, B listed → (((listed.setIfInBounds i true).getD m false = true ∨ D w) ∧ E w) → ((listed.getD m false = true ∨ D w) ∧ E w) ∧ C w) (hs : Region.noSelect ops = true)
    (hQ : ∀ c a w, Q (.panic c) (a.put oi.dst v) w → Q (.panic c) a w) :
    ∀ (fuel : Nat) (listed : Array Bool) (a : Act) (w : World), Region.free md ops listed i = true → (Region.ready md ops listed).contains i = true → B listed → YieldsC P ops C oi v a →
      wpAnyC P md ops Q m D E fuel (listed.setIfInBounds i true) (a.put oi.dst v) w → wpAnyC P md ops Q m D E (fuel + 1) listed a w := by
  intro fuel
  suffices key : ∀ (fuel : Nat) (listed : Array Bool) (a : Act) (w : World), (∀ j oj, ops[j]? = some oj → j ≠ i → listed.getD j true = false → (∀ e ∈ oj.after, Region.binds md e = true → e.on ≠ i) → oi.apart ops oj = true) → i ∈ Region.ready md ops listed → B listed → YieldsC P ops C oi v a →
      wpAnyC P md ops Q m D E fuel (listed.setIfInBounds i true) (a.put oi.dst v) w → wpAnyC P md ops Q m D E (fuel + 1) listed a w from
    fun listed a w hf hr => key fuel listed a w (Region.free_spec hi hf) (by simpa using hr)
  have hsel := Region.noSelect_spec hs
  intro fuel
  induction fuel with
  | zero =>
    intro listed a w hfree hr hm hy H
    refine ⟨(hC _ _ hm H.cls).1, fun h => (by rw [h] at hr; cases hr), fun j hj => ?_⟩
    by_cases hji : j = i
    · subst hji; exact hy.wpOp hi (hC _ _ hm H.cls).2 H
    · have h0 := ready_mono hj hji
      rw [H.2.1] at h0
      cases h0
  | succ fuel ih =>
    intro listed a w hfree hr hm hy H
    refine ⟨(hC _ _ hm H.cls).1, fun h => (by rw [h] at hr; cases hr), fun j hj => ?_⟩
    by_cases hji : j = i
    · subst hji; exact hy.wpOp hi (hC _ _ hm H.cls).2 H
    · have h1 := H.2.2 j (ready_mono hj hji)
      obtain ⟨hjun, oj, hoj, hall⟩ := mem_ready.1 hj
      have hiun : listed.getD i false = false := by
        have h0 := (mem_ready.1 hr).1
        rcases Nat.lt_or_ge i listed.size with h' | h'
        · simp [h'] at h0 ⊢; exact h0
        · simp [Array.getElem?_eq_none h']
      have hnot : ∀ e ∈ oj.after, Region.binds md e = true → e.on ≠ i := fun e he hb heq => by
        have h2 := hall e he hb
        rw [heq, hiun] at h2
        cases h2
      have hap := hfree j oj hoj hji hjun hnot
      obtain ⟨-, -, h3⟩ := Oper.apart_spec hap
      have h2 := wpOp_put (oi := hands oi v) hoj (hands_apart hap) (fun cs b => by simp [hands]) (fun cs b => hsel j oj cs b hoj) hQ hands_yields h1
      have h4 := wpOp_keep hoj (I := YieldsC P ops C oi v) (fun a u q => by
        unfold YieldsC at *
        rw [execOp_put oi (fun cs b => hsel i oi cs b hi) a oj.dst u h3, wanted_put oi a oj.dst u h3]
        exact q) (fun a d q => q) hy h2
      have hfree' : ∀ k ok, ops[k]? = some ok → k ≠ i → (listed.setIfInBounds j true).getD k true = false → (∀ e ∈ ok.after, Region.binds md e = true → e.on ≠ i) → oi.apart ops ok = true := fun k ok hk hki hun hno => by
        refine hfree k ok hk hki ?_ hno
        by_cases hjk : j = k
        · subst hjk; exact hjun
        · rw [getD_set_ne true hjk] at hun; exact hun
      refine wpOp_mono (fun a' w' q => ih (listed.setIfInBounds j true) a' w' hfree' (ready_mono hr (Ne.symm hji)) (hB _ _ hm hiun hji hj) q.1 ?_) h4
      rw [Array.setIfInBounds_comm _ _ hji]
      exact q.2.2
/-- by the class that always holds -/
theorem wpAnyC_takeE {m i : Nat} {oi : Oper} {v : Value} {D E : World → Prop} (hi : ops[i]? = some oi) (hne : m ≠ i) (hs : Region.noSelect ops = true)
    (hQ : ∀ c a w, Q (.panic c) (a.put oi.dst v) w → Q (.panic c) a w) (fuel : Nat) (listed : Array Bool) (a : Act) (w : World) (hf : Region.free md ops listed i = true) (hr : (Region.ready md ops listed).contains i = true) (hy : YieldsC P ops E oi v a)
    (h : wpAnyC P md ops Q m D E fuel (listed.setIfInBounds i true) (a.put oi.dst v) w) : wpAnyC P md ops Q m D E (fuel + 1) listed a w :=
  wpAnyC_takeX (C := E) hi (fun _ => True) (fun _ _ _ _ _ _ => trivial) (fun listed w _ q => by
    rw [getD_set_ne false (Ne.symm hne)] at q
    exact ⟨q, q.2⟩) hs hQ fuel listed a w hf hr trivial hy h
/-- by the class that holds before m -/
theorem wpAnyC_takeD {m i : Nat} {oi om : Oper} {v : Value} {D E : World → Prop} (hi : ops[i]? = some oi) (hom : ops[m]? = some om) (hne : m ≠ i) (hafter : (om.after.any fun e => Region.binds md e && e.on == i) = true) (hs : Region.noSelect ops = true)
    (hQ : ∀ c a w, Q (.panic c) (a.put oi.dst v) w → Q (.panic c) a w) (fuel : Nat) (listed : Array Bool) (a : Act) (w : World) (hf : Region.free md ops listed i = true) (hr : (Region.ready md ops listed).contains i = true) (hm : listed.getD m false = false) (hy : YieldsC P ops D oi v a)
    (h : wpAnyC P md ops Q m D E fuel (listed.setIfInBounds i true) (a.put oi.dst v) w) : wpAnyC P md ops Q m D E (fuel + 1) listed a w :=
  wpAnyC_takeX (C := D) hi (fun l => l.getD m false = false) (fun l j hl hiu hji hj => by
    by_cases hjm : j = m
    · subst hjm
      obtain ⟨-, oj, hoj, hall⟩ := mem_ready.1 hj
      rw [hoj] at hom
      cases hom
      obtain ⟨e, he, hb⟩ := Array.any_eq_true'.1 hafter
      simp only [Bool.and_eq_true, beq_iff_eq] at hb
      have h2 := hall e he hb.1
      rw [hb.2, hiu] at h2
      cases h2
    · rw [getD_set_ne false hjm]; exact hl) (fun listed w hl q => by
    rw [getD_set_ne false (Ne.symm hne)] at q
    exact ⟨q, q.1.resolve_left (by rw [hl]; simp)⟩) hs hQ fuel listed a w hf hr hm hy h
end
end Go
