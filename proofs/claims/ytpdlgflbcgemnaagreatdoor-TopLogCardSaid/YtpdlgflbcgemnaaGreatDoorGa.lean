/- Plain laws and walks: Grow, Own, Sl, Heap, Row, Row2. -/
import Derived.WalkKit
import Derived.WalkLawsBesides
import Derived.WalkSpells
import Derived.StillTail
import Derived.Deep.QuietTactic
import Derived.BigQuiet
import Derived.Lib.Hide
import Derived.Laws.AppendOwn
import Derived.Laws.OwnMore
import Derived.OwnWalk
import Derived.Deep.AppendLies
import Derived.Deep.DeepAppendWide
import Derived.Deep.Upon
import Derived.Laws.IdiomCopy
import Derived.Laws.Cells
-- Grow
/- Worlds that only grow: a class of worlds for regions whose order is drawn, with or without a tail of stores. Plain theorems, no condition of the program's own. -/
namespace Go
open Go.RowKit

/-- What a world has grown by: blocks, and the count of draws. -/
structure Ext where
  objs : Array Obj
  count : Nat
instance : Inhabited Ext := ⟨⟨#[], 0⟩⟩

/-- w, with blocks laid behind its own ones and with another count of draws. -/
def World.plus (w : World) (e : Ext) : World := { w with heap := w.heap ++ e.objs, drawn := e.count }

theorem World.plus_block (w : World) (e : Ext) {k : Nat} (h : k < w.heap.size) : (w.plus e).heap[k]? = w.heap[k]? := by
  show (w.heap ++ e.objs)[k]? = _
  rw [Array.getElem?_append_left h]
theorem World.plus_cell (w : World) (e : Ext) {p : Addr} (h : p.block < w.heap.size) : (w.plus e).cell? p = w.cell? p :=
  World.cell?_of_block (w := w) (w.plus_block e h)
/-- The number of a world's blocks, in the form in which the walk writes it. -/
class SizeN (w : World) (s : outParam Nat) : Prop where
  size : w.heap.size = s
instance (priority := low) SizeN.any (w : World) : SizeN w w.heap.size := ⟨rfl⟩
instance SizeN.alloc (w : World) (o : Obj) (s : Nat) [h : SizeN w s] : SizeN (w.alloc o) (s + 1) := ⟨by rw [World.size_alloc, h.size]⟩
theorem World.size_plus_eq (w : World) (e : Ext) : (w.plus e).heap.size = w.heap.size + e.objs.size := by simp [World.plus]
instance SizeN.plus (w : World) (e : Ext) (s : Nat) [h : SizeN w s] : SizeN (w.plus e) (s + e.objs.size) := ⟨by rw [World.size_plus_eq, h.size]⟩
instance SizeN.drew (w : World) (s : Nat) [h : SizeN w s] : SizeN w.drew s := ⟨h.size⟩
instance SizeN.setCell (w : World) (a : Addr) (v : Value) (s : Nat) [h : SizeN w s] : SizeN (w.setCell a v) s := ⟨by rw [World.size_setCell, h.size]⟩
/-- A block is there. -/
class InW (n : Nat) (w : World) : Prop where
  lt : n < w.heap.size
instance InW.new (w : World) (o : Obj) (n : Nat) [h : SizeN w n] : InW n (w.alloc o) := ⟨by rw [World.size_alloc, h.size]; omega⟩
instance InW.alloc (w : World) (o : Obj) (n : Nat) [h : InW n w] : InW n (w.alloc o) := ⟨by rw [World.size_alloc]; exact Nat.lt_succ_of_lt h.lt⟩
instance InW.plus (w : World) (e : Ext) (n : Nat) [h : InW n w] : InW n (w.plus e) := ⟨by rw [World.size_plus_eq]; exact Nat.lt_of_lt_of_le h.lt (Nat.le_add_right _ _)⟩
instance InW.drew (w : World) (n : Nat) [h : InW n w] : InW n w.drew := ⟨h.lt⟩
instance InW.setCell (w : World) (a : Addr) (v : Value) (n : Nat) [h : InW n w] : InW n (w.setCell a v) := ⟨by rw [World.size_setCell]; exact h.lt⟩

@[go_sem] theorem World.cell?_plus (w : World) (e : Ext) (n i : Nat) [h : InW n w] : (w.plus e).cell? ⟨n, i, none⟩ = w.cell? ⟨n, i, none⟩ := w.plus_cell e h.lt
@[go_sem] theorem World.frozen?_plus (w : World) (e : Ext) (n i : Nat) [h : InW n w] : (w.plus e).frozen? ⟨n, i, none⟩ = w.frozen? ⟨n, i, none⟩ :=
  World.frozen?_of_block (w := w) (a := ⟨n, i, none⟩) (w.plus_block e h.lt)
@[go_sem] theorem World.size_plus (w : World) (e : Ext) : (w.plus e).heap.size = w.heap.size + e.objs.size := w.size_plus_eq e
@[go_sem] theorem World.setCell_plus (w : World) (e : Ext) (n i : Nat) (v : Value) [hn : InW n w] : (w.plus e).setCell ⟨n, i, none⟩ v = (w.setCell ⟨n, i, none⟩ v).plus e := by
  have h := hn.lt
  simp only [World.setCell, World.plus]
  congr 1
  apply Array.ext_getElem?
  intro k
  by_cases hk : k < w.heap.size
  · rw [Array.getElem?_append_left (by simpa using hk), Array.getElem?_modify, Array.getElem?_modify, Array.getElem?_append_left hk]
  · rw [Array.getElem?_append_right (by simpa using Nat.le_of_not_lt hk), Array.getElem?_modify, if_neg (by omega), Array.getElem?_append_right (by omega)]
    simp
@[go_sem high] theorem World.cell?_alloc_in (w : World) (o : Obj) (n i : Nat) [h : InW n w] : (w.alloc o).cell? ⟨n, i, none⟩ = w.cell? ⟨n, i, none⟩ := World.cell?_alloc_past _ _ _ h.lt
@[go_sem high] theorem World.frozen?_alloc_in (w : World) (o : Obj) (n i : Nat) [h : InW n w] : (w.alloc o).frozen? ⟨n, i, none⟩ = w.frozen? ⟨n, i, none⟩ := World.frozen?_alloc_past _ _ _ h.lt
@[go_sem high] theorem World.setCell_alloc_in (w : World) (o : Obj) (n i : Nat) (v : Value) [h : InW n w] : (w.alloc o).setCell ⟨n, i, none⟩ v = (w.setCell ⟨n, i, none⟩ v).alloc o := World.setCell_alloc_past _ _ _ _ h.lt
@[go_sem high] theorem World.cell?_alloc_new' (w : World) (c : Array Value) (t : TypeId) (n i : Nat) [h : SizeN w n] : (w.alloc (.cells c t)).cell? ⟨n, i, none⟩ = c[i]? := World.cell?_alloc_at _ _ _ _ h.size.symm
@[go_sem high] theorem World.frozen?_alloc_new' (w : World) (c : Array Value) (t : TypeId) (n i : Nat) [h : SizeN w n] : (w.alloc (.cells c t)).frozen? ⟨n, i, none⟩ = false := World.frozen?_alloc_at _ _ _ _ h.size.symm
@[go_sem high] theorem World.setCell_alloc_new' (w : World) (c : Array Value) (t : TypeId) (n i : Nat) (v : Value) [h : SizeN w n] : (w.alloc (.cells c t)).setCell ⟨n, i, none⟩ v = w.alloc (.cells (c.setIfInBounds i v) t) := World.setCell_alloc_at _ _ _ _ _ h.size.symm
@[go_sem] theorem World.drew_plus (w : World) (e : Ext) : (w.plus e).drew = w.plus ⟨e.objs, e.count + 1⟩ := rfl
@[go_sem] theorem World.plus_drew (w : World) (e : Ext) : w.drew.plus e = w.plus e := rfl
theorem World.plus_plus (w : World) (e e' : Ext) : (w.plus e).plus e' = w.plus ⟨e.objs ++ e'.objs, e'.count⟩ := by
  simp [World.plus, Array.append_assoc]
theorem World.plus_alloc (w : World) (e : Ext) (o : Obj) : (w.plus e).alloc o = w.plus ⟨e.objs.push o, e.count⟩ := by
  simp [World.plus, World.alloc]
theorem World.below_plus (w : World) (e : Ext) : Below w.heap.size w (w.plus e) :=
  ⟨rfl, rfl, rfl, by show w.heap.size ≤ (w.heap ++ e.objs).size; simp, fun _ h => w.plus_block e h⟩
theorem World.plus_of_below {w w' : World} (h : Below w.heap.size w w') : ∃ e, w' = w.plus e := by
  refine ⟨⟨w'.heap.extract w.heap.size w'.heap.size, w'.drawn⟩, ?_⟩
  have hh : w'.heap = w.heap ++ w'.heap.extract w.heap.size w'.heap.size := by
    apply Array.ext_getElem?
    intro i
    by_cases hi : i < w.heap.size
    · rw [Array.getElem?_append_left hi, h.block i hi]
    · rw [Array.getElem?_append_right (by omega), Array.getElem?_extract]
      by_cases h2 : i < w'.heap.size
      · rw [if_pos (by omega)]
        congr 1
        omega
      · rw [if_neg (by omega), Array.getElem?_eq_none (by omega)]
  cases w' with
  | mk heap tape drawn os output =>
    obtain ⟨e1, e2, e3, _, _⟩ := h
    simp only at e1 e2 e3 hh
    subst e1 e2 e3
    simp only [World.plus]
    congr 1

/-- The class: the worlds that have grown out of w. -/
abbrev World.Plus (w : World) : World → Prop := fun w' => ∃ e, w' = w.plus e

theorem Plus.refl (w : World) : w.Plus w := ⟨⟨#[], w.drawn⟩, by simp [World.plus]⟩
theorem Plus.alloc {w w' : World} (h : w.Plus w') (o : Obj) : w.Plus (w'.alloc o) := by
  obtain ⟨e, rfl⟩ := h
  exact ⟨_, World.plus_alloc _ _ _⟩
theorem Plus.plus {w w' : World} (h : w.Plus w') (e : Ext) : w.Plus (w'.plus e) := by
  obtain ⟨e', rfl⟩ := h
  exact ⟨_, World.plus_plus _ _ _⟩
theorem Plus.drew {w w' : World} (h : w.Plus w') : w.Plus w'.drew := by
  obtain ⟨e', rfl⟩ := h
  exact ⟨_, World.drew_plus _ _⟩
theorem Plus.trans {w w' w'' : World} (h : w.Plus w') (k : w'.Plus w'') : w.Plus w'' := by
  obtain ⟨e, rfl⟩ := k
  exact Plus.plus h e
theorem Plus.below {w w' : World} (h : w.Plus w') : Below w.heap.size w w' := by
  obtain ⟨e, rfl⟩ := h
  exact w.below_plus e

theorem Calls.plus_of {P : Program} {f : FuncId} {args : Array Value} {w : World} {e : Ext} {v : Value}
    (h : Calls P f args (w.plus e) fun r w' => r = .returned v ∧ (w.plus e).Plus w') :
    Calls P f args (w.plus e) fun r w'' => r = .returned v ∧ ∃ m, w'' = w.plus m :=
  h.mono fun _ _ ⟨he, hb⟩ => ⟨he, Plus.trans (Plus.plus (Plus.refl w) e) hb⟩

section
variable {P : Program} {ops : Array Oper} {md : Region.Mode} {C : World → Prop}

/-- The head of a region in whatever order: f operations are still to come up, each below n; then L. -/
def wpHead (P : Program) (md : Region.Mode) (ops : Array Oper) (C : World → Prop) (n : Nat) (L : Array Bool → Act → Prop) : Nat → Array Bool → Act → Prop
  | 0, listed, a => L listed a
  | f + 1, listed, a => Region.ready md ops listed ≠ [] ∧ ∀ i ∈ Region.ready md ops listed, i < n ∧ qOp P ops C i (wpHead P md ops C n L f (listed.setIfInBounds i true)) a

theorem wpAny_of_wpHead {n g : Nat} {L : Array Bool → Act → Prop} {Q' : Exit → Act → World → Prop} (hL : ∀ listed a w, C w → L listed a → wpAny P md ops Q' g listed a w) (f : Nat) :
    ∀ (listed : Array Bool) (a : Act) (w : World), C w → wpHead P md ops C n L f listed a → wpAny P md ops Q' (f + g) listed a w := by
  induction f with
  | zero => intro listed a w hw h; rw [Nat.zero_add]; exact hL _ _ _ hw h
  | succ f ih =>
    intro listed a w hw h
    rw [show f + 1 + g = (f + g) + 1 by omega]
    exact ⟨fun h0 => absurd h0 h.1, fun i hi => wpOp_of_qOp hw (fun a' w' hw' h' => ih _ a' w' hw' h') (h.2 i hi).2⟩

theorem wpHead_first {n i : Nat} {oi : Oper} {v : Value} {L : Array Bool → Act → Prop} (hi : ops[i]? = some oi) (hsel : ∀ (j : Nat) (o : Oper) cs b, ops[j]? = some o → o.op ≠ .select cs b)
    (hs : Region.sinkB md ops n = true) (hc : Region.chainB md ops n = true) (hn : n < ops.size) (hin : i < n)
    (hdone : ∀ listed a, L listed a → ∀ j ∈ Region.ready md ops listed, n ≤ j) (f : Nat) :
    ∀ (listed : Array Bool) (a : Act), HeadInv md ops n listed →
      (∀ j oj, ops[j]? = some oj → j ≠ i → listed.getD j true = false → (∀ e ∈ oj.after, Region.binds md e = true → e.on ≠ i) → oi.apart ops oj = true) →
      i ∈ Region.ready md ops listed → YieldsIn P ops C oi v a →
      wpHead P md ops C n L f (listed.setIfInBounds i true) (a.put oi.dst v) → wpHead P md ops C n L (f + 1) listed a := by
  induction f with
  | zero =>
    intro listed a inv _ hr hy H
    have hun := (mem_ready.1 hr).1
    refine ⟨List.ne_nil_of_mem hr, fun j hj => ?_⟩
    have hjn : j < n := (Nat.lt_or_ge j n).resolve_right fun h => tail_waits hs hc hn inv _ i rfl hin hun j h hj
    refine ⟨hjn, ?_⟩
    rcases Nat.decEq j i with hji | hji
    · have := hdone _ _ H j (ready_mono hj hji)
      omega
    · subst hji; exact hy.qOp hi H
  | succ f ih =>
    intro listed a inv hfree hr hy H
    have hun := (mem_ready.1 hr).1
    refine ⟨List.ne_nil_of_mem hr, fun j hj => ?_⟩
    have hjn : j < n := (Nat.lt_or_ge j n).resolve_right fun h => tail_waits hs hc hn inv _ i rfl hin hun j h hj
    refine ⟨hjn, ?_⟩
    rcases Nat.decEq j i with hji | hji
    · have h1 := (H.2 j (ready_mono hj hji)).2
      obtain ⟨hjun, oj, hoj, hall⟩ := mem_ready.1 hj
      have hnot : ∀ e ∈ oj.after, Region.binds md e = true → e.on ≠ i := fun e he hb heq => by
        have h3 := hall e he hb
        rw [heq, getD_both hun] at h3
        exact Bool.false_ne_true h3
      have h2 := qOp_put hoj (hfree j oj hoj hji hjun hnot) (fun cs b => hsel i oi cs b hi) (fun cs b => hsel j oj cs b hoj) hy h1
      refine qOp_mono (fun a' h3 => ih (listed.setIfInBounds j true) a' (inv.set hj hjn) (fun k ok hk hki hun' hno => hfree k ok hk hki ?_ hno) (ready_mono hr (Ne.symm hji)) h3.1 ?_) h2
      · rcases Nat.decEq j k with hjk | hjk
        · rwa [getD_set_ne true hjk] at hun'
        · subst hjk; exact hjun
      · rw [Array.setIfInBounds_comm _ _ hji]
        exact h3.2
    · subst hji; exact hy.qOp hi H

theorem wpHead_lex {n g : Nat} {Lq : Act → Prop} (hsel : Region.noSelect ops = true) (hs : Region.sinkB md ops n = true) (hc : Region.chainB md ops n = true) (hn : n < ops.size) (l : List Oper) :
    ∀ (k : Nat) (listed : Array Bool) (a : Act), (∀ j, j < l.length → l[j]? = ops[k + j]?) → k + l.length = n → HeadInv md ops n listed →
    Region.lexHead md ops g l.length k listed = true → wpQuiet P ops C Lq l a →
    wpHead P md ops C n (fun listed' a' => Region.seqB md ops g n listed' = true ∧ Lq a') l.length listed a := by
  induction l with
  | nil =>
    intro k listed a _ hk _ hB h
    obtain rfl : k = n := by simpa using hk
    exact ⟨by simpa [Region.lexHead] using hB, h⟩
  | cons o l ih =>
    intro k listed a hl hk inv hB h
    have h0 : ops[k]? = some o := by simpa using (hl 0 (by simp)).symm
    simp only [List.length_cons, Region.lexHead, Bool.and_eq_true] at hB
    obtain ⟨⟨hr, hf⟩, hB'⟩ := hB
    simp only [List.length_cons] at hk
    have hkn : k < n := by omega
    have hr' : k ∈ Region.ready md ops listed := by simpa using hr
    have hst : qOp P ops C k (wpQuiet P ops C Lq l) a := by unfold qOp; simp only [h0]; exact h
    obtain ⟨v, hy, hK⟩ := yieldsIn_of_qOp h0 hst
    exact wpHead_first h0 (Region.noSelect_spec hsel) hs hc hn hkn (fun listed' a' hL => seqB_ready hL.1) l.length listed a inv (Region.free_spec h0 hf) hr' hy
      (ih (k + 1) _ _ (fun j hj => by have := hl (j + 1) (by simp; omega); simpa [Nat.add_assoc, Nat.add_comm 1 j] using this) (by omega) (inv.set hr' hkn) hB' hK)

/-- A region that draws its order: a head of n operations, each quiet in a class of worlds, then a tail in one forced order, walked in every world of the class. -/
theorem wp_region_quiet_tail {id : Nat} {Q : Exit → Act → World → Prop} {a : Act} {w : World} {l : List Oper} (n : Nat) (hm : P.follows .mixedOrders = true) (hB : Region.lexTailB .any l.toArray n = true) (hC : C { w with drawn := w.drawn + 1 })
    (h : wpQuiet P l.toArray C (fun a' => ∀ w', C w' → wpList P l.toArray Q (l.drop n) a' w') (l.take n) a) : (Code.region id l.toArray true).wp P Q a w := by
  simp only [Region.lexTailB, Bool.and_eq_true, decide_eq_true_eq] at hB
  obtain ⟨⟨⟨⟨hsel, hn⟩, hs⟩, hc⟩, hlex⟩ := hB
  have hn' : n < l.length := by simpa using hn
  have htl : (l.take n).length = n := by simp; omega
  have hdl : (l.drop n).length = l.toArray.size - n := by simp
  have inv0 : HeadInv .any l.toArray n (Array.replicate l.toArray.size false) :=
    ⟨by simp, fun j oj _ hl => absurd hl (by rw [getD_replicate_false]; exact Bool.false_ne_true), fun t _ ht => getD_in (by simpa using ht) (getD_replicate_false _ _)⟩
  have H := wpHead_lex (md := .any) (C := C) (g := l.toArray.size - n) hsel hs hc hn (l.take n) 0 _ a (fun j hj => by
    have hj' : j < n := by rw [htl] at hj; exact hj
    simp [hj']) (by simpa using htl) inv0 (by rw [htl]; exact hlex) h
  refine wp_region_any hm ?_
  have := wpAny_of_wpHead (Q' := Q) (C := C) (g := l.toArray.size - n) (fun listed a' w' hw' hL => by
    have := wpAny_of_seq (md := .any) (Q' := Q) (l.drop n) n listed a' w' (fun j => by simp [List.getElem?_drop]) (by rw [hdl]; exact hL.1) (hL.2 w' hw')
    rwa [hdl] at this) _ _ _ _ hC H
  rw [htl, show n + (l.toArray.size - n) = l.toArray.size by omega] at this
  exact this

theorem World.drew_Plus (w : World) : w.Plus { w with drawn := w.drawn + 1 } := ⟨⟨#[], w.drawn + 1⟩, by simp [World.plus]⟩

/-- The two forms for the class of the worlds that have grown. -/
theorem wp_region_grow {id : Nat} {Q : Exit → Act → World → Prop} {a : Act} {w : World} {l : List Oper} (hm : P.follows .mixedOrders = true) (hB : Region.lexB .any l.toArray = true)
    (h : wpQuiet P l.toArray w.Plus (fun a' => ∀ e, Q .normal a' (w.plus e)) l a) : (Code.region id l.toArray true).wp P Q a w :=
  wp_region_quiet (C := w.Plus) hm hB w.drew_Plus (by
    have e : (fun a' => ∀ e, Q .normal a' (w.plus e)) = (fun a' => ∀ w', w.Plus w' → Q .normal a' w') := by
      funext a'
      exact propext ⟨fun k w' ⟨e, he⟩ => he ▸ k e, fun k e => k _ ⟨e, rfl⟩⟩
    rw [← e]
    simpa using h)
theorem wp_region_grow_tail {id : Nat} {Q : Exit → Act → World → Prop} {a : Act} {w : World} {l : List Oper} (n : Nat) (hm : P.follows .mixedOrders = true) (hB : Region.lexTailB .any l.toArray n = true)
    (h : wpQuiet P l.toArray w.Plus (fun a' => ∀ e, wpList P l.toArray Q (l.drop n) a' (w.plus e)) (l.take n) a) : (Code.region id l.toArray true).wp P Q a w :=
  wp_region_quiet_tail (C := w.Plus) n hm hB w.drew_Plus (by
    have e : (fun a' => ∀ e, wpList P l.toArray Q (l.drop n) a' (w.plus e)) = (fun a' => ∀ w', w.Plus w' → wpList P l.toArray Q (l.drop n) a' w') := by
      funext a'
      exact propext ⟨fun k w' ⟨e, he⟩ => he ▸ k e, fun k e => k _ ⟨e, rfl⟩⟩
    rw [← e]
    exact h)
end

/-- A world that has grown by a block of known cells, somewhere among the new ones: behind a region whose new block may come up early or late. -/
def NewIn (L : World) (t : TypeId) (c : Array Value) (n : Nat) (w' : World) : Prop := ∃ e1 e2, n = (L.plus e1).heap.size ∧ w' = ((L.plus e1).alloc (.cells c t)).plus e2
theorem NewIn.mk {L w1 : World} (h : L.Plus w1) (t : TypeId) (c : Array Value) {n : Nat} (hn : n = w1.heap.size) : NewIn L t c n (w1.alloc (.cells c t)) := by
  obtain ⟨e, rfl⟩ := h
  obtain ⟨e2, h2⟩ := Plus.refl ((L.plus e).alloc (.cells c t))
  exact ⟨e, e2, hn, h2⟩
theorem NewIn.plus {L w1 : World} {t : TypeId} {c : Array Value} {n : Nat} (h : NewIn L t c n w1) (e : Ext) : NewIn L t c n (w1.plus e) := by
  obtain ⟨e1, e2, hn, rfl⟩ := h
  exact ⟨e1, _, hn, World.plus_plus _ _ _⟩
theorem NewIn.drew {L w1 : World} {t : TypeId} {c : Array Value} {n : Nat} (h : NewIn L t c n w1) : NewIn L t c n w1.drew := by
  obtain ⟨e1, e2, hn, rfl⟩ := h
  exact ⟨e1, _, hn, World.drew_plus _ _⟩

/-- The rows behind a slice's address: n of them, of 'size' cells each, cell j of row i holding f i j. -/
def RowsAt (w : World) (A : Option Addr) (size n : Nat) (f : Nat → Nat → Value) : Prop :=
  0 < n → ∃ b off, A = some ⟨b, off, none⟩ ∧ b < w.heap.size ∧ ∀ i j, i < n → j < size → w.cell? ⟨b, off + (i * size + j), none⟩ = some (f i j)
theorem RowsAt.plus {w w' : World} {A : Option Addr} {size n : Nat} {f : Nat → Nat → Value} (h : RowsAt w A size n f) (hp : w.Plus w') : RowsAt w' A size n f := by
  obtain ⟨e, rfl⟩ := hp
  intro hn
  obtain ⟨b, off, hA, hb, hc⟩ := h hn
  exact ⟨b, off, hA, by rw [World.size_plus_eq]; omega, fun i j hi hj => (w.plus_cell e (p := ⟨b, _, none⟩) hb).trans (hc i j hi hj)⟩
theorem RowsAt.alloc {w : World} {A : Option Addr} {size n : Nat} {f : Nat → Nat → Value} (h : RowsAt w A size n f) (o : Obj) : RowsAt (w.alloc o) A size n f :=
  h.plus (Plus.alloc (Plus.refl w) o)
theorem RowsAt.zero (w : World) (A : Option Addr) (size : Nat) (f : Nat → Nat → Value) : RowsAt w A size 0 f := fun h => absurd h (by omega)

section
variable {P : Program} (w : World)
@[go_sem high] theorem run_max2 (ts : Array TypeId) (t : TypeId) (x y : Int) : (Builtin.max_ ts t #[.int .i64 x, .int .i64 y]).run P w = .ok (.int .i64 (max x y)) w := by
  simp [Builtin.max_, Builtin.max2]; omega
@[go_sem high] theorem run_min2 (ts : Array TypeId) (t : TypeId) (x y : Int) : (Builtin.min_ ts t #[.int .i64 x, .int .i64 y]).run P w = .ok (.int .i64 (min x y)) w := by
  simp [Builtin.min_, Builtin.min2]; omega
@[go_sem high] theorem run_max3 (ts : Array TypeId) (t : TypeId) (x y z : Int) : (Builtin.max_ ts t #[.int .i64 x, .int .i64 y, .int .i64 z]).run P w = .ok (.int .i64 (max x (max y z))) w := by
  simp [Builtin.max_, Builtin.max2]; omega
@[go_sem high] theorem run_max4 (ts : Array TypeId) (t : TypeId) (x y z u : Int) : (Builtin.max_ ts t #[.int .i64 x, .int .i64 y, .int .i64 z, .int .i64 u]).run P w = .ok (.int .i64 (max x (max y (max z u)))) w := by
  simp [Builtin.max_, Builtin.max2]; omega
end
theorem bcell {W w1 : World} (hb : Below W.heap.size W w1) : (∀ b o, b < W.heap.size → w1.cell? ⟨b, o, none⟩ = W.cell? ⟨b, o, none⟩) ∧ (∀ b o, b < W.heap.size → w1.frozen? ⟨b, o, none⟩ = W.frozen? ⟨b, o, none⟩) :=
  ⟨fun b o h => hb.cell (p := ⟨b, o, none⟩) h, fun b o h => hb.frozen (p := ⟨b, o, none⟩) h⟩
theorem ret_int {k : IntKind} {a b : Int} (h : a = b) : Ending.returned (.int k a) = .returned (.int k b) := by rw [h]
theorem ret_bool {a b : Bool} (h : a = b) : Ending.returned (.bool a) = .returned (.bool b) := by rw [h]
end Go
-- Own
/- Own slices in growing worlds: plain laws. -/
namespace Go
open Go.RowKit
theorem plus_of_below {w w' : World} (h : Below w.heap.size w w') : w.Plus w' := by
  refine ⟨⟨w'.heap.extract w.heap.size w'.heap.size, w'.drawn⟩, ?_⟩
  have hb : w'.heap = w.heap ++ w'.heap.extract w.heap.size w'.heap.size := by
    apply Array.ext_getElem?
    intro i
    by_cases hi : i < w.heap.size
    · rw [h.block i hi, Array.getElem?_append_left hi]
    · rw [Array.getElem?_append_right (by omega), Array.getElem?_extract]
      by_cases h2 : i < w'.heap.size
      · rw [if_pos (by omega), show w.heap.size + (i - w.heap.size) = i by omega]
      · rw [if_neg (by omega), Array.getElem?_eq_none (by omega)]
  cases w' with
  | mk heap tape drawn os output =>
    obtain ⟨h1, h2, h3, h4, h5⟩ := h
    simp only at h1 h2 h3 hb
    subst h1 h2 h3
    unfold World.plus
    simp only
    congr 1
theorem World.grownBy.toPlus {w0 w w' : World} {row : Option Nat} (hp : w0.Plus w) (hg : w.grownBy w' row) (hr : ∀ k, row = some k → w0.heap.size ≤ k) : w0.Plus w' := by
  have hb := Plus.below hp
  exact plus_of_below ⟨hg.os.trans hb.os, hg.tape.trans hb.tape, hg.output.trans hb.output, Nat.le_trans hb.size hg.size, fun k hk =>
    (hg.block k (Nat.lt_of_lt_of_le hk hb.size) (fun e => by have := hr k e.symm; omega)).trans (hb.block k hk)⟩
theorem World.ownsRow.plus {w : World} {base : Nat} {e : TypeId} {size : Nat} {v : Value} {n : Nat} {xs : List Value} (h : w.ownsRow base e size v n xs) (x : Ext) : (w.plus x).ownsRow base e size v n xs := by
  rcases h with ⟨hl, h | ⟨g, cap, cur, rfl, hb, hc, hr⟩⟩
  · exact ⟨hl, .inl h⟩
  · have hlt : g < w.heap.size := by
      rcases Nat.lt_or_ge g w.heap.size with h1 | h1
      · exact h1
      · rw [Array.getElem?_eq_none h1] at hc; cases hc
    exact ⟨hl, .inr ⟨g, cap, cur, rfl, hb, (w.plus_block x hlt).trans hc, hr⟩⟩
/-- an own row, read -/
theorem World.ownsRow.rows {w : World} {base : Nat} {e : TypeId} {v : Value} {n : Nat} {xs : List Value} (h : w.ownsRow base e 1 v n xs) (f : Nat → Nat → Value) (hf : ∀ i, i < n → xs[i]? = some (f i 0)) :
    ∃ A c, v = .slice A n c ∧ RowsAt w A 1 n f := by
  have hlt := h.lt
  have hcells : ∀ g, v.ownBlock = some g → ∀ j u, xs[j]? = some u → w.cell? ((⟨g, 0, none⟩ : Addr).add j) = some u := fun g hg => h.cells hg
  rcases h with ⟨hl, ⟨rfl, rfl⟩ | ⟨g, cap, cur, rfl, hb, hc, hr⟩⟩
  · exact ⟨none, 0, rfl, RowsAt.zero _ _ _ _⟩
  · refine ⟨some ⟨g, 0, none⟩, cap, rfl, fun _ => ⟨g, 0, rfl, (hlt g rfl).2, fun i j hi hj => ?_⟩⟩
    obtain rfl : j = 0 := by omega
    have := hcells g rfl i _ (hf i hi)
    by_cases h0 : i = 0
    · subst h0; simpa [Addr.add] using this
    · simpa [Addr.add, h0] using this
end Go
-- Sl
/- Slices that are held, and worlds that change in a set of blocks alone: plain laws. -/
set_option linter.unusedSimpArgs false
set_option linter.unusedVariables false
set_option maxRecDepth 100000
namespace Go
open Go.RowKit
/-- w', grown out of w but for the blocks of S -/
structure Chg (w w' : World) (S : Nat → Prop) : Prop where
  os : w'.os = w.os
  tape : w'.tape = w.tape
  output : w'.output = w.output
  size : w.heap.size ≤ w'.heap.size
  block : ∀ k, k < w.heap.size → ¬ S k → w'.heap[k]? = w.heap[k]?
/-- a set of blocks, and the new ones -/
def Grown (S : Nat → Prop) (w w' : World) : Nat → Prop := fun k => S k ∨ (w.heap.size ≤ k ∧ k < w'.heap.size)
theorem Chg.refl (w : World) (S : Nat → Prop) : Chg w w S := ⟨rfl, rfl, rfl, Nat.le_refl _, fun _ _ _ => rfl⟩
theorem Chg.trans {w w' w'' : World} {S T : Nat → Prop} (h : Chg w w' S) (k : Chg w' w'' T) (hT : ∀ i, T i → i < w.heap.size → S i) : Chg w w'' S :=
  ⟨k.os.trans h.os, k.tape.trans h.tape, k.output.trans h.output, Nat.le_trans h.size k.size, fun i hi hn => (k.block i (Nat.lt_of_lt_of_le hi h.size) (fun t => hn (hT i t hi))).trans (h.block i hi hn)⟩
theorem Chg.trans' {w w' w'' : World} {S : Nat → Prop} (h : Chg w w' S) (k : Chg w' w'' (Grown S w w')) : Chg w w'' S :=
  h.trans k fun i hi hl => hi.resolve_right fun h2 => by omega
theorem Chg.mono {w w' : World} {S T : Nat → Prop} (h : Chg w w' S) (hs : ∀ k, S k → T k) : Chg w w' T := ⟨h.os, h.tape, h.output, h.size, fun k hk hn => h.block k hk fun s => hn (hs k s)⟩
theorem Chg.of_plus (w : World) (e : Ext) (S : Nat → Prop) : Chg w (w.plus e) S := ⟨rfl, rfl, rfl, by rw [World.size_plus_eq]; omega, fun k hk _ => w.plus_block e hk⟩
theorem Chg.of_alloc (w : World) (o : Obj) (S : Nat → Prop) : Chg w (w.alloc o) S := ⟨rfl, rfl, rfl, by simp, fun k hk _ => Below.heap_alloc w o k hk⟩
theorem Chg.of_drew (w : World) (S : Nat → Prop) : Chg w w.drew S := ⟨rfl, rfl, rfl, Nat.le_refl _, fun _ _ _ => rfl⟩
theorem Chg.of_setCell (w : World) (a : Addr) (v : Value) (S : Nat → Prop) (h : S a.block) : Chg w (w.setCell a v) S :=
  ⟨rfl, rfl, rfl, by rw [World.size_setCell]; exact Nat.le_refl _, fun k hk hn => by
    simp only [World.setCell]
    rw [Array.getElem?_modify, if_neg (fun e => hn (by rw [← e]; exact h))]⟩
theorem Chg.plus {w w' : World} {S : Nat → Prop} (h : Chg w w' S) (e : Ext) : Chg w (w'.plus e) S := h.trans (Chg.of_plus w' e S) fun _ s _ => s
theorem Chg.alloc {w w' : World} {S : Nat → Prop} (h : Chg w w' S) (o : Obj) : Chg w (w'.alloc o) S := h.trans (Chg.of_alloc w' o S) fun _ s _ => s
theorem Chg.drew {w w' : World} {S : Nat → Prop} (h : Chg w w' S) : Chg w w'.drew S := h.trans (Chg.of_drew w' S) fun _ s _ => s
theorem Chg.setCell {w w' : World} {S : Nat → Prop} (h : Chg w w' S) (a : Addr) (v : Value) (ha : S a.block ∨ w.heap.size ≤ a.block) : Chg w (w'.setCell a v) S :=
  h.trans (Chg.of_setCell w' a v (fun k => k = a.block) rfl) fun i hi hl => by
    subst hi
    exact ha.resolve_right (by omega)
theorem Chg.of_Plus {w w' : World} (h : w.Plus w') (S : Nat → Prop) : Chg w w' S := by
  obtain ⟨e, rfl⟩ := h
  exact Chg.of_plus w e S
theorem Chg.toPlus {W w w' : World} {S : Nat → Prop} (h : Chg w w' S) (hp : W.Plus w) (hS : ∀ k, S k → W.heap.size ≤ k) : W.Plus w' := by
  have hb := Plus.below hp
  exact plus_of_below ⟨h.os.trans hb.os, h.tape.trans hb.tape, h.output.trans hb.output, Nat.le_trans hb.size h.size, fun k hk =>
    (h.block k (Nat.lt_of_lt_of_le hk hb.size) (fun s => by have := hS k s; omega)).trans (hb.block k hk)⟩
theorem Chg.cell {w w' : World} {S : Nat → Prop} (h : Chg w w' S) {b o : Nat} (hb : b < w.heap.size) (hn : ¬ S b) : w'.cell? ⟨b, o, none⟩ = w.cell? ⟨b, o, none⟩ :=
  World.cell?_of_block (w := w) (a := ⟨b, o, none⟩) (h.block b hb hn)
theorem Chg.frozen {w w' : World} {S : Nat → Prop} (h : Chg w w' S) {b o : Nat} (hb : b < w.heap.size) (hn : ¬ S b) : w'.frozen? ⟨b, o, none⟩ = w.frozen? ⟨b, o, none⟩ :=
  World.frozen?_of_block (w := w) (a := ⟨b, o, none⟩) (h.block b hb hn)
theorem RowsAt.chg {w w' : World} {A : Option Addr} {size n : Nat} {f : Nat → Nat → Value} {S : Nat → Prop} (h : RowsAt w A size n f) (hc : Chg w w' S) (hS : ∀ g o, A = some ⟨g, o, none⟩ → ¬ S g) : RowsAt w' A size n f := fun hn => by
  obtain ⟨b, off, hA, hb, hr⟩ := h hn
  exact ⟨b, off, hA, Nat.lt_of_lt_of_le hb hc.size, fun i j hi hj => (hc.cell hb (hS b off hA)).trans (hr i j hi hj)⟩
/-- a slice that is held: n elements of size cells, those cells; what lies behind them may be written -/
structure Sl (w : World) (size : Nat) (v : Value) (n : Nat) (cs : List Value) : Prop where
  len : cs.length = n * size
  val : (v = .slice none 0 0 ∧ n = 0) ∨ ∃ g off cap, v = .slice (some ⟨g, off, none⟩) n cap ∧ g < w.heap.size ∧ n ≤ cap ∧ cap ≤ maxLen ∧ (∀ j, j < n * size → w.cell? ⟨g, off + j, none⟩ = cs[j]?) ∧
    (∀ j, j < cap * size → (w.cell? ⟨g, off + j, none⟩).isSome = true ∧ w.frozen? ⟨g, off + j, none⟩ = false)
theorem Sl.nil (w : World) (size : Nat) : Sl w size (.slice none 0 0) 0 [] := ⟨by simp, .inl ⟨rfl, rfl⟩⟩
theorem Sl.lt {w : World} {size : Nat} {v : Value} {n : Nat} {cs : List Value} (h : Sl w size v n cs) : ∀ g, v.ownBlock = some g → g < w.heap.size := by
  intro g hg
  rcases h.val with ⟨rfl, _⟩ | ⟨g', off, cap, rfl, hl, _⟩
  · cases hg
  · simp [Value.ownBlock] at hg
    omega
theorem Sl.keep {w w' : World} {size : Nat} {v : Value} {n : Nat} {cs : List Value} (h : Sl w size v n cs) (hs : w.heap.size ≤ w'.heap.size) (hb : ∀ g, v.ownBlock = some g → w'.heap[g]? = w.heap[g]?) : Sl w' size v n cs := by
  refine ⟨h.len, ?_⟩
  rcases h.val with h1 | ⟨g, off, cap, rfl, hl, hc, hm, h1, h2⟩
  · exact .inl h1
  · have e := hb g rfl
    exact .inr ⟨g, off, cap, rfl, Nat.lt_of_lt_of_le hl hs, hc, hm, fun j hj => (World.cell?_of_block (w := w) (a := ⟨g, off + j, none⟩) e).trans (h1 j hj), fun j hj => by
      rw [World.cell?_of_block (w := w) (a := ⟨g, off + j, none⟩) e, World.frozen?_of_block (w := w) (a := ⟨g, off + j, none⟩) e]; exact h2 j hj⟩
theorem Sl.chg {w w' : World} {size : Nat} {v : Value} {n : Nat} {cs : List Value} {S : Nat → Prop} (h : Sl w size v n cs) (hc : Chg w w' S) (hn : ∀ g, v.ownBlock = some g → ¬ S g) : Sl w' size v n cs :=
  h.keep hc.size fun g hg => hc.block g (h.lt g hg) (hn g hg)
theorem Sl.plus {w : World} {size : Nat} {v : Value} {n : Nat} {cs : List Value} (h : Sl w size v n cs) (e : Ext) : Sl (w.plus e) size v n cs := h.chg (Chg.of_plus w e fun _ => False) (fun _ _ h => h)
theorem Sl.shape {w : World} {size : Nat} {v : Value} {n : Nat} {cs : List Value} (h : Sl w size v n cs) : ∃ A c, v = .slice A n c := by
  rcases h.val with ⟨rfl, rfl⟩ | ⟨g, off, cap, rfl, _⟩
  · exact ⟨_, _, rfl⟩
  · exact ⟨_, _, rfl⟩
theorem Sl.rows {w : World} {size : Nat} {v : Value} {n : Nat} {cs : List Value} (h : Sl w size v n cs) {A : Option Addr} {c : Nat} (hv : v = .slice A n c) (f : Nat → Nat → Value) (hf : ∀ i j, i < n → j < size → cs[i * size + j]? = some (f i j)) : RowsAt w A size n f := fun hn => by
  rcases h.val with ⟨rfl, h0⟩ | ⟨g, off, cap, rfl, hl, hc, hm, h1, h2⟩
  · omega
  · cases hv
    refine ⟨g, off, rfl, hl, fun i j hi hj => ?_⟩
    have hlt : i * size + j < n * size := by
      have : (i + 1) * size ≤ n * size := Nat.mul_le_mul_right _ hi
      rw [Nat.add_mul, Nat.one_mul] at this
      omega
    rw [h1 _ hlt, hf i j hi hj]
/-- a slice's value between two of its places, as the model has it -/
theorem Sl.cut {w : World} {size : Nat} {n : Nat} {cs : List Value} {g off cap : Nat} (h : Sl w size (.slice (some ⟨g, off, none⟩) n cap) n cs) (k off' cap' : Nat) (hk : k ≤ n) (hoff : (k < n ∨ 0 < cap') → off' = off + k * size) (hcap : n - k ≤ cap' ∧ k + cap' ≤ cap) :
    Sl w size (.slice (some ⟨g, off', none⟩) (n - k) cap') (n - k) (cs.drop (k * size)) := by
  refine ⟨by rw [List.length_drop, h.len, Nat.sub_mul], ?_⟩
  rcases h.val with ⟨he, _⟩ | ⟨g', off0, cap0, he, hl, hc, hm, h1, h2⟩
  · cases he
  · cases he
    refine .inr ⟨g, off', cap', rfl, hl, hcap.1, by omega, fun j hj => ?_, fun j hj => ?_⟩
    · have hkn : k < n := by
        rcases Nat.lt_or_ge k n with h | h
        · exact h
        · rw [Nat.sub_eq_zero_of_le h, Nat.zero_mul] at hj; omega
      have hjl : k * size + j < n * size := by rw [Nat.sub_mul] at hj; omega
      rw [hoff (.inl hkn), Nat.add_assoc, h1 _ hjl, List.getElem?_drop]
    · have hc0 : 0 < cap' := by
        rcases Nat.eq_zero_or_pos cap' with h | h
        · rw [h, Nat.zero_mul] at hj; omega
        · exact h
      have hjl : k * size + j < cap * size := by
        have : (k + cap') * size ≤ cap * size := Nat.mul_le_mul_right _ hcap.2
        rw [Nat.add_mul] at this
        omega
      rw [hoff (.inr hc0), Nat.add_assoc]
      exact h2 _ hjl
section
variable {P : Program}
theorem run_append_sl (t tx ty e : TypeId) (i : TypeInfo) (z : Value) (size bytes : Nat) (ht : P.underlying t = some (.slice e)) (hi : P.info? e = some i) (hz : i.zero = some z) (hsize : i.size = size) (hby : i.bytes = bytes) (hzs : z.cells.size = size)
    {w : World} {v : Value} {n : Nat} {cs : List Value} (h : Sl w size v n cs) {x : Value} {m : Nat} {news : List Value} (hs : Src P size tx x m news w) (h63 : n + m ≤ maxLen) (hbytes : (n + m) * bytes ≤ 140737488355328) :
    ∃ A c w', (Builtin.append_ #[t, tx] ty #[v, x]).run P w = .ok (.slice A (n + m) c) w' ∧ Sl w' size (.slice A (n + m) c) (n + m) (cs ++ news) ∧ Chg w w' (fun k => v.ownBlock = some k) ∧
      ((Value.slice A (n + m) c).ownBlock = v.ownBlock ∨ (Value.slice A (n + m) c).ownBlock = some w.heap.size) ∧ (m = 0 → Value.slice A (n + m) c = v) := by
  subst hsize hby
  have hcl := h.len
  have hnl := hs.newsLen
  have hL : (cs ++ news).length = (n + m) * i.size := by rw [List.length_append, hcl, hnl, Nat.add_mul]
  have hsmall : n + m ≤ 9223372036854775807 := by simp only [maxLen] at h63; omega
  have grow : ∀ (bs : Option Addr) (sc : Nat), v = .slice bs n sc → sc < n + m → (Builtin.firstCells i.size n (.slice bs n sc)).run P w.drew = .ok cs.toArray w.drew →
      ∃ A c w', (Builtin.append_ #[t, tx] ty #[v, x]).run P w = .ok (.slice A (n + m) c) w' ∧ Sl w' i.size (.slice A (n + m) c) (n + m) (cs ++ news) ∧ Chg w w' (fun k => v.ownBlock = some k) ∧
        ((Value.slice A (n + m) c).ownBlock = v.ownBlock ∨ (Value.slice A (n + m) c).ownBlock = some w.heap.size) ∧ (m = 0 → Value.slice A (n + m) c = v) := by
    rintro bs sc rfl hg hold
    have hrun := run_append_grow_src (P := P) w t tx ty e i z ht hi hz bs n sc cs hold x m news hs hg (by omega) (growslice_fits hg hbytes)
    have hge := grownCap_ge w (n + m) sc e
    have hcm := grownCap_le_maxLen w (n + m) sc e h63
    have hcell : ∀ j, (w.drew.alloc (.cells ((cs ++ news).toArray ++ Builtin.zeroCells z.cells (grownCap w (n + m) sc e - (n + m))) e)).cell? ⟨w.heap.size, j, none⟩ = ((cs ++ news).toArray ++ Builtin.zeroCells z.cells (grownCap w (n + m) sc e - (n + m)))[j]? := fun j => World.cell?_alloc_new w.drew _ _ j
    refine ⟨_, _, _, hrun, ⟨hL, .inr ⟨w.heap.size, 0, _, rfl, by rw [World.size_alloc]; exact Nat.lt_succ_self _, hge, hcm, fun j hj => ?_, fun j hj => ⟨?_, ?_⟩⟩⟩, (Chg.of_drew w _).alloc _, .inr rfl, fun h0 => ?_⟩
    · rw [Nat.zero_add, hcell, Array.getElem?_append_left (by simp only [List.size_toArray]; rw [hL]; exact hj), List.getElem?_toArray]
    · have hsz : ((cs ++ news).toArray ++ Builtin.zeroCells z.cells (grownCap w (n + m) sc e - (n + m))).size = grownCap w (n + m) sc e * i.size := by
        rw [Array.size_append, List.size_toArray, hL, size_zeroCells, hzs, ← Nat.add_mul]
        congr 1
        omega
      rw [Nat.zero_add, hcell, Array.getElem?_eq_getElem (by rw [hsz]; exact hj)]
      rfl
    · exact World.frozen?_alloc_new w.drew _ _ _
    · subst h0
      rcases h.val with ⟨he, h1⟩ | ⟨g, off, cap, he, hl, hc, _⟩
      · cases he; omega
      · cases he; omega
  rcases h.val with ⟨rfl, rfl⟩ | ⟨g, off, cap, rfl, hl, hc, hm, h1, h2⟩
  · obtain rfl : cs = [] := List.eq_nil_of_length_eq_zero (by simpa using hcl)
    by_cases hm0 : m = 0
    · subst hm0
      obtain rfl : news = [] := List.eq_nil_of_length_eq_zero (by simpa using hnl)
      refine ⟨none, 0, w, run_append_nothing (P := P) w t tx ty e i ht hi none 0 0 (Nat.le_refl _) x hs, Sl.nil w i.size, Chg.refl w _, .inl rfl, fun _ => rfl⟩
    · exact grow none 0 rfl (by omega) (run_firstCells_none (P := P) w.drew i.size 0 0 0)
  · by_cases hroom : n + m ≤ cap
    · have hfit : n * i.size + news.length ≤ cap * i.size := by rw [hnl, ← Nat.add_mul]; exact Nat.mul_le_mul_right _ hroom
      have hsome : ∀ j, j < news.length → (w.cell? ⟨g, off + n * i.size + j, none⟩).isSome = true := fun j hj => by
        rw [Nat.add_assoc]; exact (h2 _ (by omega)).1
      have hrun := run_append_room_src (P := P) w t tx ty e i ht hi g off n cap x m news hs hroom hsome (fun j hj => by rw [Nat.add_assoc]; exact (h2 _ (by omega)).2)
      refine ⟨_, _, _, hrun, ⟨hL, .inr ⟨g, off, cap, rfl, ?_, hroom, hm, fun j hj => ?_, fun j hj => ⟨?_, ?_⟩⟩⟩, ?_, .inl rfl, fun h0 => by subst h0; rfl⟩
      · exact Nat.lt_of_lt_of_le hl (World.keptBut_setCells g (may := fun _ => True) news (off + n * i.size) w (fun _ _ => trivial)).size
      · by_cases hj2 : j < n * i.size
        · rw [World.cell?_setCells_out g _ _ _ _ (fun _ _ => Or.inl (by show off + j < off + n * i.size; omega)), h1 j hj2, List.getElem?_append_left (by omega)]
        · have hj3 : j - n * i.size < news.length := by rw [hnl]; rw [Nat.add_mul] at hj; omega
          have := World.cell?_setCells_in g news (off + n * i.size) w hsome (j - n * i.size) hj3
          rw [show off + n * i.size + (j - n * i.size) = off + j by omega] at this
          rw [this, List.getElem?_append_right (by omega), hcl, List.getElem?_eq_getElem hj3]
      · by_cases hj2 : off + n * i.size ≤ off + j ∧ off + j < off + n * i.size + news.length
        · have hj3 : j - n * i.size < news.length := by omega
          have := World.cell?_setCells_in g news (off + n * i.size) w hsome (j - n * i.size) hj3
          rw [show off + n * i.size + (j - n * i.size) = off + j by omega] at this
          rw [this]
          rfl
        · rw [World.cell?_setCells_out g _ _ _ _ (fun _ _ => by show off + j < off + n * i.size ∨ off + n * i.size + news.length ≤ off + j; omega)]
          exact (h2 j hj).1
      · rw [World.frozen?_setCells]
        exact (h2 j hj).2
      · have hch : ∀ (vs : List Value) (o : Nat) (w : World), Chg w (w.setCells g o vs) (fun k => k = g) := by
          intro vs
          induction vs with
          | nil => intro o w; exact Chg.refl _ _
          | cons v r ih => intro o w; exact (Chg.of_setCell w ⟨g, o, none⟩ v (fun k => k = g) rfl).trans (ih (o + 1) _) fun _ h _ => h
        exact (hch news _ w).mono fun k hk => by subst hk; rfl
    · refine grow _ cap rfl (by omega) ?_
      refine run_firstCells_some (P := P) w.drew i.size n ⟨g, off, none⟩ n cap cs hcl (fun j u hu => ?_)
      have hj : j < n * i.size := by
        rw [← hcl]
        exact (List.getElem?_eq_some_iff.1 hu).1
      rw [Addr.add_lit, World.cell?_drew, h1 j hj, hu]
theorem wpList_append_sl {w : World} {ops : Array Oper} {rest : List Oper} {o : Oper} {a : Act} {Q : Exit → Act → World → Prop} (hgd : o.guard = none) (s x : Operand) (t tx : TypeId)
    (ho : o.op = .call { callee := .builtin .append, args := #[s, x], argTypes := #[t, tx] })
    (e : TypeId) (i : TypeInfo) (z : Value) (size bytes : Nat) (ht : P.underlying t = some (.slice e)) (hi : P.info? e = some i) (hz : i.zero = some z) (hsize : i.size = size) (hby : i.bytes = bytes) (hzs : z.cells.size = size)
    {v : Value} {n : Nat} {cs : List Value} (hs : a.eval s = v) (h : Sl w size v n cs) {xv : Value} {m : Nat} {news : List Value} (hx : a.eval x = xv) (hsrc : Src P size tx xv m news w) (h63 : n + m ≤ maxLen) (hbytes : (n + m) * bytes ≤ 140737488355328)
    (k : ∀ A c w', Sl w' size (.slice A (n + m) c) (n + m) (cs ++ news) → Chg w w' (fun k => v.ownBlock = some k) → ((Value.slice A (n + m) c).ownBlock = v.ownBlock ∨ (Value.slice A (n + m) c).ownBlock = some w.heap.size) →
      (m = 0 → Value.slice A (n + m) c = v) → wpList P ops Q rest (a.put o.dst (.slice A (n + m) c)) w') : wpList P ops Q (o :: rest) a w :=
  wpList_plain hgd fun K hK => by
    obtain ⟨A, c, w', hr, h2, h3, h4, h5⟩ := run_append_sl (P := P) t tx o.type e i z size bytes ht hi hz hsize hby hzs h hsrc h63 hbytes
    unfold Oper.wp execOp
    simp only [ho, resolve, invoke, builtin, Sem.run_bind, Sem.run_pure, Result.andThen_ok, List.map_toArray, List.map_cons, List.map_nil, hs, hx, hr]
    exact hK _ _ (k A c w' h2 h3 h4 h5)
end
end Go
-- Heap
/- Assertions on worlds, each with the blocks that it leans on, side by side: plain laws. -/
set_option linter.unusedSimpArgs false
set_option linter.unusedVariables false
namespace Go
open Go.RowKit
/-- an assertion on a world, and the blocks that it leans on -/
structure Asn where
  holds : World → (Nat → Prop) → Prop
  keep : ∀ w w' S, holds w S → w.heap.size ≤ w'.heap.size → (∀ k, S k → w'.heap[k]? = w.heap[k]?) → holds w' S
  inb : ∀ w S, holds w S → ∀ k, S k → k < w.heap.size
/-- assertions side by side -/
def SepL (w : World) : List Asn → (Nat → Prop) → Prop
  | [], S => ∀ k, ¬ S k
  | P :: l, S => ∃ A B, P.holds w A ∧ SepL w l B ∧ (∀ k, A k → ¬ B k) ∧ ∀ k, S k ↔ A k ∨ B k
theorem SepL.keep {w w' : World} : ∀ {l : List Asn} {S : Nat → Prop}, SepL w l S → w.heap.size ≤ w'.heap.size → (∀ k, S k → w'.heap[k]? = w.heap[k]?) → SepL w' l S
  | [], S, h, _, _ => h
  | P :: l, S, ⟨A, B, h1, h2, h3, h4⟩, hs, hk => ⟨A, B, P.keep w w' A h1 hs fun k a => hk k ((h4 k).2 (.inl a)), SepL.keep h2 hs fun k b => hk k ((h4 k).2 (.inr b)), h3, h4⟩
theorem SepL.inb {w : World} : ∀ {l : List Asn} {S : Nat → Prop}, SepL w l S → ∀ k, S k → k < w.heap.size
  | [], S, h, k, hk => absurd hk (h k)
  | P :: l, S, ⟨A, B, h1, h2, h3, h4⟩, k, hk => ((h4 k).1 hk).elim (P.inb w A h1 k) (SepL.inb h2 k)
theorem SepL.perm {w : World} {l l' : List Asn} (p : l.Perm l') : ∀ {S : Nat → Prop}, SepL w l S → SepL w l' S := by
  induction p with
  | nil => exact fun h => h
  | cons P _ ih => intro S ⟨A, B, h1, h2, h3, h4⟩; exact ⟨A, B, h1, ih h2, h3, h4⟩
  | swap P Q l =>
    intro S ⟨A, B, h1, ⟨C, D, g1, g2, g3, g4⟩, h3, h4⟩
    refine ⟨C, fun k => A k ∨ D k, g1, ⟨A, D, h1, g2, fun k a d => h3 k a ((g4 k).2 (.inr d)), fun k => Iff.rfl⟩, fun k c ad => ad.elim (fun a => h3 k a ((g4 k).2 (.inl c))) (g3 k c), fun k => ?_⟩
    rw [h4, g4]
    constructor
    · rintro (h | h | h)
      · exact .inr (.inl h)
      · exact .inl h
      · exact .inr (.inr h)
    · rintro (h | h | h)
      · exact .inr (.inl h)
      · exact .inl h
      · exact .inr (.inr h)
  | trans _ _ ih1 ih2 => exact fun h => ih2 (ih1 h)
/-- what a world that has grown out of W holds in blocks behind those of W -/
def Own (W wx : World) (l : List Asn) : Prop := W.Plus wx ∧ ∃ S, SepL wx l S ∧ ∀ k, S k → W.heap.size ≤ k
section
variable {W wx w' : World} {P P' Q : Asn} {l l' : List Asn}
theorem Own.p (h : Own W wx l) : W.Plus wx := h.1
theorem Own.perm (h : Own W wx l) (p : l.Perm l') : Own W wx l' := by
  obtain ⟨hp, S, h1, h2⟩ := h
  exact ⟨hp, S, h1.perm p, h2⟩
theorem Own.nil (h : W.Plus wx) : Own W wx [] := ⟨h, fun _ => False, fun _ h => h, fun _ h => h.elim⟩
theorem Own.start (W : World) : Own W W [] := Own.nil (Plus.refl W)
theorem Own.rot1 (h : Own W wx (P :: Q :: l)) : Own W wx (Q :: P :: l) := h.perm (List.Perm.swap _ _ _)
theorem Own.rot2 {R : Asn} (h : Own W wx (P :: Q :: R :: l)) : Own W wx (R :: P :: Q :: l) := h.perm ((List.Perm.cons P (List.Perm.swap _ _ _)).trans (List.Perm.swap _ _ _))
theorem Own.drop (h : Own W wx (P :: l)) : Own W wx l := by
  obtain ⟨hp, S, ⟨A, B, h1, h2, h3, h4⟩, hS⟩ := h
  exact ⟨hp, B, h2, fun k b => hS k ((h4 k).2 (.inr b))⟩
theorem Own.chg {T : Nat → Prop} (h : Own W wx l) (hc : Chg wx w' T) (hT : ∀ k, T k → W.heap.size ≤ k) (hl : ∀ S, SepL wx l S → ∀ k, S k → ¬ T k) : Own W w' l := by
  obtain ⟨hp, S, h1, h2⟩ := h
  exact ⟨hc.toPlus hp hT, S, h1.keep hc.size fun k hk => hc.block k (h1.inb k hk) (hl S h1 k hk), h2⟩
theorem Own.grow (h : Own W wx l) (hc : Chg wx w' fun _ => False) : Own W w' l := h.chg hc (fun _ h => h.elim) (fun _ _ _ _ h => h)
theorem Own.alloc (h : Own W wx l) (o : Obj) : Own W (wx.alloc o) l := h.grow (Chg.of_alloc wx o _)
theorem Own.plus (h : Own W wx l) (x : Ext) : Own W (wx.plus x) l := h.grow (Chg.of_plus wx x _)
theorem Own.drew (h : Own W wx l) : Own W wx.drew l := h.grow (Chg.of_drew wx _)
/-- a step that changes the first assertion's blocks alone -/
theorem Own.step {A : Nat → Prop} (h : Own W wx (P :: l)) (hstep : ∀ A, P.holds wx A → ∃ A', Chg wx w' A ∧ P'.holds w' A' ∧ ∀ k, A' k → Grown A wx w' k) : Own W w' (P' :: l) := by
  obtain ⟨hp, S, ⟨A, B, h1, h2, h3, h4⟩, hS⟩ := h
  obtain ⟨A', hc, hA, hsub⟩ := hstep A h1
  have hW := (Plus.below hp).size
  refine ⟨hc.toPlus hp (fun k a => hS k ((h4 k).2 (.inl a))), fun k => A' k ∨ B k, ⟨A', B, hA, h2.keep hc.size (fun k b => hc.block k (h2.inb k b) (fun a => h3 k a b)), fun k a b => ?_, fun k => Iff.rfl⟩, fun k hk => ?_⟩
  · exact (hsub k a).elim (fun a => h3 k a b) (fun n => by have := h2.inb k b; omega)
  · exact hk.elim (fun a => (hsub k a).elim (fun a => hS k ((h4 k).2 (.inl a))) (fun n => by omega)) (fun b => hS k ((h4 k).2 (.inr b)))
/-- the same of a call -/
theorem Own.call {Pr : Program} {f : FuncId} {args : Array Value} {Z : Ending → World → Prop} {X : Ending → World → Asn → Prop} (h : Own W wx (P :: l))
    (k : ∀ A, P.holds wx A → Calls Pr f args wx fun e w' => ∃ P' A', X e w' P' ∧ Chg wx w' A ∧ P'.holds w' A' ∧ ∀ k, A' k → Grown A wx w' k)
    (hz : ∀ e w' P', X e w' P' → Own W w' (P' :: l) → Z e w') : Calls Pr f args wx Z := by
  obtain ⟨hp, S, ⟨A, B, h1, h2, h3, h4⟩, hS⟩ := h
  refine (k A h1).mono fun e w' ⟨P', A', hx, hc, hA, hsub⟩ => hz e w' P' hx ?_
  have hW := (Plus.below hp).size
  refine ⟨hc.toPlus hp (fun k a => hS k ((h4 k).2 (.inl a))), fun k => A' k ∨ B k, ⟨A', B, hA, h2.keep hc.size (fun k b => hc.block k (h2.inb k b) (fun a => h3 k a b)), fun k a b => ?_, fun k => Iff.rfl⟩, fun k hk => ?_⟩
  · exact (hsub k a).elim (fun a => h3 k a b) (fun n => by have := h2.inb k b; omega)
  · exact hk.elim (fun a => (hsub k a).elim (fun a => hS k ((h4 k).2 (.inl a))) (fun n => by omega)) (fun b => hS k ((h4 k).2 (.inr b)))
/-- new blocks hold an assertion -/
theorem Own.add (h : Own W wx l) (hc : Chg wx w' fun _ => False) {A : Nat → Prop} (hA : Q.holds w' A) (hn : ∀ k, A k → wx.heap.size ≤ k) : Own W w' (Q :: l) := by
  obtain ⟨hp, S, h1, h2⟩ := h
  have hW := (Plus.below hp).size
  refine ⟨hc.toPlus hp (fun _ h => h.elim), fun k => A k ∨ S k, ⟨A, S, hA, h1.keep hc.size (fun k b => hc.block k (h1.inb k b) (fun h => h)), fun k a b => ?_, fun k => Iff.rfl⟩, fun k hk => ?_⟩
  · have := hn k a; have := h1.inb k b; omega
  · exact hk.elim (fun a => by have := hn k a; omega) (h2 k)
/-- the first assertion falls into two, or turns into another one on the same blocks -/
theorem Own.conv (h : Own W wx (P :: l)) (hc : ∀ A, P.holds wx A → SepL wx l' A) : Own W wx (l' ++ l) := by
  obtain ⟨hp, S, ⟨A, B, h1, h2, h3, h4⟩, hS⟩ := h
  have key : ∀ (l' : List Asn) (A : Nat → Prop), SepL wx l' A → (∀ k, A k → ¬ B k) → SepL wx (l' ++ l) (fun k => A k ∨ B k) := by
    intro l'
    induction l' with
    | nil =>
      intro A hA _
      have e : (fun k => A k ∨ B k) = B := funext fun k => propext ⟨fun h => h.elim (fun a => absurd a (hA k)) id, .inr⟩
      rw [e]
      exact h2
    | cons R r ih =>
      intro A ⟨C, D, g1, g2, g3, g4⟩ hd
      refine ⟨C, fun k => D k ∨ B k, g1, ih D g2 (fun k d => hd k ((g4 k).2 (.inr d))), fun k c x => x.elim (g3 k c) (hd k ((g4 k).2 (.inl c))), fun k => ?_⟩
      show A k ∨ B k ↔ _
      rw [g4]
      exact or_assoc
  refine ⟨hp, _, key l' A (hc A h1) h3, fun k hk => hS k ((h4 k).2 hk)⟩
theorem Own.get (h : Own W wx (P :: l)) : ∃ A, P.holds wx A ∧ ∀ k, A k → W.heap.size ≤ k := by
  obtain ⟨hp, S, ⟨A, B, h1, h2, h3, h4⟩, hS⟩ := h
  exact ⟨A, h1, fun k a => hS k ((h4 k).2 (.inl a))⟩
theorem Own.at {i : Nat} (h : Own W wx l) (hi : l[i]? = some P) : ∃ A, P.holds wx A ∧ ∀ k, A k → W.heap.size ≤ k := by
  induction l generalizing i with
  | nil => simp at hi
  | cons R r ih =>
    cases i with
    | zero => cases hi; exact h.get
    | succ i => exact ih h.drop hi
theorem Chg.of_setCells (g : Nat) (vs : List Value) (o : Nat) (w : World) : Chg w (w.setCells g o vs) (fun k => k = g) := by
  induction vs generalizing o w with
  | nil => exact Chg.refl _ _
  | cons v r ih => exact (Chg.of_setCell w ⟨g, o, none⟩ v (fun k => k = g) rfl).trans (ih (o + 1) _) fun _ h _ => h
end
/-- a block of cells that may be written -/
def cellsA (n : Nat) (cs : List Value) : Asn where
  holds w S := (∀ k, S k ↔ k = n) ∧ n < w.heap.size ∧ (∀ i, i < cs.length → w.cell? ⟨n, i, none⟩ = cs[i]?) ∧ ∀ i, w.frozen? ⟨n, i, none⟩ = false
  keep w w' S h hs hk := by
    have e := hk n ((h.1 n).2 rfl)
    exact ⟨h.1, by have := h.2.1; omega, fun i hi => (World.cell?_of_block (w := w) (a := ⟨n, i, none⟩) e).trans (h.2.2.1 i hi), fun i => (World.frozen?_of_block (w := w) (a := ⟨n, i, none⟩) e).trans (h.2.2.2 i)⟩
  inb w S h k hk := by rw [(h.1 k).1 hk]; exact h.2.1
/-- a slice that is held -/
def slA (size : Nat) (v : Value) (n : Nat) (cs : List Value) : Asn where
  holds w S := (∀ k, S k ↔ v.ownBlock = some k) ∧ Sl w size v n cs
  keep w w' S h hs hk := ⟨h.1, h.2.keep hs fun g hg => hk g ((h.1 g).2 hg)⟩
  inb w S h k hk := h.2.lt k ((h.1 k).1 hk)
/-- a fact -/
def factA (p : Prop) : Asn where
  holds w S := (∀ k, ¬ S k) ∧ p
  keep w w' S h _ _ := h
  inb w S h k hk := absurd hk (h.1 k)
section
variable {W wx w' : World} {P P' Q : Asn} {l l' : List Asn}
theorem Own.newCells (h : Own W wx l) (cs : List Value) (t : TypeId) : Own W (wx.alloc (.cells cs.toArray t)) (cellsA wx.heap.size cs :: l) :=
  h.add (Chg.of_alloc wx _ _) (Q := cellsA wx.heap.size cs) (A := fun k => k = wx.heap.size)
    ⟨fun k => Iff.rfl, by simp, fun i hi => by rw [World.cell?_alloc_new]; simp, fun i => World.frozen?_alloc_new _ _ _ _⟩ (fun k hk => by omega)
theorem Own.setCell {n i : Nat} {cs : List Value} {v : Value} (h : Own W wx (cellsA n cs :: l)) (hi : i < cs.length) : Own W (wx.setCell ⟨n, i, none⟩ v) (cellsA n (cs.set i v) :: l) :=
  Own.step (A := fun _ => False) h fun A ⟨h1, h2, h3, h4⟩ => by
    refine ⟨A, Chg.of_setCell wx ⟨n, i, none⟩ v A ((h1 n).2 rfl), ⟨h1, by rw [World.size_setCell]; exact h2, fun j hj => ?_, fun j => ?_⟩, fun k a => .inl a⟩
    · rw [List.length_set] at hj
      rcases Nat.decEq i j with hij | hij
      · rw [List.getElem?_set_ne hij, World.cell?_setCell_other _ _ _ _ (by intro e; cases e; exact hij rfl)]
        exact h3 j hj
      · subst hij
        rw [List.getElem?_set_self hi, World.cell?_setCell_same' _ _ _ (by rw [h3 i hi, List.getElem?_eq_getElem hi]; rfl)]
    · simp [go_sem, h4]
end
/-- some assertions as one -/
def bothA (l : List Asn) : Asn where
  holds w S := SepL w l S
  keep w w' S h hs hk := h.keep hs hk
  inb w S h := h.inb
theorem Own.both {W wx : World} {l' l : List Asn} (h : Own W wx (bothA l' :: l)) : Own W wx (l' ++ l) := h.conv fun A h => h
/-- what a call leaves -/
def OwnTo (W : World) (v : Value) (l : List Asn) (e : Ending) (w' : World) : Prop := e = .returned v ∧ Own W w' l
section
variable {W wx : World} {l : List Asn}
theorem Own.cells {n : Nat} {cs : List Value} (i : Nat) (h : Own W wx l) (hi : l[i]? = some (cellsA n cs)) : n < wx.heap.size ∧ (∀ j, j < cs.length → wx.cell? ⟨n, j, none⟩ = cs[j]?) ∧ ∀ j, wx.frozen? ⟨n, j, none⟩ = false := by
  obtain ⟨A, ⟨_, h1, h2, h3⟩, _⟩ := h.at hi
  exact ⟨h1, h2, h3⟩
theorem Own.cells_ge {n : Nat} {cs : List Value} (i : Nat) (h : Own W wx l) (hi : l[i]? = some (cellsA n cs)) : W.heap.size ≤ n := by
  obtain ⟨A, ⟨h0, _⟩, h1⟩ := h.at hi
  exact h1 n ((h0 n).2 rfl)
theorem Own.sl {size : Nat} {v : Value} {n : Nat} {cs : List Value} (i : Nat) (h : Own W wx l) (hi : l[i]? = some (slA size v n cs)) : Sl wx size v n cs := by
  obtain ⟨A, ⟨_, h1⟩, _⟩ := h.at hi
  exact h1
end
/-- the cells of a slice that is held -/
theorem Sl.cellsOf {w : World} {size : Nat} {A : Option Addr} {cap n : Nat} {cs : List Value} (h : Sl w size (.slice A n cap) n cs) (hn : 0 < n) : ∃ g o, A = some ⟨g, o, none⟩ ∧ g < w.heap.size ∧ ∀ j, j < n * size → w.cell? ⟨g, o + j, none⟩ = cs[j]? := by
  rcases h.val with ⟨_, h0⟩ | ⟨g, off, cap', he, hgl, _, _, hc, _⟩
  · omega
  · cases he
    exact ⟨g, off, rfl, hgl, hc⟩
/-- append to a slice that is held, among other assertions -/
theorem wpList_append_O {P : Program} {w : World} {ops : Array Oper} {rest : List Oper} {o : Oper} {a : Act} {Q : Exit → Act → World → Prop} (hgd : o.guard = none) (s x : Operand) (t tx : TypeId)
    (ho : o.op = .call { callee := .builtin .append, args := #[s, x], argTypes := #[t, tx] })
    (e : TypeId) (i : TypeInfo) (z : Value) (size bytes : Nat) (ht : P.underlying t = some (.slice e)) (hi : P.info? e = some i) (hz : i.zero = some z) (hsize : i.size = size) (hby : i.bytes = bytes) (hzs : z.cells.size = size)
    {W : World} {l : List Asn} {v : Value} {n : Nat} {cs : List Value} (hs : a.eval s = v) (h : Own W w (slA size v n cs :: l)) {xv : Value} {m : Nat} {news : List Value} (hx : a.eval x = xv) (hsrc : Src P size tx xv m news w) (h63 : n + m ≤ maxLen) (hbytes : (n + m) * bytes ≤ 140737488355328)
    (k : ∀ A c w', Own W w' (slA size (.slice A (n + m) c) (n + m) (cs ++ news) :: l) → wpList P ops Q rest (a.put o.dst (.slice A (n + m) c)) w') : wpList P ops Q (o :: rest) a w :=
  wpList_append_sl hgd s x t tx ho e i z size bytes ht hi hz hsize hby hzs hs (h.sl 0 rfl) hx hsrc h63 hbytes fun A c w' h2 h3 h4 h5 =>
    k A c w' (Own.step (A := fun _ => False) h fun B hB => by
      refine ⟨fun k => (Value.slice A (n + m) c).ownBlock = some k, h3.mono (fun k hk => (hB.1 k).2 hk), ⟨fun k => Iff.rfl, h2⟩, fun k hk => ?_⟩
      rcases h4 with h4 | h4
      · rw [h4] at hk; exact .inl ((hB.1 k).2 hk)
      · have := h2.lt k hk
        rw [h4] at hk
        cases hk
        exact .inr ⟨Nat.le_refl _, this⟩)
theorem SepL.split {w : World} : ∀ {l' l : List Asn} {S : Nat → Prop}, SepL w (l' ++ l) S → ∃ A B, SepL w l' A ∧ SepL w l B ∧ (∀ k, A k → ¬ B k) ∧ ∀ k, S k ↔ A k ∨ B k
  | [], l, S, h => ⟨fun _ => False, S, fun _ h => h, h, fun _ h => h.elim, fun k => by simp⟩
  | P :: r, l, S, ⟨A, B, h1, h2, h3, h4⟩ => by
    obtain ⟨C, D, g1, g2, g3, g4⟩ := SepL.split h2
    refine ⟨fun k => A k ∨ C k, D, ⟨A, C, h1, g1, fun k a c => h3 k a ((g4 k).2 (.inl c)), fun k => Iff.rfl⟩, g2, fun k ac d => ac.elim (fun a => h3 k a ((g4 k).2 (.inr d))) (fun c => g3 k c d), fun k => ?_⟩
    rw [h4, g4]
    exact or_assoc.symm
theorem Own.join {W wx : World} {l' l : List Asn} (h : Own W wx (l' ++ l)) : Own W wx (bothA l' :: l) := by
  obtain ⟨hp, S, h1, h2⟩ := h
  obtain ⟨A, B, g1, g2, g3, g4⟩ := h1.split
  exact ⟨hp, S, ⟨A, B, g1, g2, g3, g4⟩, h2⟩
/-- assertions with a value that is not told -/
def exA {α : Type} (F : α → List Asn) : Asn where
  holds w S := ∃ a, SepL w (F a) S
  keep w w' S h hs hk := by
    obtain ⟨a, h⟩ := h
    exact ⟨a, h.keep hs hk⟩
  inb w S h := by
    obtain ⟨a, h⟩ := h
    exact h.inb
theorem Own.ex {α : Type} {F : α → List Asn} {W wx : World} {l : List Asn} (h : Own W wx (exA F :: l)) : ∃ a, Own W wx (F a ++ l) := by
  obtain ⟨hp, S, ⟨A, B, ⟨a, h1⟩, h2, h3, h4⟩, hS⟩ := h
  exact ⟨a, Own.both ⟨hp, S, ⟨A, B, h1, h2, h3, h4⟩, hS⟩⟩
theorem Own.mk {α : Type} (F : α → List Asn) (a : α) {W wx : World} {l : List Asn} (h : Own W wx (F a ++ l)) : Own W wx (exA F :: l) := by
  obtain ⟨hp, S, ⟨A, B, h1, h2, h3, h4⟩, hS⟩ := h.join
  exact ⟨hp, S, ⟨A, B, ⟨a, h1⟩, h2, h3, h4⟩, hS⟩
/-- append at a step of a region that draws its order -/
theorem step_append_O {P : Program} {w : World} {ops : Array Oper} {o : Oper} {a : Act} {K : Act → World → Prop} {Q : Exit → Act → World → Prop} {E : Prop} (hgd : o.guard = none) (s x : Operand) (t tx : TypeId)
    (ho : o.op = .call { callee := .builtin .append, args := #[s, x], argTypes := #[t, tx] })
    (e : TypeId) (i : TypeInfo) (z : Value) (size bytes : Nat) (ht : P.underlying t = some (.slice e)) (hi : P.info? e = some i) (hz : i.zero = some z) (hsize : i.size = size) (hby : i.bytes = bytes) (hzs : z.cells.size = size)
    {W : World} {l : List Asn} {v : Value} {n : Nat} {cs : List Value} (hs : a.eval s = v) (h : Own W w (slA size v n cs :: l)) {xv : Value} {m : Nat} {news : List Value} (hx : a.eval x = xv) (hsrc : Src P size tx xv m news w) (h63 : n + m ≤ maxLen) (hbytes : (n + m) * bytes ≤ 140737488355328)
    (k : ∀ A c w', Own W w' (slA size (.slice A (n + m) c) (n + m) (cs ++ news) :: l) → K (a.put o.dst (.slice A (n + m) c)) w') :
    if Region.wanted o (yielded ops a.tmps) = true then Oper.wp P o a w K Q else E := by
  have hw : Region.wanted o (yielded ops a.tmps) = true := by simp [Region.wanted, hgd]
  rw [if_pos hw]
  obtain ⟨A, c, w', hr, h2, h3, h4, h5⟩ := run_append_sl (P := P) t tx o.type e i z size bytes ht hi hz hsize hby hzs (h.sl 0 rfl) hsrc h63 hbytes
  unfold Oper.wp execOp
  simp only [ho, resolve, invoke, builtin, Sem.run_bind, Sem.run_pure, Result.andThen_ok, List.map_toArray, List.map_cons, List.map_nil, hs, hx, hr]
  refine k A c w' (Own.step (A := fun _ => False) h fun B hB => ?_)
  refine ⟨fun k => (Value.slice A (n + m) c).ownBlock = some k, h3.mono (fun k hk => (hB.1 k).2 hk), ⟨fun k => Iff.rfl, h2⟩, fun k hk => ?_⟩
  rcases h4 with h4 | h4
  · rw [h4] at hk; exact .inl ((hB.1 k).2 hk)
  · have := h2.lt k hk
    rw [h4] at hk
    cases hk
    exact .inr ⟨Nat.le_refl _, this⟩
/-- the cells of a block, as a source for append -/
theorem Src.ofCells {P : Program} {size : Nat} {tx e : TypeId} (hk : P.underlying tx = some (.slice e)) (w : World) {n k : Nat} (cs : List Value) (hl : cs.length = k * size) (hc : ∀ j, j < cs.length → w.cell? ⟨n, j, none⟩ = cs[j]?) (h1 : ∀ u ∈ cs, u.oneCell' = true) (c : Nat) : Src P size tx (.slice (some ⟨n, 0, none⟩) k c) k cs w :=
  Src.ofSlice w hk ⟨n, 0, none⟩ k c cs hl (fun j u hj => by
    rw [Addr.add_lit, Nat.zero_add, hc j (List.getElem?_eq_some_iff.1 hj).1]
    exact hj) h1
theorem SepL.at {w : World} {l : List Asn} {S : Nat → Prop} {Q : Asn} (h : SepL w l S) (i : Nat) (hi : l[i]? = some Q) : ∃ A, Q.holds w A ∧ ∀ k, A k → S k := by
  induction l generalizing S i with
  | nil => simp at hi
  | cons R r ih =>
    obtain ⟨A, B, h1, h2, h3, h4⟩ := h
    cases i with
    | zero => cases hi; exact ⟨A, h1, fun k a => (h4 k).2 (.inl a)⟩
    | succ i =>
      obtain ⟨C, g1, g2⟩ := ih h2 i hi
      exact ⟨C, g1, fun k c => (h4 k).2 (.inr (g2 k c))⟩
/-- two blocks side by side are two -/
theorem Own.ne {W w : World} {l : List Asn} {n m : Nat} {cs ds : List Value} (i : Nat) (h : Own W w (cellsA n cs :: l)) (hi : l[i]? = some (cellsA m ds)) : n ≠ m := by
  obtain ⟨hp, S, ⟨A, B, h1, h2, h3, h4⟩, hS⟩ := h
  obtain ⟨C, g1, g2⟩ := h2.at i hi
  intro e
  exact h3 n ((h1.1 n).2 rfl) (g2 n ((g1.1 n).2 e))
theorem Own.ne_sl {W w : World} {l : List Asn} {n m size : Nat} {v : Value} {cs ds : List Value} (i : Nat) (h : Own W w (cellsA n cs :: l)) (hi : l[i]? = some (slA size v m ds)) : ∀ g, v.ownBlock = some g → n ≠ g := by
  obtain ⟨hp, S, ⟨A, B, h1, h2, h3, h4⟩, hS⟩ := h
  obtain ⟨C, g1, g2⟩ := h2.at i hi
  intro g hg e
  exact h3 n ((h1.1 n).2 rfl) (g2 n ((g1.1 n).2 (by rw [e]; exact hg)))
theorem perm_pull {α : Type} {l : List α} {x : α} : ∀ (i : Nat), l[i]? = some x → l.Perm (x :: l.eraseIdx i) := by
  induction l with
  | nil => intro i h; simp at h
  | cons a r ih =>
    intro i h
    cases i with
    | zero => simp at h; subst h; exact List.Perm.refl _
    | succ i => exact (List.Perm.cons a (ih i (by simpa using h))).trans (List.Perm.swap _ _ _)
theorem perm_push {α : Type} {l : List α} {x : α} : ∀ (i : Nat), i < l.length → (x :: l.eraseIdx i).Perm (l.set i x) := by
  induction l with
  | nil => intro i h; simp at h
  | cons a r ih =>
    intro i h
    cases i with
    | zero => exact List.Perm.refl _
    | succ i => exact (List.Perm.swap _ _ _).trans (List.Perm.cons a (ih i (by simpa using h)))
/-- the i-th assertion ahead of the others; and back to its place -/
theorem Own.pull {W wx : World} {l : List Asn} {P : Asn} (i : Nat) (h : Own W wx l) (hi : l[i]? = some P) : Own W wx (P :: l.eraseIdx i) := h.perm (perm_pull i hi)
theorem Own.push {W wx : World} {P : Asn} (l : List Asn) (i : Nat) (hi : i < l.length) (h : Own W wx (P :: l.eraseIdx i)) : Own W wx (l.set i P) := h.perm (perm_push i hi)
/-- a store into a cell of the i-th assertion's block -/
theorem Own.setCellAt {W wx : World} {l : List Asn} {n : Nat} {cs : List Value} (i j : Nat) (v : Value) (h : Own W wx l) (hi : l[i]? = some (cellsA n cs)) (hj : j < cs.length) : Own W (wx.setCell ⟨n, j, none⟩ v) (l.set i (cellsA n (cs.set j v))) :=
  Own.push l i (List.getElem?_eq_some_iff.1 hi).1 ((h.pull i hi).setCell hj)
/-- an assertion at the end -/
theorem Own.snoc {W wx : World} {l : List Asn} {P : Asn} (h : Own W wx (P :: l)) : Own W wx (l ++ [P]) := h.perm (List.perm_append_singleton P l).symm
end Go
-- Row
/- Rows of cells that are loaded and stored as one value: plain laws. -/
set_option linter.unusedSimpArgs false
set_option linter.unusedVariables false
namespace Go
open Go.RowKit
def rowD : TypeDesc → Bool
  | .struct _ | .array _ _ => true
  | _ => false
/-- a list, with other values from a place on -/
def setsL (cs : List Value) : Nat → List Value → List Value
  | _, [] => cs
  | o, v :: r => setsL (cs.set o v) (o + 1) r
theorem setsL_length (vs : List Value) : ∀ (cs : List Value) (o : Nat), (setsL cs o vs).length = cs.length := by
  induction vs with
  | nil => intro cs o; rfl
  | cons v r ih => intro cs o; show (setsL (cs.set o v) (o + 1) r).length = _; rw [ih, List.length_set]
section
variable {P : Program} {W w : World} {l : List Asn} {n : Nat} {cs : List Value}
theorem Own.setCells (vs : List Value) : ∀ {w : World} {cs : List Value} (o : Nat), Own W w (cellsA n cs :: l) → o + vs.length ≤ cs.length → Own W (w.setCells n o vs) (cellsA n (setsL cs o vs) :: l) := by
  induction vs with
  | nil => intro w cs o h _; exact h
  | cons v r ih =>
    intro w cs o h hl
    rw [List.length_cons] at hl
    exact ih (o + 1) (h.setCell (by omega)) (by rw [List.length_set]; omega)
theorem Own.setCellsAt (i o : Nat) (vs : List Value) (h : Own W w l) (hi : l[i]? = some (cellsA n cs)) (hl : o + vs.length ≤ cs.length) : Own W (w.setCells n o vs) (l.set i (cellsA n (setsL cs o vs))) :=
  Own.push l i (List.getElem?_eq_some_iff.1 hi).1 ((h.pull i hi).setCells vs o hl)
theorem run_loadVar_O (i o : Nat) (vs : List Value) (O : Own W w l) (hi : l[i]? = some (cellsA n cs)) (hl : o + vs.length ≤ cs.length) (hv : (cs.drop o).take vs.length = vs) {ty : TypeId} {d : TypeDesc} (hu : P.underlying ty = some d) (hd : rowD d = true) (hz : (P.info? ty).map (·.size) = some vs.length) :
    (loadVar ty ⟨n, o, none⟩).run P w = .ok (.agg vs.toArray) w := by
  obtain ⟨h1, h2, h3⟩ := O.cells i hi
  have hc : (loadCells ⟨n, o, none⟩ vs.length).run P w = .ok vs.toArray w :=
    run_loadCells_list (P := P) w ⟨n, o, none⟩ vs (fun j v hj => by
      have hjl := (List.getElem?_eq_some_iff.1 hj).1
      rw [Addr.add_lit, h2 (o + j) (by omega), ← List.getElem?_drop, ← hj, ← hv, List.getElem?_take, if_pos hjl])
  cases hq : P.info? ty with
  | none => simp [hq] at hz
  | some i' =>
    have hs : i'.size = vs.length := by simpa [hq] using hz
    have hagg : (isAgg ty).run P w = .ok true w := by
      unfold isAgg
      rw [Sem.run_bind, run_underlying hu w]
      cases d <;> simp_all [rowD]
    simp [loadVar, Sem.run_bind, hagg, sizeOf, typeInfo, hq, hs, hc]
theorem run_storeVar_O (i o : Nat) (x : Value) (vs : List Value) (hx : x.cells.toList = vs) (O : Own W w l) (hi : l[i]? = some (cellsA n cs)) (hl : o + vs.length ≤ cs.length) {ty : TypeId} (hz : (P.info? ty).map (·.size) = some vs.length) (h1 : vs.all (·.oneCell') = true) :
    (storeVar ty ⟨n, o, none⟩ x).run P w = .ok () (w.setCells n o vs) := by
  obtain ⟨_, h2, h3⟩ := O.cells i hi
  have hc := run_storeCells_cells (P := P) n o vs 0 w (fun j hj => by rw [Nat.add_zero, h2 (o + j) (by omega), List.getElem?_eq_getElem (by omega)]; rfl) (fun j hj => h3 _) (fun v hv => List.all_eq_true.1 h1 v hv)
  rw [Nat.add_zero] at hc
  cases hq : P.info? ty with
  | none => simp [hq] at hz
  | some i' =>
    have hs : i'.size = vs.length := by simpa [hq] using hz
    have hs2 : x.cells.size = vs.length := by rw [← hx, Array.length_toList]
    simp [storeVar, sizeOf, typeInfo, hq, hs, hs2, hx, hc]
/-- a row is loaded -/
theorem wpList_load_O {ops : Array Oper} {rest : List Oper} {op : Oper} {a : Act} {Q : Exit → Act → World → Prop} (ty : TypeId) (x : Operand) (ho : op.op = .load ty x) (hw : Region.wanted op (yielded ops a.tmps) = true)
    (i o : Nat) (vs : List Value) (O : Own W w l) (hi : l[i]? = some (cellsA n cs)) (hx : a.eval x = .pointer (some ⟨n, o, none⟩)) (hl : o + vs.length ≤ cs.length) (hv : (cs.drop o).take vs.length = vs) {d : TypeDesc} (hu : P.underlying ty = some d) (hd : rowD d = true) (hz : (P.info? ty).map (·.size) = some vs.length)
    (h : wpList P ops Q rest (a.put op.dst (.agg vs.toArray)) w) : wpList P ops Q (op :: rest) a w :=
  wpList_step fun K hK => by
    rw [if_pos hw]
    unfold Oper.wp execOp
    simp only [ho, hx, Instr.loadAt, Instr.sureAddr, Sem.run_bind, Sem.run_pure, Result.andThen_ok, run_loadVar_O i o vs O hi hl hv hu hd hz]
    exact hK _ _ h
/-- a row is stored -/
theorem wpList_store_O {ops : Array Oper} {rest : List Oper} {op : Oper} {a : Act} {Q : Exit → Act → World → Prop} (ty : TypeId) (x y : Operand) (ho : op.op = .store ty x y) (hdst : op.dst = none) (hw : Region.wanted op (yielded ops a.tmps) = true)
    (i o : Nat) (vs cs' : List Value) (O : Own W w l) (hi : l[i]? = some (cellsA n cs)) (hx : a.eval x = .pointer (some ⟨n, o, none⟩)) (hy : (a.eval y).cells.toList = vs) (hl : o + vs.length ≤ cs.length) (hcs : setsL cs o vs = cs') (hz : (P.info? ty).map (·.size) = some vs.length) (h1 : vs.all (·.oneCell') = true)
    (h : ∀ w', Own W w' (l.set i (cellsA n cs')) → wpList P ops Q rest a w') : wpList P ops Q (op :: rest) a w :=
  wpList_step fun K hK => by
    rw [if_pos hw]
    have O' := O.setCellsAt i o vs hi hl
    rw [hcs] at O'
    have k := h _ O'
    unfold Oper.wp execOp
    simp only [ho, hx, Instr.storeAt, Instr.sureAddr, Sem.run_bind, Sem.run_pure, Result.andThen_ok, run_storeVar_O (P := P) i o (a.eval y) vs hy O hi hl hz h1]
    have e : a.put op.dst undef = a := by rw [hdst]; rfl
    rw [← e] at k
    exact hK _ _ k
/-- a row is loaded in all worlds of a class -/
theorem quiet_load_O {C : World → Prop} {op : Oper} {a : Act} {K : Act → Prop} (ty : TypeId) (x : Operand) (ho : op.op = .load ty x)
    (i o : Nat) (vs : List Value) (O : ∀ w, C w → Own W w l) (hi : l[i]? = some (cellsA n cs)) (hx : a.eval x = .pointer (some ⟨n, o, none⟩)) (hl : o + vs.length ≤ cs.length) (hv : (cs.drop o).take vs.length = vs) {d : TypeDesc} (hu : P.underlying ty = some d) (hd : rowD d = true) (hz : (P.info? ty).map (·.size) = some vs.length)
    (hk : K (a.put op.dst (.agg vs.toArray))) : op.quiet P a C K :=
  ⟨_, fun w hw => by
    unfold Oper.quietAt execOp
    simp only [ho, hx, Instr.loadAt, Instr.sureAddr, Sem.run_bind, Sem.run_pure, Result.andThen_ok, run_loadVar_O i o vs (O w hw) hi hl hv hu hd hz]
    exact ⟨rfl, rfl⟩, hk⟩
/-- a result that lies in a row -/
theorem results_O {fn : Func} {p : Tmp} {ty : TypeId} (h : fn.results = #[.cell p ty]) (tmps : Array Value) (i : Nat) (O : Own W w l) (hi : l[i]? = some (cellsA n cs)) (hp : tmps.getD p undef = .pointer (some ⟨n, 0, none⟩)) {d : TypeDesc} (hu : P.underlying ty = some d) (hd : rowD d = true) (hz : (P.info? ty).map (·.size) = some cs.length) :
    (results fn tmps).run P w = .ok (.agg cs.toArray) w := by
  have hp' : tmps[p]?.getD undef = .pointer (some ⟨n, 0, none⟩) := by simpa using hp
  have hl := run_loadVar_O (P := P) i 0 cs O hi (by omega) (by simp) hu hd hz
  simp [results, h, hp', asAddr, hl]
end
end Go
-- Row2
/- Rows of known cells that are loaded: plain laws. -/
set_option linter.unusedSimpArgs false
set_option linter.unusedVariables false
namespace Go
open Go.RowKit
section
variable {P : Program} {w : World}
/-- a row of known cells is loaded -/
theorem run_loadVar_cells {g o : Nat} (vs : List Value) (hc : ∀ j v, vs[j]? = some v → w.cell? ⟨g, o + j, none⟩ = some v) {ty : TypeId} {d : TypeDesc} (hu : P.underlying ty = some d) (hd : rowD d = true) (hz : (P.info? ty).map (·.size) = some vs.length) :
    (loadVar ty ⟨g, o, none⟩).run P w = .ok (.agg vs.toArray) w := by
  have hl : (loadCells ⟨g, o, none⟩ vs.length).run P w = .ok vs.toArray w :=
    run_loadCells_list (P := P) w ⟨g, o, none⟩ vs (fun j v hj => by rw [Addr.add_lit]; exact hc j v hj)
  cases hq : P.info? ty with
  | none => simp [hq] at hz
  | some i' =>
    have hs : i'.size = vs.length := by simpa [hq] using hz
    have hagg : (isAgg ty).run P w = .ok true w := by
      unfold isAgg
      rw [Sem.run_bind, run_underlying hu w]
      cases d <;> simp_all [rowD]
    simp [loadVar, Sem.run_bind, hagg, sizeOf, typeInfo, hq, hs, hl]
theorem quiet_load_R {C : World → Prop} {op : Oper} {a : Act} {K : Act → Prop} (ty : TypeId) (x : Operand) (ho : op.op = .load ty x) {p : Addr} {v : Value} (hrow : ∀ w, C w → (loadVar ty p).run P w = .ok v w) (hx : a.eval x = .pointer (some p))
    (hk : K (a.put op.dst v)) : op.quiet P a C K :=
  ⟨_, fun w hw => by
    unfold Oper.quietAt execOp
    simp only [ho, hx, Instr.loadAt, Instr.sureAddr, Sem.run_bind, Sem.run_pure, Result.andThen_ok, hrow w hw]
    exact ⟨rfl, rfl⟩, hk⟩
theorem wpList_load_R {ops : Array Oper} {rest : List Oper} {op : Oper} {a : Act} {Q : Exit → Act → World → Prop} (ty : TypeId) (x : Operand) (ho : op.op = .load ty x) (hw : Region.wanted op (yielded ops a.tmps) = true) {p : Addr} {v : Value} (hrow : (loadVar ty p).run P w = .ok v w) (hx : a.eval x = .pointer (some p))
    (h : wpList P ops Q rest (a.put op.dst v) w) : wpList P ops Q (op :: rest) a w :=
  wpList_step fun K hK => by
    rw [if_pos hw]
    unfold Oper.wp execOp
    simp only [ho, hx, Instr.loadAt, Instr.sureAddr, Sem.run_bind, Sem.run_pure, Result.andThen_ok, hrow]
    exact hK _ _ h
end
end Go
