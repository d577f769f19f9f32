/- Worlds that only grow: a class of worlds for regions whose order is drawn, with or without a tail of stores. Plain theorems, no condition of the program's own. -/
import Derived.WalkKit
import Derived.WalkLawsBesides
import Derived.WalkSpells
import Derived.StillTail
import Derived.Deep.QuietTactic
import Derived.BigQuiet
import Derived.Lib.Hide
namespace Go
open Go.RowKit

/-- What a world has grown by: blocks, and the count of draws. -/
structure Ext where
  objs : Array Obj
  count : Nat
instance : Inhabited Ext := ⟨⟨#[], 0⟩⟩

/-- w, with blocks laid behind its own ones and with another count of draws. -/
def World.plus (w : World) (e : Ext) : World := { w with heap := w.heap ++ e.objs, drawn := e.count }

theorem World.plus_block (w : World) (e : Ext) {k : Nat} (h : k < w.heap.size) : (w.plus e).heap[k]? = w.heap[k]? := by
  show (w.heap ++ e.objs)[k]? = _
  rw [Array.getElem?_append_left h]
theorem World.plus_cell (w : World) (e : Ext) {p : Addr} (h : p.block < w.heap.size) : (w.plus e).cell? p = w.cell? p :=
  World.cell?_of_block (w := w) (w.plus_block e h)
/-- The number of a world's blocks, in the form in which the walk writes it. -/
class SizeN (w : World) (s : outParam Nat) : Prop where
  size : w.heap.size = s
instance (priority := low) SizeN.any (w : World) : SizeN w w.heap.size := ⟨rfl⟩
instance SizeN.alloc (w : World) (o : Obj) (s : Nat) [h : SizeN w s] : SizeN (w.alloc o) (s + 1) := ⟨by rw [World.size_alloc, h.size]⟩
theorem World.size_plus_eq (w : World) (e : Ext) : (w.plus e).heap.size = w.heap.size + e.objs.size := by simp [World.plus]
instance SizeN.plus (w : World) (e : Ext) (s : Nat) [h : SizeN w s] : SizeN (w.plus e) (s + e.objs.size) := ⟨by rw [World.size_plus_eq, h.size]⟩
instance SizeN.drew (w : World) (s : Nat) [h : SizeN w s] : SizeN w.drew s := ⟨h.size⟩
instance SizeN.setCell (w : World) (a : Addr) (v : Value) (s : Nat) [h : SizeN w s] : SizeN (w.setCell a v) s := ⟨by rw [World.size_setCell, h.size]⟩
/-- A block is there. -/
class InW (n : Nat) (w : World) : Prop where
  lt : n < w.heap.size
instance InW.new (w : World) (o : Obj) (n : Nat) [h : SizeN w n] : InW n (w.alloc o) := ⟨by rw [World.size_alloc, h.size]; omega⟩
instance InW.alloc (w : World) (o : Obj) (n : Nat) [h : InW n w] : InW n (w.alloc o) := ⟨by rw [World.size_alloc]; exact Nat.lt_succ_of_lt h.lt⟩
instance InW.plus (w : World) (e : Ext) (n : Nat) [h : InW n w] : InW n (w.plus e) := ⟨by rw [World.size_plus_eq]; exact Nat.lt_of_lt_of_le h.lt (Nat.le_add_right _ _)⟩
instance InW.drew (w : World) (n : Nat) [h : InW n w] : InW n w.drew := ⟨h.lt⟩
instance InW.setCell (w : World) (a : Addr) (v : Value) (n : Nat) [h : InW n w] : InW n (w.setCell a v) := ⟨by rw [World.size_setCell]; exact h.lt⟩

@[go_sem] theorem World.cell?_plus (w : World) (e : Ext) (n i : Nat) [h : InW n w] : (w.plus e).cell? ⟨n, i, none⟩ = w.cell? ⟨n, i, none⟩ := w.plus_cell e h.lt
@[go_sem] theorem World.frozen?_plus (w : World) (e : Ext) (n i : Nat) [h : InW n w] : (w.plus e).frozen? ⟨n, i, none⟩ = w.frozen? ⟨n, i, none⟩ :=
  World.frozen?_of_block (w := w) (a := ⟨n, i, none⟩) (w.plus_block e h.lt)
@[go_sem] theorem World.size_plus (w : World) (e : Ext) : (w.plus e).heap.size = w.heap.size + e.objs.size := w.size_plus_eq e
@[go_sem] theorem World.setCell_plus (w : World) (e : Ext) (n i : Nat) (v : Value) [hn : InW n w] : (w.plus e).setCell ⟨n, i, none⟩ v = (w.setCell ⟨n, i, none⟩ v).plus e := by
  have h := hn.lt
  simp only [World.setCell, World.plus]
  congr 1
  apply Array.ext_getElem?
  intro k
  by_cases hk : k < w.heap.size
  · rw [Array.getElem?_append_left (by simpa using hk), Array.getElem?_modify, Array.getElem?_modify, Array.getElem?_append_left hk]
  · rw [Array.getElem?_append_right (by simpa using Nat.le_of_not_lt hk), Array.getElem?_modify, if_neg (by omega), Array.getElem?_append_right (by omega)]
    simp
@[go_sem high] theorem World.cell?_alloc_in (w : World) (o : Obj) (n i : Nat) [h : InW n w] : (w.alloc o).cell? ⟨n, i, none⟩ = w.cell? ⟨n, i, none⟩ := World.cell?_alloc_past _ _ _ h.lt
@[go_sem high] theorem World.frozen?_alloc_in (w : World) (o : Obj) (n i : Nat) [h : InW n w] : (w.alloc o).frozen? ⟨n, i, none⟩ = w.frozen? ⟨n, i, none⟩ := World.frozen?_alloc_past _ _ _ h.lt
@[go_sem high] theorem World.setCell_alloc_in (w : World) (o : Obj) (n i : Nat) (v : Value) [h : InW n w] : (w.alloc o).setCell ⟨n, i, none⟩ v = (w.setCell ⟨n, i, none⟩ v).alloc o := World.setCell_alloc_past _ _ _ _ h.lt
@[go_sem high] theorem World.cell?_alloc_new' (w : World) (c : Array Value) (t : TypeId) (n i : Nat) [h : SizeN w n] : (w.alloc (.cells c t)).cell? ⟨n, i, none⟩ = c[i]? := World.cell?_alloc_at _ _ _ _ h.size.symm
@[go_sem high] theorem World.frozen?_alloc_new' (w : World) (c : Array Value) (t : TypeId) (n i : Nat) [h : SizeN w n] : (w.alloc (.cells c t)).frozen? ⟨n, i, none⟩ = false := World.frozen?_alloc_at _ _ _ _ h.size.symm
@[go_sem high] theorem World.setCell_alloc_new' (w : World) (c : Array Value) (t : TypeId) (n i : Nat) (v : Value) [h : SizeN w n] : (w.alloc (.cells c t)).setCell ⟨n, i, none⟩ v = w.alloc (.cells (c.setIfInBounds i v) t) := World.setCell_alloc_at _ _ _ _ _ h.size.symm
@[go_sem] theorem World.drew_plus (w : World) (e : Ext) : (w.plus e).drew = w.plus ⟨e.objs, e.count + 1⟩ := rfl
@[go_sem] theorem World.plus_drew (w : World) (e : Ext) : w.drew.plus e = w.plus e := rfl
theorem World.plus_plus (w : World) (e e' : Ext) : (w.plus e).plus e' = w.plus ⟨e.objs ++ e'.objs, e'.count⟩ := by
  simp [World.plus, Array.append_assoc]
theorem World.plus_alloc (w : World) (e : Ext) (o : Obj) : (w.plus e).alloc o = w.plus ⟨e.objs.push o, e.count⟩ := by
  simp [World.plus, World.alloc]
theorem World.below_plus (w : World) (e : Ext) : Below w.heap.size w (w.plus e) :=
  ⟨rfl, rfl, rfl, by show w.heap.size ≤ (w.heap ++ e.objs).size; simp, fun _ h => w.plus_block e h⟩
theorem World.plus_of_below {w w' : World} (h : Below w.heap.size w w') : ∃ e, w' = w.plus e := by
  refine ⟨⟨w'.heap.extract w.heap.size w'.heap.size, w'.drawn⟩, ?_⟩
  have hh : w'.heap = w.heap ++ w'.heap.extract w.heap.size w'.heap.size := by
    apply Array.ext_getElem?
    intro i
    by_cases hi : i < w.heap.size
    · rw [Array.getElem?_append_left hi, h.block i hi]
    · rw [Array.getElem?_append_right (by omega), Array.getElem?_extract]
      by_cases h2 : i < w'.heap.size
      · rw [if_pos (by omega)]
        congr 1
        omega
      · rw [if_neg (by omega), Array.getElem?_eq_none (by omega)]
  cases w' with
  | mk heap tape drawn os output =>
    obtain ⟨e1, e2, e3, _, _⟩ := h
    simp only at e1 e2 e3 hh
    subst e1 e2 e3
    simp only [World.plus]
    congr 1

/-- The class: the worlds that have grown out of w. -/
abbrev World.Plus (w : World) : World → Prop := fun w' => ∃ e, w' = w.plus e

theorem Plus.refl (w : World) : w.Plus w := ⟨⟨#[], w.drawn⟩, by simp [World.plus]⟩
theorem Plus.alloc {w w' : World} (h : w.Plus w') (o : Obj) : w.Plus (w'.alloc o) := by
  obtain ⟨e, rfl⟩ := h
  exact ⟨_, World.plus_alloc _ _ _⟩
theorem Plus.plus {w w' : World} (h : w.Plus w') (e : Ext) : w.Plus (w'.plus e) := by
  obtain ⟨e', rfl⟩ := h
  exact ⟨_, World.plus_plus _ _ _⟩
theorem Plus.drew {w w' : World} (h : w.Plus w') : w.Plus w'.drew := by
  obtain ⟨e', rfl⟩ := h
  exact ⟨_, World.drew_plus _ _⟩
theorem Plus.trans {w w' w'' : World} (h : w.Plus w') (k : w'.Plus w'') : w.Plus w'' := by
  obtain ⟨e, rfl⟩ := k
  exact Plus.plus h e
theorem Plus.below {w w' : World} (h : w.Plus w') : Below w.heap.size w w' := by
  obtain ⟨e, rfl⟩ := h
  exact w.below_plus e

theorem Calls.plus_of {P : Program} {f : FuncId} {args : Array Value} {w : World} {e : Ext} {v : Value}
    (h : Calls P f args (w.plus e) fun r w' => r = .returned v ∧ (w.plus e).Plus w') :
    Calls P f args (w.plus e) fun r w'' => r = .returned v ∧ ∃ m, w'' = w.plus m :=
  h.mono fun _ _ ⟨he, hb⟩ => ⟨he, Plus.trans (Plus.plus (Plus.refl w) e) hb⟩

section
variable {P : Program} {ops : Array Oper} {md : Region.Mode} {C : World → Prop}

/-- The head of a region in whatever order: f operations are still to come up, each below n; then L. -/
def wpHead (P : Program) (md : Region.Mode) (ops : Array Oper) (C : World → Prop) (n : Nat) (L : Array Bool → Act → Prop) : Nat → Array Bool → Act → Prop
  | 0, listed, a => L listed a
  | f + 1, listed, a => Region.ready md ops listed ≠ [] ∧ ∀ i ∈ Region.ready md ops listed, i < n ∧ qOp P ops C i (wpHead P md ops C n L f (listed.setIfInBounds i true)) a

theorem wpAny_of_wpHead {n g : Nat} {L : Array Bool → Act → Prop} {Q' : Exit → Act → World → Prop} (hL : ∀ listed a w, C w → L listed a → wpAny P md ops Q' g listed a w) (f : Nat) :
    ∀ (listed : Array Bool) (a : Act) (w : World), C w → wpHead P md ops C n L f listed a → wpAny P md ops Q' (f + g) listed a w := by
  induction f with
  | zero => intro listed a w hw h; rw [Nat.zero_add]; exact hL _ _ _ hw h
  | succ f ih =>
    intro listed a w hw h
    rw [show f + 1 + g = (f + g) + 1 by omega]
    exact ⟨fun h0 => absurd h0 h.1, fun i hi => wpOp_of_qOp hw (fun a' w' hw' h' => ih _ a' w' hw' h') (h.2 i hi).2⟩

theorem wpHead_first {n i : Nat} {oi : Oper} {v : Value} {L : Array Bool → Act → Prop} (hi : ops[i]? = some oi) (hsel : ∀ (j : Nat) (o : Oper) cs b, ops[j]? = some o → o.op ≠ .select cs b)
    (hs : Region.sinkB md ops n = true) (hc : Region.chainB md ops n = true) (hn : n < ops.size) (hin : i < n)
    (hdone : ∀ listed a, L listed a → ∀ j ∈ Region.ready md ops listed, n ≤ j) (f : Nat) :
    ∀ (listed : Array Bool) (a : Act), HeadInv md ops n listed →
      (∀ j oj, ops[j]? = some oj → j ≠ i → listed.getD j true = false → (∀ e ∈ oj.after, Region.binds md e = true → e.on ≠ i) → oi.apart ops oj = true) →
      i ∈ Region.ready md ops listed → YieldsIn P ops C oi v a →
      wpHead P md ops C n L f (listed.setIfInBounds i true) (a.put oi.dst v) → wpHead P md ops C n L (f + 1) listed a := by
  induction f with
  | zero =>
    intro listed a inv _ hr hy H
    have hun := (mem_ready.1 hr).1
    refine ⟨List.ne_nil_of_mem hr, fun j hj => ?_⟩
    have hjn : j < n := (Nat.lt_or_ge j n).resolve_right fun h => tail_waits hs hc hn inv _ i rfl hin hun j h hj
    refine ⟨hjn, ?_⟩
    rcases Nat.decEq j i with hji | hji
    · have := hdone _ _ H j (ready_mono hj hji)
      omega
    · subst hji; exact hy.qOp hi H
  | succ f ih =>
    intro listed a inv hfree hr hy H
    have hun := (mem_ready.1 hr).1
    refine ⟨List.ne_nil_of_mem hr, fun j hj => ?_⟩
    have hjn : j < n := (Nat.lt_or_ge j n).resolve_right fun h => tail_waits hs hc hn inv _ i rfl hin hun j h hj
    refine ⟨hjn, ?_⟩
    rcases Nat.decEq j i with hji | hji
    · have h1 := (H.2 j (ready_mono hj hji)).2
      obtain ⟨hjun, oj, hoj, hall⟩ := mem_ready.1 hj
      have hnot : ∀ e ∈ oj.after, Region.binds md e = true → e.on ≠ i := fun e he hb heq => by
        have h3 := hall e he hb
        rw [heq, getD_both hun] at h3
        exact Bool.false_ne_true h3
      have h2 := qOp_put hoj (hfree j oj hoj hji hjun hnot) (fun cs b => hsel i oi cs b hi) (fun cs b => hsel j oj cs b hoj) hy h1
      refine qOp_mono (fun a' h3 => ih (listed.setIfInBounds j true) a' (inv.set hj hjn) (fun k ok hk hki hun' hno => hfree k ok hk hki ?_ hno) (ready_mono hr (Ne.symm hji)) h3.1 ?_) h2
      · rcases Nat.decEq j k with hjk | hjk
        · rwa [getD_set_ne true hjk] at hun'
        · subst hjk; exact hjun
      · rw [Array.setIfInBounds_comm _ _ hji]
        exact h3.2
    · subst hji; exact hy.qOp hi H

theorem wpHead_lex {n g : Nat} {Lq : Act → Prop} (hsel : Region.noSelect ops = true) (hs : Region.sinkB md ops n = true) (hc : Region.chainB md ops n = true) (hn : n < ops.size) (l : List Oper) :
    ∀ (k : Nat) (listed : Array Bool) (a : Act), (∀ j, j < l.length → l[j]? = ops[k + j]?) → k + l.length = n → HeadInv md ops n listed →
    Region.lexHead md ops g l.length k listed = true → wpQuiet P ops C Lq l a →
    wpHead P md ops C n (fun listed' a' => Region.seqB md ops g n listed' = true ∧ Lq a') l.length listed a := by
  induction l with
  | nil =>
    intro k listed a _ hk _ hB h
    obtain rfl : k = n := by simpa using hk
    exact ⟨by simpa [Region.lexHead] using hB, h⟩
  | cons o l ih =>
    intro k listed a hl hk inv hB h
    have h0 : ops[k]? = some o := by simpa using (hl 0 (by simp)).symm
    simp only [List.length_cons, Region.lexHead, Bool.and_eq_true] at hB
    obtain ⟨⟨hr, hf⟩, hB'⟩ := hB
    simp only [List.length_cons] at hk
    have hkn : k < n := by omega
    have hr' : k ∈ Region.ready md ops listed := by simpa using hr
    have hst : qOp P ops C k (wpQuiet P ops C Lq l) a := by unfold qOp; simp only [h0]; exact h
    obtain ⟨v, hy, hK⟩ := yieldsIn_of_qOp h0 hst
    exact wpHead_first h0 (Region.noSelect_spec hsel) hs hc hn hkn (fun listed' a' hL => seqB_ready hL.1) l.length listed a inv (Region.free_spec h0 hf) hr' hy
      (ih (k + 1) _ _ (fun j hj => by have := hl (j + 1) (by simp; omega); simpa [Nat.add_assoc, Nat.add_comm 1 j] using this) (by omega) (inv.set hr' hkn) hB' hK)

/-- A region that draws its order: a head of n operations, each quiet in a class of worlds, then a tail in one forced order, walked in every world of the class. -/
theorem wp_region_quiet_tail {id : Nat} {Q : Exit → Act → World → Prop} {a : Act} {w : World} {l : List Oper} (n : Nat) (hm : P.follows .mixedOrders = true) (hB : Region.lexTailB .any l.toArray n = true) (hC : C { w with drawn := w.drawn + 1 })
    (h : wpQuiet P l.toArray C (fun a' => ∀ w', C w' → wpList P l.toArray Q (l.drop n) a' w') (l.take n) a) : (Code.region id l.toArray true).wp P Q a w := by
  simp only [Region.lexTailB, Bool.and_eq_true, decide_eq_true_eq] at hB
  obtain ⟨⟨⟨⟨hsel, hn⟩, hs⟩, hc⟩, hlex⟩ := hB
  have hn' : n < l.length := by simpa using hn
  have htl : (l.take n).length = n := by simp; omega
  have hdl : (l.drop n).length = l.toArray.size - n := by simp
  have inv0 : HeadInv .any l.toArray n (Array.replicate l.toArray.size false) :=
    ⟨by simp, fun j oj _ hl => absurd hl (by rw [getD_replicate_false]; exact Bool.false_ne_true), fun t _ ht => getD_in (by simpa using ht) (getD_replicate_false _ _)⟩
  have H := wpHead_lex (md := .any) (C := C) (g := l.toArray.size - n) hsel hs hc hn (l.take n) 0 _ a (fun j hj => by
    have hj' : j < n := by rw [htl] at hj; exact hj
    simp [hj']) (by simpa using htl) inv0 (by rw [htl]; exact hlex) h
  refine wp_region_any hm ?_
  have := wpAny_of_wpHead (Q' := Q) (C := C) (g := l.toArray.size - n) (fun listed a' w' hw' hL => by
    have := wpAny_of_seq (md := .any) (Q' := Q) (l.drop n) n listed a' w' (fun j => by simp [List.getElem?_drop]) (by rw [hdl]; exact hL.1) (hL.2 w' hw')
    rwa [hdl] at this) _ _ _ _ hC H
  rw [htl, show n + (l.toArray.size - n) = l.toArray.size by omega] at this
  exact this

theorem World.drew_Plus (w : World) : w.Plus { w with drawn := w.drawn + 1 } := ⟨⟨#[], w.drawn + 1⟩, by simp [World.plus]⟩

/-- The two forms for the class of the worlds that have grown. -/
theorem wp_region_grow {id : Nat} {Q : Exit → Act → World → Prop} {a : Act} {w : World} {l : List Oper} (hm : P.follows .mixedOrders = true) (hB : Region.lexB .any l.toArray = true)
    (h : wpQuiet P l.toArray w.Plus (fun a' => ∀ e, Q .normal a' (w.plus e)) l a) : (Code.region id l.toArray true).wp P Q a w :=
  wp_region_quiet (C := w.Plus) hm hB w.drew_Plus (by
    have e : (fun a' => ∀ e, Q .normal a' (w.plus e)) = (fun a' => ∀ w', w.Plus w' → Q .normal a' w') := by
      funext a'
      exact propext ⟨fun k w' ⟨e, he⟩ => he ▸ k e, fun k e => k _ ⟨e, rfl⟩⟩
    rw [← e]
    simpa using h)
theorem wp_region_grow_tail {id : Nat} {Q : Exit → Act → World → Prop} {a : Act} {w : World} {l : List Oper} (n : Nat) (hm : P.follows .mixedOrders = true) (hB : Region.lexTailB .any l.toArray n = true)
    (h : wpQuiet P l.toArray w.Plus (fun a' => ∀ e, wpList P l.toArray Q (l.drop n) a' (w.plus e)) (l.take n) a) : (Code.region id l.toArray true).wp P Q a w :=
  wp_region_quiet_tail (C := w.Plus) n hm hB w.drew_Plus (by
    have e : (fun a' => ∀ e, wpList P l.toArray Q (l.drop n) a' (w.plus e)) = (fun a' => ∀ w', w.Plus w' → wpList P l.toArray Q (l.drop n) a' w') := by
      funext a'
      exact propext ⟨fun k w' ⟨e, he⟩ => he ▸ k e, fun k e => k _ ⟨e, rfl⟩⟩
    rw [← e]
    exact h)
end

/-- A world that has grown by a block of known cells, somewhere among the new ones: behind a region whose new block may come up early or late. -/
def NewIn (L : World) (t : TypeId) (c : Array Value) (n : Nat) (w' : World) : Prop := ∃ e1 e2, n = (L.plus e1).heap.size ∧ w' = ((L.plus e1).alloc (.cells c t)).plus e2
theorem NewIn.mk {L w1 : World} (h : L.Plus w1) (t : TypeId) (c : Array Value) {n : Nat} (hn : n = w1.heap.size) : NewIn L t c n (w1.alloc (.cells c t)) := by
  obtain ⟨e, rfl⟩ := h
  obtain ⟨e2, h2⟩ := Plus.refl ((L.plus e).alloc (.cells c t))
  exact ⟨e, e2, hn, h2⟩
theorem NewIn.plus {L w1 : World} {t : TypeId} {c : Array Value} {n : Nat} (h : NewIn L t c n w1) (e : Ext) : NewIn L t c n (w1.plus e) := by
  obtain ⟨e1, e2, hn, rfl⟩ := h
  exact ⟨e1, _, hn, World.plus_plus _ _ _⟩
theorem NewIn.drew {L w1 : World} {t : TypeId} {c : Array Value} {n : Nat} (h : NewIn L t c n w1) : NewIn L t c n w1.drew := by
  obtain ⟨e1, e2, hn, rfl⟩ := h
  exact ⟨e1, _, hn, World.drew_plus _ _⟩

/-- The rows behind a slice's address: n of them, of 'size' cells each, cell j of row i holding f i j. -/
def RowsAt (w : World) (A : Option Addr) (size n : Nat) (f : Nat → Nat → Value) : Prop :=
  0 < n → ∃ b off, A = some ⟨b, off, none⟩ ∧ b < w.heap.size ∧ ∀ i j, i < n → j < size → w.cell? ⟨b, off + (i * size + j), none⟩ = some (f i j)
theorem RowsAt.plus {w w' : World} {A : Option Addr} {size n : Nat} {f : Nat → Nat → Value} (h : RowsAt w A size n f) (hp : w.Plus w') : RowsAt w' A size n f := by
  obtain ⟨e, rfl⟩ := hp
  intro hn
  obtain ⟨b, off, hA, hb, hc⟩ := h hn
  exact ⟨b, off, hA, by rw [World.size_plus_eq]; omega, fun i j hi hj => (w.plus_cell e (p := ⟨b, _, none⟩) hb).trans (hc i j hi hj)⟩
theorem RowsAt.alloc {w : World} {A : Option Addr} {size n : Nat} {f : Nat → Nat → Value} (h : RowsAt w A size n f) (o : Obj) : RowsAt (w.alloc o) A size n f :=
  h.plus (Plus.alloc (Plus.refl w) o)
theorem RowsAt.zero (w : World) (A : Option Addr) (size : Nat) (f : Nat → Nat → Value) : RowsAt w A size 0 f := fun h => absurd h (by omega)

section
variable {P : Program} (w : World)
@[go_sem high] theorem run_max2 (ts : Array TypeId) (t : TypeId) (x y : Int) : (Builtin.max_ ts t #[.int .i64 x, .int .i64 y]).run P w = .ok (.int .i64 (max x y)) w := by
  simp [Builtin.max_, Builtin.max2]; omega
@[go_sem high] theorem run_min2 (ts : Array TypeId) (t : TypeId) (x y : Int) : (Builtin.min_ ts t #[.int .i64 x, .int .i64 y]).run P w = .ok (.int .i64 (min x y)) w := by
  simp [Builtin.min_, Builtin.min2]; omega
@[go_sem high] theorem run_max3 (ts : Array TypeId) (t : TypeId) (x y z : Int) : (Builtin.max_ ts t #[.int .i64 x, .int .i64 y, .int .i64 z]).run P w = .ok (.int .i64 (max x (max y z))) w := by
  simp [Builtin.max_, Builtin.max2]; omega
@[go_sem high] theorem run_max4 (ts : Array TypeId) (t : TypeId) (x y z u : Int) : (Builtin.max_ ts t #[.int .i64 x, .int .i64 y, .int .i64 z, .int .i64 u]).run P w = .ok (.int .i64 (max x (max y (max z u)))) w := by
  simp [Builtin.max_, Builtin.max2]; omega
end
theorem bcell {W w1 : World} (hb : Below W.heap.size W w1) : (∀ b o, b < W.heap.size → w1.cell? ⟨b, o, none⟩ = W.cell? ⟨b, o, none⟩) ∧ (∀ b o, b < W.heap.size → w1.frozen? ⟨b, o, none⟩ = W.frozen? ⟨b, o, none⟩) :=
  ⟨fun b o h => hb.cell (p := ⟨b, o, none⟩) h, fun b o h => hb.frozen (p := ⟨b, o, none⟩) h⟩
theorem ret_int {k : IntKind} {a b : Int} (h : a = b) : Ending.returned (.int k a) = .returned (.int k b) := by rw [h]
theorem ret_bool {a b : Bool} (h : a = b) : Ending.returned (.bool a) = .returned (.bool b) := by rw [h]
end Go
