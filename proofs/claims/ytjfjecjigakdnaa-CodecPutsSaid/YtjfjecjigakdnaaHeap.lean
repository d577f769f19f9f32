/- Assertions on worlds, each with the blocks that it leans on, side by side: plain laws. -/
import Derived.Test.YtjfjecjigakdnaaSl
set_option linter.unusedSimpArgs false
set_option linter.unusedVariables false
namespace Go
open Go.RowKit
/-- an assertion on a world, and the blocks that it leans on -/
structure Asn where
  holds : World → (Nat → Prop) → Prop
  keep : ∀ w w' S, holds w S → w.heap.size ≤ w'.heap.size → (∀ k, S k → w'.heap[k]? = w.heap[k]?) → holds w' S
  inb : ∀ w S, holds w S → ∀ k, S k → k < w.heap.size
/-- assertions side by side -/
def SepL (w : World) : List Asn → (Nat → Prop) → Prop
  | [], S => ∀ k, ¬ S k
  | P :: l, S => ∃ A B, P.holds w A ∧ SepL w l B ∧ (∀ k, A k → ¬ B k) ∧ ∀ k, S k ↔ A k ∨ B k
theorem SepL.keep {w w' : World} : ∀ {l : List Asn} {S : Nat → Prop}, SepL w l S → w.heap.size ≤ w'.heap.size → (∀ k, S k → w'.heap[k]? = w.heap[k]?) → SepL w' l S
  | [], S, h, _, _ => h
  | P :: l, S, ⟨A, B, h1, h2, h3, h4⟩, hs, hk => ⟨A, B, P.keep w w' A h1 hs fun k a => hk k ((h4 k).2 (.inl a)), SepL.keep h2 hs fun k b => hk k ((h4 k).2 (.inr b)), h3, h4⟩
theorem SepL.inb {w : World} : ∀ {l : List Asn} {S : Nat → Prop}, SepL w l S → ∀ k, S k → k < w.heap.size
  | [], S, h, k, hk => absurd hk (h k)
  | P :: l, S, ⟨A, B, h1, h2, h3, h4⟩, k, hk => ((h4 k).1 hk).elim (P.inb w A h1 k) (SepL.inb h2 k)
theorem SepL.perm {w : World} {l l' : List Asn} (p : l.Perm l') : ∀ {S : Nat → Prop}, SepL w l S → SepL w l' S := by
  induction p with
  | nil => exact fun h => h
  | cons P _ ih => intro S ⟨A, B, h1, h2, h3, h4⟩; exact ⟨A, B, h1, ih h2, h3, h4⟩
  | swap P Q l =>
    intro S ⟨A, B, h1, ⟨C, D, g1, g2, g3, g4⟩, h3, h4⟩
    refine ⟨C, fun k => A k ∨ D k, g1, ⟨A, D, h1, g2, fun k a d => h3 k a ((g4 k).2 (.inr d)), fun k => Iff.rfl⟩, fun k c ad => ad.elim (fun a => h3 k a ((g4 k).2 (.inl c))) (g3 k c), fun k => ?_⟩
    rw [h4, g4]
    constructor
    · rintro (h | h | h)
      · exact .inr (.inl h)
      · exact .inl h
      · exact .inr (.inr h)
    · rintro (h | h | h)
      · exact .inr (.inl h)
      · exact .inl h
      · exact .inr (.inr h)
  | trans _ _ ih1 ih2 => exact fun h => ih2 (ih1 h)
/-- what a world that has grown out of W holds in blocks behind those of W -/
def Own (W wx : World) (l : List Asn) : Prop := W.Plus wx ∧ ∃ S, SepL wx l S ∧ ∀ k, S k → W.heap.size ≤ k
section
variable {W wx w' : World} {P P' Q : Asn} {l l' : List Asn}
theorem Own.p (h : Own W wx l) : W.Plus wx := h.1
theorem Own.perm (h : Own W wx l) (p : l.Perm l') : Own W wx l' := by
  obtain ⟨hp, S, h1, h2⟩ := h
  exact ⟨hp, S, h1.perm p, h2⟩
theorem Own.nil (h : W.Plus wx) : Own W wx [] := ⟨h, fun _ => False, fun _ h => h, fun _ h => h.elim⟩
theorem Own.start (W : World) : Own W W [] := Own.nil (Plus.refl W)
theorem Own.rot1 (h : Own W wx (P :: Q :: l)) : Own W wx (Q :: P :: l) := h.perm (List.Perm.swap _ _ _)
theorem Own.rot2 {R : Asn} (h : Own W wx (P :: Q :: R :: l)) : Own W wx (R :: P :: Q :: l) := h.perm ((List.Perm.cons P (List.Perm.swap _ _ _)).trans (List.Perm.swap _ _ _))
theorem Own.drop (h : Own W wx (P :: l)) : Own W wx l := by
  obtain ⟨hp, S, ⟨A, B, h1, h2, h3, h4⟩, hS⟩ := h
  exact ⟨hp, B, h2, fun k b => hS k ((h4 k).2 (.inr b))⟩
theorem Own.chg {T : Nat → Prop} (h : Own W wx l) (hc : Chg wx w' T) (hT : ∀ k, T k → W.heap.size ≤ k) (hl : ∀ S, SepL wx l S → ∀ k, S k → ¬ T k) : Own W w' l := by
  obtain ⟨hp, S, h1, h2⟩ := h
  exact ⟨hc.toPlus hp hT, S, h1.keep hc.size fun k hk => hc.block k (h1.inb k hk) (hl S h1 k hk), h2⟩
theorem Own.grow (h : Own W wx l) (hc : Chg wx w' fun _ => False) : Own W w' l := h.chg hc (fun _ h => h.elim) (fun _ _ _ _ h => h)
theorem Own.alloc (h : Own W wx l) (o : Obj) : Own W (wx.alloc o) l := h.grow (Chg.of_alloc wx o _)
theorem Own.plus (h : Own W wx l) (x : Ext) : Own W (wx.plus x) l := h.grow (Chg.of_plus wx x _)
theorem Own.drew (h : Own W wx l) : Own W wx.drew l := h.grow (Chg.of_drew wx _)
/-- a step that changes the first assertion's blocks alone -/
theorem Own.step {A : Nat → Prop} (h : Own W wx (P :: l)) (hstep : ∀ A, P.holds wx A → ∃ A', Chg wx w' A ∧ P'.holds w' A' ∧ ∀ k, A' k → Grown A wx w' k) : Own W w' (P' :: l) := by
  obtain ⟨hp, S, ⟨A, B, h1, h2, h3, h4⟩, hS⟩ := h
  obtain ⟨A', hc, hA, hsub⟩ := hstep A h1
  have hW := (Plus.below hp).size
  refine ⟨hc.toPlus hp (fun k a => hS k ((h4 k).2 (.inl a))), fun k => A' k ∨ B k, ⟨A', B, hA, h2.keep hc.size (fun k b => hc.block k (h2.inb k b) (fun a => h3 k a b)), fun k a b => ?_, fun k => Iff.rfl⟩, fun k hk => ?_⟩
  · exact (hsub k a).elim (fun a => h3 k a b) (fun n => by have := h2.inb k b; omega)
  · exact hk.elim (fun a => (hsub k a).elim (fun a => hS k ((h4 k).2 (.inl a))) (fun n => by omega)) (fun b => hS k ((h4 k).2 (.inr b)))
/-- the same of a call -/
theorem Own.call {Pr : Program} {f : FuncId} {args : Array Value} {Z : Ending → World → Prop} {X : Ending → World → Asn → Prop} (h : Own W wx (P :: l))
    (k : ∀ A, P.holds wx A → Calls Pr f args wx fun e w' => ∃ P' A', X e w' P' ∧ Chg wx w' A ∧ P'.holds w' A' ∧ ∀ k, A' k → Grown A wx w' k)
    (hz : ∀ e w' P', X e w' P' → Own W w' (P' :: l) → Z e w') : Calls Pr f args wx Z := by
  obtain ⟨hp, S, ⟨A, B, h1, h2, h3, h4⟩, hS⟩ := h
  refine (k A h1).mono fun e w' ⟨P', A', hx, hc, hA, hsub⟩ => hz e w' P' hx ?_
  have hW := (Plus.below hp).size
  refine ⟨hc.toPlus hp (fun k a => hS k ((h4 k).2 (.inl a))), fun k => A' k ∨ B k, ⟨A', B, hA, h2.keep hc.size (fun k b => hc.block k (h2.inb k b) (fun a => h3 k a b)), fun k a b => ?_, fun k => Iff.rfl⟩, fun k hk => ?_⟩
  · exact (hsub k a).elim (fun a => h3 k a b) (fun n => by have := h2.inb k b; omega)
  · exact hk.elim (fun a => (hsub k a).elim (fun a => hS k ((h4 k).2 (.inl a))) (fun n => by omega)) (fun b => hS k ((h4 k).2 (.inr b)))
/-- new blocks hold an assertion -/
theorem Own.add (h : Own W wx l) (hc : Chg wx w' fun _ => False) {A : Nat → Prop} (hA : Q.holds w' A) (hn : ∀ k, A k → wx.heap.size ≤ k) : Own W w' (Q :: l) := by
  obtain ⟨hp, S, h1, h2⟩ := h
  have hW := (Plus.below hp).size
  refine ⟨hc.toPlus hp (fun _ h => h.elim), fun k => A k ∨ S k, ⟨A, S, hA, h1.keep hc.size (fun k b => hc.block k (h1.inb k b) (fun h => h)), fun k a b => ?_, fun k => Iff.rfl⟩, fun k hk => ?_⟩
  · have := hn k a; have := h1.inb k b; omega
  · exact hk.elim (fun a => by have := hn k a; omega) (h2 k)
/-- the first assertion falls into two, or turns into another one on the same blocks -/
theorem Own.conv (h : Own W wx (P :: l)) (hc : ∀ A, P.holds wx A → SepL wx l' A) : Own W wx (l' ++ l) := by
  obtain ⟨hp, S, ⟨A, B, h1, h2, h3, h4⟩, hS⟩ := h
  have key : ∀ (l' : List Asn) (A : Nat → Prop), SepL wx l' A → (∀ k, A k → ¬ B k) → SepL wx (l' ++ l) (fun k => A k ∨ B k) := by
    intro l'
    induction l' with
    | nil =>
      intro A hA _
      have e : (fun k => A k ∨ B k) = B := funext fun k => propext ⟨fun h => h.elim (fun a => absurd a (hA k)) id, .inr⟩
      rw [e]
      exact h2
    | cons R r ih =>
      intro A ⟨C, D, g1, g2, g3, g4⟩ hd
      refine ⟨C, fun k => D k ∨ B k, g1, ih D g2 (fun k d => hd k ((g4 k).2 (.inr d))), fun k c x => x.elim (g3 k c) (hd k ((g4 k).2 (.inl c))), fun k => ?_⟩
      show A k ∨ B k ↔ _
      rw [g4]
      exact or_assoc
  refine ⟨hp, _, key l' A (hc A h1) h3, fun k hk => hS k ((h4 k).2 hk)⟩
theorem Own.get (h : Own W wx (P :: l)) : ∃ A, P.holds wx A ∧ ∀ k, A k → W.heap.size ≤ k := by
  obtain ⟨hp, S, ⟨A, B, h1, h2, h3, h4⟩, hS⟩ := h
  exact ⟨A, h1, fun k a => hS k ((h4 k).2 (.inl a))⟩
theorem Own.at {i : Nat} (h : Own W wx l) (hi : l[i]? = some P) : ∃ A, P.holds wx A ∧ ∀ k, A k → W.heap.size ≤ k := by
  induction l generalizing i with
  | nil => simp at hi
  | cons R r ih =>
    cases i with
    | zero => cases hi; exact h.get
    | succ i => exact ih h.drop hi
theorem Chg.of_setCells (g : Nat) (vs : List Value) (o : Nat) (w : World) : Chg w (w.setCells g o vs) (fun k => k = g) := by
  induction vs generalizing o w with
  | nil => exact Chg.refl _ _
  | cons v r ih => exact (Chg.of_setCell w ⟨g, o, none⟩ v (fun k => k = g) rfl).trans (ih (o + 1) _) fun _ h _ => h
end
/-- a block of cells that may be written -/
def cellsA (n : Nat) (cs : List Value) : Asn where
  holds w S := (∀ k, S k ↔ k = n) ∧ n < w.heap.size ∧ (∀ i, i < cs.length → w.cell? ⟨n, i, none⟩ = cs[i]?) ∧ ∀ i, w.frozen? ⟨n, i, none⟩ = false
  keep w w' S h hs hk := by
    have e := hk n ((h.1 n).2 rfl)
    exact ⟨h.1, by have := h.2.1; omega, fun i hi => (World.cell?_of_block (w := w) (a := ⟨n, i, none⟩) e).trans (h.2.2.1 i hi), fun i => (World.frozen?_of_block (w := w) (a := ⟨n, i, none⟩) e).trans (h.2.2.2 i)⟩
  inb w S h k hk := by rw [(h.1 k).1 hk]; exact h.2.1
/-- a slice that is held -/
def slA (size : Nat) (v : Value) (n : Nat) (cs : List Value) : Asn where
  holds w S := (∀ k, S k ↔ v.ownBlock = some k) ∧ Sl w size v n cs
  keep w w' S h hs hk := ⟨h.1, h.2.keep hs fun g hg => hk g ((h.1 g).2 hg)⟩
  inb w S h k hk := h.2.lt k ((h.1 k).1 hk)
/-- a fact -/
def factA (p : Prop) : Asn where
  holds w S := (∀ k, ¬ S k) ∧ p
  keep w w' S h _ _ := h
  inb w S h k hk := absurd hk (h.1 k)
section
variable {W wx w' : World} {P P' Q : Asn} {l l' : List Asn}
theorem Own.newCells (h : Own W wx l) (cs : List Value) (t : TypeId) : Own W (wx.alloc (.cells cs.toArray t)) (cellsA wx.heap.size cs :: l) :=
  h.add (Chg.of_alloc wx _ _) (Q := cellsA wx.heap.size cs) (A := fun k => k = wx.heap.size)
    ⟨fun k => Iff.rfl, by simp, fun i hi => by rw [World.cell?_alloc_new]; simp, fun i => World.frozen?_alloc_new _ _ _ _⟩ (fun k hk => by omega)
theorem Own.setCell {n i : Nat} {cs : List Value} {v : Value} (h : Own W wx (cellsA n cs :: l)) (hi : i < cs.length) : Own W (wx.setCell ⟨n, i, none⟩ v) (cellsA n (cs.set i v) :: l) :=
  Own.step (A := fun _ => False) h fun A ⟨h1, h2, h3, h4⟩ => by
    refine ⟨A, Chg.of_setCell wx ⟨n, i, none⟩ v A ((h1 n).2 rfl), ⟨h1, by rw [World.size_setCell]; exact h2, fun j hj => ?_, fun j => ?_⟩, fun k a => .inl a⟩
    · rw [List.length_set] at hj
      rcases Nat.decEq i j with hij | hij
      · rw [List.getElem?_set_ne hij, World.cell?_setCell_other _ _ _ _ (by intro e; cases e; exact hij rfl)]
        exact h3 j hj
      · subst hij
        rw [List.getElem?_set_self hi, World.cell?_setCell_same' _ _ _ (by rw [h3 i hi, List.getElem?_eq_getElem hi]; rfl)]
    · simp [go_sem, h4]
end
/-- some assertions as one -/
def bothA (l : List Asn) : Asn where
  holds w S := SepL w l S
  keep w w' S h hs hk := h.keep hs hk
  inb w S h := h.inb
theorem Own.both {W wx : World} {l' l : List Asn} (h : Own W wx (bothA l' :: l)) : Own W wx (l' ++ l) := h.conv fun A h => h
/-- what a call leaves -/
def OwnTo (W : World) (v : Value) (l : List Asn) (e : Ending) (w' : World) : Prop := e = .returned v ∧ Own W w' l
section
variable {W wx : World} {l : List Asn}
theorem Own.cells {n : Nat} {cs : List Value} (i : Nat) (h : Own W wx l) (hi : l[i]? = some (cellsA n cs)) : n < wx.heap.size ∧ (∀ j, j < cs.length → wx.cell? ⟨n, j, none⟩ = cs[j]?) ∧ ∀ j, wx.frozen? ⟨n, j, none⟩ = false := by
  obtain ⟨A, ⟨_, h1, h2, h3⟩, _⟩ := h.at hi
  exact ⟨h1, h2, h3⟩
theorem Own.cells_ge {n : Nat} {cs : List Value} (i : Nat) (h : Own W wx l) (hi : l[i]? = some (cellsA n cs)) : W.heap.size ≤ n := by
  obtain ⟨A, ⟨h0, _⟩, h1⟩ := h.at hi
  exact h1 n ((h0 n).2 rfl)
theorem Own.sl {size : Nat} {v : Value} {n : Nat} {cs : List Value} (i : Nat) (h : Own W wx l) (hi : l[i]? = some (slA size v n cs)) : Sl wx size v n cs := by
  obtain ⟨A, ⟨_, h1⟩, _⟩ := h.at hi
  exact h1
end
/-- the cells of a slice that is held -/
theorem Sl.cellsOf {w : World} {size : Nat} {A : Option Addr} {cap n : Nat} {cs : List Value} (h : Sl w size (.slice A n cap) n cs) (hn : 0 < n) : ∃ g o, A = some ⟨g, o, none⟩ ∧ g < w.heap.size ∧ ∀ j, j < n * size → w.cell? ⟨g, o + j, none⟩ = cs[j]? := by
  rcases h.val with ⟨_, h0⟩ | ⟨g, off, cap', he, hgl, _, _, hc, _⟩
  · omega
  · cases he
    exact ⟨g, off, rfl, hgl, hc⟩
/-- append to a slice that is held, among other assertions -/
theorem wpList_append_O {P : Program} {w : World} {ops : Array Oper} {rest : List Oper} {o : Oper} {a : Act} {Q : Exit → Act → World → Prop} (hgd : o.guard = none) (s x : Operand) (t tx : TypeId)
    (ho : o.op = .call { callee := .builtin .append, args := #[s, x], argTypes := #[t, tx] })
    (e : TypeId) (i : TypeInfo) (z : Value) (size bytes : Nat) (ht : P.underlying t = some (.slice e)) (hi : P.info? e = some i) (hz : i.zero = some z) (hsize : i.size = size) (hby : i.bytes = bytes) (hzs : z.cells.size = size)
    {W : World} {l : List Asn} {v : Value} {n : Nat} {cs : List Value} (hs : a.eval s = v) (h : Own W w (slA size v n cs :: l)) {xv : Value} {m : Nat} {news : List Value} (hx : a.eval x = xv) (hsrc : Src P size tx xv m news w) (h63 : n + m ≤ maxLen) (hbytes : (n + m) * bytes ≤ 140737488355328)
    (k : ∀ A c w', Own W w' (slA size (.slice A (n + m) c) (n + m) (cs ++ news) :: l) → wpList P ops Q rest (a.put o.dst (.slice A (n + m) c)) w') : wpList P ops Q (o :: rest) a w :=
  wpList_append_sl hgd s x t tx ho e i z size bytes ht hi hz hsize hby hzs hs (h.sl 0 rfl) hx hsrc h63 hbytes fun A c w' h2 h3 h4 h5 =>
    k A c w' (Own.step (A := fun _ => False) h fun B hB => by
      refine ⟨fun k => (Value.slice A (n + m) c).ownBlock = some k, h3.mono (fun k hk => (hB.1 k).2 hk), ⟨fun k => Iff.rfl, h2⟩, fun k hk => ?_⟩
      rcases h4 with h4 | h4
      · rw [h4] at hk; exact .inl ((hB.1 k).2 hk)
      · have := h2.lt k hk
        rw [h4] at hk
        cases hk
        exact .inr ⟨Nat.le_refl _, this⟩)
theorem SepL.split {w : World} : ∀ {l' l : List Asn} {S : Nat → Prop}, SepL w (l' ++ l) S → ∃ A B, SepL w l' A ∧ SepL w l B ∧ (∀ k, A k → ¬ B k) ∧ ∀ k, S k ↔ A k ∨ B k
  | [], l, S, h => ⟨fun _ => False, S, fun _ h => h, h, fun _ h => h.elim, fun k => by simp⟩
  | P :: r, l, S, ⟨A, B, h1, h2, h3, h4⟩ => by
    obtain ⟨C, D, g1, g2, g3, g4⟩ := SepL.split h2
    refine ⟨fun k => A k ∨ C k, D, ⟨A, C, h1, g1, fun k a c => h3 k a ((g4 k).2 (.inl c)), fun k => Iff.rfl⟩, g2, fun k ac d => ac.elim (fun a => h3 k a ((g4 k).2 (.inr d))) (fun c => g3 k c d), fun k => ?_⟩
    rw [h4, g4]
    exact or_assoc.symm
theorem Own.join {W wx : World} {l' l : List Asn} (h : Own W wx (l' ++ l)) : Own W wx (bothA l' :: l) := by
  obtain ⟨hp, S, h1, h2⟩ := h
  obtain ⟨A, B, g1, g2, g3, g4⟩ := h1.split
  exact ⟨hp, S, ⟨A, B, g1, g2, g3, g4⟩, h2⟩
/-- assertions with a value that is not told -/
def exA {α : Type} (F : α → List Asn) : Asn where
  holds w S := ∃ a, SepL w (F a) S
  keep w w' S h hs hk := by
    obtain ⟨a, h⟩ := h
    exact ⟨a, h.keep hs hk⟩
  inb w S h := by
    obtain ⟨a, h⟩ := h
    exact h.inb
theorem Own.ex {α : Type} {F : α → List Asn} {W wx : World} {l : List Asn} (h : Own W wx (exA F :: l)) : ∃ a, Own W wx (F a ++ l) := by
  obtain ⟨hp, S, ⟨A, B, ⟨a, h1⟩, h2, h3, h4⟩, hS⟩ := h
  exact ⟨a, Own.both ⟨hp, S, ⟨A, B, h1, h2, h3, h4⟩, hS⟩⟩
theorem Own.mk {α : Type} (F : α → List Asn) (a : α) {W wx : World} {l : List Asn} (h : Own W wx (F a ++ l)) : Own W wx (exA F :: l) := by
  obtain ⟨hp, S, ⟨A, B, h1, h2, h3, h4⟩, hS⟩ := h.join
  exact ⟨hp, S, ⟨A, B, ⟨a, h1⟩, h2, h3, h4⟩, hS⟩
/-- append at a step of a region that draws its order -/
theorem step_append_O {P : Program} {w : World} {ops : Array Oper} {o : Oper} {a : Act} {K : Act → World → Prop} {Q : Exit → Act → World → Prop} {E : Prop} (hgd : o.guard = none) (s x : Operand) (t tx : TypeId)
    (ho : o.op = .call { callee := .builtin .append, args := #[s, x], argTypes := #[t, tx] })
    (e : TypeId) (i : TypeInfo) (z : Value) (size bytes : Nat) (ht : P.underlying t = some (.slice e)) (hi : P.info? e = some i) (hz : i.zero = some z) (hsize : i.size = size) (hby : i.bytes = bytes) (hzs : z.cells.size = size)
    {W : World} {l : List Asn} {v : Value} {n : Nat} {cs : List Value} (hs : a.eval s = v) (h : Own W w (slA size v n cs :: l)) {xv : Value} {m : Nat} {news : List Value} (hx : a.eval x = xv) (hsrc : Src P size tx xv m news w) (h63 : n + m ≤ maxLen) (hbytes : (n + m) * bytes ≤ 140737488355328)
    (k : ∀ A c w', Own W w' (slA size (.slice A (n + m) c) (n + m) (cs ++ news) :: l) → K (a.put o.dst (.slice A (n + m) c)) w') :
    if Region.wanted o (yielded ops a.tmps) = true then Oper.wp P o a w K Q else E := by
  have hw : Region.wanted o (yielded ops a.tmps) = true := by simp [Region.wanted, hgd]
  rw [if_pos hw]
  obtain ⟨A, c, w', hr, h2, h3, h4, h5⟩ := run_append_sl (P := P) t tx o.type e i z size bytes ht hi hz hsize hby hzs (h.sl 0 rfl) hsrc h63 hbytes
  unfold Oper.wp execOp
  simp only [ho, resolve, invoke, builtin, Sem.run_bind, Sem.run_pure, Result.andThen_ok, List.map_toArray, List.map_cons, List.map_nil, hs, hx, hr]
  refine k A c w' (Own.step (A := fun _ => False) h fun B hB => ?_)
  refine ⟨fun k => (Value.slice A (n + m) c).ownBlock = some k, h3.mono (fun k hk => (hB.1 k).2 hk), ⟨fun k => Iff.rfl, h2⟩, fun k hk => ?_⟩
  rcases h4 with h4 | h4
  · rw [h4] at hk; exact .inl ((hB.1 k).2 hk)
  · have := h2.lt k hk
    rw [h4] at hk
    cases hk
    exact .inr ⟨Nat.le_refl _, this⟩
/-- the cells of a block, as a source for append -/
theorem Src.ofCells {P : Program} {size : Nat} {tx e : TypeId} (hk : P.underlying tx = some (.slice e)) (w : World) {n k : Nat} (cs : List Value) (hl : cs.length = k * size) (hc : ∀ j, j < cs.length → w.cell? ⟨n, j, none⟩ = cs[j]?) (h1 : ∀ u ∈ cs, u.oneCell' = true) (c : Nat) : Src P size tx (.slice (some ⟨n, 0, none⟩) k c) k cs w :=
  Src.ofSlice w hk ⟨n, 0, none⟩ k c cs hl (fun j u hj => by
    rw [Addr.add_lit, Nat.zero_add, hc j (List.getElem?_eq_some_iff.1 hj).1]
    exact hj) h1
theorem SepL.at {w : World} {l : List Asn} {S : Nat → Prop} {Q : Asn} (h : SepL w l S) (i : Nat) (hi : l[i]? = some Q) : ∃ A, Q.holds w A ∧ ∀ k, A k → S k := by
  induction l generalizing S i with
  | nil => simp at hi
  | cons R r ih =>
    obtain ⟨A, B, h1, h2, h3, h4⟩ := h
    cases i with
    | zero => cases hi; exact ⟨A, h1, fun k a => (h4 k).2 (.inl a)⟩
    | succ i =>
      obtain ⟨C, g1, g2⟩ := ih h2 i hi
      exact ⟨C, g1, fun k c => (h4 k).2 (.inr (g2 k c))⟩
/-- two blocks side by side are two -/
theorem Own.ne {W w : World} {l : List Asn} {n m : Nat} {cs ds : List Value} (i : Nat) (h : Own W w (cellsA n cs :: l)) (hi : l[i]? = some (cellsA m ds)) : n ≠ m := by
  obtain ⟨hp, S, ⟨A, B, h1, h2, h3, h4⟩, hS⟩ := h
  obtain ⟨C, g1, g2⟩ := h2.at i hi
  intro e
  exact h3 n ((h1.1 n).2 rfl) (g2 n ((g1.1 n).2 e))
theorem Own.ne_sl {W w : World} {l : List Asn} {n m size : Nat} {v : Value} {cs ds : List Value} (i : Nat) (h : Own W w (cellsA n cs :: l)) (hi : l[i]? = some (slA size v m ds)) : ∀ g, v.ownBlock = some g → n ≠ g := by
  obtain ⟨hp, S, ⟨A, B, h1, h2, h3, h4⟩, hS⟩ := h
  obtain ⟨C, g1, g2⟩ := h2.at i hi
  intro g hg e
  exact h3 n ((h1.1 n).2 rfl) (g2 n ((g1.1 n).2 (by rw [e]; exact hg)))
theorem perm_pull {α : Type} {l : List α} {x : α} : ∀ (i : Nat), l[i]? = some x → l.Perm (x :: l.eraseIdx i) := by
  induction l with
  | nil => intro i h; simp at h
  | cons a r ih =>
    intro i h
    cases i with
    | zero => simp at h; subst h; exact List.Perm.refl _
    | succ i => exact (List.Perm.cons a (ih i (by simpa using h))).trans (List.Perm.swap _ _ _)
theorem perm_push {α : Type} {l : List α} {x : α} : ∀ (i : Nat), i < l.length → (x :: l.eraseIdx i).Perm (l.set i x) := by
  induction l with
  | nil => intro i h; simp at h
  | cons a r ih =>
    intro i h
    cases i with
    | zero => exact List.Perm.refl _
    | succ i => exact (List.Perm.swap _ _ _).trans (List.Perm.cons a (ih i (by simpa using h)))
/-- the i-th assertion ahead of the others; and back to its place -/
theorem Own.pull {W wx : World} {l : List Asn} {P : Asn} (i : Nat) (h : Own W wx l) (hi : l[i]? = some P) : Own W wx (P :: l.eraseIdx i) := h.perm (perm_pull i hi)
theorem Own.push {W wx : World} {P : Asn} (l : List Asn) (i : Nat) (hi : i < l.length) (h : Own W wx (P :: l.eraseIdx i)) : Own W wx (l.set i P) := h.perm (perm_push i hi)
/-- a store into a cell of the i-th assertion's block -/
theorem Own.setCellAt {W wx : World} {l : List Asn} {n : Nat} {cs : List Value} (i j : Nat) (v : Value) (h : Own W wx l) (hi : l[i]? = some (cellsA n cs)) (hj : j < cs.length) : Own W (wx.setCell ⟨n, j, none⟩ v) (l.set i (cellsA n (cs.set j v))) :=
  Own.push l i (List.getElem?_eq_some_iff.1 hi).1 ((h.pull i hi).setCell hj)
/-- an assertion at the end -/
theorem Own.snoc {W wx : World} {l : List Asn} {P : Asn} (h : Own W wx (P :: l)) : Own W wx (l ++ [P]) := h.perm (List.perm_append_singleton P l).symm
end Go
