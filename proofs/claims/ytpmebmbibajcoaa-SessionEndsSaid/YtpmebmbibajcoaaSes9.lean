/- session: two ends in one world; posts that are held: plain laws. -/
import Derived.Test.YtpmebmbibajcoaaSes8
set_option linter.unusedSimpArgs false
set_option linter.unusedVariables false
namespace Go.Proofs.Ytpmebmbibajcoaa
open Go.RowKit
structure Pair2 (W wx : World) (N1 N2 : Nat) (c1 c2 : Ch) (S1 S2 : Nat → Prop) : Prop where
  a : ChAt wx N1 c1 S1
  b : ChAt wx N2 c2 S2
  d : ∀ k, S1 k → ¬ S2 k
  l1 : ∀ k, S1 k → W.heap.size ≤ k
  l2 : ∀ k, S2 k → W.heap.size ≤ k
  p : W.Plus wx
/-- posts that are held, apart from both ends -/
structure PostsAt (W wx : World) (v : Value) (l : List Post) (S1 S2 : Nat → Prop) : Prop where
  sl : Sl wx 5 v l.length (postCs l)
  n1 : ∀ g, v.ownBlock = some g → ¬ S1 g
  n2 : ∀ g, v.ownBlock = some g → ¬ S2 g
section
variable {W wx w' : World} {N1 N2 : Nat} {c1 c2 c' : Ch} {S1 S2 : Nat → Prop} {v u : Value} {e : Ending} {l : List Post}
theorem Pair2.plus (h : Pair2 W wx N1 N2 c1 c2 S1 S2) (x : Ext) : Pair2 W (wx.plus x) N1 N2 c1 c2 S1 S2 := ⟨h.a.plus x, h.b.plus x, h.d, h.l1, h.l2, Plus.plus h.p x⟩
theorem Pair2.chA (h : Pair2 W wx N1 N2 c1 c2 S1 S2) (k : ChPost wx N1 S1 v c' e w') : Pair2 W w' N1 N2 c' c2 (Grown S1 wx w') S2 := by
  obtain ⟨_, hc, hg⟩ := k
  have hW := (Plus.below h.p).size
  exact ⟨hc, h.b.chg hg (fun i h2 h1 => h.d i h1 h2), fun i hi => hi.elim (h.d i) (fun hn h2 => by have := h.b.sub i h2; omega), fun i hi => hi.elim (h.l1 i) (fun hn => by omega), h.l2, hg.toPlus h.p h.l1⟩
theorem Pair2.chB (h : Pair2 W wx N1 N2 c1 c2 S1 S2) (k : ChPost wx N2 S2 v c' e w') : Pair2 W w' N1 N2 c1 c' S1 (Grown S2 wx w') := by
  obtain ⟨_, hc, hg⟩ := k
  have hW := (Plus.below h.p).size
  exact ⟨h.a.chg hg (fun i h1 h2 => h.d i h1 h2), hc, fun i h1 hi => hi.elim (h.d i h1) (fun hn => by have := h.a.sub i h1; omega), h.l1, fun i hi => hi.elim (h.l2 i) (fun hn => by omega), hg.toPlus h.p h.l2⟩
theorem Pair2.poA (h : Pair2 W wx N1 N2 c1 c2 S1 S2) (hc : ChAt w' N1 c' S1) (hg : Chg wx w' S1) : Pair2 W w' N1 N2 c' c2 S1 S2 :=
  ⟨hc, h.b.chg hg (fun i h2 h1 => h.d i h1 h2), h.d, h.l1, h.l2, hg.toPlus h.p h.l1⟩
theorem Pair2.poB (h : Pair2 W wx N1 N2 c1 c2 S1 S2) (hc : ChAt w' N2 c' S2) (hg : Chg wx w' S2) : Pair2 W w' N1 N2 c1 c' S1 S2 :=
  ⟨h.a.chg hg (fun i h1 h2 => h.d i h1 h2), hc, h.d, h.l1, h.l2, hg.toPlus h.p h.l2⟩
theorem PostsAt.plus (h : PostsAt W wx v l S1 S2) (x : Ext) : PostsAt W (wx.plus x) v l S1 S2 := ⟨h.sl.plus x, h.n1, h.n2⟩
theorem PostsAt.alloc (h : PostsAt W wx v l S1 S2) (o : Obj) : PostsAt W (wx.alloc o) v l S1 S2 := ⟨h.sl.chg (Chg.of_alloc wx o fun _ => False) (fun _ _ h => h), h.n1, h.n2⟩
theorem PostsAt.chA (h : PostsAt W wx v l S1 S2) (hg : Chg wx w' S1) : PostsAt W w' v l (Grown S1 wx w') S2 :=
  ⟨h.sl.chg hg h.n1, fun g hg2 hi => hi.elim (h.n1 g hg2) (fun hn => by have := h.sl.lt g hg2; omega), h.n2⟩
theorem PostsAt.chB (h : PostsAt W wx v l S1 S2) (hg : Chg wx w' S2) : PostsAt W w' v l S1 (Grown S2 wx w') :=
  ⟨h.sl.chg hg h.n2, h.n1, fun g hg2 hi => hi.elim (h.n2 g hg2) (fun hn => by have := h.sl.lt g hg2; omega)⟩
/-- the first post that is held -/
theorem PostsAt.get {A : Option Addr} {n cap : Nat} (h : PostsAt W wx (.slice A n cap) l S1 S2) (hl : 0 < l.length) : ∃ g o, A = some ⟨g, o, none⟩ ∧ n = l.length ∧ g < wx.heap.size ∧ ∀ i (p : Post), l[i]? = some p →
    wx.cell? ⟨g, o + i * 5, none⟩ = some (.int .i64 p.mine) ∧ wx.cell? ⟨g, o + i * 5 + 1, none⟩ = some (.int .i64 p.yours) ∧ wx.cell? ⟨g, o + i * 5 + 2, none⟩ = some (.int .i64 p.ack) ∧ wx.cell? ⟨g, o + i * 5 + 3, none⟩ = some (.int .i64 p.seq) ∧ wx.cell? ⟨g, o + i * 5 + 4, none⟩ = some (.string p.text) := by
  rcases h.sl.val with ⟨_, h0⟩ | ⟨g, off, cap', he, hgl, _, _, hc, _⟩
  · omega
  cases he
  refine ⟨g, off, rfl, rfl, hgl, fun i p hp => ?_⟩
  have hi : i < l.length := (List.getElem?_eq_some_iff.1 hp).1
  have key : ∀ (l : List Post) (i : Nat) (p : Post) (j : Nat), l[i]? = some p → j < 5 → (postCs l)[i * 5 + j]? = p.cs[j]? := by
    intro l
    induction l with
    | nil => intro i p j h; simp at h
    | cons q l ih =>
      intro i p j h hj
      show (q.cs ++ postCs l)[i * 5 + j]? = _
      have hq : q.cs.length = 5 := rfl
      cases i with
      | zero =>
        simp at h
        subst h
        rw [List.getElem?_append_left (by rw [hq]; omega)]
        simp
      | succ i =>
        rw [List.getElem?_append_right (by rw [hq]; omega), hq, show (i + 1) * 5 + j - 5 = i * 5 + j by omega]
        exact ih i p j (by simpa using h) hj
  have at' : ∀ j, j < 5 → wx.cell? ⟨g, off + (i * 5 + j), none⟩ = p.cs[j]? := fun j hj => by
    rw [hc (i * 5 + j) (by omega)]
    exact key l i p j hp hj
  exact ⟨at' 0 (by omega), at' 1 (by omega), at' 2 (by omega), at' 3 (by omega), at' 4 (by omega)⟩
end
end Go.Proofs.Ytpmebmbibajcoaa
