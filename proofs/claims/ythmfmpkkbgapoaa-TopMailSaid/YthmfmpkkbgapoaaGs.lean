/- Plain laws and walks: SesE, SesD, SesH, SesI, SesJ, SesK. -/
import Derived.Test.YthmfmpkkbgapoaaGr
import Derived.Deep.CutBlock
-- SesE
/- session: the reference's May: walk. -/
set_option linter.unusedSimpArgs false
set_option linter.unusedVariables false
namespace Go.Proofs.Ythmfmpkkbgapoaa.Ses
open Go.RowKit
theorem okPost_alt (m y a s : Int) (t : ByteArray) : okPost ⟨m, y, a, s, t⟩ = (inT m && (!decide (m = 0) && (inT y && (inT a && (inT s && (decide (t.size ≤ 65472) && (decide (0 < s) || decide (t.size = 0)))))))) := by
  have hz : ∀ t : ByteArray, (t ≠ ⟨#[]⟩ ↔ t.size ≠ 0) := fun t => by rw [Ne, ← size_zero]
  unfold okPost
  simp only [hz]
  unfold inT
  by_cases h1 : 0 ≤ s
  · by_cases h2 : s = 0
    · rw [Bool.eq_iff_iff]
      simp [h2]
      constructor
      · rintro ⟨a1, a2, a3, a4, a5⟩
        exact ⟨a2, by omega, a3, a4, a5⟩
      · rintro ⟨a2, a1, a3, a4, a5⟩
        exact ⟨by omega, a2, a3, a4, a5⟩
    · have h3 : 0 < s := by omega
      rw [Bool.eq_iff_iff]
      simp [h2, h3]
      constructor
      · rintro ⟨a1, a2, a3, a4, a5, a6⟩
        exact ⟨a2, by omega, a3, a4, a5, a6⟩
      · rintro ⟨a2, a1, a3, a4, a5, a6⟩
        exact ⟨by omega, a2, a3, a4, a5, a6⟩
  · rw [Bool.eq_iff_iff]
    simp [h1]
end Go.Proofs.Ythmfmpkkbgapoaa.Ses
-- SesD
/- session: posts that are told, as rows; the reference's Same: walk. -/
set_option linter.unusedSimpArgs false
set_option linter.unusedVariables false
namespace Go.Proofs.Ythmfmpkkbgapoaa.Ses
open Go.RowKit
abbrev po0 : Post := ⟨0, 0, 0, 0, ⟨#[]⟩⟩
def postRow (ps : List Post) (i j : Nat) : Value := (ps.getD i po0).cs.getD j (.bool false)
theorem Own.rows {W wx : World} {l : List Asn} {A : Option Addr} {cap n : Nat} {ps : List Post} (i : Nat) (o : Own W wx l) (hi : l[i]? = some (slA 5 (.slice A n cap) n (postCs ps))) (hn : n = ps.length) : RowsAt wx A 5 n (postRow ps) :=
  (o.sl i hi).rows rfl _ fun i j h1 h2 => by
    have h3 : ps[i]? = some (ps.getD i po0) := by
      rw [List.getD_eq_getElem?_getD, List.getElem?_eq_getElem (by omega)]
      rfl
    rw [postCs_get ps i _ j h3 h2]
    have h5 : (ps.getD i po0).cs.length = 5 := rfl
    unfold postRow
    generalize (ps.getD i po0).cs = l at *
    rw [List.getElem?_eq_getElem (by omega), List.getD_eq_getElem?_getD, List.getElem?_eq_getElem (by omega)]
    rfl
theorem rows_post {wx : World} {A : Option Addr} {n : Nat} {ps : List Post} (h : RowsAt wx A 5 n (postRow ps)) (k : Nat) (hk : k < n) : ∃ g o, A = some ⟨g, o, none⟩ ∧ g < wx.heap.size ∧
    wx.cell? ⟨g, o + k * 5, none⟩ = some (.int .i64 (ps.getD k po0).mine) ∧ wx.cell? ⟨g, o + k * 5 + 1, none⟩ = some (.int .i64 (ps.getD k po0).yours) ∧ wx.cell? ⟨g, o + k * 5 + 2, none⟩ = some (.int .i64 (ps.getD k po0).ack) ∧ wx.cell? ⟨g, o + k * 5 + 3, none⟩ = some (.int .i64 (ps.getD k po0).seq) ∧ wx.cell? ⟨g, o + k * 5 + 4, none⟩ = some (.string (ps.getD k po0).text) := by
  obtain ⟨g, o, rfl, hl, hc⟩ := h (by omega)
  exact ⟨g, o, rfl, hl, hc k 0 hk (by omega), hc k 1 hk (by omega), hc k 2 hk (by omega), hc k 3 hk (by omega), hc k 4 hk (by omega)⟩
end Go.Proofs.Ythmfmpkkbgapoaa.Ses
-- SesH
/- session: the reference's end, as an assertion; its Say: walk. -/
set_option linter.unusedSimpArgs false
set_option linter.unusedVariables false
namespace Go.Proofs.Ythmfmpkkbgapoaa.Ses
open Go.RowKit
/-- the cells of the texts that wait, each with its number -/
def numCs : Int → List ByteArray → List Value
  | _, [] => []
  | f, s :: r => .int .i64 f :: .string s :: numCs (f + 1) r
theorem numCs_length (f : Int) (ws : List ByteArray) : (numCs f ws).length = ws.length * 2 := by
  induction ws generalizing f with
  | nil => rfl
  | cons s r ih => simp only [numCs, List.length_cons, ih]; omega
theorem numCs_append (f : Int) (a b : List ByteArray) : numCs f (a ++ b) = numCs f a ++ numCs (f + a.length) b := by
  induction a generalizing f with
  | nil => simp [numCs]
  | cons s r ih =>
    have e : f + (((s :: r).length : Nat) : Int) = f + 1 + r.length := by simp only [List.length_cons]; omega
    rw [e]
    simp only [List.cons_append, numCs, ih]
theorem numCs_get (f : Int) (ws : List ByteArray) (i : Nat) (h : i < ws.length) : (numCs f ws)[i * 2]? = some (.int .i64 (f + i)) ∧ (numCs f ws)[i * 2 + 1]? = some (.string (ws.getD i ⟨#[]⟩)) := by
  induction ws generalizing f i with
  | nil => simp at h
  | cons s r ih =>
    cases i with
    | zero => simp [numCs]
    | succ i =>
      have := ih (f + 1) i (by simp at h; omega)
      rw [show (i + 1) * 2 = i * 2 + 1 + 1 by omega]
      simp only [numCs, List.getElem?_cons_succ, List.getD_cons_succ]
      rw [this.1, this.2]
      exact ⟨by rw [show f + 1 + (i : Int) = f + ((i + 1 : Nat) : Int) by omega], rfl⟩
theorem numCs_one (f : Int) (ws : List ByteArray) (h : ∀ u ∈ numCs f ws, u.oneCell' = true) : True := trivial
/-- the reference's end, its slice told -/
def refF (M : Nat) (c : Ch) (x : Option Addr × Nat) : List Asn :=
  [cellsA M [.int .i64 c.mine, .int .i64 c.yours, .slice x.1 c.wait.length x.2, .int .i64 (c.first - 1 + c.wait.length), .int .i64 c.last, .bool c.met, .bool c.owes], slA 2 (.slice x.1 c.wait.length x.2) c.wait.length (numCs c.first c.wait)]
def refA (M : Nat) (c : Ch) : Asn := exA (refF M c)
/-- what a walk wants of the end's block -/
structure RefAt (w : World) (M : Nat) (c : Ch) (A : Option Addr) (cap : Nat) : Prop where
  lt : M < w.heap.size
  c0 : w.cell? ⟨M, 0, none⟩ = some (.int .i64 c.mine)
  c1 : w.cell? ⟨M, 1, none⟩ = some (.int .i64 c.yours)
  c2 : w.cell? ⟨M, 2, none⟩ = some (.slice A c.wait.length cap)
  c3 : w.cell? ⟨M, 3, none⟩ = some (.int .i64 (c.first - 1 + c.wait.length))
  c4 : w.cell? ⟨M, 4, none⟩ = some (.int .i64 c.last)
  c5 : w.cell? ⟨M, 5, none⟩ = some (.bool c.met)
  c6 : w.cell? ⟨M, 6, none⟩ = some (.bool c.owes)
  hf : ∀ i, w.frozen? ⟨M, i, none⟩ = false
theorem Own.refAt {W wx : World} {l : List Asn} {M : Nat} {c : Ch} {A : Option Addr} {cap : Nat} (h : Own W wx (refF M c (A, cap) ++ l)) : RefAt wx M c A cap := by
  obtain ⟨h1, h2, h3⟩ := Own.cells 0 h rfl
  exact ⟨h1, h2 0 (by simp), h2 1 (by simp), h2 2 (by simp), h2 3 (by simp), h2 4 (by simp), h2 5 (by simp), h2 6 (by simp), h3⟩
theorem any_take (xs : List ByteArray) (k : Nat) (h : k < xs.length) (hk : (xs.take k).any longB = false) (hb : longB (xs.getD k ⟨#[]⟩) = false) : (xs.take (k + 1)).any longB = false := by
  have e : xs.take (k + 1) = xs.take k ++ [xs.getD k ⟨#[]⟩] := by
    rw [List.take_succ_eq_append_getElem h, List.getD_eq_getElem?_getD, List.getElem?_eq_getElem h]
    rfl
  rw [e, List.any_append, hk]
  simp only [List.any_cons, List.any_nil, hb, Bool.or_self]
theorem any_at (xs : List ByteArray) (k : Nat) (h : k < xs.length) (hb : longB (xs.getD k ⟨#[]⟩) = true) : xs.any longB = true := by
  rw [List.any_eq_true]
  refine ⟨_, ?_, hb⟩
  rw [List.getD_eq_getElem?_getD, List.getElem?_eq_getElem h]
  exact List.getElem_mem h
end Go.Proofs.Ythmfmpkkbgapoaa.Ses
-- SesI
/- session: the reference's Hear: walk. -/
set_option linter.unusedSimpArgs false
set_option linter.unusedVariables false
namespace Go.Proofs.Ythmfmpkkbgapoaa.Ses
open Go.RowKit
section
variable {W wx : World} {l : List Asn} {M : Nat} {c : Ch} {x : Option Addr × Nat}
theorem Own.refOwes (h : Own W wx (refF M c x ++ l)) (b : Bool) : Own W (wx.setCell ⟨M, 6, none⟩ (.bool b)) (refA M { c with owes := b } :: l) := Own.mk (refF M { c with owes := b }) x (Own.setCell (i := 6) h (by simp))
theorem Own.refMet (h : Own W wx (refF M c x ++ l)) (b : Bool) : Own W (wx.setCell ⟨M, 5, none⟩ (.bool b)) (refA M { c with met := b } :: l) := Own.mk (refF M { c with met := b }) x (Own.setCell (i := 5) h (by simp))
theorem Own.refLast (h : Own W wx (refF M c x ++ l)) (b : Int) : Own W (wx.setCell ⟨M, 4, none⟩ (.int .i64 b)) (refA M { c with last := b } :: l) := Own.mk (refF M { c with last := b }) x (Own.setCell (i := 4) h (by simp))
/-- the end that begins anew -/
theorem Own.refAnew (h : Own W wx (refF M c x ++ l)) (m : Int) :
    Own W (((((wx.setCell ⟨M, 1, none⟩ (.int .i64 m)).setCell ⟨M, 2, none⟩ (.slice none 0 0)).setCell ⟨M, 3, none⟩ (.int .i64 0)).setCell ⟨M, 4, none⟩ (.int .i64 0)).setCell ⟨M, 5, none⟩ (.bool false)) (refA M ⟨c.mine, m, 1, [], 0, false, c.owes⟩ :: l) := by
  have h1 := Own.setCell (i := 1) (v := .int .i64 m) h (by simp)
  have h2 := Own.setCell (i := 2) (v := .slice none 0 0) h1 (by simp)
  have h3 := Own.setCell (i := 3) (v := .int .i64 0) h2 (by simp)
  have h4 := Own.setCell (i := 4) (v := .int .i64 0) h3 (by simp)
  have h5 := Own.setCell (i := 5) (v := .bool false) h4 (by simp)
  simp only [List.set_cons_succ, List.set_cons_zero] at h5
  have h6 : Own W _ (cellsA M _ :: l) := h5.rot1.drop
  have h7 := (Own.add h6 (Chg.refl _ _) (Q := slA 2 (.slice none 0 0) 0 []) (A := fun _ => False) ⟨fun k => by simp [Value.ownBlock], Sl.nil _ _⟩ (fun _ h => h.elim)).rot1
  exact Own.mk (refF M ⟨c.mine, m, 1, [], 0, false, c.owes⟩) (none, 0) h7
end
def hearO (W : World) (M : Nat) (l : List Asn) (X : Hd × Int × Ch) (e : Ending) (w' : World) : Prop := e = .returned (.tuple #[.string X.1.text, .bool X.1.is, .bool X.1.anew, .int .i64 X.2.1]) ∧ Own W w' (refA M X.2.2 :: l)
end Go.Proofs.Ythmfmpkkbgapoaa.Ses
-- SesJ
/- session: the reference's Posts: walk. -/
set_option linter.unusedSimpArgs false
set_option linter.unusedVariables false
namespace Go.Proofs.Ythmfmpkkbgapoaa.Ses
open Go.RowKit
theorem src_postAt (w : World) (n : Nat) (m y a s : Int) (t : ByteArray) (h0 : w.cell? ⟨n, 0, none⟩ = some (.int .i64 m)) (h1 : w.cell? ⟨n, 1, none⟩ = some (.int .i64 y)) (h2 : w.cell? ⟨n, 2, none⟩ = some (.int .i64 a)) (h3 : w.cell? ⟨n, 3, none⟩ = some (.int .i64 s)) (h4 : w.cell? ⟨n, 4, none⟩ = some (.string t)) :
    Src Try.prog 5 86 (.slice (some ⟨n, 0, none⟩) 1 1) 1 [.int .i64 m, .int .i64 y, .int .i64 a, .int .i64 s, .string t] w := by
  refine Src.ofCells underPosts _ _ rfl (fun j hj => ?_) (fun u hu => ?_) 1
  · match j, hj with
    | 0, _ => exact h0
    | 1, _ => exact h1
    | 2, _ => exact h2
    | 3, _ => exact h3
    | 4, _ => exact h4
    | j + 5, hj => simp at hj; omega
  · simp only [List.mem_cons, List.not_mem_nil, or_false] at hu
    rcases hu with rfl | rfl | rfl | rfl | rfl <;> rfl
def RefPostsO (W : World) (M : Nat) (c : Ch) (l : List Asn) (ps : List Post) (e : Ending) (w' : World) : Prop :=
  ∃ A cap, e = .returned (.slice A ps.length cap) ∧ Own W w' (refA M c :: slA 5 (.slice A ps.length cap) ps.length (postCs ps) :: l)
end Go.Proofs.Ythmfmpkkbgapoaa.Ses
-- SesK
/- SessionPlays: few: walk. -/
set_option linter.unusedSimpArgs false
set_option linter.unusedVariables false
namespace Go.Proofs.Ythmfmpkkbgapoaa.Ses
open Go.RowKit
/-- a deed, as it lies in memory -/
structure Deed where
  kind : Int
  la : Option Addr
  ln : Nat
  lc : Nat
  post : Post
def Deed.cs (d : Deed) : List Value := [.int .i64 d.kind, .slice d.la d.ln d.lc, .int .i64 d.post.mine, .int .i64 d.post.yours, .int .i64 d.post.ack, .int .i64 d.post.seq, .string d.post.text]
def deedsCs (l : List Deed) : List Value := l.flatMap Deed.cs
abbrev de0 : Deed := ⟨0, none, 0, 0, po0⟩
def deedRow (ds : List Deed) (i j : Nat) : Value := (ds.getD i de0).cs.getD j (.bool false)
def trunc (d : Deed) : Deed := { d with ln := min d.ln 20 }
def fewD (ds : List Deed) : List Deed := (ds.take 60).map trunc
theorem deedsCs_append (l m : List Deed) : deedsCs (l ++ m) = deedsCs l ++ deedsCs m := by simp [deedsCs]
theorem deedsCs_length (l : List Deed) : (deedsCs l).length = l.length * 7 := by
  induction l with
  | nil => rfl
  | cons d r ih =>
    show (d.cs ++ deedsCs r).length = _
    rw [List.length_append, ih, List.length_cons]
    show 7 + r.length * 7 = _
    omega
theorem deedsCs_get (l : List Deed) (i j : Nat) (hi : i < l.length) (hj : j < 7) : (deedsCs l)[i * 7 + j]? = (l.getD i de0).cs[j]? := by
  induction l generalizing i with
  | nil => simp at hi
  | cons d r ih =>
    show (d.cs ++ deedsCs r)[i * 7 + j]? = _
    have hd : d.cs.length = 7 := rfl
    cases i with
    | zero => rw [List.getElem?_append_left (by rw [hd]; omega)]; simp
    | succ i =>
      rw [List.getElem?_append_right (by rw [hd]; omega), hd, show (i + 1) * 7 + j - 7 = i * 7 + j by omega]
      exact ih i (by simp at hi; omega)
/-- the cells of a deed in its list -/
structure DeedAt (w : World) (g o : Nat) (d : Deed) : Prop where
  c0 : w.cell? ⟨g, o, none⟩ = some (.int .i64 d.kind)
  c1 : w.cell? ⟨g, o + 1, none⟩ = some (.slice d.la d.ln d.lc)
  c2 : w.cell? ⟨g, o + 2, none⟩ = some (.int .i64 d.post.mine)
  c3 : w.cell? ⟨g, o + 3, none⟩ = some (.int .i64 d.post.yours)
  c4 : w.cell? ⟨g, o + 4, none⟩ = some (.int .i64 d.post.ack)
  c5 : w.cell? ⟨g, o + 5, none⟩ = some (.int .i64 d.post.seq)
  c6 : w.cell? ⟨g, o + 6, none⟩ = some (.string d.post.text)
theorem deed_row {w : World} {A : Option Addr} {n : Nat} {ds : List Deed} (h : RowsAt w A 7 n (deedRow ds)) (k : Nat) (hk : k < n) : ∃ g o, A = some ⟨g, o, none⟩ ∧ g < w.heap.size ∧ DeedAt w g (o + k * 7) (ds.getD k de0) := by
  obtain ⟨g, o, rfl, hl, hc⟩ := h (by omega)
  exact ⟨g, o, rfl, hl, hc k 0 hk (by omega), hc k 1 hk (by omega), hc k 2 hk (by omega), hc k 3 hk (by omega), hc k 4 hk (by omega), hc k 5 hk (by omega), hc k 6 hk (by omega)⟩
theorem fewD_step (ds : List Deed) (k : Nat) (h : k < ds.length) (h2 : k < 60) : fewD (ds.take (k + 1)) = fewD (ds.take k) ++ [trunc (ds.getD k de0)] := by
  unfold fewD
  have e : ds.take (k + 1) = ds.take k ++ [ds.getD k de0] := by
    rw [List.take_succ_eq_append_getElem h, List.getD_eq_getElem?_getD, List.getElem?_eq_getElem h]
    rfl
  have e1 : (ds.take (k + 1)).take 60 = ds.take (k + 1) := List.take_of_length_le (by rw [List.length_take]; omega)
  have e2 : (ds.take k).take 60 = ds.take k := List.take_of_length_le (by rw [List.length_take]; omega)
  rw [e1, e2, e, List.map_append]
  rfl
theorem fewD_len (ds : List Deed) : (fewD ds).length = min ds.length 60 := by simp [fewD, Nat.min_comm]
def FewO (W : World) (l : List Asn) (ds : List Deed) (e : Ending) (w' : World) : Prop := ∃ A cap, e = .returned (.slice A (fewD ds).length cap) ∧ Own W w' (slA 7 (.slice A (fewD ds).length cap) (fewD ds).length (deedsCs (fewD ds)) :: l)
end Go.Proofs.Ythmfmpkkbgapoaa.Ses
