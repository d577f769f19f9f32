/- session: Posts: what it tells, and its frame. -/
import Derived.Test.YtpmebmbibajcoaaSes3
set_option linter.unusedSimpArgs false
set_option linter.unusedVariables false
namespace Go.Proofs.Ytpmebmbibajcoaa
open Go.RowKit
def Post.cs (p : Post) : List Value := [.int .i64 p.mine, .int .i64 p.yours, .int .i64 p.ack, .int .i64 p.seq, .string p.text]
def postCs (l : List Post) : List Value := l.flatMap Post.cs
theorem postCs_append (l m : List Post) : postCs (l ++ m) = postCs l ++ postCs m := by simp [postCs]
theorem postCs_length (l : List Post) : (postCs l).length = l.length * 5 := by
  induction l with
  | nil => rfl
  | cons p l ih =>
    show (p.cs ++ postCs l).length = _
    rw [List.length_append, ih, List.length_cons]
    show 5 + l.length * 5 = _
    omega
def bareP (c : Ch) : Post := ⟨c.mine, c.yours, c.last, 0, ⟨#[]⟩⟩
def textP (c : Ch) (i : Nat) : Post := ⟨c.mine, c.yours, c.last, c.first + i, c.wait.getD i ⟨#[]⟩⟩
def textPs (c : Ch) (k : Nat) : List Post := (List.range k).map (textP c)
theorem textPs_succ (c : Ch) (k : Nat) : textPs c (k + 1) = textPs c k ++ [textP c k] := by simp [textPs, List.range_succ]
theorem textPs_length (c : Ch) (k : Nat) : (textPs c k).length = k := by simp [textPs]
def postK (c : Ch) : Nat := if c.yours = 0 then 0 else min c.wait.length 8
/-- what an end posts -/
def postsL (c : Ch) : List Post :=
  if postK c = 0 then (if c.owes then [bareP c] else []) ++ (if c.met then [] else [{ bareP c with yours := 0 }]) else textPs c (postK c)
/-- a post that lies in a world -/
structure PostAt (wx : World) (B : Nat) (p : Post) : Prop where
  ltB : B < wx.heap.size
  b0 : wx.cell? ⟨B, 0, none⟩ = some (.int .i64 p.mine)
  b1 : wx.cell? ⟨B, 1, none⟩ = some (.int .i64 p.yours)
  b2 : wx.cell? ⟨B, 2, none⟩ = some (.int .i64 p.ack)
  b3 : wx.cell? ⟨B, 3, none⟩ = some (.int .i64 p.seq)
  b4 : wx.cell? ⟨B, 4, none⟩ = some (.string p.text)
  hB : ∀ i, wx.frozen? ⟨B, i, none⟩ = false
theorem PostAt.chg {wx : World} {B : Nat} {p : Post} (k : PostAt wx B p) {w' : World} {T : Nat → Prop} (h : Chg wx w' T) (hB : ¬ T B) : PostAt w' B p := by
  obtain ⟨ltB, b0, b1, b2, b3, b4, hB'⟩ := k
  exact ⟨Nat.lt_of_lt_of_le ltB h.size, (h.cell ltB hB).trans b0, (h.cell ltB hB).trans b1, (h.cell ltB hB).trans b2, (h.cell ltB hB).trans b3, (h.cell ltB hB).trans b4, fun i => (h.frozen ltB hB).trans (hB' i)⟩
theorem PostAt.plus {wx : World} {B : Nat} {p : Post} (k : PostAt wx B p) (e : Ext) : PostAt (wx.plus e) B p := k.chg (Chg.of_plus wx e fun _ => False) (fun h => h)
theorem PostAt.drew {wx : World} {B : Nat} {p : Post} (k : PostAt wx B p) : PostAt wx.drew B p := k.chg (Chg.of_drew wx fun _ => False) (fun h => h)
theorem PostAt.alloc {wx : World} {B : Nat} {p : Post} (k : PostAt wx B p) (o : Obj) : PostAt (wx.alloc o) B p := k.chg (Chg.of_alloc wx o fun _ => False) (fun h => h)
theorem PostAt.new (wx : World) (p : Post) {n : Nat} (hn : n = wx.heap.size) : PostAt (wx.alloc (.cells #[.int .i64 p.mine, .int .i64 p.yours, .int .i64 p.ack, .int .i64 p.seq, .string p.text] 32)) n p := by
  subst hn
  refine ⟨?_, ?_, ?_, ?_, ?_, ?_, fun i => ?_⟩
  all_goals simp [go_sem]
theorem _root_.Go.Sl.le {w : World} {size : Nat} {A : Option Addr} {n c : Nat} {cs : List Value} (h : Sl w size (.slice A n c) n cs) : n ≤ c := by
  rcases h.val with ⟨he, rfl⟩ | ⟨g, off, cap, he, hl, hc, _⟩
  · omega
  · cases he; exact hc
theorem infoPost : (Try.prog.info? 32).map (fun i => (i.zero, i.size, i.bytes)) = some (some (.agg #[.int .i64 0, .int .i64 0, .int .i64 0, .int .i64 0, .string ⟨#[]⟩]), 5, 48) := by kernel_rfl
theorem underPosts : Try.prog.underlying 34 = some (.slice 32) := by kernel_rfl
theorem src_post {w : World} {g : Nat} {p : Post} (h : PostAt w g p) : Src Try.prog 5 34 (.slice (some ⟨g, 0, none⟩) 1 1) 1 (postCs [p]) w :=
  Src.ofSlice (P := Try.prog) w underPosts ⟨g, 0, none⟩ 1 1 (postCs [p]) rfl (fun j u hj => by
    obtain ⟨_, b0, b1, b2, b3, b4, _⟩ := h
    rw [Addr.add_lit, Nat.zero_add]
    match j, hj with
    | 0, hj => cases hj; exact b0
    | 1, hj => cases hj; exact b1
    | 2, hj => cases hj; exact b2
    | 3, hj => cases hj; exact b3
    | 4, hj => cases hj; exact b4
    | n + 5, hj => simp [postCs, Post.cs] at hj) (fun u hu => by
    simp only [postCs, Post.cs, List.flatMap_cons, List.flatMap_nil, List.append_nil, List.mem_cons, List.not_mem_nil, or_false] at hu
    rcases hu with rfl | rfl | rfl | rfl | rfl <;> rfl)
theorem src_cells (wx : World) (m y a s : Int) (t : ByteArray) {n : Nat} (hn : n = wx.heap.size) :
    Src Try.prog 5 34 (.slice (some ⟨n, 0, none⟩) 1 1) 1 [.int .i64 m, .int .i64 y, .int .i64 a, .int .i64 s, .string t] (wx.alloc (.cells #[.int .i64 m, .int .i64 y, .int .i64 a, .int .i64 s, .string t] 32)) :=
  src_post (PostAt.new wx ⟨m, y, a, s, t⟩ hn)
/-- what a call of Posts leaves -/
def PostsPost (w : World) (N : Nat) (S : Nat → Prop) (c : Ch) (l : List Post) (e : Ending) (w' : World) : Prop :=
  ∃ A cap, e = .returned (.slice A l.length cap) ∧ Sl w' 5 (.slice A l.length cap) l.length (postCs l) ∧ (∀ g, (Value.slice A l.length cap).ownBlock = some g → w.heap.size ≤ g ∧ ¬ S g) ∧ ChAt w' N c S ∧ Chg w w' S
end Go.Proofs.Ytpmebmbibajcoaa
