/- session: Posts and Hear of one of two ends: contracts. -/
import Derived.Test.YtpmebmbibajcoaaSes9
set_option linter.unusedSimpArgs false
set_option linter.unusedVariables false
namespace Go.Proofs.Ytpmebmbibajcoaa
open Go.RowKit
section
variable {W wx : World} {N1 N2 : Nat} {c1 c2 : Ch} {S1 S2 : Nat → Prop}
def PoA (W wx : World) (N1 N2 : Nat) (c1 c2 : Ch) (S1 S2 : Nat → Prop) (l : List Post) (e : Ending) (w' : World) : Prop :=
  ∃ A cap, e = .returned (.slice A l.length cap) ∧ PostsAt W w' (.slice A l.length cap) l S1 S2 ∧ Pair2 W w' N1 N2 c1 c2 S1 S2 ∧ Chg wx w' S1
def PoB (W wx : World) (N1 N2 : Nat) (c1 c2 : Ch) (S1 S2 : Nat → Prop) (l : List Post) (e : Ending) (w' : World) : Prop :=
  ∃ A cap, e = .returned (.slice A l.length cap) ∧ PostsAt W w' (.slice A l.length cap) l S1 S2 ∧ Pair2 W w' N1 N2 c1 c2 S1 S2 ∧ Chg wx w' S2
theorem posts_A (h : Pair2 W wx N1 N2 c1 c2 S1 S2) (hf1 : 0 ≤ c1.first ∧ c1.first ≤ 1000000000000000) (hw1 : c1.wait.length ≤ 1000000) :
    Calls Try.prog 14 #[chV N1] wx (PoA W wx N1 N2 { c1 with owes := false } c2 S1 S2 (postsL c1)) :=
  (posts_any wx N1 c1 S1 h.a hf1 hw1).mono fun e w' ⟨A, cap, he, hs, ho, hc, hg⟩ => ⟨A, cap, he, ⟨hs, fun g hg => (ho g hg).2, fun g hg h2 => by have := (ho g hg).1; have := h.b.sub g h2; omega⟩, h.poA hc hg, hg⟩
theorem posts_B (h : Pair2 W wx N1 N2 c1 c2 S1 S2) (hf1 : 0 ≤ c2.first ∧ c2.first ≤ 1000000000000000) (hw1 : c2.wait.length ≤ 1000000) :
    Calls Try.prog 14 #[chV N2] wx (PoB W wx N1 N2 c1 { c2 with owes := false } S1 S2 (postsL c2)) :=
  (posts_any wx N2 c2 S2 h.b hf1 hw1).mono fun e w' ⟨A, cap, he, hs, ho, hc, hg⟩ => ⟨A, cap, he, ⟨hs, fun g hg h2 => by have := (ho g hg).1; have := h.a.sub g h2; omega, fun g hg => (ho g hg).2⟩, h.poB hc hg, hg⟩
def HeA (W wx : World) (N1 N2 : Nat) (x : Hd × Int × Ch) (c2 : Ch) (S1 S2 : Nat → Prop) (e : Ending) (w' : World) : Prop :=
  e = .returned (.tuple #[x.1.v, .int .i64 x.2.1]) ∧ Pair2 W w' N1 N2 x.2.2 c2 (Grown S1 wx w') S2 ∧ Chg wx w' S1
def HeB (W wx : World) (N1 N2 : Nat) (x : Hd × Int × Ch) (c1 : Ch) (S1 S2 : Nat → Prop) (e : Ending) (w' : World) : Prop :=
  e = .returned (.tuple #[x.1.v, .int .i64 x.2.1]) ∧ Pair2 W w' N1 N2 c1 x.2.2 S1 (Grown S2 wx w') ∧ Chg wx w' S2
theorem hear_A (h : Pair2 W wx N1 N2 c1 c2 S1 S2) (p : Post) (hf1 : 1 ≤ c1.first ∧ c1.first ≤ 1000000000000000) (hl1 : 0 ≤ c1.last ∧ c1.last ≤ 1000000000000000) (hw1 : c1.wait.length ≤ 1000000) :
    Calls Try.prog 12 #[chV N1, p.v] wx (HeA W wx N1 N2 (hear c1 p) c2 S1 S2) :=
  (hear_any wx N1 c1 S1 p h.a hf1 hl1 hw1).mono fun e w' hp => ⟨hp.1, h.chA hp, hp.2.2⟩
theorem hear_B (h : Pair2 W wx N1 N2 c1 c2 S1 S2) (p : Post) (hf1 : 1 ≤ c2.first ∧ c2.first ≤ 1000000000000000) (hl1 : 0 ≤ c2.last ∧ c2.last ≤ 1000000000000000) (hw1 : c2.wait.length ≤ 1000000) :
    Calls Try.prog 12 #[chV N2, p.v] wx (HeB W wx N1 N2 (hear c2 p) c1 S1 S2) :=
  (hear_any wx N2 c2 S2 p h.b hf1 hl1 hw1).mono fun e w' hp => ⟨hp.1, h.chB hp, hp.2.2⟩
end
theorem Pair2.far {W wx w' : World} {N1 N2 : Nat} {c1 c2 : Ch} {S1 S2 T : Nat → Prop} (h : Pair2 W wx N1 N2 c1 c2 S1 S2) (hg : Chg wx w' T) (h1 : ∀ k, T k → ¬ S1 k) (h2 : ∀ k, T k → ¬ S2 k) (h3 : ∀ k, T k → W.heap.size ≤ k) : Pair2 W w' N1 N2 c1 c2 S1 S2 :=
  ⟨h.a.chg hg (fun k a t => h1 k t a), h.b.chg hg (fun k a t => h2 k t a), h.d, h.l1, h.l2, hg.toPlus h.p h3⟩
theorem Pair2.alloc {W wx : World} {N1 N2 : Nat} {c1 c2 : Ch} {S1 S2 : Nat → Prop} (h : Pair2 W wx N1 N2 c1 c2 S1 S2) (o : Obj) : Pair2 W (wx.alloc o) N1 N2 c1 c2 S1 S2 :=
  h.far (Chg.of_alloc wx o fun _ => False) (fun _ h => h.elim) (fun _ h => h.elim) (fun _ h => h.elim)
/-- what comes of a post, in memory -/
structure HdAt (wx : World) (X : Nat) (h : Hd) : Prop where
  lt : X < wx.heap.size
  h0 : wx.cell? ⟨X, 0, none⟩ = some (.string h.text)
  h1 : wx.cell? ⟨X, 1, none⟩ = some (.bool h.is)
  h2 : wx.cell? ⟨X, 2, none⟩ = some (.bool h.anew)
  hf : ∀ i, wx.frozen? ⟨X, i, none⟩ = false
theorem HdAt.chg {wx w' : World} {X : Nat} {h : Hd} {T : Nat → Prop} (k : HdAt wx X h) (hc : Chg wx w' T) (hn : ¬ T X) : HdAt w' X h :=
  ⟨Nat.lt_of_lt_of_le k.lt hc.size, (hc.cell k.lt hn).trans k.h0, (hc.cell k.lt hn).trans k.h1, (hc.cell k.lt hn).trans k.h2, fun i => (hc.frozen k.lt hn).trans (k.hf i)⟩
theorem HdAt.new (wx : World) (h : Hd) {n : Nat} (hn : n = wx.heap.size) : HdAt (wx.alloc (.cells #[.string h.text, .bool h.is, .bool h.anew] 28)) n h := by
  subst hn
  refine ⟨?_, ?_, ?_, ?_, fun i => ?_⟩
  all_goals simp [go_sem]
theorem HdAt.set {wx : World} {X : Nat} {h : Hd} (k : HdAt wx X h) (h' : Hd) : HdAt (((wx.setCell ⟨X, 0, none⟩ (.string h'.text)).setCell ⟨X, 1, none⟩ (.bool h'.is)).setCell ⟨X, 2, none⟩ (.bool h'.anew)) X h' := by
  obtain ⟨lt, h0, h1, h2, hf⟩ := k
  refine ⟨by simp only [World.size_setCell]; exact lt, ?_, ?_, ?_, fun i => ?_⟩
  all_goals simp [go_sem, h0, h1, h2, hf]
def SaA (W wx : World) (N1 N2 : Nat) (r : Int) (c1 c2 : Ch) (S1 S2 : Nat → Prop) (e : Ending) (w' : World) : Prop :=
  e = .returned (.int .i64 r) ∧ Pair2 W w' N1 N2 c1 c2 (Grown S1 wx w') S2 ∧ Chg wx w' S1
theorem say_A {W wx : World} {N1 N2 : Nat} {c1 c2 : Ch} {S1 S2 : Nat → Prop} (h : Pair2 W wx N1 N2 c1 c2 S1 S2) (A : Option Addr) (cp : Nat) (xs : List ByteArray) (hn : xs.length ≤ 140737488351232) (hl : c1.wait.length ≤ 1024) (hr : RowsAt wx A 1 xs.length (strAt xs)) :
    Calls Try.prog 13 #[chV N1, .slice A xs.length cp] wx (SaA W wx N1 N2 (sayE c1 xs) (sayC c1 xs) c2 S1 S2) :=
  (say_any wx N1 c1 S1 A cp xs h.a hn hl hr).mono fun e w' hp => ⟨hp.1, h.chA hp, hp.2.2⟩
-- the awake example's ends, step by step
abbrev xA0 : Ch := ⟨1, 0, 1, [], 0, false, false⟩
abbrev xB0 : Ch := ⟨5, 0, 1, [], 0, false, false⟩
abbrev txX : ByteArray := ⟨#[120]⟩
theorem st1 : postsL xA0 = [⟨1, 0, 0, 0, ⟨#[]⟩⟩] := rfl
theorem st2 : hear xB0 ⟨1, 0, 0, 0, ⟨#[]⟩⟩ = (⟨⟨#[]⟩, false, true⟩, 0, ⟨5, 1, 1, [], 0, false, true⟩) := rfl
theorem st3 : postsL ⟨5, 1, 1, [], 0, false, true⟩ = [⟨5, 1, 0, 0, ⟨#[]⟩⟩, ⟨5, 0, 0, 0, ⟨#[]⟩⟩] := rfl
abbrev q1 : Post := ⟨1, 0, 0, 0, ⟨#[]⟩⟩
abbrev xB1 : Ch := ⟨5, 1, 1, [], 0, false, true⟩
abbrev xB2 : Ch := ⟨5, 1, 1, [], 0, false, false⟩
theorem st4 : hear xA0 ⟨5, 1, 0, 0, ⟨#[]⟩⟩ = (⟨⟨#[]⟩, false, true⟩, 0, ⟨1, 5, 1, [], 0, true, true⟩) := rfl
abbrev xA1 : Ch := ⟨1, 5, 1, [], 0, true, true⟩
theorem st5 : hear xA1 ⟨5, 0, 0, 0, ⟨#[]⟩⟩ = (⟨⟨#[]⟩, false, false⟩, 0, xA1) := rfl
theorem st6 : sayE xA1 [txX] = 0 := rfl
theorem st6c : sayC xA1 [txX] = ⟨1, 5, 1, [txX], 0, true, true⟩ := rfl
abbrev xA3 : Ch := ⟨1, 5, 1, [txX], 0, true, true⟩
abbrev xA4 : Ch := ⟨1, 5, 1, [txX], 0, true, false⟩
theorem st7 : postsL xA3 = [⟨1, 5, 0, 1, txX⟩] := rfl
theorem st8 : hear xB2 ⟨1, 5, 0, 1, txX⟩ = (⟨txX, true, false⟩, 0, ⟨5, 1, 1, [], 1, true, true⟩) := rfl
abbrev xB3 : Ch := ⟨5, 1, 1, [], 1, true, true⟩
abbrev xB4 : Ch := ⟨5, 1, 1, [], 1, true, false⟩
theorem st9 : postsL xB3 = [⟨5, 1, 1, 0, ⟨#[]⟩⟩] := rfl
theorem st10 : hear xA4 ⟨5, 1, 1, 0, ⟨#[]⟩⟩ = (⟨⟨#[]⟩, false, false⟩, 0, ⟨1, 5, 2, [], 0, true, false⟩) := rfl
abbrev xA5 : Ch := ⟨1, 5, 2, [], 0, true, false⟩
theorem st11 : postsL xA5 = [] := rfl
theorem st12 : postsL xB4 = [] := rfl
def NewE (w : World) (m : Int) (e : Ending) (w' : World) : Prop := ∃ N, e = .returned (.tuple #[chV N, .int .i64 0]) ∧ w.heap.size ≤ N ∧ ChAt w' N ⟨m, 0, 1, [], 0, false, false⟩ (fun k => k = N) ∧ w.Plus w'
theorem new_E (w : World) (m : Int) (h : 1 ≤ m ∧ m ≤ 1099511627776) : Calls Try.prog 11 #[.int .i64 m] w (NewE w m) :=
  (new_any w m h).mono fun e w' ⟨h1, h2, h3⟩ => ⟨_, h1, Nat.le_refl _, h2, h3⟩
end Go.Proofs.Ytpmebmbibajcoaa
