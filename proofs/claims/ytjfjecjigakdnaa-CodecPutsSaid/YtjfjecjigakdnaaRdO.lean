/- octet: readers as assertions; numbers and texts that are laid: contracts. -/
import Derived.Test.YtjfjecjigakdnaaRefRead3
import Derived.Test.YtjfjecjigakdnaaDec
import Derived.Test.YtjfjecjigakdnaaHeap
set_option linter.unusedSimpArgs false
set_option linter.unusedVariables false
namespace Go.Proofs.Ytjfjecjigakdnaa.Octs
open Go.RowKit
/-- a reader, as an assertion -/
def rdA (N : Nat) (s : ByteArray) (b : Bool) : Asn where
  holds w S := (∀ k, S k ↔ k = N) ∧ RdAt w N s b
  keep w w' S h hs hk := by
    obtain ⟨h1, lt, c0, c1, f0, f1⟩ := h
    have e := hk N ((h1 N).2 rfl)
    exact ⟨h1, by omega, (World.cell?_of_block (w := w) (a := ⟨N, 0, none⟩) e).trans c0, (World.cell?_of_block (w := w) (a := ⟨N, 1, none⟩) e).trans c1, (World.frozen?_of_block (w := w) (a := ⟨N, 0, none⟩) e).trans f0, (World.frozen?_of_block (w := w) (a := ⟨N, 1, none⟩) e).trans f1⟩
  inb w S h k hk := by rw [(h.1 k).1 hk]; exact h.2.lt
theorem Upd.chg {w w' : World} {N : Nat} (h : Upd w w' N) {S : Nat → Prop} (hS : S N) : Chg w w' S := ⟨h.os, h.tape, h.output, h.size, fun k hk hn => h.block k hk fun e => hn (by rw [e]; exact hS)⟩
section
variable {W wx : World} {N : Nat} {s : ByteArray} {b : Bool} {l : List Asn}
theorem rd_O {f : FuncId} {args : Array Value} {v : Value} {s' : ByteArray} {b' : Bool} (h : Own W wx (rdA N s b :: l)) (k : RdAt wx N s b → Calls Try.prog f args wx (RdPost wx N v s' b')) :
    Calls Try.prog f args wx (OwnTo W v (rdA N s' b' :: l)) :=
  Own.call (X := fun e _ P' => e = .returned v ∧ P' = rdA N s' b') h
    (fun A hA => (k hA.2).mono fun e w' ⟨h1, h2, h3⟩ => ⟨_, A, ⟨h1, rfl⟩, h3.chg ((hA.1 N).2 rfl), ⟨hA.1, h2⟩, fun k hk => .inl hk⟩) (fun e w' P' ⟨h1, h2⟩ h3 => ⟨h1, by rw [← h2]; exact h3⟩)
theorem rdInt_O (h : Own W wx (rdA N s b :: l)) (hs : s.size ≤ 1000000000) : Calls Try.prog 54 #[rdV N] wx (OwnTo W (.int .i64 (rInt s b).1) (rdA N (rInt s b).2.1 (rInt s b).2.2 :: l)) :=
  rd_O h fun k => rdInt wx N s b k hs
theorem rdDone_O (h : Own W wx (rdA N s b :: l)) : Calls Try.prog 59 #[rdV N] wx fun e w' => e = .returned (.int .i64 (rDone s b)) ∧ wx.Plus w' := by
  obtain ⟨A, hA, _⟩ := h.get
  exact rdDone wx N s b hA.2
theorem refRdInt_O (h : Own W wx (rdA N s b :: l)) (hs : s.size ≤ 1000000000) (hb : b = true → s = ⟨#[]⟩) : Calls Try.prog 56 #[rdV N] wx (OwnTo W (.int .i64 (rInt s b).1) (rdA N (rInt s b).2.1 (rInt s b).2.2 :: l)) :=
  rd_O h fun k => refRdInt wx N s b k hs hb
theorem Own.rd (i : Nat) (h : Own W wx l) (hi : l[i]? = some (rdA N s b)) : RdAt wx N s b := by
  obtain ⟨A, hA, _⟩ := h.at hi
  exact hA.2
theorem of_O (h : Own W wx l) (hs : s.size ≤ 1000000000) : Calls Try.prog 18 #[.string s] wx (fun e w' => ∃ N, e = .returned (rdV N) ∧ Own W w' (rdA N s false :: l)) :=
  (of_new wx s hs).mono fun e w' ⟨N, h1, h2, h3, h4⟩ => ⟨N, h1, Own.add (A := fun k => k = N) h (Chg.of_Plus h4 _) ⟨fun k => Iff.rfl, h3⟩ (fun k hk => by omega)⟩
end
theorem int_at4 (w : World) (b c : Nat) (x y z u : Int) [hb : InW b w] (h0 : w.cell? ⟨b, 0, none⟩ = some (.int .i64 x)) (h1 : w.cell? ⟨b, 1, none⟩ = some (.int .i64 y)) (h2 : w.cell? ⟨b, 2, none⟩ = some (.int .i64 z)) (h3 : w.cell? ⟨b, 3, none⟩ = some (.int .i64 u)) (hx : In64 x) (hy : In64 y) (hz : In64 z) (hu : In64 u) :
    Calls Try.prog 45 #[.slice (some ⟨b, 0, none⟩) 4 c] w fun e w' => e = .returned (.string (txt (enc x ++ (enc y ++ (enc z ++ enc u))))) ∧ w.Plus w' := by
  have := int_any [x, y, z, u] (some ⟨b, 0, none⟩) c w (by simp) (by simp; exact ⟨hx, hy, hz, hu⟩) (fun _ => ⟨b, 0, rfl, hb.lt, fun i j hi hj => by
    obtain rfl : j = 0 := by omega
    have : i = 0 ∨ i = 1 ∨ i = 2 ∨ i = 3 := by simp at hi; omega
    rcases this with rfl | rfl | rfl | rfl
    · exact h0
    · exact h1
    · exact h2
    · exact h3⟩)
  simpa [encs] using this
end Go.Proofs.Ytjfjecjigakdnaa.Octs
