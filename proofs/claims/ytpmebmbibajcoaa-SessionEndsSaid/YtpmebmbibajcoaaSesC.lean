/- session: an end as an assertion: contracts; what it hears of an end in an epoch: plain laws. -/
import Derived.Test.YtpmebmbibajcoaaSesB
import Derived.Test.YtpmebmbibajcoaaHeap
set_option linter.unusedSimpArgs false
set_option linter.unusedVariables false
namespace Go.Proofs.Ytpmebmbibajcoaa
open Go.RowKit
/-- an end, as an assertion -/
def chanA (N : Nat) (c : Ch) : Asn where
  holds w S := ChAt w N c S
  keep w w' S h hs hk := by
    obtain ⟨lt, sub, own, c0, c1, c2, c4, c5, c6, hf, A, cap, c3, hsl, hg⟩ := h
    have e : ∀ i, w'.cell? ⟨N, i, none⟩ = w.cell? ⟨N, i, none⟩ := fun i => World.cell?_of_block (w := w) (a := ⟨N, i, none⟩) (hk N own)
    have f : ∀ i, w'.frozen? ⟨N, i, none⟩ = w.frozen? ⟨N, i, none⟩ := fun i => World.frozen?_of_block (w := w) (a := ⟨N, i, none⟩) (hk N own)
    exact ⟨by omega, fun k a => by have := sub k a; omega, own, (e 0).trans c0, (e 1).trans c1, (e 2).trans c2, (e 4).trans c4, (e 5).trans c5, (e 6).trans c6, fun i => (f i).trans (hf i), A, cap, (e 3).trans c3, hsl.keep hs (fun g h => hk g (hg g h).1), hg⟩
  inb w S h := h.sub
section
variable {W wx w' : World} {N : Nat} {c c' : Ch} {v : Value} {e : Ending} {l : List Asn}
theorem hear_O (h : Own W wx (chanA N c :: l)) (p : Post) (hf1 : 1 ≤ c.first ∧ c.first ≤ 1000000000000000) (hl1 : 0 ≤ c.last ∧ c.last ≤ 1000000000000000) (hw1 : c.wait.length ≤ 1000000) :
    Calls Try.prog 12 #[chV N, p.v] wx (OwnTo W (.tuple #[(hear c p).1.v, .int .i64 (hear c p).2.1]) (chanA N (hear c p).2.2 :: l)) :=
  Own.call (X := fun e _ P' => e = .returned (.tuple #[(hear c p).1.v, .int .i64 (hear c p).2.1]) ∧ P' = chanA N (hear c p).2.2) h
    (fun A hA => (hear_any wx N c A p hA hf1 hl1 hw1).mono fun e w' ⟨h1, h2, h3⟩ => ⟨_, _, ⟨h1, rfl⟩, h3, h2, fun k h => h⟩) (fun e w' P' ⟨h1, h2⟩ h3 => ⟨h1, by rw [← h2]; exact h3⟩)
theorem say_O (h : Own W wx (chanA N c :: l)) (A : Option Addr) (cp : Nat) (xs : List ByteArray) (hn : xs.length ≤ 140737488351232) (hw : c.wait.length ≤ 1024) (hr : RowsAt wx A 1 xs.length (strAt xs)) :
    Calls Try.prog 13 #[chV N, .slice A xs.length cp] wx (OwnTo W (.int .i64 (sayE c xs)) (chanA N (sayC c xs) :: l)) :=
  Own.call (X := fun e _ P' => e = .returned (.int .i64 (sayE c xs)) ∧ P' = chanA N (sayC c xs)) h
    (fun B hB => (say_any wx N c B A cp xs hB hn hw hr).mono fun e w' ⟨h1, h2, h3⟩ => ⟨_, _, ⟨h1, rfl⟩, h3, h2, fun k h => h⟩) (fun e w' P' ⟨h1, h2⟩ h3 => ⟨h1, by rw [← h2]; exact h3⟩)
def PostsO (W : World) (N : Nat) (c : Ch) (l : List Asn) (ps : List Post) (e : Ending) (w' : World) : Prop :=
  ∃ A cap, e = .returned (.slice A ps.length cap) ∧ Own W w' (chanA N c :: slA 5 (.slice A ps.length cap) ps.length (postCs ps) :: l)
theorem posts_O (h : Own W wx (chanA N c :: l)) (hf1 : 0 ≤ c.first ∧ c.first ≤ 1000000000000000) (hw1 : c.wait.length ≤ 1000000) :
    Calls Try.prog 14 #[chV N] wx (PostsO W N { c with owes := false } l (postsL c)) :=
  Own.call (X := fun e _ P' => ∃ A cap, e = .returned (.slice A (postsL c).length cap) ∧ P' = bothA [chanA N { c with owes := false }, slA 5 (.slice A (postsL c).length cap) (postsL c).length (postCs (postsL c))]) h
    (fun B hB => (posts_any wx N c B hB hf1 hw1).mono fun e w' ⟨A, cap, he, hs, ho, hc, hg⟩ =>
      ⟨_, fun k => B k ∨ (Value.slice A (postsL c).length cap).ownBlock = some k, ⟨A, cap, he, rfl⟩, hg, ⟨B, fun k => (Value.slice A (postsL c).length cap).ownBlock = some k, hc, ⟨_, fun _ => False, ⟨fun k => Iff.rfl, hs⟩, fun _ h => h, fun _ _ h => h, fun k => by simp⟩, fun k b h => (ho k h).2 b, fun k => Iff.rfl⟩,
        fun k hk => hk.elim .inl fun h => .inr ⟨(ho k h).1, hs.lt k h⟩⟩)
    (fun e w' P' ⟨A, cap, h1, h2⟩ h3 => ⟨A, cap, h1, by subst h2; exact h3.both⟩)
theorem new_O (h : Own W wx l) (m : Int) (hm : 1 ≤ m ∧ m ≤ 1099511627776) : Calls Try.prog 11 #[.int .i64 m] wx (fun e w' => ∃ N, e = .returned (.tuple #[chV N, .int .i64 0]) ∧ Own W w' (chanA N ⟨m, 0, 1, [], 0, false, false⟩ :: l)) :=
  (new_E wx m hm).mono fun e w' ⟨N, h1, h2, h3, h4⟩ => ⟨N, h1, Own.add (A := fun k => k = N) h (Chg.of_Plus h4 _) h3 (fun k hk => by omega)⟩
theorem waiting_O (h : Own W wx (chanA N c :: l)) (hl : c.wait.length ≤ 1000000) : Calls Try.prog 16 #[chV N] wx (fun e w' => e = .returned (.int .i64 (c.wait.length : Int)) ∧ wx.Plus w') := by
  obtain ⟨A, hA, _⟩ := h.get
  exact waiting_any wx N c A hA hl
theorem epochs_O (h : Own W wx (chanA N c :: l)) : Calls Try.prog 22 #[chV N] wx (fun e w' => e = .returned (.tuple #[.int .i64 c.mine, .int .i64 c.yours]) ∧ wx.Plus w') := by
  obtain ⟨A, hA, _⟩ := h.get
  exact epochs_any wx N c A hA
end
/-- what was heard, in memory -/
abbrev hdA (X : Nat) (h : Hd) : Asn := cellsA X [.string h.text, .bool h.is, .bool h.anew]
theorem Own.newHd {W wx : World} {l : List Asn} (o : Own W wx l) (d : Hd) : Own W (wx.alloc (.cells #[.string d.text, .bool d.is, .bool d.anew] 28)) (hdA wx.heap.size d :: l) := o.newCells _ _
theorem Own.hd {W wx : World} {l : List Asn} {X : Nat} {h : Hd} (i : Nat) (o : Own W wx l) (hi : l[i]? = some (hdA X h)) : X < wx.heap.size ∧ wx.cell? ⟨X, 0, none⟩ = some (.string h.text) ∧ wx.cell? ⟨X, 1, none⟩ = some (.bool h.is) ∧ wx.cell? ⟨X, 2, none⟩ = some (.bool h.anew) ∧ ∀ j, wx.frozen? ⟨X, j, none⟩ = false := by
  obtain ⟨h1, h2, h3⟩ := o.cells i hi
  exact ⟨h1, h2 0 (by simp), h2 1 (by simp), h2 2 (by simp), h3⟩
theorem postCs_get (ps : List Post) (i : Nat) (p : Post) (j : Nat) (h : ps[i]? = some p) (hj : j < 5) : (postCs ps)[i * 5 + j]? = p.cs[j]? := by
  induction ps generalizing i with
  | nil => simp at h
  | cons q l ih =>
    show (q.cs ++ postCs l)[i * 5 + j]? = _
    have hq : q.cs.length = 5 := rfl
    cases i with
    | zero =>
      simp at h
      subst h
      rw [List.getElem?_append_left (by rw [hq]; omega)]
      simp
    | succ i =>
      rw [List.getElem?_append_right (by rw [hq]; omega), hq, show (i + 1) * 5 + j - 5 = i * 5 + j by omega]
      exact ih i (by simpa using h)
theorem Own.posts {W wx : World} {l : List Asn} {A : Option Addr} {cap n : Nat} {ps : List Post} (i : Nat) (o : Own W wx l) (hi : l[i]? = some (slA 5 (.slice A n cap) n (postCs ps))) (hn : n = ps.length) (h0 : 0 < n) : ∃ g o, A = some ⟨g, o, none⟩ ∧ g < wx.heap.size ∧ ∀ i (p : Post), ps[i]? = some p →
    wx.cell? ⟨g, o + i * 5, none⟩ = some (.int .i64 p.mine) ∧ wx.cell? ⟨g, o + i * 5 + 1, none⟩ = some (.int .i64 p.yours) ∧ wx.cell? ⟨g, o + i * 5 + 2, none⟩ = some (.int .i64 p.ack) ∧ wx.cell? ⟨g, o + i * 5 + 3, none⟩ = some (.int .i64 p.seq) ∧ wx.cell? ⟨g, o + i * 5 + 4, none⟩ = some (.string p.text) := by
  subst hn
  obtain ⟨g, off, rfl, hg, hc⟩ := (o.sl i hi).cellsOf h0
  refine ⟨g, off, rfl, hg, fun i p hp => ?_⟩
  have hi : i < ps.length := (List.getElem?_eq_some_iff.1 hp).1
  have at' : ∀ j, j < 5 → wx.cell? ⟨g, off + (i * 5 + j), none⟩ = p.cs[j]? := fun j hj => by
    rw [hc (i * 5 + j) (by omega)]
    exact postCs_get ps i p j hp hj
  exact ⟨at' 0 (by omega), at' 1 (by omega), at' 2 (by omega), at' 3 (by omega), at' 4 (by omega)⟩
/-- a text said alone -/
theorem one_row (wx : World) (x : ByteArray) : RowsAt (wx.alloc (.cells #[.string x] 9)) (some ⟨wx.heap.size, 0, none⟩) 1 [x].length (strAt [x]) :=
  fun _ => ⟨wx.heap.size, 0, rfl, by simp [go_sem], fun i j hi hj => by
    obtain rfl : i = 0 := by simp at hi; omega
    obtain rfl : j = 0 := by omega
    simp [go_sem, strAt]⟩
theorem hear_first (m o : Int) (t : ByteArray) (hm : 1 ≤ m ∧ m ≤ 1099511627776) (ho : 1 ≤ o ∧ o ≤ 1099511627776) (ht : t.size ≤ 65472) :
    hear ⟨m, 0, 1, [], 0, false, false⟩ ⟨o, m, 0, 1, t⟩ = (⟨t, true, true⟩, 0, ⟨m, o, 1, [], 1, true, true⟩) := by
  have h1 : (0 : Int) < o := by omega
  have hk : okPost ⟨o, m, 0, 1, t⟩ = true := by
    unfold okPost inT
    simp
    omega
  have e1 : ch1 ⟨m, 0, 1, [], 0, false, false⟩ ⟨o, m, 0, 1, t⟩ = ⟨m, o, 1, [], 0, false, false⟩ := if_pos h1
  have e2 : ch2 ⟨m, 0, 1, [], 0, false, false⟩ ⟨o, m, 0, 1, t⟩ = ⟨m, o, 1, [], 0, false, true⟩ := by unfold ch2; rw [e1]; simp [h1]
  have e4 : ch4 ⟨m, 0, 1, [], 0, false, false⟩ ⟨o, m, 0, 1, t⟩ = ⟨m, o, 1, [], 0, true, true⟩ := by unfold ch4 ch3; rw [e2]; simp [hearN]
  unfold hear
  rw [if_neg (by rw [hk]; simp), if_neg (by simp only; omega), if_neg (by simp), e4]
  simp [h1]
theorem hear_stale (c : Ch) (o : Int) (y : Int) (t : ByteArray) (hy : 0 ≤ y ∧ y ≤ 1099511627776) (ho : 1 ≤ o ∧ o ≤ 1099511627776) (ht : t.size ≤ 65472) (hs : o < c.yours) : hear c ⟨o, y, 0, 2, t⟩ = (hd0, 9, c) := by
  have hk : okPost ⟨o, y, 0, 2, t⟩ = true := by
    unfold okPost inT
    simp
    omega
  unfold hear
  rw [if_neg (by rw [hk]; simp), if_pos hs]
theorem hear_over (c : Ch) (o : Int) (t : ByteArray) (hm : c.mine ≠ 0) (ho : 1 ≤ o ∧ o ≤ 1099511627776) (ht : t.size ≤ 65472) (hs : c.yours < o) :
    hear c ⟨o, 0, 0, 1, t⟩ = (⟨⟨#[]⟩, false, true⟩, 0, ⟨c.mine, o, 1, [], 0, false, true⟩) := by
  have hk : okPost ⟨o, 0, 0, 1, t⟩ = true := by
    unfold okPost inT
    simp
    omega
  have e1 : ch1 c ⟨o, 0, 0, 1, t⟩ = ⟨c.mine, o, 1, [], 0, false, false⟩ := if_pos hs
  have e2 : ch2 c ⟨o, 0, 0, 1, t⟩ = ⟨c.mine, o, 1, [], 0, false, true⟩ := by unfold ch2; rw [e1]; simp [hs]
  unfold hear
  rw [if_neg (by rw [hk]; simp), if_neg (by simp only; omega), if_pos (fun h => hm h.symm), e2]
  simp [hs]
theorem hear_next (m o : Int) (t : ByteArray) (hm : 1 ≤ m ∧ m ≤ 1099511627776) (ho : 1 ≤ o ∧ o ≤ 1099511627776) (ht : t.size ≤ 65472) :
    hear ⟨m, o, 1, [], 0, false, false⟩ ⟨o, m, 0, 1, t⟩ = (⟨t, true, false⟩, 0, ⟨m, o, 1, [], 1, true, true⟩) := by
  have hk : okPost ⟨o, m, 0, 1, t⟩ = true := by
    unfold okPost inT
    simp
    omega
  have hn : ¬ o < o := by omega
  have e1 : ch1 ⟨m, o, 1, [], 0, false, false⟩ ⟨o, m, 0, 1, t⟩ = ⟨m, o, 1, [], 0, false, false⟩ := if_neg hn
  have e2 : ch2 ⟨m, o, 1, [], 0, false, false⟩ ⟨o, m, 0, 1, t⟩ = ⟨m, o, 1, [], 0, false, true⟩ := by unfold ch2; rw [e1]; simp
  have e4 : ch4 ⟨m, o, 1, [], 0, false, false⟩ ⟨o, m, 0, 1, t⟩ = ⟨m, o, 1, [], 0, true, true⟩ := by unfold ch4 ch3; rw [e2]; simp [hearN]
  unfold hear
  rw [if_neg (by rw [hk]; simp), if_neg (by simp only; omega), if_neg (by simp), e4]
  simp
theorem sayC_shape (c : Ch) (xs : List ByteArray) : ∃ ws, sayC c xs = { c with wait := ws } ∧ ws.length ≤ c.wait.length + xs.length ∧ (sayE c xs = 0 → ws = c.wait ++ xs) ∧ (sayE c xs ≠ 0 → ws = c.wait) := by
  unfold sayC
  by_cases h : sayE c xs = 0
  · rw [if_pos h]
    exact ⟨c.wait ++ xs, rfl, by simp, fun _ => rfl, fun k => absurd h k⟩
  · rw [if_neg h]
    exact ⟨c.wait, rfl, by omega, fun k => absurd k h, fun _ => rfl⟩
end Go.Proofs.Ytpmebmbibajcoaa
