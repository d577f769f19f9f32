/- session: the law's comes: what the walk leans on: plain laws. -/
import Derived.Test.YtpmebmbibajcoaaOnceB1
import Derived.Deep.RegionLaw
set_option linter.unusedSimpArgs false
set_option linter.unusedVariables false
namespace Go.Proofs.Ytpmebmbibajcoaa
open Go.RowKit
theorem pairL_append (P k Bd Bo : Nat) (d o : Side) (next : Int) (old : List Old) (x y : Nat × Ad × Ad × Ad) (z : Ad) (xs : List Ad) (l : List Asn) : pairL P k Bd Bo d o next old x y z xs l = pairL P k Bd Bo d o next old x y z xs [] ++ l := by
  simp [pairL]
theorem pair_tail {W wx : World} {Q : Asn} {P k Bd Bo : Nat} {d o : Side} {next : Int} {old : List Old} {x y : Nat × Ad × Ad × Ad} {z : Ad} {xs : List Ad} {l : List Asn} (h : Own W wx (Q :: pairL P k Bd Bo d o next old x y z xs l)) : Own W wx (pairL P k Bd Bo d o next old x y z xs (Q :: l)) := by
  rw [pairL_append] at h ⊢
  exact h.perm List.perm_middle.symm
theorem pair_untail {W wx : World} {Q : Asn} {P k Bd Bo : Nat} {d o : Side} {next : Int} {old : List Old} {x y : Nat × Ad × Ad × Ad} {z : Ad} {xs : List Ad} {l : List Asn} (h : Own W wx (pairL P k Bd Bo d o next old x y z xs (Q :: l))) : Own W wx (Q :: pairL P k Bd Bo d o next old x y z xs l) := by
  rw [pairL_append] at h
  have := h.perm List.perm_middle
  rw [← pairL_append] at this
  exact this
/-- the words go over to the sessions that are over -/
theorem over_old {W wz : World} {P k Bd Bo : Nat} {d o : Side} {next : Int} {old : List Old} {Nd : Nat} {a1 a2 a3 : Ad} {y : Nat × Ad × Ad × Ad} {xs : List Ad} {A : Option Addr} {c : Nat} {e : Old} {l : List Asn} (hxs : xs.length = old.length) (he : e.said = d.said)
    (h : Own W wz (factA (xs.length = old.length) :: slA 3 (.slice A (old.length + 1) c) (old.length + 1) (oldCs old xs ++ [.int .i64 e.mine, .int .i64 e.yours, .slice a1.1 d.said.length a1.2]) :: bothA (oldSls old xs) :: (sideF Bo o y ++
      (cellsA Bd [chV Nd, .slice none 0 0, .slice none 0 0, slV a3 d.way.length] :: chanA Nd d.c :: slA 1 (slV a1 d.said.length) d.said.length (strs d.said) :: slA 1 (slV a2 d.heard.length) d.heard.length (strs d.heard) :: slA 5 (slV a3 d.way.length) d.way.length (postCs d.way) ::
        cellsA P (two k (chV Bd) (chV Bo) ++ [.int .i64 next, .slice A (old.length + 1) c]) :: l)))) :
    Own W wz (pairL P k Bd Bo ⟨d.c, [], [], d.way⟩ o next (old ++ [e]) (Nd, (none, 0), (none, 0), a3) y (A, c) (xs ++ [a1]) l) := by
  have Q1 := Own.bothSnoc ((h.pull 10 rfl).pull 3 rfl)
  have Q2 := (Q1.pull 10 rfl).drop
  have Q4 := Own.add (Own.add Q2 (Chg.refl _ _) (Q := slA 1 (.slice none 0 0) 0 []) (A := fun _ => False) ⟨fun k => by simp [Value.ownBlock], Sl.nil _ _⟩ (fun _ h => h.elim)) (Chg.refl _ _) (Q := slA 1 (.slice none 0 0) 0 []) (A := fun _ => False) ⟨fun k => by simp [Value.ownBlock], Sl.nil _ _⟩ (fun _ h => h.elim)
  have Q5 := (Q4.pull 11 rfl).pull 11 rfl
  have Q6 := ((((Q5.pull 11 rfl).pull 11 rfl).pull 11 rfl).pull 11 rfl).pull 11 rfl
  have Q7 := (((Q6.pull 9 rfl).pull 10 rfl).drop).pull 10 rfl
  have Q8 := Own.add Q7 (Chg.refl _ _) (Q := factA ((xs ++ [a1]).length = (old ++ [e]).length)) (A := fun _ => False) ⟨fun k h => h, by simp [hxs]⟩ (fun _ h => h.elim)
  have hl : (old ++ [e]).length = old.length + 1 := by simp
  simp only [pairL, oldsF, slV]
  rw [oldCs_append _ _ _ _ hxs, oldSls_append _ _ _ _ hxs, hl, he]
  rw [hl] at Q8
  exact Q8
theorem src_strAt (w : World) (n : Nat) (s : ByteArray) (h0 : w.cell? ⟨n, 0, none⟩ = some (.string s)) : Src Try.prog 1 22 (.slice (some ⟨n, 0, none⟩) 1 1) 1 [.string s] w := by
  refine Src.ofCells underStrs _ _ rfl (fun j hj => ?_) (fun u hu => ?_) 1
  · match j, hj with
    | 0, _ => exact h0
    | j + 1, hj => simp at hj
  · simp only [List.mem_cons, List.not_mem_nil, or_false] at hu
    subst hu
    rfl
theorem heard_push {W w6 : World} {P k Bd Bo : Nat} {c : Ch} {S H : List ByteArray} {way : List Post} {o : Side} {next : Int} {old : List Old} {Nd : Nat} {a1 a2 a3 : Ad} {y : Nat × Ad × Ad × Ad} {z : Ad} {xs : List Ad} {l : List Asn} {A6 : Option Addr} {c6 : Nat} {t : ByteArray}
    (h : Own W w6 (slA 1 (.slice A6 (H.length + 1) c6) (H.length + 1) (strs H ++ [.string t]) :: (pairL P k Bd Bo ⟨c, S, H, way⟩ o next old (Nd, a1, a2, a3) y z xs l).eraseIdx 11)) :
    Own W (w6.setCell ⟨Bd, 2, none⟩ (.slice A6 (H.length + 1) c6)) (pairL P k Bd Bo ⟨c, S, H ++ [t], way⟩ o next old (Nd, a1, (A6, c6), a3) y z xs l) := by
  have O7 := Own.push (pairL P k Bd Bo ⟨c, S, H, way⟩ o next old (Nd, a1, a2, a3) y z xs l) 11 (by simp [pairL, oldsF, sideF]) h
  have O8 := O7.setCellAt 8 2 (.slice A6 (H.length + 1) c6) rfl (by simp)
  have e1 : (H ++ [t]).length = H.length + 1 := by simp
  have e2 : strs (H ++ [t]) = strs H ++ [.string t] := by simp
  simp only [pairL, oldsF, sideF, slV]
  rw [e1, e2]
  exact O8
theorem said_at {o : Side} {OL : List Old} {A B : Int} {k : Nat} {e : Old} (hc : ¬ (o.c.mine = A ∧ o.c.yours = B)) (he : OL[k]? = some e) (hm : e.mine = A ∧ e.yours = B) (hn : ∀ j e', j < k → OL[j]? = some e' → ¬ (e'.mine = A ∧ e'.yours = B)) : SAID o OL A B = e.said := by
  unfold SAID oldSaid
  rw [if_neg hc]
  have : OL.find? (Old.is A B) = some e := by
    induction OL generalizing k with
    | nil => simp at he
    | cons a r ih =>
      rw [List.find?_cons]
      cases k with
      | zero =>
        simp at he
        subst he
        have : a.is A B = true := by unfold Old.is; simp [hm]
        rw [this]
      | succ k =>
        have ha : a.is A B = false := by
          have := hn 0 a (by omega) rfl
          unfold Old.is
          rw [Bool.and_eq_false_iff]
          simp only [decide_eq_false_iff_not]
          omega
        rw [ha]
        exact ih (by simpa using he) fun j e' hj h => hn (j + 1) e' (by omega) (by simpa using h)
  rw [this]
  rfl
theorem said_none {o : Side} {OL : List Old} {A B : Int} (hc : ¬ (o.c.mine = A ∧ o.c.yours = B)) (hn : ∀ j e', j < OL.length → OL[j]? = some e' → ¬ (e'.mine = A ∧ e'.yours = B)) : SAID o OL A B = [] := by
  unfold SAID oldSaid
  rw [if_neg hc, oldSaid_none fun e he hm => by
    obtain ⟨j, hj, rfl⟩ := List.getElem_of_mem he
    exact hn j _ hj (List.getElem?_eq_getElem hj) hm]
  rfl
theorem sl_strs {w : World} {A : Option Addr} {c n : Nat} {l : List ByteArray} (h : Sl w 1 (.slice A n c) n (strs l)) (hn : n = l.length) : RowsAt w A 1 n (strAt l) :=
  h.rows rfl _ (fun i j hi hj => by
    obtain rfl : j = 0 := by omega
    unfold strAt
    rw [Nat.mul_one, Nat.add_zero, List.getElem?_map, List.getD_eq_getElem?_getD, List.getElem?_eq_getElem (by omega)]
    rfl)
/-- the words of a session that is over -/
theorem old_rows {W w : World} {os : List Old} {xs : List Ad} {l : List Asn} {i k : Nat} {o : Old} {x : Ad} (h : Own W w l) (hi : l[i]? = some (bothA (oldSls os xs))) (ho : os[k]? = some o) (hx : xs[k]? = some x) : RowsAt w x.1 1 o.said.length (strAt o.said) := by
  have h1 := (h.pull i hi).both
  have hk : k < (oldSls os xs).length := (List.getElem?_eq_some_iff.1 (oldSls_get os xs k o x ho hx)).1
  exact sl_strs (h1.sl k (by rw [List.getElem?_append_left hk]; exact oldSls_get os xs k o x ho hx)) rfl
/-- the pair, its ends' blocks told -/
def pairBF (P k Bd Bo : Nat) (d o : Side) (next : Int) (old : List Old) (z : Ad) : List Asn :=
  [cellsA P (two k (chV Bd) (chV Bo) ++ [.int .i64 next, slV z old.length]), sideA Bd d, sideA Bo o, oldsA old (slV z old.length)]
def pairB (P k Bd Bo : Nat) (d o : Side) (next : Int) (old : List Old) : Asn := exA (pairBF P k Bd Bo d o next old)
theorem pairA_B {W wx : World} {P k : Nat} {d o : Side} {next : Int} {old : List Old} {l : List Asn} (h : Own W wx (pairA P k d o next old :: l)) : ∃ Bd Bo, Own W wx (pairB P k Bd Bo d o next old :: l) := by
  obtain ⟨⟨Bd, Bo, z⟩, h⟩ := h.ex
  exact ⟨Bd, Bo, Own.mk (pairBF P k Bd Bo d o next old) z h⟩
theorem pairB_A {W wx : World} {P k Bd Bo : Nat} {d o : Side} {next : Int} {old : List Old} {l : List Asn} (h : Own W wx (pairB P k Bd Bo d o next old :: l)) : Own W wx (pairA P k d o next old :: l) := by
  obtain ⟨z, h⟩ := h.ex
  exact Own.mk (pairF P k d o next old) (Bd, Bo, z) h
theorem pairB_swap {W wx : World} {P Bd Bo : Nat} {d o : Side} {next : Int} {old : List Old} {l : List Asn} (h : Own W wx (pairB P 0 Bd Bo d o next old :: l)) : Own W wx (pairB P 1 Bo Bd o d next old :: l) := by
  obtain ⟨z, h⟩ := h.ex
  refine Own.mk (pairBF P 1 Bo Bd o d next old) z ?_
  exact h.perm (List.Perm.cons _ (List.Perm.swap _ _ _))
theorem pairB_swap' {W wx : World} {P Bd Bo : Nat} {d o : Side} {next : Int} {old : List Old} {l : List Asn} (h : Own W wx (pairB P 1 Bo Bd o d next old :: l)) : Own W wx (pairB P 0 Bd Bo d o next old :: l) := by
  obtain ⟨z, h⟩ := h.ex
  refine Own.mk (pairBF P 0 Bd Bo d o next old) z ?_
  exact h.perm (List.Perm.cons _ (List.Perm.swap _ _ _))
theorem pairB_open {W wx : World} {P k Bd Bo : Nat} {d o : Side} {next : Int} {old : List Old} {l : List Asn} (h : Own W wx (pairB P k Bd Bo d o next old :: l)) : ∃ x y z xs, Own W wx (pairL P k Bd Bo d o next old x y z xs l) := by
  obtain ⟨z, h⟩ := h.ex
  obtain ⟨x, h⟩ := (h.pull 1 rfl).ex
  obtain ⟨y, h⟩ := (h.pull 6 rfl).ex
  obtain ⟨xs, h⟩ := (h.pull 11 rfl).ex
  exact ⟨x, y, z, xs, h⟩
theorem pairB_shut {W wx : World} {P k Bd Bo : Nat} {d o : Side} {next : Int} {old : List Old} {x y : Nat × Ad × Ad × Ad} {z : Ad} {xs : List Ad} {l : List Asn} (h : Own W wx (pairL P k Bd Bo d o next old x y z xs l)) : Own W wx (pairB P k Bd Bo d o next old :: l) := by
  have h1 := (Own.mk (oldsF old (slV z old.length)) xs h).perm List.perm_middle.symm
  have h2 := (Own.mk (sideF Bo o) y h1).perm (List.perm_append_comm_assoc [sideA Bo o, oldsA old (slV z old.length)] (sideF Bd d x) _)
  have h3 := (Own.mk (sideF Bd d) x h2).perm (List.perm_middle (l₁ := [sideA Bd d, sideA Bo o, oldsA old (slV z old.length)]))
  exact Own.mk (pairBF P k Bd Bo d o next old) z h3
def ComesB (W : World) (P k Bd Bo : Nat) (d o : Side) (next : Int) (old : List Old) (l : List Asn) (e : Ending) (w' : World) : Prop := e = .returned (.bool true) ∧ Own W w' (pairB P k Bd Bo d o next old :: l)
def ComesO (W : World) (P k : Nat) (d o : Side) (next : Int) (old : List Old) (l : List Asn) (e : Ending) (w' : World) : Prop := e = .returned (.bool true) ∧ Own W w' (pairA P k d o next old :: l)
end Go.Proofs.Ytpmebmbibajcoaa
