/- session: the pair of two ends, as an assertion; begins: walk. -/
import Derived.Test.YtpmebmbibajcoaaOnceP
import Derived.Deep.CutBlock
set_option linter.unusedSimpArgs false
set_option linter.unusedVariables false
namespace Go.Proofs.Ytpmebmbibajcoaa
open Go.RowKit
abbrev strs (l : List ByteArray) : List Value := l.map Value.string
/-- a slice's address and capacity -/
abbrev Ad := Option Addr × Nat
abbrev slV (x : Ad) (n : Nat) : Value := .slice x.1 n x.2
/-- an end, with what it said and heard, and what is under way to it -/
def sideF (B : Nat) (d : Side) (x : Nat × Ad × Ad × Ad) : List Asn :=
  [cellsA B [chV x.1, slV x.2.1 d.said.length, slV x.2.2.1 d.heard.length, slV x.2.2.2 d.way.length], chanA x.1 d.c, slA 1 (slV x.2.1 d.said.length) d.said.length (strs d.said), slA 1 (slV x.2.2.1 d.heard.length) d.heard.length (strs d.heard), slA 5 (slV x.2.2.2 d.way.length) d.way.length (postCs d.way)]
def sideA (B : Nat) (d : Side) : Asn := exA (sideF B d)
def oldCs (os : List Old) (xs : List Ad) : List Value := (List.zipWith (fun o x => [Value.int .i64 o.mine, .int .i64 o.yours, slV x o.said.length]) os xs).flatten
def oldSls (os : List Old) (xs : List Ad) : List Asn := List.zipWith (fun o x => slA 1 (slV x o.said.length) o.said.length (strs o.said)) os xs
/-- the sessions that are over -/
def oldsF (os : List Old) (v : Value) (xs : List Ad) : List Asn := [factA (xs.length = os.length), slA 3 v os.length (oldCs os xs), bothA (oldSls os xs)]
def oldsA (os : List Old) (v : Value) : Asn := exA (oldsF os v)
/-- two values, the k-th one ahead or behind -/
def two (k : Nat) (a b : Value) : List Value := if k = 0 then [a, b] else [b, a]
/-- the pair: P its block; the end k and the other one -/
def pairF (P k : Nat) (d o : Side) (next : Int) (old : List Old) (x : Nat × Nat × Ad) : List Asn :=
  [cellsA P (two k (chV x.1) (chV x.2.1) ++ [.int .i64 next, slV x.2.2 old.length]), sideA x.1 d, sideA x.2.1 o, oldsA old (slV x.2.2 old.length)]
def pairA (P k : Nat) (d o : Side) (next : Int) (old : List Old) : Asn := exA (pairF P k d o next old)
theorem pair_swap {W wx : World} {P : Nat} {d o : Side} {next : Int} {old : List Old} {l : List Asn} (h : Own W wx (pairA P 0 d o next old :: l)) : Own W wx (pairA P 1 o d next old :: l) := by
  obtain ⟨⟨a, b, x⟩, h⟩ := h.ex
  refine Own.mk (pairF P 1 o d next old) (b, a, x) ?_
  exact h.perm (List.Perm.cons _ (List.Perm.swap _ _ _))
theorem pair_swap' {W wx : World} {P : Nat} {d o : Side} {next : Int} {old : List Old} {l : List Asn} (h : Own W wx (pairA P 1 d o next old :: l)) : Own W wx (pairA P 0 o d next old :: l) := by
  obtain ⟨⟨a, b, x⟩, h⟩ := h.ex
  refine Own.mk (pairF P 0 o d next old) (b, a, x) ?_
  exact h.perm (List.Perm.cons _ (List.Perm.swap _ _ _))
theorem oldCs_length (os : List Old) (xs : List Ad) (h : xs.length = os.length) : (oldCs os xs).length = os.length * 3 := by
  induction os generalizing xs with
  | nil => cases xs <;> rfl
  | cons o r ih =>
    cases xs with
    | nil => simp at h
    | cons x s =>
      have := ih s (by simpa using h)
      unfold oldCs at *
      simp only [List.zipWith_cons_cons, List.flatten_cons, List.length_append, List.length_cons, List.length_nil, this]
      omega
theorem oldCs_append (os : List Old) (xs : List Ad) (o : Old) (x : Ad) (h : xs.length = os.length) : oldCs (os ++ [o]) (xs ++ [x]) = oldCs os xs ++ [.int .i64 o.mine, .int .i64 o.yours, slV x o.said.length] := by
  unfold oldCs
  rw [List.zipWith_append h.symm, List.flatten_append]
  simp
theorem oldSls_append (os : List Old) (xs : List Ad) (o : Old) (x : Ad) (h : xs.length = os.length) : oldSls (os ++ [o]) (xs ++ [x]) = oldSls os xs ++ [slA 1 (slV x o.said.length) o.said.length (strs o.said)] := by
  unfold oldSls
  rw [List.zipWith_append h.symm]
  simp
theorem oldCs_get (os : List Old) (xs : List Ad) (i : Nat) (o : Old) (x : Ad) (j : Nat) (ho : os[i]? = some o) (hx : xs[i]? = some x) (hj : j < 3) : (oldCs os xs)[i * 3 + j]? = [Value.int .i64 o.mine, .int .i64 o.yours, slV x o.said.length][j]? := by
  induction os generalizing xs i with
  | nil => simp at ho
  | cons p r ih =>
    cases xs with
    | nil => simp at hx
    | cons y s =>
      unfold oldCs at *
      simp only [List.zipWith_cons_cons, List.flatten_cons]
      cases i with
      | zero =>
        simp at ho hx
        subst ho hx
        rw [List.getElem?_append_left (by simp only [List.length_cons, List.length_nil]; omega)]
        simp
      | succ i =>
        rw [List.getElem?_append_right (by simp only [List.length_cons, List.length_nil]; omega)]
        simp only [List.length_cons, List.length_nil]
        rw [show (i + 1) * 3 + j - (0 + 1 + 1 + 1) = i * 3 + j by omega]
        exact ih s i (by simpa using ho) (by simpa using hx)
theorem oldSls_get (os : List Old) (xs : List Ad) (i : Nat) (o : Old) (x : Ad) (ho : os[i]? = some o) (hx : xs[i]? = some x) : (oldSls os xs)[i]? = some (slA 1 (slV x o.said.length) o.said.length (strs o.said)) := by
  unfold oldSls
  rw [List.getElem?_zipWith, ho, hx]
set_option maxRecDepth 100000 in
theorem begins_any (xs ys : List ByteArray) (A B : Option Addr) (c d : Nat) (w : World) (hx : xs.length ≤ 1000000) (hy : ys.length ≤ 1000000) (hr : RowsAt w A 1 xs.length (strAt xs)) (hs : RowsAt w B 1 ys.length (strAt ys)) (h : xs <+: ys) :
    Calls Try.prog 25 #[.slice A xs.length c, .slice B ys.length d] w fun e w' => e = .returned (.bool true) ∧ w.Plus w' := by
  obtain ⟨t, rfl⟩ := h
  have hl : (xs ++ t).length = xs.length + t.length := List.length_append
  have hli : ¬ ((xs ++ t).length : Int) < xs.length := by omega
  have hln : decide ((xs ++ t).length < xs.length) = false := decide_eq_false (by omega)
  replace hl := Lib.hid hl
  replace hs := Lib.hid hs
  replace hr := Lib.hid hr
  go_enter Try.func25, Try.ntmps25
  go_wp2
  go_loopw [5] (fun i wr => ∃ k : Nat, k ≤ xs.length ∧ i = .int .i64 k ∧ w.Plus wr) (fun i _ => xs.length - (intOf i).toNat)
  case atStart => exact ⟨0, Nat.zero_le _, rfl, by (repeat (first | exact Plus.refl _ | apply Plus.plus | apply Plus.alloc | apply Plus.drew))⟩
  case round =>
    obtain ⟨k, hk, rfl, e, rfl⟩ := hrel
    by_cases hlt : k < xs.length
    · obtain ⟨b1, o1, rfl, hb1, hc1⟩ := hr.out (by omega)
      obtain ⟨b2, o2, rfl, hb2, hc2⟩ := hs.out (by rw [hl.out]; omega)
      haveI : InW b1 w := ⟨hb1⟩
      haveI : InW b2 w := ⟨hb2⟩
      have c1 := hc1 k 0 hlt (by omega)
      have c2 := hc2 k 0 (by rw [hl.out]; omega) (by omega)
      unfold strAt at c1 c2
      have he : (xs ++ t).getD k ⟨#[]⟩ = xs.getD k ⟨#[]⟩ := by
        rw [List.getD_eq_getElem?_getD, List.getD_eq_getElem?_getD, List.getElem?_append_left hlt]
      rw [he] at c2
      simp only [Nat.add_zero, Nat.mul_one] at c1 c2
      clear hc1 hc2 he
      generalize xs.getD k ⟨#[]⟩ = y at c1 c2
      have hlt2 : (k : Int) < ((xs ++ t).length : Int) := by have := hl.out; omega
      go_wp2
      go_region
      go_wp2
      go_roundw
      case rel => exact ⟨k + 1, hlt, by simp, by (repeat (first | exact Plus.refl _ | apply Plus.plus | apply Plus.alloc | apply Plus.drew))⟩
      case measure => simp [intOf]; omega
    · have hke : k = xs.length := by omega
      subst hke
      go_wp2
      go_ret
      exact ⟨rfl, by (repeat (first | exact Plus.refl _ | apply Plus.plus | apply Plus.alloc | apply Plus.drew))⟩
/-- all of a pair, one behind the other -/
def pairL (P k Bd Bo : Nat) (d o : Side) (next : Int) (old : List Old) (x y : Nat × Ad × Ad × Ad) (z : Ad) (xs : List Ad) (l : List Asn) : List Asn :=
  oldsF old (slV z old.length) xs ++ (sideF Bo o y ++ (sideF Bd d x ++ (cellsA P (two k (chV Bd) (chV Bo) ++ [.int .i64 next, slV z old.length]) :: l)))
theorem pair_open {W wx : World} {P k : Nat} {d o : Side} {next : Int} {old : List Old} {l : List Asn} (h : Own W wx (pairA P k d o next old :: l)) : ∃ Bd Bo x y z xs, Own W wx (pairL P k Bd Bo d o next old x y z xs l) := by
  obtain ⟨⟨Bd, Bo, z⟩, h⟩ := h.ex
  obtain ⟨x, h⟩ := (h.pull 1 rfl).ex
  obtain ⟨y, h⟩ := (h.pull 6 rfl).ex
  obtain ⟨xs, h⟩ := (h.pull 11 rfl).ex
  exact ⟨Bd, Bo, x, y, z, xs, h⟩
theorem pair_shut {W wx : World} {P k Bd Bo : Nat} {d o : Side} {next : Int} {old : List Old} {x y : Nat × Ad × Ad × Ad} {z : Ad} {xs : List Ad} {l : List Asn} (h : Own W wx (pairL P k Bd Bo d o next old x y z xs l)) : Own W wx (pairA P k d o next old :: l) := by
  have h1 := (Own.mk (oldsF old (slV z old.length)) xs h).perm List.perm_middle.symm
  have h2 := (Own.mk (sideF Bo o) y h1).perm (List.perm_append_comm_assoc [sideA Bo o, oldsA old (slV z old.length)] (sideF Bd d x) _)
  have h3 := (Own.mk (sideF Bd d) x h2).perm (List.perm_middle (l₁ := [sideA Bd d, sideA Bo o, oldsA old (slV z old.length)]))
  exact Own.mk (pairF P k d o next old) (Bd, Bo, z) h3
theorem Own.bothSnoc {W wx : World} {a : List Asn} {P : Asn} {l : List Asn} (h : Own W wx (bothA a :: P :: l)) : Own W wx (bothA (a ++ [P]) :: l) := by
  refine Own.join ?_
  rw [List.append_assoc]
  exact h.both
theorem Own.fact {W wx : World} {l : List Asn} {p : Prop} (i : Nat) (h : Own W wx l) (hi : l[i]? = some (factA p)) : p := by
  obtain ⟨A, hA, _⟩ := h.at hi
  exact hA.2
/-- the pair, with one session more that is over, whose words are still the end's -/
def afterOld (P k Bd Bo : Nat) (d o : Side) (next : Int) (old : List Old) (x y : Nat × Ad × Ad × Ad) (xs : List Ad) (A : Option Addr) (c : Nat) (e : Old) (a : Ad) (l : List Asn) : List Asn :=
  factA (xs.length = old.length) :: slA 3 (.slice A (old.length + 1) c) (old.length + 1) (oldCs old xs ++ [.int .i64 e.mine, .int .i64 e.yours, .slice a.1 e.said.length a.2]) :: bothA (oldSls old xs) ::
    (sideF Bo o y ++ (sideF Bd d x ++ (cellsA P (two k (chV Bd) (chV Bo) ++ [.int .i64 next, .slice A (old.length + 1) c]) :: l)))
end Go.Proofs.Ytpmebmbibajcoaa
