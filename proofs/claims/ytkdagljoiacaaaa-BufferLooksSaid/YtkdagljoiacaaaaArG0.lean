/- arch: entities that are put one behind the other make the tables again: plain laws. -/
import Derived.Test.YtkdagljoiacaaaaArF
set_option linter.unusedSimpArgs false
set_option linter.unusedVariables false
namespace Go.Proofs.Ytkdagljoiacaaaa
open Go.RowKit
def addAll (xs : List BdR) : Tabs := xs.foldl putT (fun _ => [])
theorem addAll_snoc (xs : List BdR) (b : BdR) : addAll (xs ++ [b]) = putT (addAll xs) b := by unfold addAll; rw [List.foldl_append]; rfl
theorem snoc_ind {α : Type} {p : List α → Prop} (h0 : p []) (hs : ∀ l a, p l → p (l ++ [a])) : ∀ l, p l := by
  intro l
  have : ∀ n (l : List α), l.length = n → p l := by
    intro n
    induction n with
    | zero => intro l hl; rw [List.eq_nil_of_length_eq_zero hl]; exact h0
    | succ n ih =>
      intro l hl
      obtain ⟨q, a, rfl⟩ : ∃ q a, l = q ++ [a] := ⟨l.dropLast, l.getLast (by intro e; rw [e] at hl; simp at hl), (List.dropLast_concat_getLast _).symm⟩
      rw [List.length_append, List.length_singleton] at hl
      exact hs q a (ih q (by omega))
  exact this _ l rfl
theorem addAll_at (xs : List BdR) (m : Nat) : addAll xs m = xs.filter (fun b => decide (b.mask.toNat = m)) := by
  revert m
  refine snoc_ind (p := fun xs => ∀ m, addAll xs m = xs.filter (fun b => decide (b.mask.toNat = m))) (fun m => rfl) (fun l a ih m => ?_) xs
  rw [addAll_snoc, List.filter_append]
  unfold putT upd
  by_cases e : m = a.mask.toNat
  · subst e
    rw [if_pos rfl, ih]
    simp
  · rw [if_neg e, ih]
    have : ¬ a.mask.toNat = m := fun k => e k.symm
    simp [this]
structure Fine (xs : List BdR) : Prop where
  ok : ∀ b ∈ xs, okB b = true
  nd : xs.Pairwise (fun a b => a.id ≠ b.id)
theorem Fine.left {xs ys : List BdR} (h : Fine (xs ++ ys)) : Fine xs := ⟨fun b hb => h.ok b (List.mem_append_left _ hb), (List.pairwise_append.1 h.nd).1⟩
theorem fine_new {xs : List BdR} {b : BdR} (h : Fine (xs ++ [b])) : findT (addAll xs) b.id = none := by
  rw [findT_none]
  intro m hm x hx
  rw [addAll_at, List.mem_filter] at hx
  exact (List.pairwise_append.1 h.nd).2.2 x hx.1 b (by simp)
theorem addAll_good (xs : List BdR) (h : Fine xs) : GoodT (addAll xs) ∧ total (addAll xs) = xs.length := by
  revert h
  refine snoc_ind (p := fun xs => Fine xs → GoodT (addAll xs) ∧ total (addAll xs) = xs.length) (fun _ => ⟨good_none, by decide⟩) (fun l a ih h => ?_) xs
  obtain ⟨h1, h2⟩ := ih h.left
  have ha := h.ok a (by simp)
  rw [addAll_snoc, total_put _ _ ha, h2]
  exact ⟨good_put h1 ha (fine_new h), by simp⟩
theorem all_fine {T : Tabs} (hg : GoodT T) : Fine (allT T) := by
  refine ⟨fun b hb => ?_, ?_⟩
  · unfold allT allN at hb
    obtain ⟨m, hm, hb⟩ := List.mem_flatMap.1 hb
    exact (hg.ok m (List.mem_range.1 hm) b hb).1
  · unfold allT allN
    rw [List.pairwise_flatMap]
    refine ⟨fun m hm => ?_, ?_⟩
    · rw [List.pairwise_iff_getElem]
      intro i j hi hj hij e
      have := (hg.uniq m i m j _ _ (List.mem_range.1 hm) (List.mem_range.1 hm) (List.getElem?_eq_getElem hi) (List.getElem?_eq_getElem hj) e).2
      omega
    · have : (List.range 32).Pairwise (fun a b => a ≠ b ∧ (a < 32 ∧ b < 32)) := by
        rw [List.pairwise_iff_getElem]
        intro i j hi hj hij
        simp only [List.getElem_range]
        simp only [List.length_range] at hi hj
        omega
      refine this.imp ?_
      intro a b ⟨hab, ha, hb⟩ x hx y hy e
      obtain ⟨i, hi⟩ := List.getElem?_of_mem hx
      obtain ⟨j, hj⟩ := List.getElem?_of_mem hy
      exact hab (hg.uniq a i b j x y ha hb hi hj e).1
/-- beyond the masks there is nothing -/
def Cln (T : Tabs) : Prop := ∀ m, 32 ≤ m → T m = []
theorem addAll_all {T : Tabs} (hg : GoodT T) (hc : Cln T) : addAll (allT T) = T := by
  funext m
  rw [addAll_at]
  unfold allT allN
  have key : ∀ N, N ≤ 32 → ((List.range N).flatMap T).filter (fun b => decide (b.mask.toNat = m)) = if m < N then T m else [] := by
    intro N
    induction N with
    | zero => intro _; simp
    | succ N ih =>
      intro hN
      rw [List.range_succ, List.flatMap_append, List.filter_append, ih (by omega)]
      have e : (List.flatMap T [N]).filter (fun b => decide (b.mask.toNat = m)) = if m = N then T m else [] := by
        rw [List.flatMap_singleton]
        by_cases hm : m = N
        · subst hm
          rw [if_pos rfl, List.filter_eq_self]
          intro b hb
          have := (hg.ok m (by omega) b hb).2
          rw [decide_eq_true_eq, this]
          rfl
        · rw [if_neg hm, List.filter_eq_nil_iff]
          intro b hb
          have := (hg.ok N (by omega) b hb).2
          rw [this]
          simp
          exact fun k => hm k.symm
      rw [e]
      by_cases h1 : m < N
      · rw [if_pos h1, if_neg (by omega), if_pos (by omega), List.append_nil]
      · rw [if_neg h1, List.nil_append]
        by_cases h2 : m = N
        · rw [if_pos h2, if_pos (by omega)]
        · rw [if_neg h2, if_neg (by omega)]
  rw [key 32 (by omega)]
  by_cases h : m < 32
  · rw [if_pos h]
  · rw [if_neg h, hc m (by omega)]
theorem allT_length (T : Tabs) : (allT T).length = total T := by
  unfold allT allN total
  rw [List.length_flatMap]
theorem cln_none : Cln (fun _ => []) := fun _ _ => rfl
theorem cln_upd {T : Tabs} (h : Cln T) {m : Nat} {l : List BdR} (hm : m < 32) : Cln (upd T m l) := fun k hk => by rw [upd_ne _ _ (by omega)]; exact h k hk
theorem cln_putS {T : Tabs} (h : Cln T) (b : BdR) : Cln (putS T b).1 := by
  unfold putS
  split
  · rename_i hb
    split
    · exact h
    · exact cln_upd h (okB_mk hb).1
  · exact h
theorem cln_writeS {T : Tabs} (h : Cln T) (b : BdR) : Cln (writeS T b).1 := by
  unfold writeS
  split
  · rename_i hb
    split
    · exact h
    · rename_i m i hf
      have hm := (findT_some hf).1
      split
      · exact cln_upd h hm
      · exact cln_upd (cln_upd h hm) (okB_mk hb).1
  · exact h
theorem cln_removeS {T : Tabs} (h : Cln T) (id : IdR) : Cln (removeS T id).1 := by
  unfold removeS
  split
  · exact h
  · rename_i m i hf
    exact cln_upd h (findT_some hf).1
theorem all_find {T : Tabs} (hg : GoodT T) (b : BdR) (hb : b ∈ allT T) : ∃ m i, m < 32 ∧ (T m)[i]? = some b ∧ findT T b.id = some (m, i) := by
  unfold allT allN at hb
  obtain ⟨m, hm, hb⟩ := List.mem_flatMap.1 hb
  obtain ⟨i, hi⟩ := List.getElem?_of_mem hb
  exact ⟨m, i, List.mem_range.1 hm, hi, findT_of hg (List.mem_range.1 hm) hi⟩
end Go.Proofs.Ytkdagljoiacaaaa
