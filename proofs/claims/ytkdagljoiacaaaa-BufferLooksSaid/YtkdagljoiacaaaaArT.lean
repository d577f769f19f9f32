/- arch: tables of entities: what is put, written and removed. Plain laws. -/
import Derived.Test.YtkdagljoiacaaaaArS
set_option linter.unusedSimpArgs false
set_option linter.unusedVariables false
namespace Go.Proofs.Ytkdagljoiacaaaa
open Go.RowKit
abbrev Tabs := Nat → List BdR
def findI (l : List BdR) (id : IdR) : Option Nat := l.findIdx? (fun b => decide (b.id = id))
def findT (T : Tabs) (id : IdR) : Option (Nat × Nat) := (List.range 32).findSome? fun m => (findI (T m) id).map fun i => (m, i)
def total (T : Tabs) : Nat := ((List.range 32).map fun m => (T m).length).sum
structure GoodT (T : Tabs) : Prop where
  ok : ∀ m : Nat, m < 32 → ∀ b ∈ T m, okB b = true ∧ b.mask = m
  uniq : ∀ (m i m' i' : Nat) (b b' : BdR), m < 32 → m' < 32 → (T m)[i]? = some b → (T m')[i']? = some b' → b.id = b'.id → m = m' ∧ i = i'
theorem findI_some {l : List BdR} {id : IdR} {i : Nat} (h : findI l id = some i) : ∃ b, l[i]? = some b ∧ b.id = id := by
  obtain ⟨hi, h1, _⟩ := List.findIdx?_eq_some_iff_getElem.1 h
  exact ⟨l[i], List.getElem?_eq_getElem hi, of_decide_eq_true h1⟩
theorem findI_none {l : List BdR} {id : IdR} : findI l id = none ↔ ∀ b ∈ l, b.id ≠ id := by
  unfold findI
  rw [List.findIdx?_eq_none_iff]
  simp
theorem findT_none {T : Tabs} {id : IdR} : findT T id = none ↔ ∀ m, m < 32 → ∀ b ∈ T m, b.id ≠ id := by
  unfold findT
  rw [List.findSome?_eq_none_iff]
  simp only [List.mem_range, Option.map_eq_none_iff, findI_none]
theorem findT_some {T : Tabs} {id : IdR} {m i : Nat} (h : findT T id = some (m, i)) : m < 32 ∧ ∃ b, (T m)[i]? = some b ∧ b.id = id := by
  obtain ⟨k, hk, hm⟩ := List.exists_of_findSome?_eq_some h
  rw [Option.map_eq_some_iff] at hm
  obtain ⟨j, hj, he⟩ := hm
  cases he
  exact ⟨List.mem_range.1 hk, findI_some hj⟩
theorem findT_of {T : Tabs} (h : GoodT T) {m i : Nat} {b : BdR} (hm : m < 32) (hb : (T m)[i]? = some b) : findT T b.id = some (m, i) := by
  cases hf : findT T b.id with
  | none => exact absurd rfl (findT_none.1 hf m hm b (List.mem_of_getElem? hb))
  | some p =>
    obtain ⟨m', i'⟩ := p
    obtain ⟨h1, b', h2, h3⟩ := findT_some hf
    obtain ⟨rfl, rfl⟩ := h.uniq m' i' m i b' b h1 hm h2 hb h3
    rfl
theorem findT_iff {T : Tabs} (h : GoodT T) (id : IdR) (m i : Nat) : findT T id = some (m, i) ↔ m < 32 ∧ ∃ b, (T m)[i]? = some b ∧ b.id = id :=
  ⟨findT_some, fun ⟨h1, b, h2, h3⟩ => by subst h3; exact findT_of h h1 h2⟩
theorem find_ext {f g : Option (Nat × Nat)} (h : ∀ m i, f = some (m, i) ↔ g = some (m, i)) : f = g := by
  apply Option.ext
  rintro ⟨m, i⟩
  exact h m i
/-- an entity behind the others of its mask -/
def putT (T : Tabs) (b : BdR) : Tabs := upd T b.mask.toNat (T b.mask.toNat ++ [b])
def cutL (l : List BdR) (i : Nat) : List BdR := (l.set i (l.getD (l.length - 1) bd0)).take (l.length - 1)
/-- the last row of a table in the place of another one -/
def cutT (T : Tabs) (m i : Nat) : Tabs := upd T m (cutL (T m) i)
def setT (T : Tabs) (m i : Nat) (b : BdR) : Tabs := upd T m ((T m).set i b)
theorem cutL_length (l : List BdR) (i : Nat) : (cutL l i).length = l.length - 1 := by
  unfold cutL
  rw [List.length_take, List.length_set]
  omega
theorem cutL_get (l : List BdR) (i k : Nat) : (cutL l i)[k]? = if k < l.length - 1 then (if k = i then l[l.length - 1]? else l[k]?) else none := by
  unfold cutL
  rw [List.getElem?_take]
  by_cases h : k < l.length - 1
  · rw [if_pos h, if_pos h, List.getElem?_set]
    by_cases e : i = k
    · subst e
      rw [if_pos rfl, if_pos rfl, if_pos (by omega), List.getD_eq_getElem?_getD, List.getElem?_eq_getElem (by omega)]
      rfl
    · rw [if_neg e, if_neg (fun x => e x.symm)]
  · rw [if_neg h, if_neg h]
theorem okB_mk {b : BdR} (h : okB b = true) : b.mask.toNat < 32 ∧ ((b.mask.toNat : Nat) : Int) = b.mask := by
  have := okB_mask h
  omega
theorem good_put {T : Tabs} (h : GoodT T) {b : BdR} (hb : okB b = true) (hn : findT T b.id = none) : GoodT (putT T b) := by
  obtain ⟨h1, h2⟩ := okB_mk hb
  rw [findT_none] at hn
  have key : ∀ m i x, m < 32 → (putT T b m)[i]? = some x → (m = b.mask.toNat ∧ i = (T m).length ∧ x = b) ∨ (T m)[i]? = some x := by
    intro m i x hm hx
    unfold putT upd at hx
    split at hx
    · rename_i e
      subst e
      rw [List.getElem?_append] at hx
      split at hx
      · exact .inr hx
      · rename_i hlt
        rw [List.getElem?_singleton] at hx
        split at hx
        · exact .inl ⟨rfl, by omega, (Option.some.inj hx).symm⟩
        · cases hx
    · exact .inr hx
  refine ⟨fun m hm x hx => ?_, fun m i m' i' x x' hm hm' hx hx' he => ?_⟩
  · obtain ⟨i, hi⟩ := List.getElem?_of_mem hx
    rcases key m i x hm hi with ⟨e1, e2, rfl⟩ | h3
    · exact ⟨hb, by rw [e1]; exact h2.symm⟩
    · exact h.ok m hm x (List.mem_of_getElem? h3)
  · rcases key m i x hm hx with ⟨e1, e2, rfl⟩ | h3 <;> rcases key m' i' x' hm' hx' with ⟨e1', e2', rfl⟩ | h3'
    · have : m = m' := e1.trans e1'.symm
      subst this
      exact ⟨rfl, by omega⟩
    · exact absurd he.symm (hn m' hm' x' (List.mem_of_getElem? h3'))
    · exact absurd he (hn m hm x (List.mem_of_getElem? h3))
    · exact h.uniq m i m' i' x x' hm hm' h3 h3' he
theorem find_put {T : Tabs} (h : GoodT T) {b : BdR} (hb : okB b = true) (hn : findT T b.id = none) (c : IdR) : findT (putT T b) c = if c = b.id then some (b.mask.toNat, (T b.mask.toNat).length) else findT T c := by
  obtain ⟨h1, h2⟩ := okB_mk hb
  have hg := good_put h hb hn
  split
  · rename_i e
    subst e
    refine findT_of hg h1 ?_
    unfold putT
    rw [upd_at]
    simp
  · rename_i e
    refine find_ext fun m i => ?_
    rw [findT_iff hg, findT_iff h]
    refine and_congr_right fun hm => exists_congr fun x => and_congr_left fun hx => ?_
    unfold putT upd
    split
    · rename_i e2
      subst e2
      rw [List.getElem?_append]
      split
      · rfl
      · rename_i hlt
        rw [List.getElem?_singleton, List.getElem?_eq_none (by omega)]
        constructor
        · intro h3
          split at h3
          · cases h3
            exact absurd hx.symm e
          · exact h3
        · intro h3; cases h3
    · rfl
theorem total_upd (T : Tabs) (m : Nat) (l : List BdR) (hm : m < 32) : total (upd T m l) + (T m).length = total T + l.length := by
  unfold total
  have key : ∀ (L : List Nat), L.Nodup → m ∈ L → (L.map fun k => (upd T m l k).length).sum + (T m).length = (L.map fun k => (T k).length).sum + l.length := by
    intro L
    induction L with
    | nil => intro _ h; cases h
    | cons a r ih =>
      intro hd hmem
      rw [List.nodup_cons] at hd
      simp only [List.map_cons, List.sum_cons]
      by_cases e : a = m
      · subst e
        rw [upd_at]
        have : (r.map fun k => (upd T a l k).length) = r.map fun k => (T k).length := by
          refine List.map_congr_left fun k hk => ?_
          rw [upd_ne _ _ (fun x => hd.1 (by rw [← x]; exact hk))]
        rw [this]
        omega
      · rw [upd_ne _ _ e]
        have := ih hd.2 ((List.mem_cons.1 hmem).resolve_left (fun x => e x.symm))
        omega
  exact key _ List.nodup_range (List.mem_range.2 hm)
theorem total_put (T : Tabs) (b : BdR) (hb : okB b = true) : total (putT T b) = total T + 1 := by
  have := total_upd T b.mask.toNat (T b.mask.toNat ++ [b]) (okB_mk hb).1
  rw [List.length_append, List.length_singleton] at this
  unfold putT
  omega
theorem len_total (T : Tabs) (m : Nat) (hm : m < 32) : (T m).length ≤ total T := by
  have := total_upd T m [] hm
  simp only [List.length_nil] at this
  omega
theorem total_cut (T : Tabs) (m i : Nat) (hm : m < 32) (h0 : 0 < (T m).length) : total (cutT T m i) = total T - 1 := by
  have := total_upd T m (cutL (T m) i) hm
  have h2 := len_total T m hm
  rw [cutL_length] at this
  unfold cutT
  omega
theorem cutT_get (T : Tabs) (m i k j : Nat) : (cutT T m i k)[j]? = if k = m then (if j < (T m).length - 1 then (if j = i then (T m)[(T m).length - 1]? else (T m)[j]?) else none) else (T k)[j]? := by
  unfold cutT upd
  split
  · rename_i e; subst e; rw [cutL_get]
  · rfl
/-- where a row of the table that was cut comes from -/
theorem cutT_from {T : Tabs} {m i k j : Nat} {x : BdR} (h : (cutT T m i k)[j]? = some x) : ∃ j', (T k)[j']? = some x ∧ (k = m → j < (T m).length - 1 ∧ ((j = i ∧ j' = (T m).length - 1) ∨ (j ≠ i ∧ j' = j))) ∧ (k ≠ m → j' = j) := by
  rw [cutT_get] at h
  by_cases e : k = m
  · rw [if_pos e] at h
    subst e
    split at h
    · rename_i h1
      split at h
      · rename_i h2
        exact ⟨_, h, fun _ => ⟨h1, .inl ⟨h2, rfl⟩⟩, fun h => absurd rfl h⟩
      · rename_i h2
        exact ⟨j, h, fun _ => ⟨h1, .inr ⟨h2, rfl⟩⟩, fun h => absurd rfl h⟩
    · cases h
  · rw [if_neg e] at h
    exact ⟨j, h, fun k => absurd k e, fun _ => rfl⟩
theorem good_cut {T : Tabs} (h : GoodT T) (m i : Nat) : GoodT (cutT T m i) := by
  refine ⟨fun k hk x hx => ?_, fun k j k' j' x x' hk hk' hx hx' he => ?_⟩
  · obtain ⟨j, hj⟩ := List.getElem?_of_mem hx
    obtain ⟨j', h1, _⟩ := cutT_from hj
    exact h.ok k hk x (List.mem_of_getElem? h1)
  · obtain ⟨a, h1, h2, h3⟩ := cutT_from hx
    obtain ⟨a', h1', h2', h3'⟩ := cutT_from hx'
    obtain ⟨rfl, rfl⟩ := h.uniq k a k' a' x x' hk hk' h1 h1' he
    refine ⟨rfl, ?_⟩
    by_cases e : k = m
    · have := h2 e
      have := h2' e
      omega
    · rw [← h3 e, ← h3' e]
theorem find_cut {T : Tabs} (h : GoodT T) {m i : Nat} {b z : BdR} (hm : m < 32) (hb : (T m)[i]? = some b) (hz : (T m)[(T m).length - 1]? = some z) (c : IdR) :
    findT (cutT T m i) c = if c = b.id then none else if c = z.id then some (m, i) else findT T c := by
  have hg := good_cut h m i
  have hil := (List.getElem?_eq_some_iff.1 hb).1
  split
  · rename_i e
    subst e
    rw [findT_none]
    intro k hk x hx hxe
    obtain ⟨j, hj⟩ := List.getElem?_of_mem hx
    obtain ⟨j', h1, h2, h3⟩ := cutT_from hj
    obtain ⟨e1, e2⟩ := h.uniq k j' m i x b hk hm h1 hb hxe
    subst e1
    have := h2 rfl
    omega
  · rename_i e
    split
    · rename_i e2
      subst e2
      have hne : i ≠ (T m).length - 1 := fun k => e (by rw [← k, hb] at hz; cases hz; rfl)
      refine findT_of hg hm ?_
      rw [cutT_get, if_pos rfl, if_pos (by omega), if_pos rfl, hz]
    · rename_i e2
      refine find_ext fun k j => ?_
      rw [findT_iff hg, findT_iff h]
      refine and_congr_right fun hk => exists_congr fun x => and_congr_left fun hx => ?_
      rw [cutT_get]
      by_cases ek : k = m
      · subst ek
        rw [if_pos rfl]
        constructor
        · intro h1
          split at h1
          · split at h1
            · rw [hz] at h1; cases h1; exact absurd hx.symm e2
            · exact h1
          · cases h1
        · intro h1
          have hjl := (List.getElem?_eq_some_iff.1 h1).1
          have n1 : j ≠ i := fun k => by rw [k, hb] at h1; cases h1; exact e hx.symm
          have n2 : j ≠ (T k).length - 1 := fun k => by rw [k, hz] at h1; cases h1; exact e2 hx.symm
          rw [if_pos (by omega), if_neg n1]
          exact h1
      · rw [if_neg ek]
theorem set_get (T : Tabs) (m i : Nat) (b : BdR) (k j : Nat) : (setT T m i b k)[j]? = if k = m ∧ j = i ∧ i < (T m).length then some b else (T k)[j]? := by
  unfold setT upd
  by_cases e : k = m
  · subst e
    rw [if_pos rfl, List.getElem?_set]
    by_cases e2 : i = j
    · subst e2
      rw [if_pos rfl]
      by_cases h : i < (T k).length
      · rw [if_pos h, if_pos ⟨rfl, rfl, h⟩]
      · rw [if_neg h, if_neg (fun x => h x.2.2), List.getElem?_eq_none (by omega)]
    · rw [if_neg e2, if_neg (fun x => e2 x.2.1.symm)]
  · rw [if_neg e, if_neg (fun x => e x.1)]
/-- a row in the place of one of its name -/
theorem set_row {T : Tabs} {m i : Nat} {b o : BdR} (ho : (T m)[i]? = some o) (hid : o.id = b.id) (k j : Nat) (c : IdR) : (∃ x, (setT T m i b k)[j]? = some x ∧ x.id = c) ↔ ∃ x, (T k)[j]? = some x ∧ x.id = c := by
  have hil := (List.getElem?_eq_some_iff.1 ho).1
  rw [set_get]
  by_cases e : k = m ∧ j = i ∧ i < (T m).length
  · rw [if_pos e]
    obtain ⟨rfl, rfl, _⟩ := e
    rw [ho]
    constructor
    · rintro ⟨x, hx, rfl⟩; cases hx; exact ⟨o, rfl, hid⟩
    · rintro ⟨x, hx, rfl⟩; cases hx; exact ⟨b, rfl, hid.symm⟩
  · rw [if_neg e]
theorem good_set {T : Tabs} (h : GoodT T) {m i : Nat} {b o : BdR} (ho : (T m)[i]? = some o) (hid : o.id = b.id) (hb : okB b = true) (hm : b.mask = m) : GoodT (setT T m i b) := by
  refine ⟨fun k hk x hx => ?_, fun k j k' j' x x' hk hk' hx hx' he => ?_⟩
  · obtain ⟨j, hj⟩ := List.getElem?_of_mem hx
    rw [set_get] at hj
    split at hj
    · rename_i e; cases hj; exact ⟨hb, by rw [e.1]; exact hm⟩
    · exact h.ok k hk x (List.mem_of_getElem? hj)
  · obtain ⟨y, h1, h2⟩ := (set_row ho hid k j x.id).1 ⟨x, hx, rfl⟩
    obtain ⟨y', h1', h2'⟩ := (set_row ho hid k' j' x.id).1 ⟨x', hx', he.symm⟩
    exact h.uniq k j k' j' y y' hk hk' h1 h1' (h2.trans h2'.symm)
theorem find_set {T : Tabs} (h : GoodT T) {m i : Nat} {b o : BdR} (ho : (T m)[i]? = some o) (hid : o.id = b.id) (hb : okB b = true) (hm : b.mask = m) (c : IdR) : findT (setT T m i b) c = findT T c := by
  refine find_ext fun k j => ?_
  rw [findT_iff (good_set h ho hid hb hm), findT_iff h]
  exact and_congr_right fun hk => set_row ho hid k j c
theorem total_set (T : Tabs) (m i : Nat) (b : BdR) (hm : m < 32) : total (setT T m i b) = total T := by
  have := total_upd T m ((T m).set i b) hm
  rw [List.length_set] at this
  unfold setT
  omega
/-- what is put, written, removed; the answer -/
def putS (T : Tabs) (b : BdR) : Tabs × Int := if okB b then (if (findT T b.id).isSome then (T, 7) else (putT T b, 0)) else (T, 1)
def writeS (T : Tabs) (b : BdR) : Tabs × Int :=
  if okB b then (match findT T b.id with
    | none => (T, 6)
    | some (m, i) => if (m : Int) = b.mask then (setT T m i b, 0) else (putT (cutT T m i) b, 0)) else (T, 1)
def removeS (T : Tabs) (id : IdR) : Tabs × Bool := match findT T id with
  | none => (T, false)
  | some (m, i) => (cutT T m i, true)
theorem find_cut_self {T : Tabs} (h : GoodT T) {id : IdR} {m i : Nat} (hf : findT T id = some (m, i)) : findT (cutT T m i) id = none := by
  obtain ⟨hm, b, hb, rfl⟩ := findT_some hf
  have hil := (List.getElem?_eq_some_iff.1 hb).1
  rw [find_cut h hm hb (List.getElem?_eq_getElem (by omega)), if_pos rfl]
theorem good_putS {T : Tabs} (h : GoodT T) (b : BdR) : GoodT (putS T b).1 := by
  unfold putS
  split
  · rename_i hb
    split
    · exact h
    · rename_i hn
      exact good_put h hb (by simpa using hn)
  · exact h
theorem good_writeS {T : Tabs} (h : GoodT T) (b : BdR) : GoodT (writeS T b).1 := by
  unfold writeS
  split
  · rename_i hb
    split
    · exact h
    · rename_i m i hf
      obtain ⟨hm, o, ho, hid⟩ := findT_some hf
      split
      · rename_i hmask
        exact good_set h ho hid hb hmask.symm
      · exact good_put (good_cut h m i) hb (find_cut_self h hf)
  · exact h
theorem good_removeS {T : Tabs} (h : GoodT T) (id : IdR) : GoodT (removeS T id).1 := by
  unfold removeS
  split
  · exact h
  · exact good_cut h _ _
theorem cut_total {T : Tabs} {id : IdR} {m i : Nat} (hf : findT T id = some (m, i)) : total (cutT T m i) = total T - 1 ∧ 0 < total T := by
  obtain ⟨hm, b, hb, rfl⟩ := findT_some hf
  have hil := (List.getElem?_eq_some_iff.1 hb).1
  have := len_total T m hm
  exact ⟨total_cut T m i hm (by omega), by omega⟩
theorem total_putS (T : Tabs) (b : BdR) : total (putS T b).1 ≤ total T + 1 := by
  unfold putS
  split
  · rename_i hb
    split
    · simp only; omega
    · rw [total_put T b hb]; exact Nat.le_refl _
  · simp only; omega
theorem total_writeS (T : Tabs) (b : BdR) : total (writeS T b).1 = total T := by
  unfold writeS
  split
  · rename_i hb
    split
    · rfl
    · rename_i m i hf
      have hc := cut_total hf
      split
      · exact total_set T m i b (findT_some hf).1
      · simp only
        rw [total_put _ b hb]
        omega
  · rfl
theorem total_removeS (T : Tabs) (id : IdR) : total (removeS T id).1 ≤ total T := by
  unfold removeS
  split
  · exact Nat.le_refl _
  · rename_i m i hf
    have := cut_total hf
    simp only
    omega
theorem good_none : GoodT (fun _ => []) := ⟨(fun m hm b hb => by cases hb), (fun m i m' i' b b' _ _ h => by simp at h)⟩
end Go.Proofs.Ytkdagljoiacaaaa
