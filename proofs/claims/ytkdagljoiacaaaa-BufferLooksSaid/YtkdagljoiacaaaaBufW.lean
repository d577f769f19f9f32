/- buffer: what a deed changes: plain laws. -/
import Derived.Test.YtkdagljoiacaaaaBufQ
set_option linter.unusedSimpArgs false
set_option linter.unusedVariables false
namespace Go.Proofs.Ytkdagljoiacaaaa
open Go.RowKit
theorem writeS_else {T : Tabs} {b : BdR} (h : (writeS T b).2 ≠ 0) : (writeS T b).1 = T ∧ ((writeS T b).2 = 1 ↔ okB b = false) ∧ ((writeS T b).2 = 1 ∨ (findT T b.id) = none) := by
  unfold writeS at *
  by_cases hb : okB b = true
  · rw [if_pos hb] at *
    cases hf : findT T b.id with
    | none => rw [hf] at *; exact ⟨rfl, by simp [hb], .inr rfl⟩
    | some p =>
      obtain ⟨m, i⟩ := p
      rw [hf] at h
      simp only at h
      split at h <;> exact absurd rfl h
  · rw [if_neg hb]
    exact ⟨rfl, by simpa using hb, .inl rfl⟩
/-- what is there behind a write -/
theorem writeS_get {T : Tabs} (hg : GoodT T) {b : BdR} (h : (writeS T b).2 = 0) :
    (findT T b.id).isSome = true ∧ total (writeS T b).1 = total T ∧ ∀ c, c ∈ allT T → (findT (writeS T b).1 c.id).isSome = true ∧ getS (writeS T b).1 c.id = if c.id = b.id then b else c := by
  unfold writeS at *
  by_cases hb : okB b = true
  · rw [if_pos hb] at *
    cases hf : findT T b.id with
    | none => rw [hf] at h; simp at h
    | some p =>
      obtain ⟨m, i⟩ := p
      simp only
      obtain ⟨hm, o, ho, hoid⟩ := findT_some hf
      have hil := (List.getElem?_eq_some_iff.1 ho).1
      by_cases hmask : (m : Int) = b.mask
      · rw [if_pos hmask]
        simp only
        refine ⟨rfl, total_set T m i b hm, fun c hc => ?_⟩
        obtain ⟨m', i', hm', hc', hfc⟩ := all_find hg c hc
        have e := find_set hg ho hoid hb hmask.symm c.id
        refine ⟨by rw [e, hfc]; rfl, ?_⟩
        unfold getS
        rw [e, hfc]
        simp only
        rw [List.getD_eq_getElem?_getD, set_get]
        by_cases hid : c.id = b.id
        · rw [if_pos hid]
          obtain ⟨rfl, rfl⟩ := hg.uniq m' i' m i c o hm' hm hc' ho (hid.trans hoid.symm)
          rw [if_pos ⟨rfl, rfl, hil⟩]
          rfl
        · rw [if_neg hid, if_neg (fun k => hid (by
            obtain ⟨rfl, rfl, _⟩ := k
            rw [ho] at hc'
            cases hc'
            exact hoid))]
          rw [hc']
          rfl
      · rw [if_neg hmask]
        simp only
        have hgc := good_cut hg m i
        have hfn := find_cut_self hg hf
        have hct := cut_total hf
        refine ⟨rfl, by rw [total_put _ b hb]; omega, fun c hc => ?_⟩
        obtain ⟨m', i', hm', hc', hfc⟩ := all_find hg c hc
        obtain ⟨hbm, hbmk⟩ := okB_mk hb
        have e := find_put hgc hb hfn c.id
        by_cases hid : c.id = b.id
        · rw [if_pos hid] at e ⊢
          refine ⟨by rw [e]; rfl, ?_⟩
          unfold getS
          rw [e]
          simp only
          unfold putT
          rw [upd_at, List.getD_eq_getElem?_getD, List.getElem?_append_right (Nat.le_refl _)]
          simp
        · rw [if_neg hid] at e ⊢
          have hbrow : (T m)[(T m).length - 1]? = some (T m)[(T m).length - 1] := List.getElem?_eq_getElem (by omega)
          have e2 := find_cut hg hm ho hbrow c.id
          rw [if_neg (fun k => hid (k.trans hoid))] at e2
          have hgood := good_put hgc hb hfn
          have hget : ∀ m2 i2, findT (cutT T m i) c.id = some (m2, i2) → (findT (putT (cutT T m i) b) c.id).isSome = true ∧ ((cutT T m i) m2)[i2]? = some c → getS (putT (cutT T m i) b) c.id = c := by
            intro m2 i2 h2 ⟨_, h3⟩
            unfold getS
            rw [e, h2]
            simp only
            unfold putT upd
            by_cases hmm : m2 = b.mask.toNat
            · rw [if_pos hmm, List.getD_eq_getElem?_getD, List.getElem?_append_left (by rw [← hmm]; exact (List.getElem?_eq_some_iff.1 h3).1), ← hmm, h3]
              rfl
            · rw [if_neg hmm, List.getD_eq_getElem?_getD, h3]
              rfl
          have hex : ∃ m2 i2, findT (cutT T m i) c.id = some (m2, i2) ∧ ((cutT T m i) m2)[i2]? = some c := by
            by_cases hz : c.id = (T m)[(T m).length - 1].id
            · rw [if_pos hz] at e2
              refine ⟨m, i, e2, ?_⟩
              obtain ⟨rfl, rfl⟩ := hg.uniq m' i' m _ c _ hm' hm hc' hbrow hz
              have hne : i ≠ (T m').length - 1 := fun k => hid (by
                rw [k, hc'] at ho
                cases ho
                exact hoid)
              rw [cutT_get, if_pos rfl, if_pos (by omega), if_pos rfl]
              exact hc'
            · rw [if_neg hz, hfc] at e2
              refine ⟨m', i', e2, ?_⟩
              rw [cutT_get]
              by_cases hmm : m' = m
              · subst hmm
                have hne : i' ≠ (T m').length - 1 := fun k => hz (by rw [k, hbrow] at hc'; cases hc'; rfl)
                have hi' := (List.getElem?_eq_some_iff.1 hc').1
                have hni : i' ≠ i := fun k => hid (by rw [k, ho] at hc'; cases hc'; exact hoid)
                rw [if_pos rfl, if_pos (by omega), if_neg hni]
                exact hc'
              · rw [if_neg hmm]
                exact hc'
          obtain ⟨m2, i2, h2, h3⟩ := hex
          have h4 : (findT (putT (cutT T m i) b) c.id).isSome = true := by rw [e, h2]; rfl
          exact ⟨h4, hget m2 i2 h2 ⟨h4, h3⟩⟩
  · rw [if_neg hb] at h; simp at h
/-- a deed that is refused changes nothing -/
theorem doT_else {T : Tabs} {d : DdR} (h : (doT T d).2 ≠ 0) : (doT T d).1 = T := by
  unfold doT at *
  split
  · rfl
  · rename_i h1
    rw [if_neg h1] at h
    split
    · rename_i h2
      rw [if_pos h2] at h
      unfold putS at *
      split
      · rename_i h3
        rw [if_pos h3] at h
        split
        · rfl
        · rename_i h4
          rw [if_neg h4] at h
          exact absurd rfl h
      · rfl
    · rename_i h2
      rw [if_neg h2] at h
      split
      · rename_i h3
        rw [if_pos h3] at h
        split
        · rename_i h4
          rw [if_pos h4] at h
          exact absurd rfl h
        · rename_i h4
          rw [if_neg h4] at h
          split
          · rename_i h5
            rw [if_pos h5] at h
            exact (writeS_else h).1
          · rename_i h5
            rw [if_neg h5] at h
            exact (writeS_else h).1
      · rfl
theorem doT_kind {T : Tabs} {d : DdR} (h : (doT T d).2 = 0) : d.kind = 1 ∨ d.kind = 2 ∨ d.kind = 3 ∨ d.kind = 4 := by
  unfold doT at h
  split at h
  · cases h
  · omega
theorem done_put {T : Tabs} (hg : GoodT T) {b : BdR} {m : Int} (h : (doT T ⟨1, b, m⟩).2 = 0) : (findT T b.id).isSome = false ∧ (findT (doT T ⟨1, b, m⟩).1 b.id).isSome = true ∧ getS (doT T ⟨1, b, m⟩).1 b.id = b ∧ total (doT T ⟨1, b, m⟩).1 = total T + 1 := by
  have e : doT T ⟨1, b, m⟩ = putS T b := by unfold doT; simp
  rw [e] at h ⊢
  clear e
  unfold putS at h ⊢
  by_cases hb : okB b = true
  · rw [if_pos hb] at h ⊢
    by_cases hf : (findT T b.id).isSome = true
    · rw [if_pos hf] at h
      cases h
    · rw [if_neg hf]
      have hn : findT T b.id = none := by simpa using hf
      have e2 := find_put hg hb hn b.id
      rw [if_pos rfl] at e2
      simp only
      refine ⟨by simpa using hf, by rw [e2]; rfl, ?_, total_put T b hb⟩
      unfold getS
      rw [e2]
      simp only
      unfold putT
      rw [upd_at, List.getD_eq_getElem?_getD, List.getElem?_append_right (Nat.le_refl _)]
      simp
  · rw [if_neg hb] at h
    cases h
theorem doT_two (T : Tabs) (b : BdR) (m : Int) : doT T ⟨2, b, m⟩ = if (findT T b.id).isSome then ((removeS T b.id).1, 0) else (T, 6) := by unfold doT; simp
theorem doT_three (T : Tabs) (b : BdR) (m : Int) : doT T ⟨3, b, m⟩ = if (findT T b.id).isSome then writeS T (withB (getS T b.id) b) else (T, 6) := by unfold doT; simp
theorem doT_four (T : Tabs) (b : BdR) (m : Int) : doT T ⟨4, b, m⟩ = if (findT T b.id).isSome then writeS T (withoutB (getS T b.id) m) else (T, 6) := by unfold doT; simp
theorem done_remove {T : Tabs} (hg : GoodT T) {b : BdR} {m : Int} (h : (doT T ⟨2, b, m⟩).2 = 0) : (findT T b.id).isSome = true ∧ (findT (doT T ⟨2, b, m⟩).1 b.id).isSome = false ∧ total (doT T ⟨2, b, m⟩).1 + 1 = total T := by
  rw [doT_two] at *
  by_cases hf : (findT T b.id).isSome = true
  · rw [if_pos hf] at *
    obtain ⟨⟨k, i⟩, hfs⟩ := Option.isSome_iff_exists.1 hf
    have e : (removeS T b.id).1 = cutT T k i := by unfold removeS; rw [hfs]
    simp only
    rw [e, find_cut_self hg hfs]
    obtain ⟨h1, h2⟩ := cut_total hfs
    exact ⟨hf, rfl, by omega⟩
  · rw [if_neg hf] at h
    cases h
theorem get_id {T : Tabs} {a : IdR} (h : (findT T a).isSome = true) : (getS T a).id = a ∧ getS T a ∈ allT T := by
  obtain ⟨⟨m, i⟩, hf⟩ := Option.isSome_iff_exists.1 h
  obtain ⟨hm, hi, hid⟩ := find_get hf
  refine ⟨hid, ?_⟩
  unfold allT allN
  exact List.mem_flatMap.2 ⟨m, List.mem_range.2 hm, List.mem_of_getElem? hi⟩
theorem done_write {T : Tabs} (hg : GoodT T) {a : IdR} {nb : BdR} (hf : (findT T a).isSome = true) (hid : nb.id = a) (h : (writeS T nb).2 = 0) : (findT (writeS T nb).1 a).isSome = true ∧ getS (writeS T nb).1 a = nb ∧ total (writeS T nb).1 = total T := by
  obtain ⟨h1, h2, h3⟩ := writeS_get hg h
  obtain ⟨e1, e2⟩ := get_id hf
  obtain ⟨g1, g2⟩ := h3 _ e2
  rw [e1] at g1 g2
  rw [if_pos hid.symm] at g2
  exact ⟨g1, g2, h2⟩
theorem done_set {T : Tabs} (hg : GoodT T) {b : BdR} {m : Int} (h : (doT T ⟨3, b, m⟩).2 = 0) : (findT T b.id).isSome = true ∧ (findT (doT T ⟨3, b, m⟩).1 b.id).isSome = true ∧ getS (doT T ⟨3, b, m⟩).1 b.id = withB (getS T b.id) b ∧ total (doT T ⟨3, b, m⟩).1 = total T := by
  rw [doT_three] at *
  by_cases hf : (findT T b.id).isSome = true
  · rw [if_pos hf] at *
    exact ⟨hf, done_write hg hf (get_id hf).1 h⟩
  · rw [if_neg hf] at h
    cases h
theorem done_drop {T : Tabs} (hg : GoodT T) {b : BdR} {m : Int} (h : (doT T ⟨4, b, m⟩).2 = 0) : (findT T b.id).isSome = true ∧ (findT (doT T ⟨4, b, m⟩).1 b.id).isSome = true ∧ getS (doT T ⟨4, b, m⟩).1 b.id = withoutB (getS T b.id) m ∧ total (doT T ⟨4, b, m⟩).1 = total T := by
  rw [doT_four] at *
  by_cases hf : (findT T b.id).isSome = true
  · rw [if_pos hf] at *
    exact ⟨hf, done_write hg hf (get_id hf).1 h⟩
  · rw [if_neg hf] at h
    cases h
end Go.Proofs.Ytkdagljoiacaaaa
