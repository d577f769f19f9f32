/- session: two ends, lost, doubled and late posts: what an end hears is a beginning of what was said: plain laws. -/
import Derived.Test.YtpmebmbibajcoaaSesK
set_option linter.unusedSimpArgs false
set_option linter.unusedVariables false
namespace Go.Proofs.Ytpmebmbibajcoaa
open Go.RowKit
structure Side where
  c : Ch
  said : List ByteArray
  heard : List ByteArray
  way : List Post
structure Old where
  mine : Int
  yours : Int
  said : List ByteArray
def Old.is (A B : Int) (e : Old) : Bool := decide (e.mine = A) && decide (e.yours = B)
/-- what was said in sessions that are over -/
def oldSaid (old : List Old) (A B : Int) : List ByteArray := ((old.find? (Old.is A B)).map Old.said).getD []
/-- what an end said in a session, now or once -/
def SAID (o : Side) (old : List Old) (A B : Int) : List ByteArray := if o.c.mine = A ∧ o.c.yours = B then o.said else oldSaid old A B
theorem oldSaid_append (old : List Old) (e : Old) (A B : Int) : oldSaid (old ++ [e]) A B = if (old.find? (Old.is A B)).isSome then oldSaid old A B else if e.is A B then e.said else [] := by
  unfold oldSaid
  rw [List.find?_append]
  cases h : old.find? (Old.is A B) with
  | some x => simp
  | none =>
    simp only [Option.none_or, Option.isSome_none, Bool.false_eq_true, if_false]
    rw [List.find?_cons]
    cases h2 : e.is A B <;> simp
theorem oldSaid_grow (old : List Old) (e : Old) (A B : Int) : oldSaid old A B <+: oldSaid (old ++ [e]) A B := by
  rw [oldSaid_append]
  split
  · exact List.prefix_refl _
  · rename_i h
    have : oldSaid old A B = [] := by
      unfold oldSaid
      cases h2 : old.find? (Old.is A B) with
      | none => rfl
      | some x => rw [h2] at h; simp at h
    rw [this]
    exact List.nil_prefix
theorem oldSaid_none {old : List Old} {A B : Int} (h : ∀ e ∈ old, ¬ (e.mine = A ∧ e.yours = B)) : old.find? (Old.is A B) = none := by
  rw [List.find?_eq_none]
  intro e he hc
  unfold Old.is at hc
  rw [Bool.and_eq_true, decide_eq_true_eq, decide_eq_true_eq] at hc
  exact h e he hc
/-- a post that is under way to an end -/
structure Good (o : Side) (old : List Old) (x : Post) : Prop where
  ok : okPost x = true
  le : x.mine ≤ o.c.mine
  text : 0 < x.seq → ∃ i : Nat, x.seq = i + 1 ∧ (SAID o old x.mine x.yours)[i]? = some x.text
/-- an end, seen from itself -/
structure Self (T : Nat) (next : Int) (d : Side) (old : List Old) : Prop where
  m1 : 1 ≤ d.c.mine
  m2 : d.c.mine ≤ next
  y0 : 0 ≤ d.c.yours
  f1 : 1 ≤ d.c.first
  wait : ∃ a, d.said = a ++ d.c.wait ∧ (a.length : Int) = d.c.first - 1
  len : d.said.length ≤ T
  small : ∀ t ∈ d.said, t.size ≤ 65472
  lastT : d.c.last ≤ T
  uniq : ∀ e ∈ old, e.mine = d.c.mine → e.yours < d.c.yours
/-- an end, as it hears the other one -/
structure Hears (d o : Side) (old : List Old) : Prop where
  last : d.c.last = d.heard.length
  yo : d.c.yours ≤ o.c.mine
  pre : d.heard <+: SAID o old d.c.yours d.c.mine
  way : ∀ x ∈ d.way, Good o old x
structure Inv (T : Nat) (next : Int) (d o : Side) (old : List Old) : Prop where
  nT : next ≤ T + 2
  d1 : Self T next d old
  o1 : Self T next o old
  d2 : Hears d o old
  o2 : Hears o d old
  ne : d.c.mine ≠ o.c.mine
  olds : ∀ e ∈ old, e.mine ≤ next
theorem Inv.swap {T : Nat} {next : Int} {d o : Side} {old : List Old} (h : Inv T next d o old) : Inv T next o d old := ⟨h.nT, h.o1, h.d1, h.o2, h.d2, h.ne.symm, h.olds⟩
def Grows (o : Side) (old : List Old) (o' : Side) (old' : List Old) : Prop := ∀ A B, SAID o old A B <+: SAID o' old' A B
theorem prefix_get {α : Type} {l m : List α} (h : l <+: m) {i : Nat} {x : α} (hi : l[i]? = some x) : m[i]? = some x := by
  obtain ⟨t, rfl⟩ := h
  rw [List.getElem?_append_left (List.getElem?_eq_some_iff.1 hi).1]
  exact hi
theorem Good.grow {o o' : Side} {old old' : List Old} {x : Post} (h : Good o old x) (hg : Grows o old o' old') (hm : o.c.mine ≤ o'.c.mine) : Good o' old' x :=
  ⟨h.ok, Int.le_trans h.le hm, fun hs => by
    obtain ⟨i, h1, h2⟩ := h.text hs
    exact ⟨i, h1, prefix_get (hg _ _) h2⟩⟩
theorem Hears.grow {d o o' : Side} {old old' : List Old} (h : Hears d o old) (hg : Grows o old o' old') (hm : o.c.mine ≤ o'.c.mine) : Hears d o' old' :=
  ⟨h.last, Int.le_trans h.yo hm, h.pre.trans (hg _ _), fun x hx => (h.way x hx).grow hg hm⟩
theorem Grows.refl (o : Side) (old : List Old) : Grows o old o old := fun A B => List.prefix_refl _
/-- the same end's words, among more sessions that are over -/
theorem Grows.old (o : Side) (old : List Old) (e : Old) : Grows o old o (old ++ [e]) := fun A B => by
  unfold SAID
  split
  · exact List.prefix_refl _
  · exact oldSaid_grow _ _ _ _
/-- the end goes over to another session -/
theorem Grows.over {T : Nat} {next : Int} {d d' : Side} {old : List Old} (h : Self T next d old) (ho : ∀ e ∈ old, e.mine ≤ next) (hs : d'.said = [])
    (hc : (d'.c.mine = d.c.mine ∧ d.c.yours < d'.c.yours) ∨ next < d'.c.mine) : Grows d old d' (old ++ [⟨d.c.mine, d.c.yours, d.said⟩]) := fun A B => by
  unfold SAID
  by_cases h1 : d.c.mine = A ∧ d.c.yours = B
  · rw [if_pos h1, if_neg (by rintro ⟨h2, h3⟩; have := h.m2; omega)]
    obtain ⟨rfl, rfl⟩ := h1
    rw [oldSaid_append, oldSaid_none (fun e he hc => by have := h.uniq e he hc.1; omega)]
    simp [Old.is]
  · rw [if_neg h1]
    by_cases h2 : d'.c.mine = A ∧ d'.c.yours = B
    · rw [if_pos h2, hs]
      have : oldSaid old A B = [] := by
        unfold oldSaid
        rw [oldSaid_none (fun e he hk => ?_)]
        · rfl
        · obtain ⟨rfl, rfl⟩ := h2
          rcases hc with ⟨hc1, hc2⟩ | hc
          · have := h.uniq e he (by rw [hk.1]; exact hc1)
            omega
          · have := ho e he
            omega
      rw [this]
      exact List.prefix_refl _
    · rw [if_neg h2]
      exact oldSaid_grow _ _ _ _
/-- a text said more -/
theorem Grows.say (d : Side) (old : List Old) (c : Ch) (ts : List ByteArray) (hm : c.mine = d.c.mine) (hy : c.yours = d.c.yours) (way : List Post) (heard : List ByteArray) : Grows d old ⟨c, d.said ++ ts, heard, way⟩ old := fun A B => by
  unfold SAID
  simp only [hm, hy]
  split
  · exact List.prefix_append _ _
  · exact List.prefix_refl _
/-- what a post that is none too old does -/
theorem hear_facts (c : Ch) (p : Post) (hk : okPost p = true) (hle : c.yours ≤ p.mine) : (hear c p).2.1 = 0 ∧ (hear c p).1.anew = decide (c.yours < p.mine) ∧ (hear c p).2.2.mine = c.mine ∧ (hear c p).2.2.yours = p.mine ∧
    (∃ n : Nat, n ≤ (ch1 c p).wait.length ∧ (hear c p).2.2.wait = (ch1 c p).wait.drop n ∧ (hear c p).2.2.first = (ch1 c p).first + n) ∧
    ((p.yours = c.mine ∧ 0 < p.seq ∧ p.seq = (ch1 c p).last + 1 ∧ (hear c p).1.is = true ∧ (hear c p).1.text = p.text ∧ (hear c p).2.2.last = (ch1 c p).last + 1) ∨ ((hear c p).1.is = false ∧ (hear c p).2.2.last = (ch1 c p).last)) := by
  have hm : (ch1 c p).mine = c.mine := by unfold ch1; split <;> rfl
  have hy : (ch1 c p).yours = p.mine := by
    unfold ch1
    split
    · rfl
    · omega
  have e2 : (ch2 c p).mine = (ch1 c p).mine ∧ (ch2 c p).yours = (ch1 c p).yours ∧ (ch2 c p).wait = (ch1 c p).wait ∧ (ch2 c p).first = (ch1 c p).first ∧ (ch2 c p).last = (ch1 c p).last := ⟨rfl, rfl, rfl, rfl, rfl⟩
  have e3 : (ch3 c p).mine = (ch1 c p).mine ∧ (ch3 c p).yours = (ch1 c p).yours ∧ (ch3 c p).wait = (ch1 c p).wait ∧ (ch3 c p).first = (ch1 c p).first ∧ (ch3 c p).last = (ch1 c p).last := ⟨rfl, rfl, rfl, rfl, rfl⟩
  have e4 : (ch4 c p).mine = (ch1 c p).mine ∧ (ch4 c p).yours = (ch1 c p).yours ∧ (ch4 c p).last = (ch1 c p).last ∧ ∃ n : Nat, n ≤ (ch1 c p).wait.length ∧ (ch4 c p).wait = (ch1 c p).wait.drop n ∧ (ch4 c p).first = (ch1 c p).first + n := by
    obtain ⟨a1, a2, a3, a4, a5⟩ := e3
    unfold ch4
    have hN : hearN (ch3 c p) p ≤ (ch3 c p).wait.length := by unfold hearN; omega
    split
    · exact ⟨a1, a2, a5, (hearN (ch3 c p) p).toNat, by rw [a3] at hN; omega, by simp only; rw [a3], by simp only; rw [a4]; omega⟩
    · exact ⟨a1, a2, a5, 0, Nat.zero_le _, by rw [a3, List.drop_zero], by rw [a4]; omega⟩
  obtain ⟨b1, b2, b3, n, b4, b5, b6⟩ := e4
  obtain ⟨a1, a2, a3, a4, a5⟩ := e2
  unfold hear
  rw [if_neg (by rw [hk]; simp), if_neg (by omega)]
  by_cases h1 : p.yours ≠ c.mine
  · rw [if_pos h1]
    exact ⟨rfl, rfl, by simp only; rw [a1, hm], by simp only; rw [a2, hy], ⟨0, Nat.zero_le _, by simp only; rw [a3, List.drop_zero], by simp only; rw [a4]; omega⟩, .inr ⟨rfl, by simp only; rw [a5]⟩⟩
  · rw [if_neg h1]
    have h1' : p.yours = c.mine := Decidable.not_not.1 h1
    by_cases h2 : 0 < p.seq ∧ p.seq = (ch4 c p).last + 1
    · rw [if_pos h2]
      exact ⟨rfl, rfl, by simp only; rw [b1, hm], by simp only; rw [b2, hy], ⟨n, b4, by simp only; rw [b5], by simp only; rw [b6]⟩, .inl ⟨h1', h2.1, by rw [← b3]; exact h2.2, rfl, rfl, by simp only; rw [b3]⟩⟩
    · rw [if_neg h2]
      exact ⟨rfl, rfl, by simp only; rw [b1, hm], by simp only; rw [b2, hy], ⟨n, b4, by simp only; rw [b5], by simp only; rw [b6]⟩, .inr ⟨rfl, by simp only; rw [b3]⟩⟩
def beginsB (a b : List ByteArray) : Bool := decide (a <+: b)
def comesOld (d : Side) (old : List Old) (x : Post) : List Old := if (hear d.c x).1.anew then old ++ [⟨d.c.mine, d.c.yours, d.said⟩] else old
def comesSide (d : Side) (x : Post) : Side :=
  ⟨(hear d.c x).2.2, if (hear d.c x).1.anew then [] else d.said, (if (hear d.c x).1.anew then [] else d.heard) ++ (if (hear d.c x).1.is then [(hear d.c x).1.text] else []), d.way⟩
def comesOk (d o : Side) (old : List Old) : Bool :=
  if o.c.mine = d.c.yours ∧ o.c.yours = d.c.mine then beginsB d.heard o.said
  else match old.find? (Old.is d.c.yours d.c.mine) with
    | some e => beginsB d.heard e.said
    | none => decide (d.heard.length = 0)
theorem comesOk_true {d o : Side} {old : List Old} (h : d.heard <+: SAID o old d.c.yours d.c.mine) : comesOk d o old = true := by
  unfold comesOk beginsB
  unfold SAID oldSaid at h
  split
  · rename_i h1
    rw [if_pos h1] at h
    exact decide_eq_true h
  · rename_i h1
    rw [if_neg h1] at h
    cases h2 : old.find? (Old.is d.c.yours d.c.mine) with
    | some e =>
      rw [h2] at h
      exact decide_eq_true h
    | none =>
      rw [h2] at h
      have : d.heard = [] := List.prefix_nil.1 h
      simp [this]
theorem get_prefix {α : Type} {l m : List α} (h : l <+: m) {x : α} (hx : m[l.length]? = some x) : l ++ [x] <+: m := by
  obtain ⟨t, rfl⟩ := h
  rw [List.getElem?_append_right (Nat.le_refl _), Nat.sub_self] at hx
  cases t with
  | nil => simp at hx
  | cons a r => simp at hx; subst hx; exact ⟨r, by simp⟩
theorem Self.mono {T T' : Nat} {next : Int} {d : Side} {old : List Old} (h : Self T next d old) (hT : T ≤ T') : Self T' next d old :=
  ⟨h.m1, h.m2, h.y0, h.f1, h.wait, Nat.le_trans h.len hT, h.small, by have := h.lastT; omega, h.uniq⟩
/-- a post comes that is too old -/
theorem hear_old (c : Ch) (p : Post) (hk : okPost p = true) (hlt : p.mine < c.yours) : hear c p = (hd0, 9, c) := by
  unfold hear
  rw [if_neg (by rw [hk]; simp), if_pos hlt]
theorem inv_comes {T : Nat} {next : Int} {d o : Side} {old : List Old} (h : Inv T next d o old) (x : Post) (hx : Good o old x) (hle : d.c.yours ≤ x.mine) :
    Inv (T + 1) next (comesSide d x) o (comesOld d old x) ∧ comesOk (comesSide d x) o (comesOld d old x) = true := by
  obtain ⟨hnT, hd1, ho1, hd2, ho2, hne, holds⟩ := h
  obtain ⟨e0, ea, em, ey, ⟨n, en1, en2, en3⟩, eis⟩ := hear_facts d.c x hx.ok hle
  obtain ⟨bx1, bx2, bx3, bx4⟩ := okPost_bounds hx.ok
  unfold comesSide comesOld
  generalize hear d.c x = r at *
  obtain ⟨⟨rt, ris, ranew⟩, rerr, rc⟩ := r
  simp only at e0 ea em ey en1 en2 en3 eis ⊢
  subst e0 ea
  by_cases han : d.c.yours < x.mine
  · -- the other end is a new one
    have hc1 : ch1 d.c x = ⟨d.c.mine, x.mine, 1, [], 0, false, false⟩ := if_pos han
    rw [hc1] at en1 en2 en3 eis
    simp only [List.length_nil] at en1 en2 en3 eis
    obtain rfl : n = 0 := by omega
    rw [decide_eq_true han]
    simp only [if_true, List.nil_append]
    have hgd : Grows d old ⟨rc, [], if ris then [rt] else [], d.way⟩ (old ++ [⟨d.c.mine, d.c.yours, d.said⟩]) :=
      Grows.over hd1 holds rfl (.inl ⟨em, by rw [ey]; exact han⟩)
    have hgo : Grows o old o (old ++ [⟨d.c.mine, d.c.yours, d.said⟩]) := Grows.old o old _
    have hpre : (if ris then [rt] else []) <+: SAID o (old ++ [⟨d.c.mine, d.c.yours, d.said⟩]) x.mine rc.mine := by
      rcases eis with ⟨hy, hs, hl, h1, h2, h3⟩ | ⟨h1, h2⟩
      · obtain ⟨i, hi1, hi2⟩ := hx.text hs
        obtain rfl : i = 0 := by omega
        rw [h1, if_pos rfl, em, h2]
        have h5 := prefix_get (hgo x.mine x.yours) hi2
        rw [hy] at h5
        exact get_prefix List.nil_prefix h5
      · rw [h1]; exact List.nil_prefix
    refine ⟨⟨by omega, ⟨by rw [em]; exact hd1.m1, by rw [em]; exact hd1.m2, by rw [ey]; omega, by rw [en3]; omega, ⟨[], by simp [en2], by rw [en3]; simp⟩, by simp, (fun t ht => by cases ht), ?_, fun e he hm => ?_⟩,
      ⟨ho1.m1, ho1.m2, ho1.y0, ho1.f1, ho1.wait, Nat.le_succ_of_le ho1.len, ho1.small, by have := ho1.lastT; omega, fun e he hm => ?_⟩, ⟨?_, by rw [ey]; exact hx.le, by simp only; rw [ey]; exact hpre, fun y hy => (hd2.way y hy).grow hgo (Int.le_refl _)⟩,
      ho2.grow hgd (by rw [em]; exact Int.le_refl _), by rw [em]; exact hne, fun e he => ?_⟩, comesOk_true (by simp only; rw [ey]; exact hpre)⟩
    · rcases eis with ⟨_, _, _, _, _, h3⟩ | ⟨_, h3⟩ <;> simp only <;> omega
    · simp only at hm ⊢
      rw [em] at hm
      rw [ey]
      rcases List.mem_append.1 he with he | he
      · have := hd1.uniq e he hm; omega
      · obtain rfl := List.mem_singleton.1 he
        exact han
    · rcases List.mem_append.1 he with he | he
      · exact ho1.uniq e he hm
      · obtain rfl := List.mem_singleton.1 he
        exact absurd hm hne
    · simp only
      rcases eis with ⟨_, _, _, h1, _, h3⟩ | ⟨h1, h3⟩
      · rw [h1, h3]; simp
      · rw [h1, h3]; simp
    · rcases List.mem_append.1 he with he | he
      · exact holds e he
      · obtain rfl := List.mem_singleton.1 he
        exact hd1.m2
  · have hye : d.c.yours = x.mine := by omega
    have hc1 : ch1 d.c x = d.c := if_neg han
    rw [hc1] at en1 en2 en3 eis
    rw [decide_eq_false han]
    simp only [Bool.false_eq_true, if_false]
    have hsame : Grows d old ⟨rc, d.said, d.heard ++ (if ris then [rt] else []), d.way⟩ old := fun A B => by
      unfold SAID
      simp only [em, ey, ← hye]
      exact List.prefix_refl _
    have hpre : d.heard ++ (if ris then [rt] else []) <+: SAID o old x.mine rc.mine := by
      rw [em]
      have h0 := hd2.pre
      rw [hye] at h0
      rcases eis with ⟨hy, hs, hl, h1, h2, h3⟩ | ⟨h1, h2⟩
      · obtain ⟨i, hi1, hi2⟩ := hx.text hs
        have hlen := hd2.last
        obtain rfl : i = d.heard.length := by omega
        rw [h1, if_pos rfl, h2]
        rw [hy] at hi2
        exact get_prefix h0 hi2
      · rw [h1]
        simpa using h0
    obtain ⟨a, ha1, ha2⟩ := hd1.wait
    refine ⟨⟨by omega, ⟨by rw [em]; exact hd1.m1, by rw [em]; exact hd1.m2, by rw [ey]; omega, by rw [en3]; have := hd1.f1; omega, ⟨a ++ d.c.wait.take n, ?_, ?_⟩, Nat.le_succ_of_le hd1.len, hd1.small, ?_, fun e he hm => ?_⟩,
      ho1.mono (Nat.le_succ _), ⟨?_, by rw [ey]; exact hx.le, by simp only; rw [ey]; exact hpre, hd2.way⟩, ho2.grow hsame (by rw [em]; exact Int.le_refl _), by rw [em]; exact hne, holds⟩, comesOk_true (by simp only; rw [ey]; exact hpre)⟩
    · simp only
      rw [en2, ha1, List.append_assoc, List.take_append_drop]
    · simp only
      rw [en3, List.length_append, List.length_take]
      omega
    · have := hd1.lastT
      rcases eis with ⟨_, _, _, _, _, h3⟩ | ⟨_, h3⟩ <;> simp only <;> omega
    · simp only at hm ⊢
      rw [em] at hm
      rw [ey, ← hye]
      exact hd1.uniq e he hm
    · have := hd2.last
      simp only
      rcases eis with ⟨_, _, _, h1, _, h3⟩ | ⟨h1, h3⟩
      · rw [h1, h3]; simp; omega
      · rw [h1, h3]; simp; omega
theorem Inv.mono {T T' : Nat} {next : Int} {d o : Side} {old : List Old} (h : Inv T next d o old) (hT : T ≤ T') : Inv T' next d o old :=
  ⟨by have := h.nT; omega, h.d1.mono hT, h.o1.mono hT, h.d2, h.o2, h.ne, h.olds⟩
def newSide (m : Int) (way : List Post) : Side := ⟨⟨m, 0, 1, [], 0, false, false⟩, [], [], way⟩
theorem inv_begin {T : Nat} {next : Int} {d o : Side} {old : List Old} (h : Inv T next d o old) : Inv (T + 1) (next + 1) (newSide (next + 1) d.way) o (old ++ [⟨d.c.mine, d.c.yours, d.said⟩]) := by
  obtain ⟨hnT, hd1, ho1, hd2, ho2, hne, holds⟩ := h
  have hgd : Grows d old (newSide (next + 1) d.way) (old ++ [⟨d.c.mine, d.c.yours, d.said⟩]) := Grows.over hd1 holds rfl (.inr (by simp only [newSide]; omega))
  have hgo : Grows o old o (old ++ [⟨d.c.mine, d.c.yours, d.said⟩]) := Grows.old o old _
  have h1 := hd1.m1
  have h2 := hd1.m2
  have h3 := ho1.m2
  have h4 := ho1.m1
  refine ⟨by omega, ⟨by simp only [newSide]; omega, by simp [newSide], by simp [newSide], by simp [newSide], ⟨[], by simp [newSide], by simp [newSide]⟩, by simp [newSide], (fun t ht => by cases ht), by simp only [newSide]; omega, fun e he hm => ?_⟩,
    ⟨ho1.m1, by omega, ho1.y0, ho1.f1, ho1.wait, Nat.le_succ_of_le ho1.len, ho1.small, by have := ho1.lastT; omega, fun e he hm => ?_⟩, ⟨by simp [newSide], by simp only [newSide]; omega, List.nil_prefix, fun y hy => (hd2.way y hy).grow hgo (Int.le_refl _)⟩,
    ho2.grow hgd (by simp only [newSide]; omega), by simp only [newSide]; omega, fun e he => ?_⟩
  · simp only [newSide] at hm
    rcases List.mem_append.1 he with he | he
    · have := holds e he; omega
    · obtain rfl := List.mem_singleton.1 he
      simp only at hm; omega
  · rcases List.mem_append.1 he with he | he
    · exact ho1.uniq e he hm
    · obtain rfl := List.mem_singleton.1 he
      exact absurd hm hne
  · rcases List.mem_append.1 he with he | he
    · have := holds e he; omega
    · obtain rfl := List.mem_singleton.1 he
      simp only; omega
def saySide (d : Side) (t : ByteArray) : Side := ⟨sayC d.c [t], if sayE d.c [t] = 0 then d.said ++ [t] else d.said, d.heard, d.way⟩
theorem inv_say {T : Nat} {next : Int} {d o : Side} {old : List Old} (h : Inv T next d o old) (t : ByteArray) : Inv (T + 1) next (saySide d t) o old := by
  unfold saySide
  by_cases hE : sayE d.c [t] = 0
  · have ht : t.size ≤ 65472 := by
      unfold sayE at hE
      by_cases hl : 65472 < t.size
      · simp [longB, hl] at hE
      · omega
    have hC : sayC d.c [t] = { d.c with wait := d.c.wait ++ [t] } := by unfold sayC; rw [if_pos hE]
    rw [if_pos hE, hC]
    obtain ⟨hnT, hd1, ho1, hd2, ho2, hne, holds⟩ := h
    have hg : Grows d old ⟨{ d.c with wait := d.c.wait ++ [t] }, d.said ++ [t], d.heard, d.way⟩ old := Grows.say d old _ [t] rfl rfl d.way d.heard
    obtain ⟨a, ha1, ha2⟩ := hd1.wait
    refine ⟨by omega, ⟨hd1.m1, hd1.m2, hd1.y0, hd1.f1, ⟨a, by simp only; rw [ha1, List.append_assoc], ha2⟩, by simp only [List.length_append, List.length_cons, List.length_nil]; have := hd1.len; omega, fun s hs => ?_, by have := hd1.lastT; simp only; omega, hd1.uniq⟩,
      ho1.mono (Nat.le_succ _), ⟨hd2.last, hd2.yo, hd2.pre, hd2.way⟩, ho2.grow hg (Int.le_refl _), hne, holds⟩
    rcases List.mem_append.1 hs with hs | hs
    · exact hd1.small s hs
    · obtain rfl := List.mem_singleton.1 hs
      exact ht
  · have hC : sayC d.c [t] = d.c := by unfold sayC; rw [if_neg hE]
    rw [if_neg hE, hC]
    exact h.mono (Nat.le_succ _)
theorem inv_way {T : Nat} {next : Int} {d o : Side} {old : List Old} (h : Inv T next d o old) (way : List Post) (hw : ∀ x ∈ way, x ∈ d.way) : Inv T next ⟨d.c, d.said, d.heard, way⟩ o old := by
  obtain ⟨hnT, hd1, ho1, hd2, ho2, hne, holds⟩ := h
  have hg : Grows d old ⟨d.c, d.said, d.heard, way⟩ old := fun A B => List.prefix_refl _
  exact ⟨hnT, ⟨hd1.m1, hd1.m2, hd1.y0, hd1.f1, hd1.wait, hd1.len, hd1.small, hd1.lastT, hd1.uniq⟩, ho1, ⟨hd2.last, hd2.yo, hd2.pre, fun x hx => hd2.way x (hw x hx)⟩, ho2.grow hg (Int.le_refl _), hne, holds⟩
theorem textPs_mem {c : Ch} {k : Nat} {x : Post} (h : x ∈ textPs c k) : ∃ i, i < k ∧ x = textP c i := by
  unfold textPs at h
  obtain ⟨i, hi, rfl⟩ := List.mem_map.1 h
  exact ⟨i, List.mem_range.1 hi, rfl⟩
theorem posts_good {T : Nat} {next : Int} {d o : Side} {old : List Old} (h : Inv T next d o old) (hT : T ≤ 1000000) : ∀ x ∈ postsL d.c, Good d old x := by
  obtain ⟨hnT, hd1, ho1, hd2, ho2, hne, holds⟩ := h
  obtain ⟨h1, h2, h3, h4, ⟨a, ha1, ha2⟩, h6, h7, h8, h9⟩ := hd1
  have hyo := hd2.yo
  have hom := ho1.m2
  have hlast := hd2.last
  have hal : a.length + d.c.wait.length ≤ T := by rw [← List.length_append, ← ha1]; exact h6
  intro x hx
  have bare : ∀ y : Int, 0 ≤ y → y ≤ next → Good d old ⟨d.c.mine, y, d.c.last, 0, ⟨#[]⟩⟩ := fun y hy0 hy1 => ⟨by
    unfold okPost inT
    have : (⟨#[]⟩ : ByteArray).size = 0 := rfl
    simp [this]
    omega, Int.le_refl _, fun hs => by simp at hs⟩
  unfold postsL at hx
  split at hx
  · rcases List.mem_append.1 hx with hx | hx
    · split at hx
      · obtain rfl := List.mem_singleton.1 hx
        exact bare _ h3 (by omega)
      · cases hx
    · split at hx
      · cases hx
      · obtain rfl := List.mem_singleton.1 hx
        exact bare 0 (Int.le_refl _) (by omega)
  · obtain ⟨i, hi, rfl⟩ := textPs_mem hx
    have hiw : i < d.c.wait.length := by unfold postK at hi; split at hi <;> omega
    have hg : d.c.wait[i]? = some (d.c.wait.getD i ⟨#[]⟩) := by
      rw [List.getD_eq_getElem?_getD, List.getElem?_eq_getElem hiw]
      rfl
    have hsm : (d.c.wait.getD i ⟨#[]⟩).size ≤ 65472 := h7 _ (by rw [ha1]; exact List.mem_append.2 (.inr (List.mem_of_getElem? hg)))
    unfold textP
    generalize d.c.wait.getD i ⟨#[]⟩ = tx at *
    refine ⟨?_, Int.le_refl _, fun hs => ⟨a.length + i, by simp only; omega, ?_⟩⟩
    · unfold okPost inT
      have h0 : ¬ d.c.first + i = 0 := by omega
      simp [h0]
      omega
    · simp only
      unfold SAID
      rw [if_pos ⟨rfl, rfl⟩, ha1, List.getElem?_append_right (by omega), Nat.add_sub_cancel_left, hg]
theorem inv_posts {T : Nat} {next : Int} {d o : Side} {old : List Old} (h : Inv T next d o old) (hT : T ≤ 1000000) : Inv (T + 1) next ⟨{ d.c with owes := false }, d.said, d.heard, d.way⟩ ⟨o.c, o.said, o.heard, o.way ++ postsL d.c⟩ old := by
  have hp := posts_good h hT
  obtain ⟨hnT, hd1, ho1, hd2, ho2, hne, holds⟩ := h
  have hg : Grows d old ⟨{ d.c with owes := false }, d.said, d.heard, d.way⟩ old := fun A B => List.prefix_refl _
  have hgo : Grows o old ⟨o.c, o.said, o.heard, o.way ++ postsL d.c⟩ old := fun A B => List.prefix_refl _
  have h1 : Self T next ⟨{ d.c with owes := false }, d.said, d.heard, d.way⟩ old := ⟨hd1.m1, hd1.m2, hd1.y0, hd1.f1, hd1.wait, hd1.len, hd1.small, hd1.lastT, hd1.uniq⟩
  have h2 : Self T next ⟨o.c, o.said, o.heard, o.way ++ postsL d.c⟩ old := ⟨ho1.m1, ho1.m2, ho1.y0, ho1.f1, ho1.wait, ho1.len, ho1.small, ho1.lastT, ho1.uniq⟩
  have h3 := ho2.grow hg (Int.le_refl _)
  have h4 := hd2.grow hgo (Int.le_refl _)
  exact ⟨by omega, h1.mono (Nat.le_succ _), h2.mono (Nat.le_succ _), ⟨h4.last, h4.yo, h4.pre, h4.way⟩, ⟨h3.last, h3.yo, h3.pre, fun x hx => (List.mem_append.1 hx).elim (h3.way x) (fun hx => (hp x hx).grow hg (Int.le_refl _))⟩, hne, holds⟩
theorem inv_start : Inv 0 2 (newSide 1 []) (newSide 2 []) [] := by
  have s : ∀ m : Int, 1 ≤ m → m ≤ 2 → Self 0 2 (newSide m []) [] := fun m h1 h2 => ⟨h1, h2, by simp [newSide], by simp [newSide], ⟨[], rfl, by simp [newSide]⟩, by simp [newSide], (fun t ht => by cases ht), by simp [newSide], (fun e he => by cases he)⟩
  exact ⟨by decide, s 1 (by decide) (by decide), s 2 (by decide) (by decide), ⟨rfl, by decide, List.nil_prefix, fun x hx => by cases hx⟩, ⟨rfl, by decide, List.nil_prefix, fun x hx => by cases hx⟩, by decide, fun e he => by cases he⟩
end Go.Proofs.Ytpmebmbibajcoaa
